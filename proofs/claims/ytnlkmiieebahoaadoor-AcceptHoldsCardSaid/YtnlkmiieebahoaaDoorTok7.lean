/- Contracts of package token: Quoted, the texts that open well (conditions: none). -/
import Derived.Test.YtnlkmiieebahoaaDoorTok6
set_option linter.unusedVariables false
set_option linter.unusedSimpArgs false
namespace Go.Proofs.YtnlkmiieebahoaaDoor
open Go.RowKit

/-- how far a quoted text has come. -/
def QTo (s : ByteArray) (k : Nat) (q h : Bool) (acc : List UInt8) : Prop :=
  acc.length ≤ k ∧ ((k = 0 ∧ q = false ∧ h = false ∧ acc = []) ∨ (1 ≤ k ∧ q = true ∧ quotedS s.data.toList = qGo h acc (s.data.toList.drop k)))

theorem bytes_at (X : World) (s : ByteArray) (wr : World) (e : TypeId) (fz : Nat × Nat) (h : wr.heap[X.heap.size]? = some (.cells (Lib.bytesCells X e s) e fz)) (k : Nat) (hk : k < s.size) :
    wr.cell? ⟨X.heap.size, k, none⟩ = some (.int .u8 (s[k]'hk).toNat) := by
  rw [Lib.cell_of_heap h]
  simp [Lib.bytesCells, Array.getElem?_append, hk]
  rfl

/-- what stands at the loop's head. -/
def QInv (s : ByteArray) (w wc wr : World) (q h : Bool) (acc : List UInt8) (v : Value) : Prop :=
  rdr wr (w.heap.size + 1) s q h ∧ Bld w.heap.size wr w.heap.size v acc ∧ v.ownBlock ≠ some (w.heap.size + 1) ∧ v.ownBlock ≠ some wc.heap.size ∧
    wr.heap[wc.heap.size]? = some (.cells (Lib.bytesCells wc 5 s) 5 ((Lib.bytesCells wc 5 s).size, (Lib.bytesCells wc 5 s).size + 1)) ∧ Below w.heap.size w wr ∧ wc.heap.size < wr.heap.size ∧ w.heap.size + 1 < wc.heap.size
/-- behind the copy of the reader, and its step. -/
theorem QInv.after {s : ByteArray} {w wc : World} {wr : World} {q h q' h' : Bool} {acc : List UInt8} {v : Value} (H : QInv s w wc wr q h acc v) {o : Obj} {w1 : World}
    (hr : rdr w1 (w.heap.size + 1) s q' h') (ho : Only (fun x => x = w.heap.size + 1) (wr.alloc o) w1) : QInv s w wc w1 q' h' acc v ∧ w1.heap[wr.heap.size]? = some o := by
  obtain ⟨h1, h2, h3, h4, h5, h6, h7, h9⟩ := H
  have hw := lt_heap h1
  refine ⟨⟨hr, (h2.keep (S := fun _ => False) ((Only.refl _ _).alloc _) (fun h => h) (fun _ _ h => h)).keep ho (by omega) (fun k hk e => h3 (by rw [hk, e])), h3, h4, ho.heap (heap_old h5 o) (by omega), ?_, ?_, h9⟩, ho.heap (heap_new _ _) (by omega)⟩
  · exact h6.trans (((Below.refl _ _).alloc (by omega) o).trans (ho.below (n := w.heap.size) (by simp; omega) (fun k hk e => by omega)))
  · exact Nat.lt_of_lt_of_le h7 (Nat.le_trans (by simp) ho.size)
/-- .. and a byte written. -/
theorem QInv.wrote {s : ByteArray} {w wc : World} {w1 w2 : World} {q h : Bool} {acc acc' : List UInt8} {v v' : Value} (H : QInv s w wc w1 q h acc v) (hb : Bld w.heap.size w2 w.heap.size v' acc')
    (ho : Only (fun k => k = w.heap.size ∨ v.ownBlock = some k) w1 w2) (hv : ∀ k, v'.ownBlock = some k → v.ownBlock = some k ∨ w1.heap.size ≤ k) : QInv s w wc w2 q h acc' v' := by
  obtain ⟨h1, h2, h3, h4, h5, h6, h7, h9⟩ := H
  have hw := lt_heap h1
  have hown : ∀ k, v.ownBlock = some k → w.heap.size ≤ k := fun k hk => by
    obtain ⟨_, p, _, _, hr, _⟩ := h2
    exact (hr.lt k hk).1
  refine ⟨ho.heap h1 (fun e => e.elim (by omega) h3), hb, fun e => (hv _ e).elim h3 (by omega), fun e => (hv _ e).elim h4 (by omega), ho.heap h5 (fun e => e.elim (by omega) h4), ?_, Nat.lt_of_lt_of_le h7 ho.size, h9⟩
  exact h6.trans (ho.below h6.size (fun k hk e => e.elim (by omega) (fun x => by have := hown k x; omega)))

set_option maxRecDepth 100000 in
set_option maxHeartbeats 4000000 in
theorem quoted_ok (s : ByteArray) (hs : s.size ≤ 140737488351232) (h0 : 0 < s.size) (hc : (s[0]'h0) = 34) (hv : allB valB s.data.toList = true) (w : World) :
    Calls Tryd.prog 45 #[.string s] w fun e w' => e = endQ (quotedS s.data.toList) ∧ Below w.heap.size w w' := by
  have hm : s.size ≤ maxLen := by unfold maxLen; omega
  have hidx := idx1
  have hnot : ∀ (x : Bool) (w : World), (Op.unary .not (.bool x)).run Tryd.prog w = .ok (.bool (!x)) w := fun _ _ => rfl
  have he1 : s.toList.isEmpty = false := by
    rw [ByteArray.toList_eq]
    cases h : s.data.toList with
    | nil => exact absurd (show s.data.toList.length = s.size by simp) (by rw [h]; simp; omega)
    | cons a l => rfl
  have hc1 : ((((s[0]'h0).toNat : Nat) : Int) != 34) = false := by rw [hc]; rfl
  have hsp : quotedS s.data.toList = qGo false [] (s.data.toList.drop 1) := by
    have h1 := low_split s 0 h0
    rw [List.drop_zero, Nat.zero_add] at h1
    rw [h1, quotedS, ← h1, hv, hc]
    simp
  have Hsp := Lib.hid hsp; have Hv := Lib.hid hv; have Hc := Lib.hid hc; clear hsp hv hc
  go_enter Tryd.func45, Tryd.ntmps45
  go_wp2
  refine wp_scope_jumps 0 (QNone s w) (fun _ _ => 0) rfl ?_ ?_
  · go_wp2
    obtain ⟨W0, hW0⟩ : ∃ W0, (w.alloc (.cells #[.pointer none, .slice none 0 0] 93)).alloc (.cells #[.string s, .bool false, .bool false] 89) = W0 := ⟨_, rfl⟩
    have k0 : W0.cell? ⟨w.heap.size + 1, 0, none⟩ = some (.string s) := by
      rw [← hW0]; have := cell_new (w.alloc (.cells #[.pointer none, .slice none 0 0] 93)) #[.string s, .bool false, .bool false] 89 0; rw [World.size_alloc] at this; exact this
    have hsz : W0.heap.size = w.heap.size + 2 := by rw [← hW0]; simp
    have hw0 : Below w.heap.size w W0 := by rw [← hW0]; exact ((Below.refl _ _).alloc (Nat.le_refl _) _).alloc (by simp) _
    have hrd : rdr W0 (w.heap.size + 1) s false false := by rw [← hW0]; have := heap_new (w.alloc (.cells #[.pointer none, .slice none 0 0] 93)) (.cells #[.string s, .bool false, .bool false] 89); rw [World.size_alloc] at this; exact this
    have hbl : Bld w.heap.size W0 w.heap.size (.slice none 0 0) [] := by
      rw [← hW0]; exact (bld_new _ w (Nat.le_refl _)).keep (S := fun _ => False) ((Only.refl _ _).alloc _) (fun h => h) (fun _ _ h => h)
    rw [hW0]
    clear hW0
    go_upto_region 3 with fail
    go_cut [29] from 13 to 29 (fun v wx => v = .bool false ∧ Below W0.heap.size W0 wx)
    case first =>
      have ha := Below.refl W0.heap.size W0
      go_region_with (first
        | (go_at_call 28; refine (classes_any _).mono ?_; rintro e w' ⟨rfl, hb'⟩; (first | replace ha := accD ha hb' | replace ha := acc ha hb'); clear hb'; have hcx := (ha.cell (p := ⟨w.heap.size + 1, 0, none⟩) (by simp [hsz])).trans k0)
        | (go_at_call 27; refine (all2_any _ hm _).mono ?_; rintro e w' ⟨rfl, hb'⟩; rw [Hv.out]; (first | replace ha := accD ha hb' | replace ha := acc ha hb'); clear hb'))
      all_goals (go_wp2_with fail; go_meet; exact ⟨rfl, ha⟩)
    case rest =>
      obtain ⟨rfl, ha⟩ := hcut
      have hcv := fun (w : World) => Lib.run_convert_string_bytes (P := Tryd.prog) w 9 76 5 s Tryd.underlying9 Tryd.underlying76 Tryd.underlying5
      have hs1 := ha.size
      have hx1 : rdr wc (w.heap.size + 1) s false false := below_heap ha hrd (by omega)
      have hx2 : Bld w.heap.size wc w.heap.size (.slice none 0 0) [] := hbl.keep (S := fun _ => False) (Only.of_below ha) (fun h => h) (fun _ _ h => h)
      have hx3 : Below w.heap.size w wc := hw0.trans (ha.mono (by omega))
      have Hx1 := Lib.hid hx1; have Hx2 := Lib.hid hx2; have Hx3 := Lib.hid hx3; clear hx1 hx2 hx3 hrd hbl hw0 ha k0 hidx he1 hc1
      go_wp2
      go_loopw [33] (fun i wr => ∃ (k : Nat) (q h : Bool) (acc : List UInt8) (v : Value), i = .int .i64 k ∧ k ≤ s.size ∧ QInv s w wc wr q h acc v ∧ Hid (QTo s k q h acc))
        (fun i _ => s.size - (intOf i).toNat)
      case atStart =>
        have ho : Only (fun _ => False) wc (Lib.bytesWorld wc 5 s) := Only.of_below (below_bytes _ _ _)
        exact ⟨0, false, false, [], _, rfl, by omega, ⟨ho.heap Hx1.out (fun h => h), Hx2.out.keep ho (fun h => h) (fun _ _ h => h), by simp [Value.ownBlock], by simp [Value.ownBlock], Lib.bytesWorld_at_new _ _ _,
          Hx3.out.trans ((below_bytes _ _ _).mono (by omega)), by rw [Lib.bytesWorld_size]; omega, lt_heap Hx1.out⟩, ⟨by simp, .inl ⟨rfl, rfl, rfl, rfl⟩⟩⟩
      case round =>
        obtain ⟨k, q, h, acc, v, rfl, hk, hrel, HT⟩ := hrel
        have HI := Lib.hid hrel; clear hrel
        by_cases hlt : k < s.size
        · have hcell : wr.cell? ⟨wc.heap.size, k, none⟩ = some (.int .u8 (s[k]'hlt).toNat) := bytes_at wc s wr _ _ HI.out.2.2.2.2.1 k hlt
          have d0 : wr.cell? ⟨w.heap.size + 1, 0, none⟩ = some (.string s) := Lib.cell_of_heap HI.out.1 0
          have d1 : wr.cell? ⟨w.heap.size + 1, 1, none⟩ = some (.bool q) := Lib.cell_of_heap HI.out.1 1
          have d2 : wr.cell? ⟨w.heap.size + 1, 2, none⟩ = some (.bool h) := Lib.cell_of_heap HI.out.1 2
          have hwr := HI.out.2.2.2.2.2.2.1
          have hlen : acc.length ≤ k := HT.out.1
          have hrd : ∀ o, rdr (wr.alloc o) (w.heap.size + 1) s q h := fun o => heap_old HI.out.1 o
          have Hrd := Lib.hid hrd; clear hrd
          rcases HT.out.2 with ⟨rfl, rfl, rfl, rfl⟩ | ⟨hk1, rfl, hq⟩
          · have e : openQ false false (s[0]'hlt) = (false, true, false) := by rw [Hc.out]; rfl
            have hT : QTo s 1 true false [] := ⟨by simp, .inr ⟨by omega, rfl, Hsp.out⟩⟩
            have E := Lib.hid e; have HT2 := Lib.hid hT; clear e hT HT
            go_wp2_with (go_at_call 54; refine (open_any (w.heap.size + 1) s false false (s[0]'hlt) _ (Hrd.out _)).mono ?_; rintro e w1 ⟨rfl, hr1, ho1⟩; rw [E.out] at hr1; have HA := Lib.hid (HI.out.after hr1 ho1); clear hr1 ho1; have hs3 := HA.out.1.2.2.2.2.2.1.size; have g1 : w1.cell? ⟨w.heap.size + 1, 2, none⟩ = some (.bool false) := Lib.cell_of_heap HA.out.1.1 2; have g2 : w1.cell? ⟨wr.heap.size, 2, none⟩ = some (.bool false) := Lib.cell_of_heap HA.out.2 2)
            go_roundw
            case rel => exact ⟨1, true, false, [], v, rfl, by omega, HA.out.1, HT2⟩
            case measure => simp [intOf]; omega
          · have hk2 : (0 : Int) < (k : Int) := by omega
            have hnx := low_split s k hlt
            rw [hnx] at hq
            cases h
            · by_cases h34 : (s[k]'hlt) = 34
              · have e : openQ true false (s[k]'hlt) = (true, false, false) := by rw [h34]; rfl
                have c34 : ((((s[k]'hlt).toNat : Nat) : Int) == 34) = true := by rw [h34]; rfl
                have hq2 : quotedS s.data.toList = if k + 1 = s.size then some acc else none := by
                  rw [hq, qGo, h34]
                  by_cases hl : k + 1 = s.size
                  · rw [if_pos hl, List.drop_of_length_le (by simp; omega)]; rfl
                  · have h9 : (s.data.toList.drop (k + 1)).isEmpty = false := by
                      cases hd : s.data.toList.drop (k + 1) with
                      | nil => have := congrArg List.length hd; simp at this; omega
                      | cons a l => rfl
                    rw [if_neg hl, if_pos (by rfl), if_neg (by simp [h9])]
                have E := Lib.hid e; have HQ := Lib.hid hq2; clear e h34 hq hq2 hnx
                by_cases hl : k + 1 = s.size
                · have cl : (((k : Nat) : Int) == (s.size : Int) - 1) = true := by simp; omega
                  rw [if_pos hl] at HQ
                  go_wp2_with (first
                    | (go_at_call 54; refine (open_any (w.heap.size + 1) s true false (s[k]'hlt) _ (Hrd.out _)).mono ?_; rintro e w1 ⟨rfl, hr1, ho1⟩; rw [E.out] at hr1; have HA := Lib.hid (HI.out.after hr1 ho1); clear hr1 ho1; have hs3 := HA.out.1.2.2.2.2.2.1.size; have g1 : w1.cell? ⟨w.heap.size + 1, 2, none⟩ = some (.bool false) := Lib.cell_of_heap HA.out.1.1 2; have g2 : w1.cell? ⟨wr.heap.size, 2, none⟩ = some (.bool false) := Lib.cell_of_heap HA.out.2 2)
                    | (go_at_call 56; refine (string_any w.heap.size w.heap.size v acc _ HA.out.1.2.1 hs3).mono ?_; rintro e w2 ⟨rfl, hb2⟩))
                  refine ⟨rfl, _, results_tmp2 rfl _ _ _, ?_, HA.out.1.2.2.2.2.2.1.trans hb2⟩
                  rw [HQ.out]; rfl
                · have cl : (((k : Nat) : Int) == (s.size : Int) - 1) = false := by simp; omega
                  rw [if_neg hl] at HQ
                  go_wp2_with (go_at_call 54; refine (open_any (w.heap.size + 1) s true false (s[k]'hlt) _ (Hrd.out _)).mono ?_; rintro e w1 ⟨rfl, hr1, ho1⟩; rw [E.out] at hr1; have HA := Lib.hid (HI.out.after hr1 ho1); clear hr1 ho1; have hs3 := HA.out.1.2.2.2.2.2.1.size; have g1 : w1.cell? ⟨w.heap.size + 1, 2, none⟩ = some (.bool false) := Lib.cell_of_heap HA.out.1.1 2; have g2 : w1.cell? ⟨wr.heap.size, 2, none⟩ = some (.bool false) := Lib.cell_of_heap HA.out.2 2)
                  go_step3
                  exact ⟨rfl, rfl, rfl, HA.out.1.2.2.2.2.2.1, HQ.out⟩
              · have c34 : ((((s[k]'hlt).toNat : Nat) : Int) == 34) = false := (byte_eq _ 34).trans (by simpa using h34)
                by_cases h92 : (s[k]'hlt) = 92
                · have e : openQ true false (s[k]'hlt) = (false, true, true) := by rw [h92]; rfl
                  have hT : QTo s (k + 1) true true acc := ⟨by omega, .inr ⟨by omega, rfl, by rw [hq, qGo, h92]; rfl⟩⟩
                  have E := Lib.hid e; have HT2 := Lib.hid hT; clear e h34 hq hnx h92 hT HT
                  go_wp2_with (go_at_call 54; refine (open_any (w.heap.size + 1) s true false (s[k]'hlt) _ (Hrd.out _)).mono ?_; rintro e w1 ⟨rfl, hr1, ho1⟩; rw [E.out] at hr1; have HA := Lib.hid (HI.out.after hr1 ho1); clear hr1 ho1; have hs3 := HA.out.1.2.2.2.2.2.1.size; have g1 : w1.cell? ⟨w.heap.size + 1, 2, none⟩ = some (.bool true) := Lib.cell_of_heap HA.out.1.1 2; have g2 : w1.cell? ⟨wr.heap.size, 2, none⟩ = some (.bool false) := Lib.cell_of_heap HA.out.2 2)
                  go_roundw
                  case rel => exact ⟨k + 1, true, true, acc, v, by go_num, by omega, HA.out.1, HT2⟩
                  case measure => simp [intOf]; omega
                · have e : openQ true false (s[k]'hlt) = (false, true, false) := by simp [openQ, h34, h92]
                  have hT : QTo s (k + 1) true false (acc ++ [s[k]'hlt]) := ⟨by simp; omega, .inr ⟨by omega, rfl, by rw [hq, qGo]; simp [h34, h92]⟩⟩
                  have E := Lib.hid e; have HT2 := Lib.hid hT; clear e h34 hq hnx h92 hT HT
                  go_wp2_with (first
                    | (go_at_call 54; refine (open_any (w.heap.size + 1) s true false (s[k]'hlt) _ (Hrd.out _)).mono ?_; rintro e w1 ⟨rfl, hr1, ho1⟩; rw [E.out] at hr1; have HA := Lib.hid (HI.out.after hr1 ho1); clear hr1 ho1; have hs3 := HA.out.1.2.2.2.2.2.1.size; have g1 : w1.cell? ⟨w.heap.size + 1, 2, none⟩ = some (.bool false) := Lib.cell_of_heap HA.out.1.1 2; have g2 : w1.cell? ⟨wr.heap.size, 2, none⟩ = some (.bool false) := Lib.cell_of_heap HA.out.2 2)
                    | (go_at_call 57; refine (writeByte_any w.heap.size w.heap.size v acc (s[k]'hlt) _ HA.out.1.2.1 (by omega) hs3).mono ?_; rintro e w2 ⟨rfl, v', hb2, ho2, hv2⟩; have HB := Lib.hid (HA.out.1.wrote hb2 ho2 hv2); clear hb2 ho2 hv2))
                  go_roundw
                  case rel => exact ⟨k + 1, true, false, acc ++ [s[k]'hlt], v', by go_num, by omega, HB.out, HT2⟩
                  case measure => simp [intOf]; omega
            · have e : openQ true true (s[k]'hlt) = (false, true, false) := by simp [openQ]
              have hT : QTo s (k + 1) true false (acc ++ [s[k]'hlt]) := ⟨by simp; omega, .inr ⟨by omega, rfl, by rw [hq, qGo]; simp⟩⟩
              have E := Lib.hid e; have HT2 := Lib.hid hT; clear e hq hnx hT HT
              go_wp2_with (first
                | (go_at_call 54; refine (open_any (w.heap.size + 1) s true true (s[k]'hlt) _ (Hrd.out _)).mono ?_; rintro e w1 ⟨rfl, hr1, ho1⟩; rw [E.out] at hr1; have HA := Lib.hid (HI.out.after hr1 ho1); clear hr1 ho1; have hs3 := HA.out.1.2.2.2.2.2.1.size; have g1 : w1.cell? ⟨w.heap.size + 1, 2, none⟩ = some (.bool false) := Lib.cell_of_heap HA.out.1.1 2; have g2 : w1.cell? ⟨wr.heap.size, 2, none⟩ = some (.bool true) := Lib.cell_of_heap HA.out.2 2)
                | (go_at_call 57; refine (writeByte_any w.heap.size w.heap.size v acc (s[k]'hlt) _ HA.out.1.2.1 (by omega) hs3).mono ?_; rintro e w2 ⟨rfl, v', hb2, ho2, hv2⟩; have HB := Lib.hid (HA.out.1.wrote hb2 ho2 hv2); clear hb2 ho2 hv2))
              go_roundw
              case rel => exact ⟨k + 1, true, false, acc ++ [s[k]'hlt], v', by go_num, by omega, HB.out, HT2⟩
              case measure => simp [intOf]; omega
        · have hq : quotedS s.data.toList = none := by
            rcases HT.out.2 with ⟨rfl, _⟩ | ⟨hk1, rfl, hq⟩
            · omega
            · rw [hq, List.drop_of_length_le (by simp; omega), qGo]
          have HQ := Lib.hid hq; clear hq
          go_wp2
          go_step3
          go_wp2
          refine ⟨rfl, _, results_tmp2 rfl _ _ _, ?_, HI.out.2.2.2.2.2.1⟩
          rw [HQ.out]; rfl
  · rintro a' w' ⟨h1, h2, h3, h4⟩
    obtain ⟨T, ds⟩ := a'
    dsimp only at h1 h2
    subst h2
    have H4 := Lib.hid h4; clear h4
    go_wp2
    refine ⟨rfl, _, results_tmp2 rfl _ _ _, ?_, h3⟩
    rw [H4.out]
    simp [endQ, Array.getElem?_setIfInBounds, h1]

theorem quoted_any (s : ByteArray) (hs : s.size ≤ 140737488351232) (w : World) :
    Calls Tryd.prog 45 #[.string s] w fun e w' => e = endQ (quotedS s.data.toList) ∧ Below w.heap.size w w' := by
  by_cases he : s.data.toList = []
  · exact quoted_no s hs (.inl he) w
  · have h0 : 0 < s.size := by
      rcases Nat.eq_zero_or_pos s.size with h | h
      · exact absurd (List.eq_nil_of_length_eq_zero (by simpa using h)) he
      · exact h
    by_cases hc : (s[0]'h0) = 34
    · cases hv : allB valB s.data.toList
      · exact quoted_no s hs (.inr ⟨h0, .inr hv⟩) w
      · exact quoted_ok s hs h0 hc hv w
    · exact quoted_no s hs (.inr ⟨h0, .inl hc⟩) w
end Go.Proofs.YtnlkmiieebahoaaDoor
