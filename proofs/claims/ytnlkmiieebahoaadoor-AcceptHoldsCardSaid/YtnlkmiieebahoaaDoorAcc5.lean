/- Contracts of package accept: one range (conditions: none). Laid by gen_acc5.py. -/
import Derived.Test.YtnlkmiieebahoaaDoorAcc4
import Derived.Maps.OwnIn
set_option linter.unusedVariables false
set_option linter.unusedSimpArgs false
namespace Go.Proofs.YtnlkmiieebahoaaDoor
open Go.RowKit
attribute [local go_sem] Oper.semAt_some

/-- a range. -/
structure Rg where
  kind : List UInt8
  sub : List UInt8
  params : Nat
  quality : Nat
def Rg.enc (r : Rg) : Value := .agg #[.string ⟨r.kind.toArray⟩, .string ⟨r.sub.toArray⟩, .int .i64 r.params, .int .i64 r.quality]
def headS (h : List UInt8) : Option (List UInt8 × List UInt8) :=
  if (cut1 47 (lowS h)).2.2 && tokenS (cut1 47 (lowS h)).1 && tokenS (cut1 47 (lowS h)).2.1 && (!((cut1 47 (lowS h)).1 == [42]) || (cut1 47 (lowS h)).2.1 == [42]) then some ((cut1 47 (lowS h)).1, (cut1 47 (lowS h)).2.1) else none
def oneS (s : List UInt8) : Option Rg :=
  match eachS 59 s with
  | [] => none
  | h :: ps => match headS h with
    | none => none
    | some (k, u) => (takesS ⟨0, 1000, false⟩ ps).map fun t => ⟨k, u, t.params, t.quality⟩

theorem row_keep {w w' : World} {base : Nat} {e : TypeId} {size : Nat} {v : Value} {n : Nat} {xs : List Value} (h : w.ownsRow base e size v n xs) (hk : ∀ g, v.ownBlock = some g → w'.heap[g]? = w.heap[g]?) : w'.ownsRow base e size v n xs := by
  refine ⟨h.1, ?_⟩
  rcases h.2 with hn | ⟨g, cap, cur, rfl, hb, hgg, rest⟩
  · exact .inl hn
  · exact .inr ⟨g, cap, cur, rfl, hb, (hk g rfl).trans hgg, rest⟩
theorem row_block {w : World} {base : Nat} {e : TypeId} {size : Nat} {v : Value} {n : Nat} {xs : List Value} (h : w.ownsRow base e size v n xs) : ∀ g, v.ownBlock = some g → base ≤ g ∧ g < w.heap.size := h.lt
theorem infoStr : (Tryd.prog.info? 9).map (fun i => (i.zero, i.size, i.bytes)) = some (some (.string ⟨#[]⟩), 1, 16) := by kernel_rfl
theorem infoRange : (Tryd.prog.info? 33).map (·.size) = some 4 := by kernel_rfl
/-- texts as cells. -/
def strs (l : List (List UInt8)) : List Value := l.map fun x => .string ⟨x.toArray⟩
theorem strs_snoc (l : List (List UInt8)) (x : List UInt8) (k : Nat) (h : l[k]? = some x) : strs (l.take (k + 1)) = strs (l.take k) ++ [.string ⟨x.toArray⟩] := by
  unfold strs; rw [List.take_add_one, h]; simp
theorem eachF_len (c : UInt8) : ∀ (n : Nat) (l : List UInt8), l.length < n → (eachF c n l).length ≤ l.length + 1 := by
  intro n
  induction n with
  | zero => intro l h; omega
  | succ n ih =>
    intro l h
    rw [eachF]
    split
    · rename_i hc
      have h1 := cutS_lt c l hc
      have := ih (cutS c l).2.1 (by omega)
      simp; omega
    · simp
theorem eachS_len (c : UInt8) (l : List UInt8) : (eachS c l).length ≤ l.length + 1 := eachF_len c _ l (by omega)
theorem eachF_le (c : UInt8) : ∀ (n : Nat) (l : List UInt8), ∀ x ∈ eachF c n l, x.length ≤ l.length := by
  intro n
  induction n with
  | zero => intro l x h; simp [eachF] at h
  | succ n ih =>
    intro l x h
    rw [eachF] at h
    rcases List.mem_cons.1 h with rfl | h
    · exact cutS_le1 c l
    · split at h
      · rename_i hc
        have h1 := cutS_lt c l hc
        have := ih _ x h
        omega
      · simp at h
theorem eachS_le (c : UInt8) (l : List UInt8) : ∀ x ∈ eachS c l, x.length ≤ l.length := eachF_le c _ l
theorem eachS_ne (c : UInt8) (l : List UInt8) : eachS c l ≠ [] := by unfold eachS; rw [eachF]; simp

def rowB (w : World) (v : Value) : Nat → Prop := fun b => b = w.heap.size ∨ b = w.heap.size + 1 ∨ v.ownBlock = some b
def oneJ (w : World) (s : List UInt8) (T : Nat → Prop) (k : Nat) (A : World) : Prop :=
  ∃ v, T = rowB w v ∧ A.heap[w.heap.size]? = some (.cells #[.string ⟨#[]⟩, .string ⟨#[]⟩, .int .i64 0, .int .i64 0] 33) ∧ A.heap[w.heap.size + 1]? = some (.cells #[v] 38) ∧
    A.ownsRow (w.heap.size + 4) 9 1 v k (strs ((eachS 59 s).take k)) ∧ k ≤ (eachS 59 s).length
def oneA (w : World) (s : ByteArray) (T : Nat → Prop) (k : Nat) (a : Act) (A : World) : Prop :=
  ∃ x, (eachS 59 s.data.toList)[k]? = some x ∧ oneJ w s.data.toList T k A ∧ a = { tmps := #[.string s, undef, .pointer (some ⟨w.heap.size, 0, none⟩), .pointer (some ⟨w.heap.size + 1, 0, none⟩), undef, .string ⟨x.toArray⟩, undef, undef, undef, undef, .string s, .func (.func 29) #[] #[.pointer (some ⟨w.heap.size + 1 + 1, 0, none⟩), .pointer (some ⟨w.heap.size + 1 + 1 + 1, 0, none⟩)], .int .i64 k, .string ⟨x.toArray⟩, undef, undef, undef, undef, undef, undef, undef, undef, undef, undef, undef, undef, undef, undef, undef, undef, undef, undef, undef, undef, undef, undef, undef, undef, undef, undef, undef, undef, undef, undef, undef, undef, undef, undef, undef, undef, undef, undef, undef, undef, undef, undef, undef, undef], defers := [] }
theorem oneJ_keep (w : World) (s : List UInt8) (T : Nat → Prop) (k : Nat) : Stable w.heap.size T (oneJ w s T k) := by
  rintro A A' ⟨v, rfl, h1, h2, h3, h4⟩ hk
  exact ⟨v, rfl, (hk.block _ (.inr (.inl rfl))).trans h1, (hk.block _ (.inr (.inr (.inl rfl)))).trans h2, row_keep h3 (fun g hg => hk.block g (.inr (.inr (.inr hg)))), h4⟩

set_option maxRecDepth 100000 in
set_option maxHeartbeats 1000000 in
theorem one_any (s : ByteArray) (hs : s.size ≤ 1000000) (w : World) :
    Calls Tryd.prog 24 #[.string s] w fun e w' => e = endO 220 ((oneS s.data.toList).map Rg.enc) ∧ Below w.heap.size w w' := by
  have hwf : ∀ g, Fence.wide.fn g := fun _ => trivial
  have hwd : Fence.wide.depth = none := rfl
  have hnot : ∀ (x : Bool) (w : World), (Op.unary .not (.bool x)).run Tryd.prog w = .ok (.bool (!x)) w := fun _ _ => rfl
  have hmax : s.size ≤ 140737488351232 := by omega
  obtain ⟨i0, hi, hz0, hz1, hz2⟩ := info_parts infoStr
  refine calls_of_wpB Tryd.func24 rfl ?_
  simp only [Tryd.ntmps24, List.size_toArray, List.length_cons, List.length_nil, Nat.reduceAdd, Nat.reduceSub, Array.replicate_succ, Array.replicate_zero, List.push_toArray, List.append_toArray, List.nil_append, List.cons_append]
  refine wpB_seq_k (n := 0) fun K hK => ?_
  gi_wp2
  refine wpB_seq_k (n := 0) fun K2 hK2 => ?_
  gi_wp2
  refine wpB_seq (wpB_seq_k (n := 0) fun K3 hK3 => ?_)
  gi_wp2_with (gi_at_call 23; refine (callsIn_wide.2 (each_any s 59 _)).mono ?_; rintro e w1 ⟨rfl, rfl⟩)
  refine wpB_block ?_
  refine wpB_range (n := 0) Tryd.func24 rfl enters_each1 (each1_gives w.heap.size (w.heap.size + 1 + 1) (w.heap.size + 1 + 1 + 1) s 59 hmax) (fun _ _ => rfl) ?hB ?hO ?hpre
    (oneJ w s.data.toList) (fun _ _ _ => False) (fun _ _ _ => False) (oneA w s) ?stJ ?stX ?stP ?stA (rowB w (.slice none 0 0)) ?hS ?h0 ?assign ?body ?done ?stop ?panic
  case hB => simp; omega
  case hO => rintro b (rfl | rfl) <;> simp
  case hpre =>
    intro w' ho
    exact ⟨ho.heap (heap_old (by have := heap_new ((w.alloc (.cells #[.string ⟨#[]⟩, .string ⟨#[]⟩, .int .i64 0, .int .i64 0] 33)).alloc (.cells #[.slice none 0 0] 38)) (.cells #[.string s] 9); simpa using this) _) (fun h => h),
      ho.heap (by have := heap_new (((w.alloc (.cells #[.string ⟨#[]⟩, .string ⟨#[]⟩, .int .i64 0, .int .i64 0] 33)).alloc (.cells #[.slice none 0 0] 38)).alloc (.cells #[.string s] 9)) (.cells #[.int .u8 (59 : UInt8).toNat] 5); simpa using this) (fun h => h)⟩
  case stJ => exact oneJ_keep w s.data.toList
  case stX => exact fun _ _ _ _ h _ => h
  case stP => exact fun _ _ _ _ h _ => h
  case stA => rintro T k a A A' ⟨x, hx, hj, rfl⟩ hk; exact ⟨x, hx, oneJ_keep w _ T k A A' hj hk, rfl⟩
  case hS =>
    rintro b (rfl | rfl | hb)
    · exact ⟨Nat.le_refl _, by simp; omega, by omega⟩
    · exact ⟨by omega, by simp, by omega⟩
    · cases hb
  case h0 => exact ⟨_, rfl, heap_old (heap_old (heap_old (heap_new _ _) _) _) _, heap_old (heap_old (by have := heap_new (w.alloc (.cells #[.string ⟨#[]⟩, .string ⟨#[]⟩, .int .i64 0, .int .i64 0] 33)) (.cells #[.slice none 0 0] 38); simpa using this) _) _, World.ownsRow_nil _ _ _ _, Nat.zero_le _⟩
  case assign =>
    rintro l' T k x A K hx hsz hT hj hK
    unfold encI
    gi_wp2
    exact hK _ _ _ ⟨x, hx, hj, rfl⟩ (Moves.refl (fun b hb => (hT b hb).2.1))
  case body =>
    rintro l' T k x a₁ A hx hsz hT ⟨x', hx', ⟨v, rfl, h1, h2, h3, h4⟩, rfl⟩
    obtain rfl : x' = x := by rw [hx] at hx'; exact (Option.some.inj hx').symm
    have hlt : k < (eachS 59 s.data.toList).length := by rw [List.getElem?_eq_some_iff] at hx; exact hx.1
    have hbig := eachS_len 59 s.data.toList
    have hbg : (eachS 59 s.data.toList).length ≤ 1000001 := by simp at hbig; omega
    have hsz' : w.heap.size + 5 < A.heap.size := by simp at hsz; omega
    have h0 : A.cell? ⟨w.heap.size + 1, 0, none⟩ = some v := Lib.cell_of_heap h2 0
    have hvb := row_block h3
    have hss := strs_snoc _ _ _ hx
    have H1 := Lib.hid h1; have H2 := Lib.hid h2; have HT := Lib.hid hT; have Hss := Lib.hid hss; clear h1 h2 hT hx' hss
    gi_wp2_with (gi_at_builtin; refine wpListIn_append_own_at _ rfl _ _ 38 rfl (w.heap.size + 4) 9 i0 (.string ⟨#[]⟩) 1 16 Tryd.underlying38 hi hz0 hz1 hz2 rfl (by decide) _ _ _ rfl (h3.alloc _) ⟨A.heap.size, 0, none⟩ 1 1 [.string ⟨x'.toArray⟩] rfl rfl ?c1 ?c2 ?c3 ?c4 ?c5 ?_)
    case c1 => exact cell_one_new _ _ _
    case c2 => intro u hu; simp at hu; subst hu; rfl
    case c3 => unfold maxLen; omega
    case c4 => omega
    case c5 => simp; omega
    intro v' w2 hown' hgrow _ hat
    have hne1 : v.ownBlock ≠ some (w.heap.size + 1) := fun e => by have := (hvb _ e).1; omega
    have hne0 : v.ownBlock ≠ some w.heap.size := fun e => by have := (hvb _ e).1; omega
    have b0 : w2.heap[w.heap.size]? = some (.cells #[.string ⟨#[]⟩, .string ⟨#[]⟩, .int .i64 0, .int .i64 0] 33) := by
      rw [hgrow.block _ (by simp; omega) (fun e => hne0 e.symm)]; exact heap_old H1.out _
    have b1 : w2.heap[w.heap.size + 1]? = some (.cells #[v] 38) := by
      rw [hgrow.block _ (by simp; omega) (fun e => hne1 e.symm)]; exact heap_old H2.out _
    have f1 : w2.frozen? ⟨w.heap.size + 1, 0, none⟩ = false := Lib.frozen_of_heap b1 0
    have d1 : w2.cell? ⟨w.heap.size + 1, 0, none⟩ = some v := Lib.cell_of_heap b1 0
    have hvb' := row_block hown'
    have ho : Only (rowB w v) A w2 := (((Only.refl _ _).alloc _).next (T := fun k => v.ownBlock = some k)
      ⟨hgrow.os, hgrow.tape, hgrow.output, hgrow.size, fun k hk hs => hgrow.block k hk (fun e => hs e.symm)⟩ (fun i _ e => .inr (.inr e)))
    have ho2 : Only (rowB w v) A (w2.setCell ⟨w.heap.size + 1, 0, none⟩ v') := ho.setCell ⟨w.heap.size + 1, 0, none⟩ (fun _ => .inr (.inl rfl)) v'
    have hgr : ∀ b, rowB w v' b → rowB w v b ∨ A.heap.size ≤ b := fun b hb => by
      rcases hb with rfl | rfl | hb
      · exact .inl (.inl rfl)
      · exact .inl (.inr (.inl rfl))
      · rcases hat with e | e
        · exact .inl (.inr (.inr (by rw [← e]; exact hb)))
        · rw [hb] at e; cases e; exact .inr (by simp)
    have hth : ∀ b, rowB w v' b → b < (w2.setCell ⟨w.heap.size + 1, 0, none⟩ v').heap.size := fun b hb => by
      have h5 := lt_heap b1
      refine Nat.lt_of_lt_of_le ?_ (only1 w2 (w.heap.size + 1) 0 v').size
      rcases hb with rfl | rfl | hb
      · omega
      · exact h5
      · exact (hvb' b hb).2
    have hb1' := heap_setCell b1 0 v'
    have hJ : oneJ w s.data.toList (rowB w v') (k + 1) (w2.setCell ⟨w.heap.size + 1, 0, none⟩ v') := by
      refine ⟨v', rfl, (only1 w2 (w.heap.size + 1) 0 v').heap b0 (by omega), hb1', ?_, hlt⟩
      rw [Hss.out]
      exact row_keep hown' (fun g hg => (only1 w2 (w.heap.size + 1) 0 v').block g ((hvb' g hg).2) (by have := (hvb' g hg).1; omega))
    obtain ⟨g, cap, rfl⟩ : ∃ g cap, v' = .slice (some ⟨g, 0, none⟩) (k + 1) cap := by
      rcases hown'.2 with ⟨_, h0⟩ | ⟨g, cap, cur, hv, _⟩
      · omega
      · exact ⟨g, cap, hv⟩
    have HJ := Lib.hid hJ; have Ho2 := Lib.hid ho2; clear hJ ho ho2 hown' hgrow b0 b1 hb1'
    gi_wp2
    exact ⟨rowB w _, HJ.out, ⟨Ho2.out, hgr, hth⟩⟩
  case done =>
    rintro T W hM ⟨v, rfl, h1, h2, h3, _⟩ hd hn
    obtain ⟨h, ps, hE⟩ : ∃ h ps, eachS 59 s.data.toList = h :: ps := by
      cases e : eachS 59 s.data.toList with
      | nil => exact absurd e (eachS_ne _ _)
      | cons h ps => exact ⟨h, ps, rfl⟩
    have hlen := eachS_len 59 s.data.toList
    have hle := eachS_le 59 s.data.toList
    rw [hE] at h3 hlen hle
    rw [List.take_of_length_le (Nat.le_refl _)] at h3
    have hsd : s.data.toList.length = s.size := by simp
    rw [hsd] at hlen hle
    obtain ⟨g, cap, rfl⟩ : ∃ g cap, v = .slice (some ⟨g, 0, none⟩) (ps.length + 1) cap := by
      rcases h3.2 with ⟨_, h0⟩ | ⟨g, cap, cur, hv, _⟩
      · simp at h0
      · exact ⟨g, cap, hv⟩
    have hcell : ∀ j (hj : j < (h :: ps).length), W.cell? ⟨g, j, none⟩ = some (.string ⟨((h :: ps)[j]'hj).toArray⟩) := fun j hj => by
      have := h3.cells (g := g) rfl j (.string ⟨((h :: ps)[j]'hj).toArray⟩) (by unfold strs; rw [List.getElem?_map, List.getElem?_eq_getElem hj]; rfl)
      have hadd : (⟨g, 0, none⟩ : Addr).add j = ⟨g, j, none⟩ := by unfold Addr.add; split <;> simp_all
      rwa [hadd] at this
    have hcap : ps.length + 1 ≤ cap := by
      rcases h3.2 with ⟨h0, _⟩ | ⟨g', cap', cur, hv, _, _, hc, _⟩
      · cases h0
      · cases hv; simpa using hc
    have hgb := row_block h3 g rfl
    have hl0 : W.cell? ⟨w.heap.size + 1, 0, none⟩ = some (.slice (some ⟨g, 0, none⟩) (ps.length + 1) cap) := Lib.cell_of_heap h2 0
    have hg0 : W.cell? ⟨g, 0, none⟩ = some (.string ⟨h.toArray⟩) := hcell 0 (by simp)
    have hcapm : cap ≤ maxLen := by
      rcases h3.2 with ⟨h0, _⟩ | ⟨g', cap', cur, hv, _, _, _, hc, _⟩
      · cases h0
      · cases hv; exact hc
    refine wpB_of (n := 0) ?_
    obtain ⟨kd, sb, fd, hcut⟩ : ∃ kd sb fd, cut1 47 (lowS h) = (kd, sb, fd) := ⟨_, _, _, rfl⟩
    have hhl : h.length ≤ 1000000 := by have := hle h (by simp); omega
    have hz1 : (⟨h.toArray⟩ : ByteArray).size ≤ 140737488351232 := by rw [size_str]; omega
    have hz2 : (⟨(lowS h).toArray⟩ : ByteArray).size ≤ maxLen := by rw [size_str, lowS_length]; unfold maxLen; omega
    have hz3 : (⟨kd.toArray⟩ : ByteArray).size ≤ maxLen := by have := cut1_le1 47 (lowS h); rw [hcut, lowS_length] at this; rw [size_str]; unfold maxLen; dsimp only at this; omega
    have hz4 : (⟨sb.toArray⟩ : ByteArray).size ≤ maxLen := by have := cut1_le2 47 (lowS h); rw [hcut, lowS_length] at this; rw [size_str]; unfold maxLen; dsimp only at this; omega
    have hps : ∀ p ∈ ps, p.length ≤ 140737488351232 := fun p hp => by have := hle p (by simp [hp]); omega
    have hB0 : Below w.heap.size w W := ((((((Below.refl _ _).alloc (Nat.le_refl _) _).alloc (by simp) _).alloc (by simp; omega) _).alloc (by simp; omega) _)).trans (hM.only.below (by simp; omega) (fun k hk hs => by
      rcases hs with (rfl | rfl | hs) | (rfl | rfl)
      · omega
      · omega
      · cases hs
      · omega
      · omega))
    simp only [World.size_alloc] at hd hn
    have hDW := lt_heap hd
    have hend : ∀ X, Only (fun k => k = w.heap.size ∨ W.heap.size ≤ k) W X → X.heap[w.heap.size + 1 + 1 + 1 + 1]? = some (.deferred (some [])) ∧ Below w.heap.size w (X.putObj (w.heap.size + 1 + 1 + 1 + 1) (.deferred none)) := fun X hX =>
      ⟨hX.heap hd (by omega), hB0.trans ((hX.below (by omega) (fun k hk => by omega)).trans ((only_putObj X _ _).below (by have := hX.size; omega) (fun k hk => by omega)))⟩
    have hone : ∀ k u, headS h = some (k, u) → oneS s.data.toList = (takesS ⟨0, 1000, false⟩ ps).map fun t => ⟨k, u, t.params, t.quality⟩ := fun k u e => by rw [oneS, hE]; dsimp only; rw [e]
    have hone0 : headS h = none → oneS s.data.toList = none := fun e => by rw [oneS, hE]; dsimp only; rw [e]
    have hhead : headS h = if fd && tokenS kd && tokenS sb && (!(kd == [42]) || sb == [42]) then some (kd, sb) else none := by rw [headS, hcut]
    have hg1 : ∀ X, Below W.heap.size W X → X.cell? ⟨w.heap.size + 1, 0, none⟩ = some (.slice (some ⟨g, 0, none⟩) (ps.length + 1) cap) := fun X hX => (hX.cell (p := ⟨w.heap.size + 1, 0, none⟩) (by dsimp only; omega)).trans hl0
    have ha := Below.refl W.heap.size W
    have Hend := Lib.hid hend; have HG := Lib.hid hg1; clear hend hg1 hB0
    have Hcut := Lib.hid hcut; have HM := Lib.hid hM; have Hps := Lib.hid hps; have Hd := Lib.hid hd; have Hn := Lib.hid hn; have Hcell := Lib.hid hcell; have H1 := Lib.hid h1; have H2 := Lib.hid h2; have Hle := Lib.hid hle; have HE := Lib.hid hE
    clear hcut hM hps hd hn hcell h1 h2 h3 hle hE
    cases fd
    · have hnone : oneS s.data.toList = none := hone0 (by rw [hhead]; rfl)
      have Hnone := Lib.hid hnone; clear hnone hone hone0 hhead
      gi_wp2_with (first
        | (gi_at_call 32; refine (callsIn_wide.2 (lower_any _ hz1 _)).mono ?_; rintro e w1 ⟨rfl, hb⟩; replace ha := acc ha hb; clear hb; have hg := HG.out _ ha)
        | (gi_at_call 31; refine (callsIn_wide.2 (cut1_any _ 47 hz2 _)).mono ?_; rintro e w1 ⟨rfl, hb⟩; rw [Hcut.out]; replace ha := acc ha hb; clear hb; have hg := HG.out _ ha)
        | (gi_at_call 33; refine (callsIn_wide.2 (token_any _ (by first | exact hz3 | exact hz4) _)).mono ?_; rintro e w1 ⟨rfl, hb⟩; skip; replace ha := acc ha hb; clear hb; have hg := HG.out _ ha; have hga := fun o => HG.out _ (ha.alloc ha.size o))
        | (gi_at_call 21; refine (callsIn_wide.2 (must_any _ _ _)).mono ?_; rintro e w2 ⟨rfl, rfl⟩; simp only [if_true, endO]))
      exact leaves_mark (by simp) (Hend.out _ (Only.of_below ha)).1 (leaves_panic ⟨by rw [Hnone.out]; rfl, (Hend.out _ (Only.of_below ha)).2⟩)
    · cases htk : tokenS kd
      · have hnone : oneS s.data.toList = none := hone0 (by rw [hhead]; simp [htk])
        have Htk := Lib.hid htk; clear htk
        have Hnone := Lib.hid hnone; clear hnone hone hone0 hhead
        gi_wp2_with (first
          | (gi_at_call 32; refine (callsIn_wide.2 (lower_any _ hz1 _)).mono ?_; rintro e w1 ⟨rfl, hb⟩; replace ha := acc ha hb; clear hb; have hg := HG.out _ ha)
          | (gi_at_call 31; refine (callsIn_wide.2 (cut1_any _ 47 hz2 _)).mono ?_; rintro e w1 ⟨rfl, hb⟩; rw [Hcut.out]; replace ha := acc ha hb; clear hb; have hg := HG.out _ ha)
          | (gi_at_call 33; refine (callsIn_wide.2 (token_any _ (by first | exact hz3 | exact hz4) _)).mono ?_; rintro e w1 ⟨rfl, hb⟩; (first | rw [Htk.out]); replace ha := acc ha hb; clear hb; have hg := HG.out _ ha; have hga := fun o => HG.out _ (ha.alloc ha.size o))
          | (gi_at_call 21; refine (callsIn_wide.2 (must_any _ _ _)).mono ?_; rintro e w2 ⟨rfl, rfl⟩; simp only [if_true, endO]))
        exact leaves_mark (by simp) (Hend.out _ (Only.of_below ha)).1 (leaves_panic ⟨by rw [Hnone.out]; rfl, (Hend.out _ (Only.of_below ha)).2⟩)
      · cases hts : tokenS sb
        · have hnone : oneS s.data.toList = none := hone0 (by rw [hhead]; simp [hts])
          have Htk := Lib.hid htk; have Hts := Lib.hid hts; clear htk hts
          have Hnone := Lib.hid hnone; clear hnone hone hone0 hhead
          gi_wp2_with (first
            | (gi_at_call 32; refine (callsIn_wide.2 (lower_any _ hz1 _)).mono ?_; rintro e w1 ⟨rfl, hb⟩; replace ha := acc ha hb; clear hb; have hg := HG.out _ ha)
            | (gi_at_call 31; refine (callsIn_wide.2 (cut1_any _ 47 hz2 _)).mono ?_; rintro e w1 ⟨rfl, hb⟩; rw [Hcut.out]; replace ha := acc ha hb; clear hb; have hg := HG.out _ ha)
            | (gi_at_call 33; refine (callsIn_wide.2 (token_any _ (by first | exact hz3 | exact hz4) _)).mono ?_; rintro e w1 ⟨rfl, hb⟩; (first | rw [Htk.out] | rw [Hts.out]); replace ha := acc ha hb; clear hb; have hg := HG.out _ ha; have hga := fun o => HG.out _ (ha.alloc ha.size o))
            | (gi_at_call 21; refine (callsIn_wide.2 (must_any _ _ _)).mono ?_; rintro e w2 ⟨rfl, rfl⟩; simp only [if_true, endO]))
          exact leaves_mark (by simp) (Hend.out _ (Only.of_below ha)).1 (leaves_panic ⟨by rw [Hnone.out]; rfl, (Hend.out _ (Only.of_below ha)).2⟩)
        · have Htk := Lib.hid htk; have Hts := Lib.hid hts
          cases hk : (kd == [42])
          · have hhd : headS h = some (kd, sb) := by rw [hhead]; simp [htk, hts, hk]
            have hon := hone _ _ hhd
            have Hon := Lib.hid hon; clear hon hone hone0 hhead hhd htk hts
            have hk' : (kd != [42]) = true := by rw [bne, hk]; rfl
            gi_wp2_with (first
              | (gi_at_call 32; refine (callsIn_wide.2 (lower_any _ hz1 _)).mono ?_; rintro e w1 ⟨rfl, hb⟩; replace ha := acc ha hb; clear hb; have hg := HG.out _ ha)
              | (gi_at_call 31; refine (callsIn_wide.2 (cut1_any _ 47 hz2 _)).mono ?_; rintro e w1 ⟨rfl, hb⟩; rw [Hcut.out]; replace ha := acc ha hb; clear hb; have hg := HG.out _ ha)
              | (gi_at_call 33; refine (callsIn_wide.2 (token_any _ (by first | exact hz3 | exact hz4) _)).mono ?_; rintro e w1 ⟨rfl, hb⟩; (first | rw [Htk.out] | rw [Hts.out]); replace ha := acc ha hb; clear hb; have hg := HG.out _ ha; have hga := fun o => HG.out _ (ha.alloc ha.size o))
              | (gi_at_call 21; refine (callsIn_wide.2 (must_any _ _ _)).mono ?_; rintro e w2 ⟨rfl, rfl⟩; simp only [if_true, endO]))
            all_goals
              have hga2 := ha.alloc ha.size (.cells #[.string ⟨kd.toArray⟩, .string ⟨sb.toArray⟩, .int .i64 0, .int .i64 1000, .bool false] 72)
              have hsz3 : (w1.alloc (.cells #[.string ⟨kd.toArray⟩, .string ⟨sb.toArray⟩, .int .i64 0, .int .i64 1000, .bool false] 72)).heap.size = w1.heap.size + 1 := by simp
              have hwl := ha.size
              refine (callsIn_wide.2 (takes_any w1.heap.size g _ _ ⟨kd.toArray⟩ ⟨sb.toArray⟩ ⟨0, 1000, false⟩ ps _ (by have := hgb.2; omega) (heap_new _ _) ?_ Hps.out (by simp at hlen; dsimp only; omega) (by have := hgb.2; rw [World.size_alloc]; omega))).mono ?_
              · intro j hj
                first
                  | (exfalso; omega)
                  | (have h5 := Hcell.out (1 + j) (by simp; omega)
                     refine (hga2.cell (p := ⟨g, 1 + j, none⟩) hgb.2).trans (h5.trans ?_)
                     simp [Nat.add_comm 1 j])
              rintro e w3 ⟨rfl, hst, ho3⟩
              have hX : Only (fun k => W.heap.size ≤ k) W w3 := ((Only.of_below hga2).next ho3 (fun i hi e => by omega))
              have hX2 : Only (fun k => k = w.heap.size ∨ W.heap.size ≤ k) W w3 := hX.mono (fun _ _ x => .inr x)
              cases htk : takesS ⟨0, 1000, false⟩ ps with
              | none =>
                simp only [Option.map_none, endO]
                exact leaves_mark (by simp) (Hend.out _ hX2).1 (leaves_panic ⟨by rw [Hon.out, htk]; rfl, (Hend.out _ hX2).2⟩)
              | some st' =>
                have hr := hst _ htk
                have hb3 := hX.heap H1.out (by omega)
                have hlb := lt_heap hr
                have c0 := Lib.cell_of_heap hr 0
                have c1 := Lib.cell_of_heap hr 1
                have c2 := Lib.cell_of_heap hr 2
                have c3 := Lib.cell_of_heap hr 3
                simp at c0 c1 c2 c3
                have f0 := Lib.frozen_of_heap hb3 0
                have f1 := Lib.frozen_of_heap hb3 1
                have f2 := Lib.frozen_of_heap hb3 2
                have f3 := Lib.frozen_of_heap hb3 3
                have e0 := Lib.cell_of_heap hb3 0
                have e1 := Lib.cell_of_heap hb3 1
                have e2 := Lib.cell_of_heap hb3 2
                have e3 := Lib.cell_of_heap hb3 3
                simp at e0 e1 e2 e3
                have Htakes := Lib.hid htk; have HX2 := Lib.hid hX2; have Hb3 := Lib.hid hb3; clear hr htk hX hX2 ho3 hst hb3 hg hga hga2
                simp only [Option.map_some, endO]
                gi_wp2
                have b4 := heap_setCell (heap_setCell (heap_setCell (heap_setCell Hb3.out 0 (.string ⟨kd.toArray⟩)) 1 (.string ⟨sb.toArray⟩)) 2 (.int .i64 st'.params)) 3 (.int .i64 st'.quality)
                have o4 := (((HX2.out.setCell ⟨w.heap.size, 0, none⟩ (fun _ => .inl rfl) (.string ⟨kd.toArray⟩)).setCell ⟨w.heap.size, 1, none⟩ (fun _ => .inl rfl) (.string ⟨sb.toArray⟩)).setCell ⟨w.heap.size, 2, none⟩ (fun _ => .inl rfl) (.int .i64 st'.params)).setCell ⟨w.heap.size, 3, none⟩ (fun _ => .inl rfl) (.int .i64 st'.quality)
                exact leaves_mark (by simp) (Hend.out _ o4).1 (leaves_ret (results_cell_row rfl _ _ w.heap.size 33 #[.string ⟨kd.toArray⟩, .string ⟨sb.toArray⟩, .int .i64 st'.params, .int .i64 st'.quality] (0, 0) _ rfl ((World.putObj_heap_other (by omega)).trans (b4.trans (by simp))) Tryd.underlying33 rfl infoRange) ⟨by rw [Hon.out, Htakes.out]; rfl, (Hend.out _ o4).2⟩)
          · cases hu : (sb == [42])
            · have hnone : oneS s.data.toList = none := hone0 (by rw [hhead]; simp [hk, hu])
              have hk' : (kd != [42]) = false := by rw [bne, hk]; rfl
              clear htk hts
              have Hnone := Lib.hid hnone; clear hnone hone hone0 hhead
              gi_wp2_with (first
                | (gi_at_call 32; refine (callsIn_wide.2 (lower_any _ hz1 _)).mono ?_; rintro e w1 ⟨rfl, hb⟩; replace ha := acc ha hb; clear hb; have hg := HG.out _ ha)
                | (gi_at_call 31; refine (callsIn_wide.2 (cut1_any _ 47 hz2 _)).mono ?_; rintro e w1 ⟨rfl, hb⟩; rw [Hcut.out]; replace ha := acc ha hb; clear hb; have hg := HG.out _ ha)
                | (gi_at_call 33; refine (callsIn_wide.2 (token_any _ (by first | exact hz3 | exact hz4) _)).mono ?_; rintro e w1 ⟨rfl, hb⟩; (first | rw [Htk.out] | rw [Hts.out]); replace ha := acc ha hb; clear hb; have hg := HG.out _ ha; have hga := fun o => HG.out _ (ha.alloc ha.size o))
                | (gi_at_call 21; refine (callsIn_wide.2 (must_any _ _ _)).mono ?_; rintro e w2 ⟨rfl, rfl⟩; simp only [if_true, endO]))
              exact leaves_mark (by simp) (Hend.out _ (Only.of_below ha)).1 (leaves_panic ⟨by rw [Hnone.out]; rfl, (Hend.out _ (Only.of_below ha)).2⟩)
            · have hhd : headS h = some (kd, sb) := by rw [hhead]; simp [htk, hts, hu]
              have hon := hone _ _ hhd
              have Hon := Lib.hid hon; clear hon hone hone0 hhead hhd htk hts
              have hk' : (kd != [42]) = false := by rw [bne, hk]; rfl
              gi_wp2_with (first
                | (gi_at_call 32; refine (callsIn_wide.2 (lower_any _ hz1 _)).mono ?_; rintro e w1 ⟨rfl, hb⟩; replace ha := acc ha hb; clear hb; have hg := HG.out _ ha)
                | (gi_at_call 31; refine (callsIn_wide.2 (cut1_any _ 47 hz2 _)).mono ?_; rintro e w1 ⟨rfl, hb⟩; rw [Hcut.out]; replace ha := acc ha hb; clear hb; have hg := HG.out _ ha)
                | (gi_at_call 33; refine (callsIn_wide.2 (token_any _ (by first | exact hz3 | exact hz4) _)).mono ?_; rintro e w1 ⟨rfl, hb⟩; (first | rw [Htk.out] | rw [Hts.out]); replace ha := acc ha hb; clear hb; have hg := HG.out _ ha; have hga := fun o => HG.out _ (ha.alloc ha.size o))
                | (gi_at_call 21; refine (callsIn_wide.2 (must_any _ _ _)).mono ?_; rintro e w2 ⟨rfl, rfl⟩; simp only [if_true, endO]))
              all_goals
                have hga2 := ha.alloc ha.size (.cells #[.string ⟨kd.toArray⟩, .string ⟨sb.toArray⟩, .int .i64 0, .int .i64 1000, .bool false] 72)
                have hsz3 : (w1.alloc (.cells #[.string ⟨kd.toArray⟩, .string ⟨sb.toArray⟩, .int .i64 0, .int .i64 1000, .bool false] 72)).heap.size = w1.heap.size + 1 := by simp
                have hwl := ha.size
                refine (callsIn_wide.2 (takes_any w1.heap.size g _ _ ⟨kd.toArray⟩ ⟨sb.toArray⟩ ⟨0, 1000, false⟩ ps _ (by have := hgb.2; omega) (heap_new _ _) ?_ Hps.out (by simp at hlen; dsimp only; omega) (by have := hgb.2; rw [World.size_alloc]; omega))).mono ?_
                · intro j hj
                  first
                    | (exfalso; omega)
                    | (have h5 := Hcell.out (1 + j) (by simp; omega)
                       refine (hga2.cell (p := ⟨g, 1 + j, none⟩) hgb.2).trans (h5.trans ?_)
                       simp [Nat.add_comm 1 j])
                rintro e w3 ⟨rfl, hst, ho3⟩
                have hX : Only (fun k => W.heap.size ≤ k) W w3 := ((Only.of_below hga2).next ho3 (fun i hi e => by omega))
                have hX2 : Only (fun k => k = w.heap.size ∨ W.heap.size ≤ k) W w3 := hX.mono (fun _ _ x => .inr x)
                cases htk : takesS ⟨0, 1000, false⟩ ps with
                | none =>
                  simp only [Option.map_none, endO]
                  exact leaves_mark (by simp) (Hend.out _ hX2).1 (leaves_panic ⟨by rw [Hon.out, htk]; rfl, (Hend.out _ hX2).2⟩)
                | some st' =>
                  have hr := hst _ htk
                  have hb3 := hX.heap H1.out (by omega)
                  have hlb := lt_heap hr
                  have c0 := Lib.cell_of_heap hr 0
                  have c1 := Lib.cell_of_heap hr 1
                  have c2 := Lib.cell_of_heap hr 2
                  have c3 := Lib.cell_of_heap hr 3
                  simp at c0 c1 c2 c3
                  have f0 := Lib.frozen_of_heap hb3 0
                  have f1 := Lib.frozen_of_heap hb3 1
                  have f2 := Lib.frozen_of_heap hb3 2
                  have f3 := Lib.frozen_of_heap hb3 3
                  have e0 := Lib.cell_of_heap hb3 0
                  have e1 := Lib.cell_of_heap hb3 1
                  have e2 := Lib.cell_of_heap hb3 2
                  have e3 := Lib.cell_of_heap hb3 3
                  simp at e0 e1 e2 e3
                  have Htakes := Lib.hid htk; have HX2 := Lib.hid hX2; have Hb3 := Lib.hid hb3; clear hr htk hX hX2 ho3 hst hb3 hg hga hga2
                  simp only [Option.map_some, endO]
                  gi_wp2
                  have b4 := heap_setCell (heap_setCell (heap_setCell (heap_setCell Hb3.out 0 (.string ⟨kd.toArray⟩)) 1 (.string ⟨sb.toArray⟩)) 2 (.int .i64 st'.params)) 3 (.int .i64 st'.quality)
                  have o4 := (((HX2.out.setCell ⟨w.heap.size, 0, none⟩ (fun _ => .inl rfl) (.string ⟨kd.toArray⟩)).setCell ⟨w.heap.size, 1, none⟩ (fun _ => .inl rfl) (.string ⟨sb.toArray⟩)).setCell ⟨w.heap.size, 2, none⟩ (fun _ => .inl rfl) (.int .i64 st'.params)).setCell ⟨w.heap.size, 3, none⟩ (fun _ => .inl rfl) (.int .i64 st'.quality)
                  exact leaves_mark (by simp) (Hend.out _ o4).1 (leaves_ret (results_cell_row rfl _ _ w.heap.size 33 #[.string ⟨kd.toArray⟩, .string ⟨sb.toArray⟩, .int .i64 st'.params, .int .i64 st'.quality] (0, 0) _ rfl ((World.putObj_heap_other (by omega)).trans (b4.trans (by simp))) Tryd.underlying33 rfl infoRange) ⟨by rw [Hon.out, Htakes.out]; rfl, (Hend.out _ o4).2⟩)
  case stop => exact fun _ _ _ _ h => h.elim
  case panic => exact fun _ _ _ _ h => h.elim
end Go.Proofs.YtnlkmiieebahoaaDoor
