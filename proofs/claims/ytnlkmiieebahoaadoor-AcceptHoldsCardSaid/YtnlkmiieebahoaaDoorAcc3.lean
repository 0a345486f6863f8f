/- Contracts of package accept: thousandths (conditions: none). -/
import Derived.Test.YtnlkmiieebahoaaDoorAcc2
set_option linter.unusedVariables false
set_option linter.unusedSimpArgs false
namespace Go.Proofs.YtnlkmiieebahoaaDoor
open Go.RowKit

def digB (c : UInt8) : Bool := 48 ≤ c && c ≤ 57
/-- the number of digits. -/
def digN (l : List UInt8) : Nat := l.foldl (fun n c => 10 * n + (c.toNat - 48)) 0
/-- a quality's thousandths. -/
def thouS (l : List UInt8) : Option Nat :=
  if ((cut1 46 l).1 = [48] ∨ (cut1 46 l).1 = [49]) ∧ (cut1 46 l).2.1.length ≤ 3 ∧ ((cut1 46 l).2.2 = true ∨ (cut1 46 l).2.1 = []) then
    if ((cut1 46 l).2.1 ++ [48, 48, 48].drop (cut1 46 l).2.1.length).all digB then
      if (cut1 46 l).1 = [49] then (if digN ((cut1 46 l).2.1 ++ [48, 48, 48].drop (cut1 46 l).2.1.length) = 0 then some 1000 else none)
      else some (digN ((cut1 46 l).2.1 ++ [48, 48, 48].drop (cut1 46 l).2.1.length))
    else none
  else none


theorem digN_snoc (l : List UInt8) (c : UInt8) : digN (l ++ [c]) = 10 * digN l + (c.toNat - 48) := by simp [digN]
theorem digN_lt (l : List UInt8) (h : l.all digB = true) : digN l < 10 ^ l.length := by
  have : ∀ (n : Nat) (l : List UInt8), l.length = n → l.all digB = true → digN l < 10 ^ l.length := by
    intro n
    induction n with
    | zero => intro l hl; rw [List.eq_nil_of_length_eq_zero hl]; simp [digN]
    | succ n ih =>
      intro l hl ha
      obtain ⟨l', c, rfl⟩ : ∃ l' c, l = l' ++ [c] := ⟨l.dropLast, l.getLast (by intro e; simp [e] at hl), (List.dropLast_concat_getLast _).symm⟩
      simp at hl ha
      have h1 := ih l' hl (by simpa using ha.1)
      rw [digN_snoc]
      have h2 := ha.2
      simp [digB, UInt8.le_iff_toNat_le] at h2
      simp [Nat.pow_succ]
      omega
  exact this _ l rfl h
theorem decode_high (s : ByteArray) (i : Nat) (h : i < s.size) (hb : 128 ≤ (s[i]'h).toNat) : 128 ≤ (Utf8.decode s i).1 ∧ (Utf8.decode s i).1 ≤ 1114111 := by
  have e : s.get! (i + 0) = s[i]'h := by
    show s.get! i = _
    simp [ByteArray.get!, getElem!_pos, h]
    rfl
  have hv : ∀ c : Nat, Utf8.valid (c : Int) = true → c ≤ 1114111 := by
    intro c
    simp [Utf8.valid]
    omega
  have h4 := (s[i]'h).toNat_lt
  unfold Utf8.decode
  simp only [e]
  rw [if_neg (by omega)]
  split
  · split
    · rename_i h1 h2; simp at h1; omega
    · simp [Utf8.runeError]
  · split
    · split
      · rename_i h1 h2; rw [Bool.and_eq_true] at h2; have h5 := hv _ h2.2; have h6 := of_decide_eq_true h2.1; exact ⟨by omega, h5⟩
      · simp [Utf8.runeError]
    · split
      · split
        · rename_i h1 h2; rw [Bool.and_eq_true] at h2; have h5 := hv _ h2.2; have h6 := of_decide_eq_true h2.1; exact ⟨by omega, h5⟩
        · simp [Utf8.runeError]
      · simp [Utf8.runeError]
theorem run_next_any {P : Program} (w : World) (s : ByteArray) (pos : Nat) (ty : TypeId) (h : pos < s.size) :
    (Instr.next (.pointer (some ⟨w.heap.size, 0, none⟩)) true ty).run P (w.iter s pos) =
      .ok (.tuple #[.bool true, .int .i64 pos, .int .i32 ((Utf8.decode s pos).1 : Nat)]) (w.iter s (pos + (Utf8.decode s pos).2)) := by
  simp only [Instr.next, getObj, setObj, Sem.run_bind, Sem.run, World.iter_heap, Result.andThen, h, if_true, World.iter_set]
  simp [goInt, Sem.run, World.iter_heap, World.iter_set]
theorem decode_low (s : ByteArray) (i : Nat) (h : i < s.size) (hb : (s[i]'h).toNat < 128) : (Utf8.decode s i).1 = (s[i]'h).toNat := by rw [decode_ascii s i h hb]
theorem decode_le (s : ByteArray) (i : Nat) (h : i < s.size) : (((Utf8.decode s i).1 : Nat) : Int) ≤ 1114111 := by
  by_cases hb : (s[i]'h).toNat < 128
  · rw [decode_low s i h hb]; omega
  · have := decode_high s i h (by omega); omega
theorem nodig (s : ByteArray) (i : Nat) (h : i < s.size) (hd : digB (s[i]'h) = false) : (((Utf8.decode s i).1 : Nat) : Int) < 48 ∨ (57 : Int) < ((Utf8.decode s i).1 : Nat) := by
  by_cases hb : (s[i]'h).toNat < 128
  · rw [decode_low s i h hb]
    simp [digB, UInt8.le_iff_toNat_le] at hd
    omega
  · have := decode_high s i h (by omega); omega
theorem stop_all (s : ByteArray) (k : Nat) (h : k < s.size) (hd : digB (s[k]'h) = false) : s.data.toList.all digB = false := by
  rw [List.all_eq_false]; exact ⟨s[k], List.getElem_mem (by simpa using h), by simp [hd]⟩
theorem iter_cell (w : World) (s : ByteArray) (p : Nat) : Below w.heap.size w (w.iter s p) := (Below.refl _ _).alloc (Nat.le_refl _) _
theorem take_all {s : ByteArray} {p : UInt8 → Bool} (k : Nat) (hk : k < s.size) (h1 : (s.data.toList.take k).all p = true) (h2 : p (s[k]'hk) = true) : (s.data.toList.take (k + 1)).all p = true := by
  rw [all_take_succ s k hk, h1, h2]; rfl
theorem digN_take (s : ByteArray) (k : Nat) (hk : k < s.size) : digN (s.data.toList.take (k + 1)) = 10 * digN (s.data.toList.take k) + ((s[k]'hk).toNat - 48) := by
  rw [List.take_succ_eq_append_getElem (by simpa using hk), digN_snoc]; rfl

set_option maxRecDepth 100000 in
set_option maxHeartbeats 800000 in
theorem thou_good (s : ByteArray) (hs : s.size ≤ maxLen) (wh pt : List UInt8) (dot : Bool) (hcut : cut1 46 s.data.toList = (wh, pt, dot)) (one : Bool) (h48 : (wh == [48]) = !one) (h49 : (wh == [49]) = one)
    (hl : pt.length ≤ 3) (hd : dot = true ∨ (dot = false ∧ pt.isEmpty = true)) (w : World) :
    Calls Tryd.prog 46 #[.string s] w fun e w' => e = endO 220 ((thouS s.data.toList).map fun n => .int .i64 (n : Nat)) ∧ Below w.heap.size w w' := by
  have hth : thouS s.data.toList = (if (pt ++ [48, 48, 48].drop pt.length).all digB then
      if one = true then (if digN (pt ++ [48, 48, 48].drop pt.length) = 0 then some 1000 else none) else some (digN (pt ++ [48, 48, 48].drop pt.length)) else none) := by
    rw [thouS, hcut]
    have a1 : (wh = [48] ∨ wh = [49]) := by cases one <;> simp_all
    have a2 : (dot = true ∨ pt = []) := by rcases hd with h | ⟨_, h⟩ <;> simp_all
    rw [if_pos ⟨a1, hl, a2⟩]
    cases one <;> simp_all
  obtain ⟨X, hX⟩ : ∃ X : ByteArray, (⟨pt.toArray⟩ : ByteArray) ++ (⟨#[48, 48, 48]⟩ : ByteArray).extract pt.length 3 = X := ⟨_, rfl⟩
  have hXl : X.data.toList = pt ++ [48, 48, 48].drop pt.length := by
    rw [← hX]
    have hp : pt.length = 0 ∨ pt.length = 1 ∨ pt.length = 2 ∨ pt.length = 3 := by omega
    rcases hp with e | e | e | e <;> rw [e] <;> simp <;> decide
  have hXs : X.size = 3 := by
    have := congrArg List.length hXl
    simp at this; omega
  rw [← hXl] at hth
  have Hth := Lib.hid hth; have HXl := Lib.hid hXl; have HXs := Lib.hid hXs; have Hcut := Lib.hid hcut; clear hcut hth hXl hXs
  have hl' : (pt.length : Int) ≤ 3 := by omega
  have HX := Lib.hid hX; clear hX
  cases one
  all_goals
    simp only [Bool.not_true, Bool.not_false] at h48
    rcases hd with rfl | ⟨rfl, he⟩
    all_goals
      go_enter Tryd.func46, Tryd.ntmps46
      go_wp2_with (first
        | (go_at_call 31; refine (cut1_any s 46 hs _).mono ?_; rintro e w1 ⟨rfl, hb1⟩; rw [Hcut.out])
        | (go_at_call 21; refine (must_any _ _ _).mono ?_; rintro e w2 ⟨rfl, rfl⟩; simp only [if_true, endO]))
      rw [HX.out]
      go_loopw [2] (fun n wr => ∃ k : Nat, k ≤ 3 ∧ wr = w1.iter X k ∧ n = .int .i64 (digN (X.data.toList.take k) : Nat) ∧ Hid ((X.data.toList.take k).all digB = true) ∧ digN (X.data.toList.take k) < 1000)
        (fun _ wr => 3 - wr.iterPos w1.heap.size)
      case atStart => exact ⟨0, by omega, rfl, rfl, rfl, by simp [digN]⟩
      case round =>
        obtain ⟨k, hk, rfl, rfl, hall, hn⟩ := hrel
        have hXs := HXs.out
        have hn' : ((digN (X.data.toList.take k) : Nat) : Int) < 1000 := by omega
        by_cases hlt : k < X.size
        · cases hd : digB (X[k]'hlt)
          · have hr : (((Utf8.decode X k).1 : Nat) : Int) < 48 ∨ (57 : Int) < ((Utf8.decode X k).1 : Nat) := nodig X k hlt hd
            have hr0 : (((Utf8.decode X k).1 : Nat) : Int) ≤ 1114111 := decode_le X k hlt
            have Hno := Lib.hid (stop_all X k hlt hd); clear hd
            have hnx := fun ty => run_next_any (P := Tryd.prog) w1 X k ty hlt
            have hq1 : (57 : Int) < ((Utf8.decode X k).1 : Nat) → (48 : Int) ≤ ((Utf8.decode X k).1 : Nat) ∧ decide ((((Utf8.decode X k).1 : Nat) : Int) ≤ 57) = false := fun h => ⟨by omega, by simp; omega⟩
            rcases hr with hr | hr
            · clear hq1
              go_wp2_with (go_at_call 21; refine (must_any _ _ _).mono ?_; rintro e w2 ⟨rfl, rfl⟩; simp only [if_true, endO])
              refine ⟨rfl, ?_, hb1.trans ((iter_cell _ _ _).mono hb1.size)⟩
              rw [Hth.out, Hno.out]; rfl
            · obtain ⟨hq2, hq3⟩ := hq1 hr
              go_wp2_with (go_at_call 21; refine (must_any _ _ _).mono ?_; rintro e w2 ⟨rfl, rfl⟩; simp only [if_true, endO])
              refine ⟨rfl, ?_, hb1.trans ((iter_cell _ _ _).mono hb1.size)⟩
              rw [Hth.out, Hno.out]; rfl
          · have hdb : 48 ≤ (X[k]'hlt).toNat ∧ (X[k]'hlt).toNat ≤ 57 := by simpa [digB, UInt8.le_iff_toNat_le] using hd
            have hr1 : (48 : Int) ≤ ((X[k]'hlt).toNat : Nat) := by omega
            have hr2 : (((X[k]'hlt).toNat : Nat) : Int) ≤ 57 := by omega
            have hlow : (X[k]'hlt).toNat < 128 := by omega
            have hnx := fun ty => run_next_ascii (P := Tryd.prog) w1 X k ty hlt hlow
            have Hd := Lib.hid hd; clear hd
            go_wp2_with (go_at_call 21; refine (must_any _ _ _).mono ?_; rintro e w2 ⟨rfl, rfl⟩; simp only [if_true, endO])
            go_roundw
            case rel =>
              have h5 := take_all k hlt hall.out Hd.out
              have h6 := digN_lt _ h5
              have h7 : (X.data.toList.take (k + 1)).length ≤ 3 := by simp; omega
              have h8 : 10 ^ (X.data.toList.take (k + 1)).length ≤ 10 ^ 3 := Nat.pow_le_pow_right (by omega) h7
              exact ⟨k + 1, by omega, rfl, by rw [digN_take X k hlt]; congr 1; omega, h5, by omega⟩
            case measure => rw [iterPos_of (World.iter_heap w1 X _), iterPos_of (World.iter_heap w1 X _)]; omega
        · have hnx := fun ty => run_next_end (P := Tryd.prog) w1 X k ty hlt
          have hke : X.data.toList.take k = X.data.toList := List.take_of_length_le (by simp; omega)
          have Hke := Lib.hid hke; clear hke
          by_cases hz : digN (X.data.toList.take k) = 0
          · have hz1 : (((digN (X.data.toList.take k) : Nat) : Int) == 0) = true := by simp [hz]
            have Hz := Lib.hid hz; clear hz
            go_wp2_with (go_at_call 21; refine (must_any _ _ _).mono ?_; rintro e w2 ⟨rfl, rfl⟩; simp only [if_true, endO])
            go_ret
            have h1 := hall.out; have h2 := Hz.out; rw [Hke.out] at h1 h2
            refine ⟨?_, hb1.trans ((iter_cell _ _ _).mono hb1.size)⟩
            rw [Hth.out, Hke.out]; simp [h1, h2, endO]
          · have hz1 : (((digN (X.data.toList.take k) : Nat) : Int) == 0) = false := by simp [hz]
            have Hz := Lib.hid hz; clear hz
            go_wp2_with (go_at_call 21; refine (must_any _ _ _).mono ?_; rintro e w2 ⟨rfl, rfl⟩; simp only [if_true, endO])
            have h1 := hall.out; have h2 := Hz.out; rw [Hke.out] at h1 h2
            first
              | (go_ret
                 refine ⟨?_, hb1.trans ((iter_cell _ _ _).mono hb1.size)⟩
                 rw [Hth.out, Hke.out]; simp [h1, endO])
              | (refine ⟨rfl, ?_, hb1.trans ((iter_cell _ _ _).mono hb1.size)⟩
                 rw [Hth.out]; simp [h1, h2, endO])

set_option maxRecDepth 100000 in
set_option maxHeartbeats 800000 in
theorem thou_bad (s : ByteArray) (hs : s.size ≤ maxLen) (wh pt : List UInt8) (dot : Bool) (hcut : cut1 46 s.data.toList = (wh, pt, dot))
    (hbad : ¬ ((wh = [48] ∨ wh = [49]) ∧ pt.length ≤ 3 ∧ (dot = true ∨ pt = []))) (w : World) :
    Calls Tryd.prog 46 #[.string s] w fun e w' => e = endO 220 ((thouS s.data.toList).map fun n => .int .i64 (n : Nat)) ∧ Below w.heap.size w w' := by
  have hth : thouS s.data.toList = none := by rw [thouS, hcut, if_neg hbad]
  have Hth := Lib.hid hth; have Hcut := Lib.hid hcut; clear hcut hth
  have Hb := Lib.hid hbad; clear hbad
  go_enter Tryd.func46, Tryd.ntmps46
  go_wp2_with (go_at_call 31; refine (cut1_any s 46 hs _).mono ?_; rintro e w1 ⟨rfl, hb1⟩; rw [Hcut.out])
  · exact absurd ⟨Or.inl (by assumption), by omega, Or.inl (by assumption)⟩ Hb.out
  · have hp : pt.isEmpty = false := by
      cases hq : pt.isEmpty
      · rfl
      · exact absurd ⟨Or.inl (by assumption), by omega, Or.inr (by simpa using hq)⟩ Hb.out
    rw [hp]
    refine (must_any _ _ _).mono ?_; rintro e w2 ⟨rfl, rfl⟩
    exact ⟨rfl, by rw [Hth.out]; rfl, hb1⟩
  · refine (must_any _ _ _).mono ?_; rintro e w2 ⟨rfl, rfl⟩
    exact ⟨rfl, by rw [Hth.out]; rfl, hb1⟩
  · exact absurd ⟨Or.inr (by assumption), by omega, Or.inl (by assumption)⟩ Hb.out
  · have hp : pt.isEmpty = false := by
      cases hq : pt.isEmpty
      · rfl
      · exact absurd ⟨Or.inr (by assumption), by omega, Or.inr (by simpa using hq)⟩ Hb.out
    rw [hp]
    refine (must_any _ _ _).mono ?_; rintro e w2 ⟨rfl, rfl⟩
    exact ⟨rfl, by rw [Hth.out]; rfl, hb1⟩
  · refine (must_any _ _ _).mono ?_; rintro e w2 ⟨rfl, rfl⟩
    exact ⟨rfl, by rw [Hth.out]; rfl, hb1⟩
  · refine (must_any _ _ _).mono ?_; rintro e w2 ⟨rfl, rfl⟩
    exact ⟨rfl, by rw [Hth.out]; rfl, hb1⟩

theorem thou_any (s : ByteArray) (hs : s.size ≤ maxLen) (w : World) :
    Calls Tryd.prog 46 #[.string s] w fun e w' => e = endO 220 ((thouS s.data.toList).map fun n => .int .i64 (n : Nat)) ∧ Below w.heap.size w w' := by
  obtain ⟨wh, pt, dot, hcut⟩ : ∃ wh pt dot, cut1 46 s.data.toList = (wh, pt, dot) := ⟨_, _, _, rfl⟩
  by_cases h : (wh = [48] ∨ wh = [49]) ∧ pt.length ≤ 3 ∧ (dot = true ∨ pt = [])
  · obtain ⟨h1, h2, h3⟩ := h
    have hd : dot = true ∨ (dot = false ∧ pt.isEmpty = true) := by
      cases dot
      · exact .inr ⟨rfl, by rcases h3 with h | h; · cases h
                            · simp [h]⟩
      · exact .inl rfl
    rcases h1 with rfl | rfl
    · exact thou_good s hs [48] pt dot hcut false rfl rfl h2 hd w
    · exact thou_good s hs [49] pt dot hcut true rfl rfl h2 hd w
  · exact thou_bad s hs wh pt dot hcut h w
end Go.Proofs.YtnlkmiieebahoaaDoor
