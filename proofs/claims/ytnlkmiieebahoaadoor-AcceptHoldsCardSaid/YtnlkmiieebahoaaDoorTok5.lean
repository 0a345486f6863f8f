/- Contracts of package token: the iterators (conditions: none). -/
import Derived.Test.YtnlkmiieebahoaaDoorTok4
import Derived.Test.YtnlkmiieebahoaaDoorRange
set_option linter.unusedVariables false
set_option linter.unusedSimpArgs false
namespace Go.Proofs.YtnlkmiieebahoaaDoor
open Go.RowKit

attribute [local go_sem] Oper.semAt_some

/-- what stands between bytes. -/
def eachF (c : UInt8) : Nat → List UInt8 → List (List UInt8)
  | 0, _ => []
  | n + 1, l => (cutS c l).1 :: (if (cutS c l).2.2 then eachF c n (cutS c l).2.1 else [])
def eachS (c : UInt8) (l : List UInt8) : List (List UInt8) := eachF c (l.length + 1) l

theorem dropWhile_le {p : UInt8 → Bool} : ∀ (l : List UInt8), (l.dropWhile p).length ≤ l.length := by
  intro l
  induction l with
  | nil => simp
  | cons a l ih =>
    rw [List.dropWhile_cons]
    split
    · simp; omega
    · simp
theorem trimS_le (l : List UInt8) : (trimS l).length ≤ l.length := by
  unfold trimS Lib.trimS Lib.trimLeftS Lib.trimRightS
  have h1 := dropWhile_le (p := fun x => [32, 9].contains x) (l.reverse.dropWhile (fun x => [32, 9].contains x)).reverse
  have h2 := dropWhile_le (p := fun x => [32, 9].contains x) l.reverse
  simp at h1 h2 ⊢
  omega
theorem cutAt_lt (c : UInt8) : ∀ (l : List UInt8) (q h : Bool) (i : Nat), cutAt c q h l = some i → i < l.length := by
  intro l
  induction l with
  | nil => intro q h i; simp [cutAt]
  | cons a l ih =>
    intro q h i
    rw [cutAt]
    split
    · intro e; cases e; simp
    · intro e
      simp only [Option.map_eq_some_iff] at e
      obtain ⟨j, hj, rfl⟩ := e
      have := ih _ _ _ hj
      simp; omega
theorem cutS_lt (c : UInt8) (l : List UInt8) (h : (cutS c l).2.2 = true) : (cutS c l).2.1.length < l.length := by
  unfold cutS at h ⊢
  cases e : cutAt c false false l with
  | none => simp [e] at h
  | some i =>
    have := cutAt_lt c l _ _ _ e
    have h2 := trimS_le (l.drop (i + 1))
    simp at h2 ⊢
    omega
theorem cutS_le1 (c : UInt8) (l : List UInt8) : (cutS c l).1.length ≤ l.length := by
  unfold cutS
  cases e : cutAt c false false l with
  | none => exact trimS_le l
  | some i => have h2 := trimS_le (l.take i); simp at h2 ⊢; omega
theorem eachF_more (c : UInt8) : ∀ (n m : Nat) (l : List UInt8), l.length < n → l.length < m → eachF c n l = eachF c m l := by
  intro n
  induction n with
  | zero => intro m l h; omega
  | succ n ih =>
    intro m l h1 h2
    obtain ⟨m, rfl⟩ : ∃ k, m = k + 1 := ⟨m - 1, by omega⟩
    rw [eachF, eachF]
    split
    · rename_i hc
      have := cutS_lt c l hc
      rw [ih m _ (by omega) (by omega)]
    · rfl
theorem eachS_more (c : UInt8) (l : List UInt8) (h : (cutS c l).2.2 = true) : eachS c l = (cutS c l).1 :: eachS c (cutS c l).2.1 := by
  unfold eachS
  rw [eachF, if_pos h, eachF_more c l.length ((cutS c l).2.1.length + 1) _ (cutS_lt c l h) (by omega)]
theorem eachS_last (c : UInt8) (l : List UInt8) (h : (cutS c l).2.2 = false) : eachS c l = [(cutS c l).1] := by
  unfold eachS
  rw [eachF, if_neg (by simp [h])]

/-- what yield is handed: the number, the text. -/
def encI (k : Nat) (x : List UInt8) : Array Value := #[.int .i64 k, .string ⟨x.toArray⟩]

set_option maxRecDepth 100000 in
set_option maxHeartbeats 1000000 in
theorem every1_gives (B Bs Bb : Nat) (s : ByteArray) (c : UInt8) (hs : s.size ≤ 140737488351232) (hne : Bs ≠ Bb) :
    Gives Tryd.prog B (fun b => b = Bs ∨ b = Bb) 42 #[.pointer (some ⟨Bs, 0, none⟩), .pointer (some ⟨Bb, 0, none⟩)] encI (eachS c s.data.toList)
      (fun W => W.heap[Bs]? = some (.cells #[.string s] 9) ∧ W.heap[Bb]? = some (.cells #[.int .u8 c.toNat] 5) ∧ B ≤ Bs ∧ B ≤ Bb) := by
  intro l J Jx Jp S W hR ⟨hps, hpb, hBs, hBb⟩ hB hS h0
  have hnot : ∀ (x : Bool) (w : World), (Op.unary .not (.bool x)).run Tryd.prog w = .ok (.bool (!x)) w := fun _ _ => rfl
  have hwf : ∀ g, Fence.wide.fn g := fun _ => trivial
  have hwd : Fence.wide.depth = none := rfl
  refine (callsIn_wide (n := 0)).1 (callsIn_of_wp Tryd.func42 rfl trivial ?_ rfl)
  simp only [Tryd.ntmps42, List.size_toArray, List.length_cons, List.length_nil, Nat.reduceAdd, Nat.reduceSub, Array.replicate_succ, Array.replicate_zero, List.push_toArray, List.append_toArray, List.nil_append, List.cons_append]
  have HR := Lib.hid hR; have HS := Lib.hid hS; have H0 := Lib.hid h0; clear hR hS h0
  have Hps := Lib.hid hps; have Hpb := Lib.hid hpb; clear hps hpb
  gi_wp2
  gi_loopw [4] (fun i wr => ∃ (k : Nat) (T : Nat → Prop) (t : ByteArray), i = .int .i64 k ∧ k + t.size ≤ s.size ∧ Hid ((eachS c s.data.toList).drop k = eachS c t.data.toList ∧ J T k wr ∧ MovesO (fun b => b = Bs ∨ b = Bb) S W T wr ∧ Owns B (fun b => b = Bs ∨ b = Bb) T wr ∧
        wr.heap[Bs]? = some (.cells #[.string t] 9) ∧ wr.heap[Bb]? = some (.cells #[.int .u8 c.toNat] 5)))
    (fun i _ => s.size - (intOf i).toNat)
  case atStart => exact ⟨0, S, s, rfl, by omega, by simp, H0.out, MovesO.refl (fun b hb => (HS.out b hb).2.1), HS.out, Hps.out, Hpb.out⟩
  case round =>
    obtain ⟨k, T, t, rfl, hk, hrel⟩ := hrel
    have cs : wr.cell? ⟨Bs, 0, none⟩ = some (.string t) := Lib.cell_of_heap hrel.out.2.2.2.2.1 0
    have cb : wr.cell? ⟨Bb, 0, none⟩ = some (.int .u8 c.toNat) := Lib.cell_of_heap hrel.out.2.2.2.2.2 0
    have ht : t.size ≤ maxLen := by unfold maxLen; omega
    -- what is handed over, and yield's answer, in whatever world the cut leaves
    have hx : ∀ w1, Below wr.heap.size wr w1 → Hid (J T k w1 ∧ Owns B (fun b => b = Bs ∨ b = Bb) T w1 ∧ MovesO (fun b => b = Bs ∨ b = Bb) S W T w1 ∧
        w1.heap[Bs]? = some (.cells #[.string t] 9) ∧ w1.heap[Bb]? = some (.cells #[.int .u8 c.toNat] 5) ∧ B ≤ w1.heap.size) := fun w1 hb1 => by
      obtain ⟨h1, h2, h3, h4, h5, h6⟩ := hrel.out
      have hst : ∀ b, T b → b < wr.heap.size := fun b hb => (h4 b hb).2.1
      have ho : Only (fun _ => False) wr w1 := Only.of_below hb1
      exact ⟨HR.out.stJ T k wr w1 h2 (Keep.of_only ho (Nat.le_trans hB h3.only.size) hst (fun _ h => h.elim)), fun b hb => ⟨(h4 b hb).1, Nat.lt_of_lt_of_le (hst b hb) ho.size, (h4 b hb).2.2⟩,
        h3.trans (MovesO.of_only ho (fun _ _ h => h.elim) hst), ho.heap h5 (fun h => h), ho.heap h6 (fun h => h), Nat.le_trans hB (Nat.le_trans h3.only.size ho.size)⟩
    have hn : (eachS c s.data.toList)[k]? = some (cutS c t.data.toList).1 := by
      have h1 := hrel.out.1
      cases hf : (cutS c t.data.toList).2.2
      · rw [eachS_last c _ hf] at h1
        rw [← List.head?_drop, h1]; rfl
      · rw [eachS_more c _ hf] at h1
        rw [← List.head?_drop, h1]; rfl
    have Hn := Lib.hid hn; clear hn
    cases hf : (cutS c t.data.toList).2.2
    · have hlen : k + 1 = (eachS c s.data.toList).length := by
        have h1 := congrArg List.length hrel.out.1
        rw [eachS_last c _ hf] at h1; simp at h1; omega
      have Hlen := Lib.hid hlen; clear hlen
      have Hf := Lib.hid hf; clear hf
      gi_wp2_with (gi_at_call 43; refine (callsIn_wide.2 (cut_any t c ht _)).mono ?_; rintro e w1 ⟨rfl, hb1⟩; rw [Hf.out])
      have Hx := hx w1 hb1
      obtain ⟨fn, tmps, assign, body, hy, hRd⟩ := HR.out.round T k _ w1 Hn.out Hx.out.2.2.2.2.2 Hx.out.2.1 Hx.out.1 0
      unfold encI at hy
      clear hx
      rw [hy, Oper.uponIn_round]
      refine ⟨fun h => by simp [Fence.wide] at h, ?_⟩
      refine hRd.mono ?_
      rintro e W3 (⟨rfl, T', hJ3, hM⟩ | ⟨rfl, T', hJ3, hM⟩ | ⟨ch, rfl, T', hJ3, hM⟩)
      · gi_wp2
        refine bodyPost_ret (results_none rfl _ _ _) rfl (.inl ⟨⟨_, rfl⟩, T', Hx.out.2.2.1.trans hM.o, .inl (by rw [← Hlen.out]; exact hJ3)⟩)
      · gi_wp2
        refine bodyPost_ret (results_none rfl _ _ _) rfl (.inl ⟨⟨_, rfl⟩, T', Hx.out.2.2.1.trans hM.o, .inr hJ3⟩)
      · exact And.intro rfl (Or.inr ⟨ch, rfl, T', Hx.out.2.2.1.trans hM.o, hJ3⟩)
    · have hlt := cutS_lt c _ hf
      have hlt' : (cutS c t.data.toList).2.1.length < t.size := by simpa using hlt
      have hdr : (eachS c s.data.toList).drop (k + 1) = eachS c (cutS c t.data.toList).2.1 := by
        have h1 := hrel.out.1
        rw [eachS_more c _ hf] at h1
        rw [← List.tail_drop, h1]; rfl
      have Hdr := Lib.hid hdr; clear hdr hlt
      have Hf := Lib.hid hf; clear hf
      gi_wp2_with (gi_at_call 43; refine (callsIn_wide.2 (cut_any t c ht _)).mono ?_; rintro e w1 ⟨rfl, hb1⟩; rw [Hf.out])
      have Hx := hx w1 hb1
      obtain ⟨fn, tmps, assign, body, hy, hRd⟩ := HR.out.round T k _ w1 Hn.out Hx.out.2.2.2.2.2 Hx.out.2.1 Hx.out.1 0
      unfold encI at hy
      clear hx
      rw [hy, Oper.uponIn_round]
      refine ⟨fun h => by simp [Fence.wide] at h, ?_⟩
      refine hRd.mono ?_
      rintro e W3 (⟨rfl, T', hJ3, hM⟩ | ⟨rfl, T', hJ3, hM⟩ | ⟨ch, rfl, T', hJ3, hM⟩)
      · have hn1 : ¬ T Bs := fun h => (Hx.out.2.1 _ h).2.2 (.inl rfl)
        have hn2 : ¬ T Bb := fun h => (Hx.out.2.1 _ h).2.2 (.inr rfl)
        have g1 := hM.only.heap Hx.out.2.2.2.1 hn1
        have g2 := hM.only.heap Hx.out.2.2.2.2.1 hn2
        have c3 : W3.cell? ⟨Bs, 0, none⟩ = some (.string t) := Lib.cell_of_heap g1 0
        have f3 : W3.frozen? ⟨Bs, 0, none⟩ = false := Lib.frozen_of_heap g1 0
        have G1 := Lib.hid g1; have G2 := Lib.hid g2; clear g1 g2
        gi_wp2
        go_roundw
        case rel =>
          have hB3 : B ≤ W3.heap.size := Nat.le_trans Hx.out.2.2.2.2.2 hM.only.size
          have hO : ∀ b, (b = Bs ∨ b = Bb) → b < w1.heap.size := fun b hb => by
            rcases hb with rfl | rfl
            · exact lt_heap Hx.out.2.2.2.1
            · exact lt_heap Hx.out.2.2.2.2.1
          have hT3 := hM.owns Hx.out.2.1 Hx.out.2.2.2.2.2 hO
          have ho : Only (fun b => b = Bs) W3 (W3.setCell ⟨Bs, 0, none⟩ (.string ⟨(cutS c t.data.toList).2.1.toArray⟩)) := only1 _ _ _ _
          refine ⟨k + 1, T', ⟨(cutS c t.data.toList).2.1.toArray⟩, by go_num, by rw [size_str]; omega, Hdr.out, ?_, ?_, ?_, ?_, ?_⟩
          · exact HR.out.stJ T' (k + 1) _ _ hJ3 (Keep.of_only ho hB3 (fun b hb => (hT3 b hb).2.1) (fun b hb => by subst hb; exact ⟨by omega, fun h => (hT3 _ h).2.2 (.inl rfl)⟩))
          · exact (Hx.out.2.2.1.trans hM.o).trans (MovesO.of_only ho (fun b _ h => .inl h) (fun b hb => (hT3 b hb).2.1))
          · exact fun b hb => ⟨(hT3 b hb).1, Nat.lt_of_lt_of_le (hT3 b hb).2.1 ho.size, (hT3 b hb).2.2⟩
          · exact heap_setCell G1.out 0 _
          · exact ho.heap G2.out (fun e => hne e.symm)
        case measure => simp [intOf]; omega
      · gi_wp2
        refine bodyPost_ret (results_none rfl _ _ _) rfl (.inl ⟨⟨_, rfl⟩, T', Hx.out.2.2.1.trans hM.o, .inr hJ3⟩)
      · exact And.intro rfl (Or.inr ⟨ch, rfl, T', Hx.out.2.2.1.trans hM.o, hJ3⟩)


set_option maxRecDepth 100000 in
set_option maxHeartbeats 400000 in
theorem every_any (s : ByteArray) (c : UInt8) (w : World) :
    Calls Tryd.prog 30 #[.string s, .int .u8 c.toNat] w fun e w' => e = .returned (.func (.func 42) #[] #[.pointer (some ⟨w.heap.size, 0, none⟩), .pointer (some ⟨w.heap.size + 1, 0, none⟩)]) ∧
      w' = (w.alloc (.cells #[.string s] 9)).alloc (.cells #[.int .u8 c.toNat] 5) := by
  have hmf : ∀ (fn : Fn) (first cap : Array Value) (w : World), (Instr.makeFunc fn first cap).run Tryd.prog w = .ok (.func fn first cap) w := fun _ _ _ _ => rfl
  go_enter Tryd.func30, Tryd.ntmps30
  go_wp2
  go_ret
  exact ⟨rfl, rfl⟩

theorem enters_every1 : ∀ args w, (callFunc 42 args).run Tryd.prog w = .ok (.enter 42 args) w := enters_of Tryd.func42 (by kernel_rfl) rfl

set_option maxRecDepth 100000 in
set_option maxHeartbeats 1000000 in
theorem each1_gives (B Bs Bb : Nat) (s : ByteArray) (c : UInt8) (hs : s.size ≤ 140737488351232) :
    Gives Tryd.prog B (fun b => b = Bs ∨ b = Bb) 29 #[.pointer (some ⟨Bs, 0, none⟩), .pointer (some ⟨Bb, 0, none⟩)] encI (eachS c s.data.toList)
      (fun W => W.heap[Bs]? = some (.cells #[.string s] 9) ∧ W.heap[Bb]? = some (.cells #[.int .u8 c.toNat] 5)) := by
  intro l J Jx Jp S W hR ⟨hps, hpb⟩ hB hS h0
  have hnot : ∀ (x : Bool) (w : World), (Op.unary .not (.bool x)).run Tryd.prog w = .ok (.bool (!x)) w := fun _ _ => rfl
  have hwf : ∀ g, Fence.wide.fn g := fun _ => trivial
  have hwd : Fence.wide.depth = none := rfl
  have cs : ∀ o, (W.alloc o).cell? ⟨Bs, 0, none⟩ = some (.string s) := fun o => Lib.cell_of_heap (heap_old hps o) 0
  have cb : ∀ o, (W.alloc o).cell? ⟨Bb, 0, none⟩ = some (.int .u8 c.toNat) := fun o => Lib.cell_of_heap (heap_old hpb o) 0
  have HR := Lib.hid hR; have HS := Lib.hid hS; have H0 := Lib.hid h0; clear hR hS h0
  have Hps := Lib.hid hps; have Hpb := Lib.hid hpb; clear hps hpb
  refine calls_of_wpB Tryd.func29 rfl ?_
  simp only [Tryd.ntmps29, List.size_toArray, List.length_cons, List.length_nil, Nat.reduceAdd, Nat.reduceSub, Array.replicate_succ, Array.replicate_zero, List.push_toArray, List.append_toArray, List.nil_append, List.cons_append]
  refine wpB_seq_k (n := 0) fun K hK => ?_
  gi_wp2
  refine wpB_scope (wpB_seq_label ?_)
  refine wpB_seq_k (n := 0) fun K2 hK2 => ?_
  gi_wp2_with (gi_at_call 30; refine (callsIn_wide.2 (every_any s c _)).mono ?_; rintro e w1 ⟨rfl, rfl⟩)
  refine wpB_block ?_
  refine wpB_range (n := 0) Tryd.func29 rfl enters_every1 (every1_gives B (W.heap.size + 1) (W.heap.size + 2) s c hs (by omega)) (fun _ _ => rfl) (by simp; omega) ?hO ?hpre
    (fun T k A => ∃ S', T = plus1 S' W.heap.size ∧ J S' k A ∧ A.heap[W.heap.size]? = some (.cells #[.func (.yield l) #[] #[]] 67) ∧ Owns B (fun b => b = Bs ∨ b = Bb) S' A ∧ ¬ S' W.heap.size)
    (fun cd T A => ∃ S', T = plus1 S' W.heap.size ∧ Jx S' A ∧ ¬ S' W.heap.size ∧ cd = .exit 0)
    (fun T ch A => ∃ S', T = plus1 S' W.heap.size ∧ Jp S' ch A ∧ ¬ S' W.heap.size)
    (fun T k a A => ∃ S' x, (eachS c s.data.toList)[k]? = some x ∧ T = plus1 S' W.heap.size ∧ J S' k A ∧ A.heap[W.heap.size]? = some (.cells #[.func (.yield l) #[] #[]] 67) ∧ Owns B (fun b => b = Bs ∨ b = Bb) S' A ∧ ¬ S' W.heap.size ∧ a = { tmps := #[.func (.yield l) #[] #[], .pointer (some ⟨Bs, 0, none⟩), .pointer (some ⟨Bb, 0, none⟩), .pointer (some ⟨W.heap.size, 0, none⟩), .int .i64 k, .string ⟨x.toArray⟩, .string s, .int .u8 c.toNat, .func (.func 42) #[] #[.pointer (some ⟨W.heap.size + 1, 0, none⟩), .pointer (some ⟨W.heap.size + 2, 0, none⟩)], .int .i64 k, .string ⟨x.toArray⟩, undef, undef, undef, undef, undef], defers := [] })
    ?stJ ?stX ?stP ?stA (plus1 S W.heap.size) ?hS ?h0 ?assign ?body ?done ?stop ?panic
  case hO => rintro b (rfl | rfl) <;> simp
  case hpre =>
    intro w' ho
    have hW := (HS.out)
    exact ⟨ho.heap (heap_old (by have := heap_new (W.alloc (.cells #[.func (.yield l) #[] #[]] 67)) (.cells #[.string s] 9); simpa using this) _) (fun h => h), ho.heap (by have := heap_new ((W.alloc (.cells #[.func (.yield l) #[] #[]] 67)).alloc (.cells #[.string s] 9)) (.cells #[.int .u8 c.toNat] 5); simpa using this) (fun h => h), by omega, by omega⟩
  case stJ =>
    rintro T k A A' ⟨S', rfl, h1, h2, h3, h4⟩ hk
    exact ⟨S', rfl, HR.out.stJ S' k A A' h1 hk.rest1, hk.one1 h2, owns_later h3 hk.size, h4⟩
  case stX =>
    rintro _ T A A' ⟨S', rfl, h1, h4⟩ hk
    exact ⟨S', rfl, HR.out.stX S' A A' h1 hk.rest1, h4⟩
  case stP =>
    rintro T ch A A' ⟨S', rfl, h1, h4⟩ hk
    exact ⟨S', rfl, HR.out.stP S' ch A A' h1 hk.rest1, h4⟩
  case stA =>
    rintro T k a A A' ⟨S', x, hx, rfl, h1, h2, h3, h4, h5⟩ hk
    exact ⟨S', x, hx, rfl, HR.out.stJ S' k A A' h1 hk.rest1, hk.one1 h2, owns_later h3 hk.size, h4, h5⟩
  case hS =>
    rintro b (hb | rfl)
    · have := HS.out b hb; exact ⟨this.1, by simp; omega, by simp; omega⟩
    · exact ⟨hB, by simp; omega, by simp⟩
  case h0 =>
    refine ⟨S, rfl, HR.out.stJ S 0 W _ H0.out ?_, heap_old (heap_old (heap_new _ _) _) _, owns_later HS.out (by simp; omega), fun h => by have := (HS.out _ h).2.1; omega⟩
    exact Keep.of_only (T := fun _ => False) ((((Only.refl _ _).alloc _).alloc _).alloc _) hB (fun b hb => (HS.out b hb).2.1) (fun _ h => h.elim)
  case assign =>
    rintro l' T k x A K hx hsz hT ⟨S', rfl, h1, h2, h3, h4⟩ hK
    unfold encI
    gi_wp2
    exact hK _ _ _ ⟨S', x, hx, rfl, h1, h2, h3, h4, rfl⟩ (Moves.refl (fun b hb => (hT b hb).2.1))
  case body =>
    rintro l' T k x a₁ A hx hsz hT ⟨S', x', hx', rfl, h1, h2, h3, h4, rfl⟩
    obtain rfl : x' = x := by rw [hx] at hx'; exact (Option.some.inj hx').symm
    have hY := HR.out.round S' k x' A hx (by simp at hsz; omega) h3 h1
    have hc : A.cell? ⟨W.heap.size, 0, none⟩ = some (.func (.yield l) #[] #[]) := Lib.cell_of_heap h2 0
    have H1 := Lib.hid h1; have H2 := Lib.hid h2; have H3 := Lib.hid h3; clear h1 h2 h3
    have HY := Lib.hid hY; clear hx hx' hY
    gi_wp2
    obtain ⟨fn, tmps, assign, body, hy, hRd⟩ := HY.out 0
    unfold encI at hy
    rw [hy, Oper.uponIn_round]
    refine ⟨fun h => by simp [Fence.wide] at h, ?_⟩
    have hlt : W.heap.size < A.heap.size := lt_heap H2.out
    have hO : ∀ b, (b = Bs ∨ b = Bb) → b < A.heap.size := fun b hb => by
      have h1 := lt_heap Hps.out
      have h2 := lt_heap Hpb.out
      rcases hb with rfl | rfl <;> omega
    refine RoundIn.mono (F := Fence.wide) hRd ?_
    rintro e W3 (⟨rfl, S2, hJ3, hM⟩ | ⟨rfl, S2, hJ3, hM⟩ | ⟨ch, rfl, S2, hJ3, hM⟩)
    · have hn2 : ¬ S2 W.heap.size := fun h => (hM.grows _ h).elim h4 (fun x => by omega)
      have h22 := hM.only.heap H2.out h4
      gi_wp2
      exact ⟨plus1 S2 W.heap.size, ⟨S2, rfl, hJ3, h22, hM.owns H3.out (by omega) hO, hn2⟩, hM.plus1 hlt⟩
    · have hn2 : ¬ S2 W.heap.size := fun h => (hM.grows _ h).elim h4 (fun x => by omega)
      gi_wp2
      exact ⟨plus1 S2 W.heap.size, ⟨S2, rfl, hJ3, hn2, rfl⟩, hM.plus1 hlt⟩
    · have hn2 : ¬ S2 W.heap.size := fun h => (hM.grows _ h).elim h4 (fun x => by omega)
      exact And.intro rfl ⟨plus1 S2 W.heap.size, ⟨S2, rfl, hJ3, hn2⟩, hM.plus1 hlt⟩
  case done =>
    rintro T A hM ⟨S', rfl, h1, h2, h3, h4⟩ hd hn
    have hn' : ¬ S' _ := fun h => hn (.inl h)
    have hsz : W.heap.size ≤ (((W.alloc (.cells #[.func (.yield l) #[] #[]] 67)).alloc (.cells #[.string s] 9)).alloc (.cells #[.int .u8 c.toNat] 5)).heap.size := by simp; omega
    have hm := (MovesO.outer (O := fun b => b = Bs ∨ b = Bb) (Nat.le_refl _) ((((Only.refl _ _).alloc _).alloc _).alloc _) hM (fun b hb => by rcases hb with rfl | rfl <;> omega)).put hsz (.deferred none)
    exact leaves_mark (by simp) hd (leaves_ret (v := .tuple #[]) (by simp [results, Tryd.results29]) (.inl ⟨⟨_, rfl⟩, S', hm, .inl (HR.out.stJ _ _ _ _ h1 (Keep.putObj _ _ _ (Nat.le_trans hB hsz) hn'))⟩))
  case stop =>
    rintro cd T A hM ⟨S', rfl, h1, h4, rfl⟩ hd hn
    have hn' : ¬ S' _ := fun h => hn (.inl h)
    have hsz : W.heap.size ≤ (((W.alloc (.cells #[.func (.yield l) #[] #[]] 67)).alloc (.cells #[.string s] 9)).alloc (.cells #[.int .u8 c.toNat] 5)).heap.size := by simp; omega
    have hm := (MovesO.outer (O := fun b => b = Bs ∨ b = Bb) (Nat.le_refl _) ((((Only.refl _ _).alloc _).alloc _).alloc _) hM (fun b hb => by rcases hb with rfl | rfl <;> omega)).put hsz (.deferred none)
    refine wpIn_exit ?_
    exact leaves_mark (by simp) hd (leaves_ret (v := .tuple #[]) (by simp [results, Tryd.results29]) (.inl ⟨⟨_, rfl⟩, S', hm, .inr (HR.out.stX _ _ _ h1 (Keep.putObj _ _ _ (Nat.le_trans hB hsz) hn'))⟩))
  case panic =>
    rintro ch T A hM ⟨S', rfl, h1, h4⟩ hd hn
    have hn' : ¬ S' _ := fun h => hn (.inl h)
    have hsz : W.heap.size ≤ (((W.alloc (.cells #[.func (.yield l) #[] #[]] 67)).alloc (.cells #[.string s] 9)).alloc (.cells #[.int .u8 c.toNat] 5)).heap.size := by simp; omega
    have hm := (MovesO.outer (O := fun b => b = Bs ∨ b = Bb) (Nat.le_refl _) ((((Only.refl _ _).alloc _).alloc _).alloc _) hM (fun b hb => by rcases hb with rfl | rfl <;> omega)).put hsz (.deferred none)
    exact leaves_mark (by simp) hd (leaves_panic (.inr ⟨ch, rfl, S', hm, HR.out.stP _ _ _ _ h1 (Keep.putObj _ _ _ (Nat.le_trans hB hsz) hn')⟩))

set_option maxRecDepth 100000 in
set_option maxHeartbeats 400000 in
theorem each_any (s : ByteArray) (c : UInt8) (w : World) :
    Calls Tryd.prog 23 #[.string s, .int .u8 c.toNat] w fun e w' => e = .returned (.func (.func 29) #[] #[.pointer (some ⟨w.heap.size, 0, none⟩), .pointer (some ⟨w.heap.size + 1, 0, none⟩)]) ∧
      w' = (w.alloc (.cells #[.string s] 9)).alloc (.cells #[.int .u8 c.toNat] 5) := by
  have hmf : ∀ (fn : Fn) (first cap : Array Value) (w : World), (Instr.makeFunc fn first cap).run Tryd.prog w = .ok (.func fn first cap) w := fun _ _ _ _ => rfl
  go_enter Tryd.func23, Tryd.ntmps23
  go_wp2
  go_ret
  exact ⟨rfl, rfl⟩
theorem enters_each1 : ∀ args w, (callFunc 29 args).run Tryd.prog w = .ok (.enter 29 args) w := enters_of Tryd.func29 (by kernel_rfl) rfl
end Go.Proofs.YtnlkmiieebahoaaDoor
