/- Contracts of package accept: read (conditions: none). Laid by gen_acc7.py. -/
import Derived.Test.YtnlkmiieebahoaaDoorAcc6
import Derived.RegionIn
import Derived.Shelf.RegionOpen
import Derived.Maps.OwnIn
set_option linter.unusedVariables false
set_option linter.unusedSimpArgs false
namespace Go.Proofs.YtnlkmiieebahoaaDoor
open Go.RowKit
attribute [local go_sem] Oper.semAt_some

def Rg.cells (r : Rg) : List Value := [.string ⟨r.kind.toArray⟩, .string ⟨r.sub.toArray⟩, .int .i64 r.params, .int .i64 r.quality]
def encs (l : List Rg) : List Value := l.flatMap Rg.cells
def readGo : List (List UInt8) → Option (List Rg)
  | [] => some []
  | p :: l => if p.isEmpty then readGo l else match oneS p with | none => none | some r => (readGo l).map (r :: ·)
def readS (s : List UInt8) : Option (List Rg) := if valueS s then readGo (eachS 44 s) else none
theorem readGo_append : ∀ (a b : List (List UInt8)), readGo (a ++ b) = match readGo a with | none => none | some l => (readGo b).map (l ++ ·) := by
  intro a
  induction a with
  | nil => intro b; simp [readGo]
  | cons p a ih =>
    intro b
    rw [List.cons_append, readGo, readGo]
    split
    · exact ih b
    · cases h : oneS p with
      | none => rfl
      | some r =>
        dsimp only
        rw [ih b]
        cases readGo a with
        | none => rfl
        | some l => cases readGo b <;> simp
theorem readGo_take (xs : List (List UInt8)) (k : Nat) (x : List UInt8) (h : xs[k]? = some x) : readGo (xs.take (k + 1)) = match readGo (xs.take k) with | none => none | some l => if x.isEmpty then some l else match oneS x with | none => none | some r => some (l ++ [r]) := by
  rw [List.take_add_one, h, Option.toList, readGo_append]
  cases readGo (xs.take k) with
  | none => rfl
  | some l =>
    dsimp only
    rw [readGo]
    split
    · simp [readGo]
    · cases oneS x <;> simp [readGo]
theorem readGo_none (xs : List (List UInt8)) (k : Nat) (h : readGo (xs.take k) = none) : readGo xs = none := by
  rw [← List.take_append_drop k xs, readGo_append, h]
theorem row_base {w : World} {base base' : Nat} {e : TypeId} {size : Nat} {v : Value} {n : Nat} {xs : List Value} (h : w.ownsRow base e size v n xs) (hb : base' ≤ base) : w.ownsRow base' e size v n xs := by
  refine ⟨h.1, ?_⟩
  rcases h.2 with hn | ⟨g, cap, cur, rfl, hg, rest⟩
  · exact .inl hn
  · exact .inr ⟨g, cap, cur, rfl, Nat.le_trans hb hg, rest⟩
theorem infoRange4 : (Tryd.prog.info? 33).map (fun i => (i.zero, i.size, i.bytes)) = some (some (.agg #[.string ⟨#[]⟩, .string ⟨#[]⟩, .int .i64 0, .int .i64 0]), 4, 48) := by kernel_rfl

def readI (w : World) (s : List UInt8) (T : Nat → Prop) (A : World) (v : Value) : Prop :=
  T = rowB w v ∧ A.heap[w.heap.size]? = some (.cells #[v] 28) ∧ A.heap[w.heap.size + 1]? = some (.cells #[.int .i64 0] 29)
def readJ (w : World) (s : List UInt8) (T : Nat → Prop) (k : Nat) (A : World) : Prop :=
  ∃ v l, readI w s T A v ∧ A.ownsRow (w.heap.size + 2) 33 4 v l.length (encs l) ∧ readGo ((eachS 44 s).take k) = some l ∧ l.length ≤ k
def readP (w : World) (s : List UInt8) (T : Nat → Prop) (ch : List PanicEntry) (A : World) : Prop :=
  ∃ v, readI w s T A v ∧ ch = giveUp 220 ∧ readGo (eachS 44 s) = none
def readA (w : World) (D : Nat) (s : ByteArray) (T : Nat → Prop) (k : Nat) (a : Act) (A : World) : Prop :=
  ∃ x, (eachS 44 s.data.toList)[k]? = some x ∧ readJ w s.data.toList T k A ∧ a = { tmps := #[.string s, undef, .pointer (some ⟨w.heap.size, 0, none⟩), .pointer (some ⟨w.heap.size + 1, 0, none⟩), undef, .string ⟨x.toArray⟩, .string s, .bool true, .tuple #[], .string s, .func (.func 29) #[] #[.pointer (some ⟨D, 0, none⟩), .pointer (some ⟨D + 1, 0, none⟩)], .int .i64 k, .string ⟨x.toArray⟩, undef, undef, undef, undef, undef, undef, undef, undef], defers := [] }
theorem readI_keep (w : World) (s : List UInt8) (T : Nat → Prop) {A A' : World} {v : Value} (h : readI w s T A v) (hk : Keep w.heap.size T A A') : readI w s T A' v := by
  obtain ⟨rfl, h1, h2⟩ := h
  exact ⟨rfl, (hk.block _ (.inr (.inl rfl))).trans h1, (hk.block _ (.inr (.inr (.inl rfl)))).trans h2⟩
theorem readJ_keep (w : World) (s : List UInt8) (T : Nat → Prop) (k : Nat) : Stable w.heap.size T (readJ w s T k) := by
  rintro A A' ⟨v, l, h, h3, h4⟩ hk
  refine ⟨v, l, readI_keep w s T h hk, row_keep h3 (fun g hg => hk.block g (.inr (by rw [h.1]; exact .inr (.inr hg)))), h4⟩
theorem readP_keep (w : World) (s : List UInt8) (T : Nat → Prop) (ch : List PanicEntry) : Stable w.heap.size T (readP w s T ch) := by
  rintro A A' ⟨v, h, h4⟩ hk
  exact ⟨v, readI_keep w s T h hk, h4⟩

def errS (o : Option (List Rg)) : Int := if o.isSome then 0 else 220
theorem cells_new (w : World) (cs : List Value) (t : TypeId) : ∀ j u, cs[j]? = some u → (w.alloc (.cells cs.toArray t)).cell? ((⟨w.heap.size, 0, none⟩ : Addr).add j) = some u := by
  intro j u hu
  have hadd : (⟨w.heap.size, 0, none⟩ : Addr).add j = ⟨w.heap.size, j, none⟩ := by unfold Addr.add; split <;> simp_all
  rw [hadd, cell_new]; simpa using hu

theorem encs_snoc (l : List Rg) (r : Rg) : encs (l ++ [r]) = encs l ++ r.cells := by simp [encs]
/-- AT THE OPERATION: append of what lies at ad to a row of one's own. -/
theorem opIn_append_own_at {F : Fence} {nF : Nat} {P : Program} {w : World} {o : Oper} {a : Act} {K : Act → World → Prop} {Q : Exit → Act → World → Prop} (_ : o.guard = none) (s x : Operand) (t : TypeId)
    (ho : o.op = .call { callee := .builtin .append, args := #[s, x], argTypes := #[t, t] })
    (base : Nat) (e : TypeId) (i : TypeInfo) (z : Value) (size bytes : Nat) (ht : P.underlying t = some (.slice e)) (hi : P.info? e = some i) (hz : i.zero = some z)
    (hsize : i.size = size) (hby : i.bytes = bytes) (hzs : z.cells.size = size) (hsz : 0 < size)
    (v : Value) (n : Nat) (xs : List Value) (hs : a.eval s = v) (hown : w.ownsRow base e size v n xs)
    (ad : Addr) (m c : Nat) (news : List Value) (hx : a.eval x = .slice (some ad) m c) (hl : news.length = m * size) (hnews : ∀ j u, news[j]? = some u → w.cell? (ad.add j) = some u) (h1 : ∀ u ∈ news, u.oneCell' = true)
    (h63 : n + m ≤ maxLen) (hbytes : (n + m) * bytes ≤ 140737488355328) (hbase : base ≤ w.heap.size)
    (h : ∀ v' w', w'.ownsRow base e size v' (n + m) (xs ++ news) → w.grownBy w' v.ownBlock → (v' = .slice none 0 0 ↔ v = .slice none 0 0 ∧ m = 0) → (v'.ownBlock = v.ownBlock ∨ v'.ownBlock = some w.heap.size) → K (a.put o.dst v') w') :
    Oper.wpIn F nF P o a w K Q := by
  obtain ⟨v', w', hr, h2, h3, h4, h5⟩ := run_append_own_at (P := P) w base t o.type e i z size bytes ht hi hz hsize hby hzs hsz v n xs hown ad m c news hl hnews h1 h63 hbytes hbase
  unfold Oper.wpIn
  refine ⟨by simp [Oper.about, ho, resolve, Target.leads, Sem.run_pure], ?_⟩
  rw [Oper.semAt_plain F _ _ (by rw [ho]; intro c hc'; cases hc')]
  simp [execOp, ho, resolve, invoke, builtin, hs, hx, hr, Result.andThen]
  exact h v' w' h2 h3 h4 h5
/-- what the append and the store behind it leave. -/
theorem append_end {w A w2 w3 : World} {v v' : Value} {e : TypeId} {o : Obj} {size n m : Nat} {xs : List Value} (hown' : w3.ownsRow (w.heap.size + 2) e size v' (n + m) xs) (hgrow : (w2.alloc o).grownBy w3 v.ownBlock)
    (hat : v'.ownBlock = v.ownBlock ∨ v'.ownBlock = some (w2.alloc o).heap.size)
    (b0 : w3.heap[w.heap.size]? = some (.cells #[v] 28)) (b1 : w3.heap[w.heap.size + 1]? = some (.cells #[.int .i64 0] 29)) (ha : Below A.heap.size A w2)
    (hvb : ∀ g, v.ownBlock = some g → w.heap.size + 2 ≤ g ∧ g < A.heap.size) (hA : w.heap.size + 1 < A.heap.size) :
    (w3.setCell ⟨w.heap.size, 0, none⟩ v').heap[w.heap.size]? = some (.cells #[v'] 28) ∧ (w3.setCell ⟨w.heap.size, 0, none⟩ v').heap[w.heap.size + 1]? = some (.cells #[.int .i64 0] 29) ∧
      (w3.setCell ⟨w.heap.size, 0, none⟩ v').ownsRow (w.heap.size + 2) e size v' (n + m) xs ∧ Moves (rowB w v) A (rowB w v') (w3.setCell ⟨w.heap.size, 0, none⟩ v') := by
  have hvb' := row_block hown'
  have has := ha.size
  have ho : Only (rowB w v) A w3 := (((Only.of_below ha).alloc o).next (T := fun k => v.ownBlock = some k)
    ⟨hgrow.os, hgrow.tape, hgrow.output, hgrow.size, fun k hk hs => hgrow.block k hk (fun e => hs e.symm)⟩ (fun i _ e => .inr (.inr e)))
  have ho2 : Only (rowB w v) A (w3.setCell ⟨w.heap.size, 0, none⟩ v') := ho.setCell ⟨w.heap.size, 0, none⟩ (fun _ => .inl rfl) v'
  refine ⟨heap_setCell b0 0 v', (only1 w3 w.heap.size 0 v').heap b1 (by omega), ?_, ho2, ?_, ?_⟩
  · exact row_keep hown' (fun g hg => (only1 w3 w.heap.size 0 v').block g ((hvb' g hg).2) (by have := (hvb' g hg).1; omega))
  · rintro b (rfl | rfl | hb)
    · exact .inl (.inl rfl)
    · exact .inl (.inr (.inl rfl))
    · rcases hat with e | e
      · exact .inl (.inr (.inr (by rw [← e]; exact hb)))
      · rw [hb] at e; cases e; exact .inr (by simp; omega)
  · intro b hb
    have h5 := lt_heap b0
    have h6 := lt_heap b1
    refine Nat.lt_of_lt_of_le ?_ (only1 w3 w.heap.size 0 v').size
    rcases hb with rfl | rfl | hb
    · exact h5
    · exact h6
    · exact (hvb' b hb).2
theorem read_results {tmps : Array Value} {W : World} {v : Value} {n : Int} {w : World} (h0 : W.heap[w.heap.size]? = some (.cells #[v] 28)) (h1 : W.heap[w.heap.size + 1]? = some (.cells #[.int .i64 n] 29))
    (ht0 : tmps.getD 2 undef = .pointer (some ⟨w.heap.size, 0, none⟩) := by rfl) (ht1 : tmps.getD 3 undef = .pointer (some ⟨w.heap.size + 1, 0, none⟩) := by rfl) :
    (results Tryd.f15 tmps).run Tryd.prog W = .ok (.tuple #[v, .int .i64 n]) W := by
  have c0 := Lib.cell_of_heap h0 0
  have c1 := Lib.cell_of_heap h1 0
  simp at c0 c1 ht0 ht1
  simp [results, Tryd.results15, ht0, ht1, asAddr, loadVar, go_sem, c0, c1, Tryd.underlying28, Tryd.underlying29]

set_option maxRecDepth 100000 in
set_option maxHeartbeats 1000000 in
theorem read_any (s : ByteArray) (hs : s.size ≤ 1000000) (w : World) :
    Calls Tryd.prog 15 #[.string s] w fun e w' => ∃ v, e = .returned (.tuple #[v, .int .i64 (errS (readS s.data.toList))]) ∧
      (∀ l, readS s.data.toList = some l → w'.ownsRow w.heap.size 33 4 v l.length (encs l) ∧ l.length ≤ 1000001) ∧ Below w.heap.size w w' := by
  have hwf : ∀ g, Fence.wide.fn g := fun _ => trivial
  have hwd : Fence.wide.depth = none := rfl
  have hnot : ∀ (x : Bool) (w : World), (Op.unary .not (.bool x)).run Tryd.prog w = .ok (.bool (!x)) w := fun _ _ => rfl
  have hmax : s.size ≤ 140737488351232 := by omega
  have hmx : s.size ≤ maxLen := by unfold maxLen; omega
  obtain ⟨i0, hi, hz0, hz1, hz2⟩ := info_parts infoRange4
  refine calls_of_wpB Tryd.func15 rfl ?_
  simp only [Tryd.ntmps15, List.size_toArray, List.length_cons, List.length_nil, Nat.reduceAdd, Nat.reduceSub, Array.replicate_succ, Array.replicate_zero, List.push_toArray, List.append_toArray, List.nil_append, List.cons_append]
  refine wpB_seq_k (n := 0) fun K hK => ?_
  gi_wp2
  refine wpB_seq_k (n := 0) fun K1 hK1 => ?_
  gi_wp2
  have hb0 : Below w.heap.size w ((w.alloc (.cells #[.slice none 0 0] 28)).alloc (.cells #[.int .i64 0] 29)) := ((Below.refl _ _).alloc (Nat.le_refl _) _).alloc (by simp) _
  have k0 : ((w.alloc (.cells #[.slice none 0 0] 28)).alloc (.cells #[.int .i64 0] 29)).heap[w.heap.size]? = some (.cells #[.slice none 0 0] 28) := heap_old (heap_new _ _) _
  have k1 : ((w.alloc (.cells #[.slice none 0 0] 28)).alloc (.cells #[.int .i64 0] 29)).heap[w.heap.size + 1]? = some (.cells #[.int .i64 0] 29) := by
    have := heap_new (w.alloc (.cells #[.slice none 0 0] 28)) (.cells #[.int .i64 0] 29); rwa [World.size_alloc] at this
  have hsz0 : ((w.alloc (.cells #[.slice none 0 0] 28)).alloc (.cells #[.int .i64 0] 29)).heap.size = w.heap.size + 2 := by simp
  generalize hW0 : (w.alloc (.cells #[.slice none 0 0] 28)).alloc (.cells #[.int .i64 0] 29) = W0 at *
  clear hW0
  have Hv0 : ∃ b, valueS s.data.toList = b := ⟨_, rfl⟩
  obtain ⟨b, hv⟩ := Hv0
  have Hv := Lib.hid hv
  refine wpB_seq_k (n := 0) fun K2 hK2 => ?_
  cases b
  · have hnone : readS s.data.toList = none := by rw [readS, hv]; rfl
    have Hnone := Lib.hid hnone; clear hnone hv
    gi_wp2_with (first
      | (gi_at_call 22; refine (callsIn_wide.2 (value_any s hmx _)).mono ?_; rintro e w1 ⟨rfl, hb⟩; rw [Hv.out])
      | (gi_at_call 21; refine (callsIn_wide.2 (must_any _ _ _)).mono ?_; rintro e w2 ⟨rfl, rfl⟩; simp only [if_true, endO]))
    have h0 := below_heap hb k0 (by omega)
    have h1 := below_heap hb k1 (by omega)
    have h1' := heap_setCell h1 0 (.int .i64 220)
    have h0' := (only1 w1 (w.heap.size + 1) 0 (.int .i64 220)).heap h0 (by omega)
    refine leaves_caught (Lib.cell_of_heap h1 0) (Lib.frozen_of_heap h1 0) (leaves_ret (read_results (w := w) h0' h1') ⟨.slice none 0 0, ?_, ?_, ?_⟩)
    · rw [Hnone.out]; rfl
    · intro l hl; rw [Hnone.out] at hl; cases hl
    · exact (hb0.trans (hb.mono (by omega))).trans ((only1 w1 (w.heap.size + 1) 0 (.int .i64 220)).below (by have := hb.size; omega) (fun k hk => by omega))
  · have hrd : readS s.data.toList = readGo (eachS 44 s.data.toList) := by rw [readS, hv]; rfl
    have Hrd := Lib.hid hrd; clear hrd hv
    gi_wp2_with (first
      | (gi_at_call 22; refine (callsIn_wide.2 (value_any s hmx _)).mono ?_; rintro e w1 ⟨rfl, hb⟩; rw [Hv.out])
      | (gi_at_call 21; refine (callsIn_wide.2 (must_any _ _ _)).mono ?_; rintro e w2 ⟨rfl, rfl⟩; simp only [if_true, endO]))
    have h0 := below_heap hb k0 (by omega)
    have h1 := below_heap hb k1 (by omega)
    have hb1 : Below w.heap.size w w1 := hb0.trans (hb.mono (by omega))
    have hsz1 := hb.size
    rw [hsz0] at hsz1
    clear hb hb0 k0 k1
    refine wpB_seq (wpB_seq_k (n := 0) fun K3 hK3 => ?_)
    gi_wp2_with (gi_at_call 23; refine (callsIn_wide.2 (each_any s 44 _)).mono ?_; rintro e w2 ⟨rfl, rfl⟩)
    refine wpB_block ?_
    refine wpB_range (n := 0) Tryd.func15 rfl enters_each1 (each1_gives w.heap.size w1.heap.size (w1.heap.size + 1) s 44 hmax) (fun _ _ => rfl) ?hB ?hO ?hpre
      (readJ w s.data.toList) (fun _ _ _ => False) (readP w s.data.toList) (readA w w1.heap.size s) ?stJ ?stX ?stP ?stA (rowB w (.slice none 0 0)) ?hS ?h0 ?assign ?body ?done ?stop ?panic
    case hB => simp; omega
    case hO => rintro b (rfl | rfl) <;> first | (simp; omega) | simp
    case hpre =>
      intro w' ho
      exact ⟨ho.heap (heap_old (heap_new _ _) _) (fun h => h), ho.heap (by have := heap_new (w1.alloc (.cells #[.string s] 9)) (.cells #[.int .u8 (44 : UInt8).toNat] 5); rwa [World.size_alloc] at this) (fun h => h)⟩
    case stJ => exact readJ_keep w s.data.toList
    case stX => exact fun _ _ _ _ h _ => h
    case stP => exact readP_keep w s.data.toList
    case stA => rintro T k a A A' ⟨x, hx, hj, rfl⟩ hk; exact ⟨x, hx, readJ_keep w _ T k A A' hj hk, rfl⟩
    case hS =>
      rintro b (rfl | rfl | hb)
      · exact ⟨Nat.le_refl _, by first | (simp; omega) | simp, by omega⟩
      · exact ⟨by omega, by first | (simp; omega) | simp, by omega⟩
      · cases hb
    case h0 => exact ⟨_, [], ⟨rfl, heap_old (heap_old h0 _) _, heap_old (heap_old h1 _) _⟩, World.ownsRow_nil _ _ _ _, rfl, Nat.le_refl _⟩
    case assign =>
      rintro l' T k x A K hx hsz hT hj hK
      unfold encI
      gi_wp2
      exact hK _ _ _ ⟨x, hx, hj, rfl⟩ (Moves.refl (fun b hb => (hT b hb).2.1))
    case body =>
      rintro l' T k x a₁ A hx hsz hT ⟨x', hx', ⟨v, l, ⟨rfl, h1, h2⟩, h3, h4, h5⟩, rfl⟩
      obtain rfl : x' = x := by rw [hx] at hx'; exact (Option.some.inj hx').symm
      have hxm : x' ∈ eachS 44 s.data.toList := List.mem_of_getElem? hx
      have hxl := eachS_le 44 s.data.toList x' hxm
      have hlt : k < (eachS 44 s.data.toList).length := by rw [List.getElem?_eq_some_iff] at hx; exact hx.1
      have hbig := eachS_len 44 s.data.toList
      have hsd : s.data.toList.length = s.size := by simp
      rw [hsd] at hxl hbig
      have htk := readGo_take _ _ _ hx; rw [h4] at htk; dsimp only at htk
      have hsz' : w.heap.size + 3 < A.heap.size := by simp at hsz; omega
      cases hxe : x'.isEmpty
      · rw [hxe] at htk
        have H1 := Lib.hid h1; have H2 := Lib.hid h2; have HT := Lib.hid hT; have Htk := Lib.hid htk; have H4 := Lib.hid h4; have Hx := Lib.hid hx; clear h1 h2 hT hx' htk h4 hx hxm
        have c0 : A.cell? ⟨w.heap.size, 0, none⟩ = some v := Lib.cell_of_heap H1.out 0
        have hvb := row_block h3
        have hne1 : v.ownBlock ≠ some (w.heap.size + 1) := fun e => by have := (hvb _ e).1; omega
        have hne0 : v.ownBlock ≠ some w.heap.size := fun e => by have := (hvb _ e).1; omega
        have hmix : Tryd.prog.follows .mixedOrders = true := by kernel_rfl
        gi_wp2
        refine wpIn_region_any hmix ?_
        change wpAnyIn _ _ _ _ _ _ _ _ _ (World.drew _)
        cases ho : oneS x' with
        | none =>
          have hno : readGo (eachS 44 s.data.toList) = none := readGo_none _ (k + 1) (by rw [Htk.out, ho]; rfl)
          have Ho := Lib.hid ho; have Hno := Lib.hid hno
          clear ho hno
          refine wpAnyIn_ready (rs := [0, 1]) (by kernel_rfl) (by simp) ?_
          refine AllReadyIn.cons rfl (fun K hK => ?_) ?_
          · go_simp
            refine hK _ _ ?_
            clear hK K
            refine wpAnyIn_ready (rs := [1]) (by kernel_rfl) (by simp) ?_
            refine AllReadyIn.cons rfl (fun K hK => ?_) ?_
            · go_simp
              refine hK _ _ ?_
              clear hK K
              refine wpAnyIn_ready (rs := [2]) (by kernel_rfl) (by simp) ?_
              refine AllReadyIn.cons rfl (fun K hK => ?_) ?_
              · go_simp
                gi_wp2_with (gi_at_call 24; refine (CallsIn.inRound l' (callsIn_wide.2 (one_any _ (by rw [size_str]; omega) _))).mono ?_; rintro e w2 ⟨rfl, hb⟩; rw [show (⟨x'.toArray⟩ : ByteArray).data.toList = x' from rfl, Ho.out]; simp only [Option.map_none, endO])
                have ha := accD (Below.refl A.heap.size A) hb
                exact ⟨rfl, rowB w v, ⟨v, ⟨rfl, below_heap ha H1.out (by omega), below_heap ha H2.out (by omega)⟩, rfl, Hno.out⟩, ⟨Only.of_below ha, fun _ x => .inl x, fun b hb => Nat.lt_of_lt_of_le (HT.out b hb).2.1 ha.size⟩⟩
              exact AllReadyIn.nil
            exact AllReadyIn.nil
          refine AllReadyIn.cons rfl (fun K hK => ?_) ?_
          · go_simp
            refine hK _ _ ?_
            clear hK K
            refine wpAnyIn_ready (rs := [0, 2]) (by kernel_rfl) (by simp) ?_
            refine AllReadyIn.cons rfl (fun K hK => ?_) ?_
            · go_simp
              refine hK _ _ ?_
              clear hK K
              refine wpAnyIn_ready (rs := [2]) (by kernel_rfl) (by simp) ?_
              refine AllReadyIn.cons rfl (fun K hK => ?_) ?_
              · go_simp
                gi_wp2_with (gi_at_call 24; refine (CallsIn.inRound l' (callsIn_wide.2 (one_any _ (by rw [size_str]; omega) _))).mono ?_; rintro e w2 ⟨rfl, hb⟩; rw [show (⟨x'.toArray⟩ : ByteArray).data.toList = x' from rfl, Ho.out]; simp only [Option.map_none, endO])
                have ha := accD (Below.refl A.heap.size A) hb
                exact ⟨rfl, rowB w v, ⟨v, ⟨rfl, below_heap ha H1.out (by omega), below_heap ha H2.out (by omega)⟩, rfl, Hno.out⟩, ⟨Only.of_below ha, fun _ x => .inl x, fun b hb => Nat.lt_of_lt_of_le (HT.out b hb).2.1 ha.size⟩⟩
              exact AllReadyIn.nil
            refine AllReadyIn.cons rfl (fun K hK => ?_) ?_
            · go_simp
              gi_wp2_with (gi_at_call 24; refine (CallsIn.inRound l' (callsIn_wide.2 (one_any _ (by rw [size_str]; omega) _))).mono ?_; rintro e w2 ⟨rfl, hb⟩; rw [show (⟨x'.toArray⟩ : ByteArray).data.toList = x' from rfl, Ho.out]; simp only [Option.map_none, endO])
              have ha := accD (Below.refl A.heap.size A) hb
              exact ⟨rfl, rowB w v, ⟨v, ⟨rfl, below_heap ha H1.out (by omega), below_heap ha H2.out (by omega)⟩, rfl, Hno.out⟩, ⟨Only.of_below ha, fun _ x => .inl x, fun b hb => Nat.lt_of_lt_of_le (HT.out b hb).2.1 ha.size⟩⟩
            exact AllReadyIn.nil
          exact AllReadyIn.nil
        | some r =>
          have Ho := Lib.hid ho
          clear ho
          refine wpAnyIn_ready (rs := [0, 1]) (by kernel_rfl) (by simp) ?_
          refine AllReadyIn.cons rfl (fun K hK => ?_) ?_
          · go_simp
            refine hK _ _ ?_
            clear hK K
            refine wpAnyIn_ready (rs := [1]) (by kernel_rfl) (by simp) ?_
            refine AllReadyIn.cons rfl (fun K hK => ?_) ?_
            · go_simp
              refine hK _ _ ?_
              clear hK K
              refine wpAnyIn_ready (rs := [2]) (by kernel_rfl) (by simp) ?_
              refine AllReadyIn.cons rfl (fun K hK => ?_) ?_
              · go_simp
                gi_wp2_with (gi_at_call 24; refine (CallsIn.inRound l' (callsIn_wide.2 (one_any _ (by rw [size_str]; omega) _))).mono ?_; rintro e w2 ⟨rfl, hb⟩; rw [show (⟨x'.toArray⟩ : ByteArray).data.toList = x' from rfl, Ho.out]; simp only [Option.map_some, endO, Rg.enc])
                have ha := accD (Below.refl A.heap.size A) hb
                have c2 := (ha.cell (p := ⟨w.heap.size, 0, none⟩) (by dsimp only; omega)).trans c0
                have c3 := fun o => ((ha.alloc ha.size o).cell (p := ⟨w.heap.size, 0, none⟩) (by dsimp only; omega)).trans c0
                refine wpAnyIn_ready (rs := [3]) (by kernel_rfl) (by simp) ?_
                refine AllReadyIn.cons rfl (fun K hK => ?_) ?_
                · go_simp
                  refine hK _ _ ?_
                  clear hK K
                  refine wpAnyIn_ready (rs := [4]) (by kernel_rfl) (by simp) ?_
                  refine BigFrame.allReadyIn_want rfl (by kernel_rfl) (fun K hK => ?_) AllReadyIn.nil
                  refine opIn_append_own_at rfl _ _ 28 rfl (w.heap.size + 2) 33 i0 _ 4 48 Tryd.underlying28 hi hz0 hz1 hz2 rfl (by decide) v l.length (encs l) rfl (row_keep (w := A) h3 ?d0) ⟨w2.heap.size, 0, none⟩ 1 1 r.cells rfl rfl ?d1 ?d2 ?d3 ?d4 ?d5 ?_
                  case d0 => exact fun g hg => (ha.alloc ha.size _).block g (hvb g hg).2
                  case d1 => exact cells_new w2 r.cells 33
                  case d2 => intro u hu; simp [Rg.cells] at hu; rcases hu with rfl | rfl | rfl | rfl <;> rfl
                  case d3 => unfold maxLen; omega
                  case d4 => omega
                  case d5 => have := ha.size; simp; omega
                  intro v' w3 hown' hgrow _ hat
                  have b0 : w3.heap[w.heap.size]? = some (.cells #[v] 28) := by
                    rw [hgrow.block _ (by have := ha.size; simp; omega) (fun e => hne0 e.symm)]; exact heap_old (below_heap ha H1.out (by omega)) _
                  have b1 : w3.heap[w.heap.size + 1]? = some (.cells #[.int .i64 0] 29) := by
                    rw [hgrow.block _ (by have := ha.size; simp; omega) (fun e => hne1 e.symm)]; exact heap_old (below_heap ha H2.out (by omega)) _
                  have c4 : w3.cell? ⟨w.heap.size, 0, none⟩ = some v := Lib.cell_of_heap b0 0
                  have f4 : w3.frozen? ⟨w.heap.size, 0, none⟩ = false := Lib.frozen_of_heap b0 0
                  have hend := append_end hown' hgrow hat b0 b1 ha hvb (by omega)
                  obtain ⟨g, cap, rfl⟩ : ∃ g cap, v' = .slice (some ⟨g, 0, none⟩) (l.length + 1) cap := by
                    rcases hown'.2 with ⟨_, h0⟩ | ⟨g, cap, cur, hv, _⟩
                    · omega
                    · exact ⟨g, cap, hv⟩
                  have Hend := Lib.hid hend; clear hend hown' hgrow b0 b1
                  refine hK _ _ ?_
                  clear hK K
                  refine wpAnyIn_ready (rs := [5]) (by kernel_rfl) (by simp) ?_
                  refine AllReadyIn.cons rfl (fun K hK => ?_) ?_
                  · go_simp
                    refine hK _ _ ?_
                    clear hK K
                    refine wpAnyIn_done (by kernel_rfl) ?_ _
                    exact ⟨rowB w _, ⟨_, l ++ [r], ⟨rfl, Hend.out.1, Hend.out.2.1⟩, by rw [encs_snoc, List.length_append]; exact Hend.out.2.2.1, by rw [Htk.out, Ho.out]; rfl, by simp; omega⟩, Hend.out.2.2.2⟩
                  exact AllReadyIn.nil
                exact AllReadyIn.nil
              exact AllReadyIn.nil
            exact AllReadyIn.nil
          refine AllReadyIn.cons rfl (fun K hK => ?_) ?_
          · go_simp
            refine hK _ _ ?_
            clear hK K
            refine wpAnyIn_ready (rs := [0, 2]) (by kernel_rfl) (by simp) ?_
            refine AllReadyIn.cons rfl (fun K hK => ?_) ?_
            · go_simp
              refine hK _ _ ?_
              clear hK K
              refine wpAnyIn_ready (rs := [2]) (by kernel_rfl) (by simp) ?_
              refine AllReadyIn.cons rfl (fun K hK => ?_) ?_
              · go_simp
                gi_wp2_with (gi_at_call 24; refine (CallsIn.inRound l' (callsIn_wide.2 (one_any _ (by rw [size_str]; omega) _))).mono ?_; rintro e w2 ⟨rfl, hb⟩; rw [show (⟨x'.toArray⟩ : ByteArray).data.toList = x' from rfl, Ho.out]; simp only [Option.map_some, endO, Rg.enc])
                have ha := accD (Below.refl A.heap.size A) hb
                have c2 := (ha.cell (p := ⟨w.heap.size, 0, none⟩) (by dsimp only; omega)).trans c0
                have c3 := fun o => ((ha.alloc ha.size o).cell (p := ⟨w.heap.size, 0, none⟩) (by dsimp only; omega)).trans c0
                refine wpAnyIn_ready (rs := [3]) (by kernel_rfl) (by simp) ?_
                refine AllReadyIn.cons rfl (fun K hK => ?_) ?_
                · go_simp
                  refine hK _ _ ?_
                  clear hK K
                  refine wpAnyIn_ready (rs := [4]) (by kernel_rfl) (by simp) ?_
                  refine BigFrame.allReadyIn_want rfl (by kernel_rfl) (fun K hK => ?_) AllReadyIn.nil
                  refine opIn_append_own_at rfl _ _ 28 rfl (w.heap.size + 2) 33 i0 _ 4 48 Tryd.underlying28 hi hz0 hz1 hz2 rfl (by decide) v l.length (encs l) rfl (row_keep (w := A) h3 ?d0) ⟨w2.heap.size, 0, none⟩ 1 1 r.cells rfl rfl ?d1 ?d2 ?d3 ?d4 ?d5 ?_
                  case d0 => exact fun g hg => (ha.alloc ha.size _).block g (hvb g hg).2
                  case d1 => exact cells_new w2 r.cells 33
                  case d2 => intro u hu; simp [Rg.cells] at hu; rcases hu with rfl | rfl | rfl | rfl <;> rfl
                  case d3 => unfold maxLen; omega
                  case d4 => omega
                  case d5 => have := ha.size; simp; omega
                  intro v' w3 hown' hgrow _ hat
                  have b0 : w3.heap[w.heap.size]? = some (.cells #[v] 28) := by
                    rw [hgrow.block _ (by have := ha.size; simp; omega) (fun e => hne0 e.symm)]; exact heap_old (below_heap ha H1.out (by omega)) _
                  have b1 : w3.heap[w.heap.size + 1]? = some (.cells #[.int .i64 0] 29) := by
                    rw [hgrow.block _ (by have := ha.size; simp; omega) (fun e => hne1 e.symm)]; exact heap_old (below_heap ha H2.out (by omega)) _
                  have c4 : w3.cell? ⟨w.heap.size, 0, none⟩ = some v := Lib.cell_of_heap b0 0
                  have f4 : w3.frozen? ⟨w.heap.size, 0, none⟩ = false := Lib.frozen_of_heap b0 0
                  have hend := append_end hown' hgrow hat b0 b1 ha hvb (by omega)
                  obtain ⟨g, cap, rfl⟩ : ∃ g cap, v' = .slice (some ⟨g, 0, none⟩) (l.length + 1) cap := by
                    rcases hown'.2 with ⟨_, h0⟩ | ⟨g, cap, cur, hv, _⟩
                    · omega
                    · exact ⟨g, cap, hv⟩
                  have Hend := Lib.hid hend; clear hend hown' hgrow b0 b1
                  refine hK _ _ ?_
                  clear hK K
                  refine wpAnyIn_ready (rs := [5]) (by kernel_rfl) (by simp) ?_
                  refine AllReadyIn.cons rfl (fun K hK => ?_) ?_
                  · go_simp
                    refine hK _ _ ?_
                    clear hK K
                    refine wpAnyIn_done (by kernel_rfl) ?_ _
                    exact ⟨rowB w _, ⟨_, l ++ [r], ⟨rfl, Hend.out.1, Hend.out.2.1⟩, by rw [encs_snoc, List.length_append]; exact Hend.out.2.2.1, by rw [Htk.out, Ho.out]; rfl, by simp; omega⟩, Hend.out.2.2.2⟩
                  exact AllReadyIn.nil
                exact AllReadyIn.nil
              exact AllReadyIn.nil
            refine AllReadyIn.cons rfl (fun K hK => ?_) ?_
            · go_simp
              gi_wp2_with (gi_at_call 24; refine (CallsIn.inRound l' (callsIn_wide.2 (one_any _ (by rw [size_str]; omega) _))).mono ?_; rintro e w2 ⟨rfl, hb⟩; rw [show (⟨x'.toArray⟩ : ByteArray).data.toList = x' from rfl, Ho.out]; simp only [Option.map_some, endO, Rg.enc])
              have ha := accD (Below.refl A.heap.size A) hb
              have c2 := (ha.cell (p := ⟨w.heap.size, 0, none⟩) (by dsimp only; omega)).trans c0
              have c3 := fun o => ((ha.alloc ha.size o).cell (p := ⟨w.heap.size, 0, none⟩) (by dsimp only; omega)).trans c0
              refine wpAnyIn_ready (rs := [0, 3]) (by kernel_rfl) (by simp) ?_
              refine AllReadyIn.cons rfl (fun K hK => ?_) ?_
              · go_simp
                refine hK _ _ ?_
                clear hK K
                refine wpAnyIn_ready (rs := [3]) (by kernel_rfl) (by simp) ?_
                refine AllReadyIn.cons rfl (fun K hK => ?_) ?_
                · go_simp
                  refine hK _ _ ?_
                  clear hK K
                  refine wpAnyIn_ready (rs := [4]) (by kernel_rfl) (by simp) ?_
                  refine BigFrame.allReadyIn_want rfl (by kernel_rfl) (fun K hK => ?_) AllReadyIn.nil
                  refine opIn_append_own_at rfl _ _ 28 rfl (w.heap.size + 2) 33 i0 _ 4 48 Tryd.underlying28 hi hz0 hz1 hz2 rfl (by decide) v l.length (encs l) rfl (row_keep (w := A) h3 ?d0) ⟨w2.heap.size, 0, none⟩ 1 1 r.cells rfl rfl ?d1 ?d2 ?d3 ?d4 ?d5 ?_
                  case d0 => exact fun g hg => (ha.alloc ha.size _).block g (hvb g hg).2
                  case d1 => exact cells_new w2 r.cells 33
                  case d2 => intro u hu; simp [Rg.cells] at hu; rcases hu with rfl | rfl | rfl | rfl <;> rfl
                  case d3 => unfold maxLen; omega
                  case d4 => omega
                  case d5 => have := ha.size; simp; omega
                  intro v' w3 hown' hgrow _ hat
                  have b0 : w3.heap[w.heap.size]? = some (.cells #[v] 28) := by
                    rw [hgrow.block _ (by have := ha.size; simp; omega) (fun e => hne0 e.symm)]; exact heap_old (below_heap ha H1.out (by omega)) _
                  have b1 : w3.heap[w.heap.size + 1]? = some (.cells #[.int .i64 0] 29) := by
                    rw [hgrow.block _ (by have := ha.size; simp; omega) (fun e => hne1 e.symm)]; exact heap_old (below_heap ha H2.out (by omega)) _
                  have c4 : w3.cell? ⟨w.heap.size, 0, none⟩ = some v := Lib.cell_of_heap b0 0
                  have f4 : w3.frozen? ⟨w.heap.size, 0, none⟩ = false := Lib.frozen_of_heap b0 0
                  have hend := append_end hown' hgrow hat b0 b1 ha hvb (by omega)
                  obtain ⟨g, cap, rfl⟩ : ∃ g cap, v' = .slice (some ⟨g, 0, none⟩) (l.length + 1) cap := by
                    rcases hown'.2 with ⟨_, h0⟩ | ⟨g, cap, cur, hv, _⟩
                    · omega
                    · exact ⟨g, cap, hv⟩
                  have Hend := Lib.hid hend; clear hend hown' hgrow b0 b1
                  refine hK _ _ ?_
                  clear hK K
                  refine wpAnyIn_ready (rs := [5]) (by kernel_rfl) (by simp) ?_
                  refine AllReadyIn.cons rfl (fun K hK => ?_) ?_
                  · go_simp
                    refine hK _ _ ?_
                    clear hK K
                    refine wpAnyIn_done (by kernel_rfl) ?_ _
                    exact ⟨rowB w _, ⟨_, l ++ [r], ⟨rfl, Hend.out.1, Hend.out.2.1⟩, by rw [encs_snoc, List.length_append]; exact Hend.out.2.2.1, by rw [Htk.out, Ho.out]; rfl, by simp; omega⟩, Hend.out.2.2.2⟩
                  exact AllReadyIn.nil
                exact AllReadyIn.nil
              refine AllReadyIn.cons rfl (fun K hK => ?_) ?_
              · go_simp
                refine hK _ _ ?_
                clear hK K
                refine wpAnyIn_ready (rs := [0]) (by kernel_rfl) (by simp) ?_
                refine AllReadyIn.cons rfl (fun K hK => ?_) ?_
                · go_simp
                  refine hK _ _ ?_
                  clear hK K
                  refine wpAnyIn_ready (rs := [4]) (by kernel_rfl) (by simp) ?_
                  refine BigFrame.allReadyIn_want rfl (by kernel_rfl) (fun K hK => ?_) AllReadyIn.nil
                  refine opIn_append_own_at rfl _ _ 28 rfl (w.heap.size + 2) 33 i0 _ 4 48 Tryd.underlying28 hi hz0 hz1 hz2 rfl (by decide) v l.length (encs l) rfl (row_keep (w := A) h3 ?d0) ⟨w2.heap.size, 0, none⟩ 1 1 r.cells rfl rfl ?d1 ?d2 ?d3 ?d4 ?d5 ?_
                  case d0 => exact fun g hg => (ha.alloc ha.size _).block g (hvb g hg).2
                  case d1 => exact cells_new w2 r.cells 33
                  case d2 => intro u hu; simp [Rg.cells] at hu; rcases hu with rfl | rfl | rfl | rfl <;> rfl
                  case d3 => unfold maxLen; omega
                  case d4 => omega
                  case d5 => have := ha.size; simp; omega
                  intro v' w3 hown' hgrow _ hat
                  have b0 : w3.heap[w.heap.size]? = some (.cells #[v] 28) := by
                    rw [hgrow.block _ (by have := ha.size; simp; omega) (fun e => hne0 e.symm)]; exact heap_old (below_heap ha H1.out (by omega)) _
                  have b1 : w3.heap[w.heap.size + 1]? = some (.cells #[.int .i64 0] 29) := by
                    rw [hgrow.block _ (by have := ha.size; simp; omega) (fun e => hne1 e.symm)]; exact heap_old (below_heap ha H2.out (by omega)) _
                  have c4 : w3.cell? ⟨w.heap.size, 0, none⟩ = some v := Lib.cell_of_heap b0 0
                  have f4 : w3.frozen? ⟨w.heap.size, 0, none⟩ = false := Lib.frozen_of_heap b0 0
                  have hend := append_end hown' hgrow hat b0 b1 ha hvb (by omega)
                  obtain ⟨g, cap, rfl⟩ : ∃ g cap, v' = .slice (some ⟨g, 0, none⟩) (l.length + 1) cap := by
                    rcases hown'.2 with ⟨_, h0⟩ | ⟨g, cap, cur, hv, _⟩
                    · omega
                    · exact ⟨g, cap, hv⟩
                  have Hend := Lib.hid hend; clear hend hown' hgrow b0 b1
                  refine hK _ _ ?_
                  clear hK K
                  refine wpAnyIn_ready (rs := [5]) (by kernel_rfl) (by simp) ?_
                  refine AllReadyIn.cons rfl (fun K hK => ?_) ?_
                  · go_simp
                    refine hK _ _ ?_
                    clear hK K
                    refine wpAnyIn_done (by kernel_rfl) ?_ _
                    exact ⟨rowB w _, ⟨_, l ++ [r], ⟨rfl, Hend.out.1, Hend.out.2.1⟩, by rw [encs_snoc, List.length_append]; exact Hend.out.2.2.1, by rw [Htk.out, Ho.out]; rfl, by simp; omega⟩, Hend.out.2.2.2⟩
                  exact AllReadyIn.nil
                exact AllReadyIn.nil
              exact AllReadyIn.nil
            exact AllReadyIn.nil
          exact AllReadyIn.nil
      · rw [hxe] at htk
        have H1 := Lib.hid h1; have H2 := Lib.hid h2; have HT := Lib.hid hT; have Htk := Lib.hid htk; have H4 := Lib.hid h4; clear h1 h2 hT hx' htk h4 hx hxm
        gi_wp2
        exact ⟨rowB w v, ⟨v, l, ⟨rfl, H1.out, H2.out⟩, h3, Htk.out, by omega⟩, Moves.refl (fun b hb => (HT.out b hb).2.1)⟩
    case done =>
      rintro T W hM ⟨v, l, ⟨rfl, h1, h2⟩, h3, h4, h5⟩ hd hn
      have hB0 : Below w.heap.size w W := (((hb1.alloc (by omega) _).alloc (by simp; omega) _)).trans (hM.only.below (by simp; omega) (fun k hk hs => by
        rcases hs with (rfl | rfl | hs) | (rfl | rfl)
        · omega
        · omega
        · cases hs
        · omega
        · omega))
      simp only [World.size_alloc] at hd hn
      have hDW := lt_heap hd
      have hWm : Only (fun k => k = w1.heap.size + 1 + 1) W (W.putObj (w1.heap.size + 1 + 1) (.deferred none)) := only_putObj _ _ _
      have hl : readS s.data.toList = some l := by rw [Hrd.out]; rwa [List.take_length] at h4
      have hlen := eachS_len 44 s.data.toList
      rw [show s.data.toList.length = s.size by simp] at hlen
      have hvb := row_block h3
      obtain ⟨vp, vn, vc, rfl⟩ : ∃ p n c, v = .slice p n c := by
        rcases h3.2 with ⟨rfl, _⟩ | ⟨g, cap, cur, rfl, _⟩
        · exact ⟨_, _, _, rfl⟩
        · exact ⟨_, _, _, rfl⟩
      have c0 : W.cell? ⟨w.heap.size, 0, none⟩ = some (.slice vp vn vc) := Lib.cell_of_heap h1 0
      have f0 : W.frozen? ⟨w.heap.size, 0, none⟩ = false := Lib.frozen_of_heap h1 0
      have c1 : W.cell? ⟨w.heap.size + 1, 0, none⟩ = some (.int .i64 0) := Lib.cell_of_heap h2 0
      have f1 : W.frozen? ⟨w.heap.size + 1, 0, none⟩ = false := Lib.frozen_of_heap h2 0
      have o2 : Only (fun k => k = w.heap.size ∨ k = w.heap.size + 1) W ((W.setCell ⟨w.heap.size, 0, none⟩ (.slice vp vn vc)).setCell ⟨w.heap.size + 1, 0, none⟩ (.int .i64 0)) := ((Only.refl _ _).setCell ⟨w.heap.size, 0, none⟩ (fun _ => .inl rfl) (.slice vp vn vc)).setCell ⟨w.heap.size + 1, 0, none⟩ (fun _ => .inr rfl) (.int .i64 0)
      have g0 := (only1 (W.setCell ⟨w.heap.size, 0, none⟩ (.slice vp vn vc)) (w.heap.size + 1) 0 (.int .i64 0)).heap (heap_setCell h1 0 (.slice vp vn vc)) (by omega)
      have g1 := heap_setCell ((only1 W w.heap.size 0 (.slice vp vn vc)).heap h2 (by omega)) 0 (.int .i64 0)
      have gd := o2.heap hd (by omega)
      have hg : ∀ g, (Value.slice vp vn vc).ownBlock = some g → ((((W.setCell ⟨w.heap.size, 0, none⟩ (.slice vp vn vc)).setCell ⟨w.heap.size + 1, 0, none⟩ (.int .i64 0)).putObj (w1.heap.size + 1 + 1) (.deferred none)).heap[g]?) = W.heap[g]? := fun g hg => by
        have hv := hvb g hg
        exact (World.putObj_heap_other (fun e => hn (by subst e; exact .inr (.inr hg)))).trans (o2.block g hv.2 (by omega))
      have hrow := row_keep h3 hg
      have hbe : Below w.heap.size w (((W.setCell ⟨w.heap.size, 0, none⟩ (.slice vp vn vc)).setCell ⟨w.heap.size + 1, 0, none⟩ (.int .i64 0)).putObj (w1.heap.size + 1 + 1) (.deferred none)) :=
        hB0.trans ((o2.below (by omega) (fun k hk => by omega)).trans ((only_putObj _ _ _).below (by have := o2.size; omega) (fun k hk => by omega)))
      have Hl := Lib.hid hl; have Hg0 := Lib.hid g0; have Hg1 := Lib.hid g1; have Hgd := Lib.hid gd; have Hrow := Lib.hid hrow; have Hbe := Lib.hid hbe
      clear hl g0 g1 gd hrow hbe h1 h2 h3 h4 hM hd hn o2 hg hWm
      refine wpB_of (n := 0) ?_
      gi_wp2
      refine leaves_mark (u := .returning) (by simp) Hgd.out ?_
      refine leaves_idle ?_
      refine leaves_ret (v := .tuple #[(.slice vp vn vc), .int .i64 0]) (read_results (w := w) ((World.putObj_heap_other (by omega)).trans Hg0.out) ((World.putObj_heap_other (by omega)).trans Hg1.out)) ?_
      refine ⟨(.slice vp vn vc), ?_, ?_, Hbe.out⟩
      · rw [Hl.out]; rfl
      · intro l' hl'
        rw [Hl.out] at hl'
        obtain rfl := Option.some.inj hl'
        exact ⟨row_base Hrow.out (by omega), by omega⟩
    case stop => exact fun _ _ _ _ h => h.elim
    case panic =>
      rintro ch T W hM ⟨v, ⟨rfl, h1, h2⟩, rfl, hno⟩ hd hn
      have hB0 : Below w.heap.size w W := (((hb1.alloc (by omega) _).alloc (by simp; omega) _)).trans (hM.only.below (by simp; omega) (fun k hk hs => by
        rcases hs with (rfl | rfl | hs) | (rfl | rfl)
        · omega
        · omega
        · cases hs
        · omega
        · omega))
      simp only [World.size_alloc] at hd hn
      have hDW := lt_heap hd
      have hWm : Only (fun k => k = w1.heap.size + 1 + 1) W (W.putObj (w1.heap.size + 1 + 1) (.deferred none)) := only_putObj _ _ _
      have k0 := hWm.heap h1 (by omega)
      have k1 := hWm.heap h2 (by omega)
      have k1' := heap_setCell k1 0 (.int .i64 220)
      have k0' := (only1 _ (w.heap.size + 1) 0 (.int .i64 220)).heap k0 (by omega)
      rw [World.size_alloc, World.size_alloc]
      refine leaves_mark (by simp) hd ?_
      refine leaves_caught (Lib.cell_of_heap k1 0) (Lib.frozen_of_heap k1 0) ?_
      refine leaves_ret (v := .tuple #[v, .int .i64 220]) (read_results (w := w) k0' k1') ?_
      refine ⟨v, ?_, ?_, ?_⟩
      · rw [Hrd.out, hno]; rfl
      · intro l hl; rw [Hrd.out, hno] at hl; cases hl
      · exact hB0.trans ((hWm.below (by omega) (fun k hk => by omega)).trans ((only1 _ (w.heap.size + 1) 0 (.int .i64 220)).below (by have := hWm.size; omega) (fun k hk => by omega)))
end Go.Proofs.YtnlkmiieebahoaaDoor
