/- A range over a function whose rounds may panic: the law for the caller, and what an iterator owes (conditions: none). Of no program. -/
import Derived.Test.YtnlkmiieebahoaaDoorBase
set_option linter.unusedVariables false
set_option linter.unusedSimpArgs false
namespace Go.Proofs.YtnlkmiieebahoaaDoor
open Go.RowKit
variable {P : Program}

/-- HOW A ROUND ENDS, a panic too. -/
def roundPostP (P : Program) (l : Nat) (R : Ending → World → Prop) : Exit → Act → World → Prop
  | .normal, _, w => ∃ v w', (Instr.endRound l none).run P w = .ok v w' ∧ R (.returned v) w'
  | .ret, _, w => ∃ v w', (Instr.endRound l (some .ret)).run P w = .ok v w' ∧ R (.returned v) w'
  | .exit id, _, w => ∃ v w', (Instr.endRound l (some (.exit id))).run P w = .ok v w' ∧ R (.returned v) w'
  | .goto t, _, w => ∃ v w', (Instr.endRound l (some (.goto t))).run P w = .ok v w' ∧ R (.returned v) w'
  | .panic ch, a, w => a.defers = [] ∧ R (.panicked ch) w
  | .outgrown, _, _ => False

theorem stepR_round_panic {b c : Frame} {a : Act} {todo : List Item} {cs : List Frame} {w : World} {ch : List PanicEntry} {fn : Func} (hf : P.funcs[b.fn]? = some fn) (hd : a.defers = []) :
    step P (lone { b.atR a todo with mode := .panicking ch } (c :: cs) w) = .next (lone (c.raise ch) cs w) :=
  step_leave_panicked (fr := { b.atR a todo with mode := .panicking ch }) ⟨rfl, hd, fn, hf⟩

theorem roundIn_of_wpInP {F : Fence} {n : Nat} {l : Nat} {f : FuncId} {fn : Func} {tmps : Array Value} {assign body : Code} {w : World} {R : Ending → World → Prop} (hF : F.fn f) (hf : P.funcs[f]? = some fn)
    (h : assign.wpIn (F.inRound l) n P (Exit.then (fun a₁ w₁ => ∃ w₂, (Instr.beginRound l).run P w₁ = .ok () w₂ ∧ body.wpIn (F.inRound l) n P (roundPostP P l R) a₁ w₂) (fun _ _ _ => False))
      { tmps := tmps, defers := [] } w) :
    RoundIn F n P l f tmps assign body w R := by
  refine ⟨hF, fun c cs hr => ?_⟩
  let b : Frame := { (default : Frame) with fn := f, kind := .normal, roundOf := some l }
  have hb0 : Frame.round l f tmps assign body .normal = b.atR { tmps := tmps, defers := [] } [.code assign, .beginRound, .code body] := by
    simp [Frame.round, Frame.atR, b]
  have hr' : (F.inRound l).room ((c :: cs).length + 1 + n) := hr
  have hF' : (F.inRound l).fn b.fn := hF
  obtain ⟨e, a₁, w₁, hq, harr⟩ := h b [.beginRound, .code body] (c :: cs) rfl hF' hr'
  rw [← hb0] at harr
  cases e with
  | normal =>
    obtain ⟨w₂, hbr, hbody⟩ := hq
    have s1 : StepsIn (Machine.fenced P (F.inRound l)) P (lone (b.atR a₁ [.beginRound, .code body]) (c :: cs) w₁) (lone (b.atR a₁ [.code body]) (c :: cs) w₂) :=
      .one (fenced_calm (fr := b.atR a₁ [.beginRound, .code body]) hF' hr' rfl) (stepR_beginRound rfl hbr)
    obtain ⟨e₂, a₂, w₃, hq₂, harr₂⟩ := hbody b [] (c :: cs) rfl hF' hr'
    cases e₂ with
    | normal =>
      obtain ⟨v, w₄, hend, hR⟩ := hq₂
      exact ⟨.returned v, w₄, hR, (StepsIn.trans harr s1).trans (StepsIn.trans harr₂ (.one (fenced_calm (fr := b.atR a₂ []) hF' hr' rfl) (stepR_round_end rfl rfl hend)))⟩
    | ret =>
      obtain ⟨v, w₄, hend, hR⟩ := hq₂
      obtain ⟨k₁, hs⟩ := harr₂.2 rfl
      exact ⟨.returned v, w₄, hR, (StepsIn.trans harr s1).trans (StepsIn.trans hs (.one (fenced_calm (fr := b.atR a₂ (.code .ret :: k₁)) hF' hr' rfl) (stepR_round_ret rfl rfl hend)))⟩
    | exit id =>
      obtain ⟨v, w₄, hend, hR⟩ := hq₂
      obtain ⟨k₁, hk, hs⟩ := harr₂.2 rfl rfl
      exact ⟨.returned v, w₄, hR, (StepsIn.trans harr s1).trans (StepsIn.trans hs (.one (fenced_calm (fr := b.atR a₂ (.code (.exit id) :: k₁)) hF' hr' rfl) (stepR_round_exit rfl rfl hk hend)))⟩
    | goto t =>
      obtain ⟨v, w₄, hend, hR⟩ := hq₂
      obtain ⟨k₁, hk, hs⟩ := harr₂.2 rfl rfl
      exact ⟨.returned v, w₄, hR, (StepsIn.trans harr s1).trans (StepsIn.trans hs (.one (fenced_calm (fr := b.atR a₂ (.code (.goto t) :: k₁)) hF' hr' rfl) (stepR_round_goto rfl rfl hk hend)))⟩
    | panic chain =>
      obtain ⟨hd, hR⟩ := hq₂
      obtain ⟨todo, hs⟩ := harr₂
      exact ⟨.panicked chain, w₃, hR, (StepsIn.trans harr s1).trans (StepsIn.trans hs (.one (fenced_calm (fr := { b.atR a₂ todo with mode := .panicking chain }) hF' hr' (by simp [Frame.about, Frame.atR, hd])) (stepR_round_panic hf hd)))⟩
    | outgrown => exact hq₂.elim
  | exit id => exact hq.elim
  | goto t => exact hq.elim
  | ret => exact hq.elim
  | panic chain => exact hq.elim
  | outgrown => exact hq.elim

/-! ### WHAT AN ITERATOR OWES -/
/-- what lies below B, and the blocks of S, stand as they stood. -/
structure Keep (B : Nat) (S : Nat → Prop) (w w' : World) : Prop where
  os : w'.os = w.os
  tape : w'.tape = w.tape
  output : w'.output = w.output
  size : w.heap.size ≤ w'.heap.size
  block : ∀ k, k < B ∨ S k → w'.heap[k]? = w.heap[k]?
theorem Keep.refl (B : Nat) (S : Nat → Prop) (w : World) : Keep B S w w := ⟨rfl, rfl, rfl, Nat.le_refl _, fun _ _ => rfl⟩
theorem Keep.trans {B : Nat} {S : Nat → Prop} {a b c : World} (h : Keep B S a b) (k : Keep B S b c) : Keep B S a c :=
  ⟨k.os.trans h.os, k.tape.trans h.tape, k.output.trans h.output, Nat.le_trans h.size k.size, fun i hi => (k.block i hi).trans (h.block i hi)⟩
theorem Keep.of_only {B : Nat} {S T : Nat → Prop} {a b : World} (h : Only T a b) (hB : B ≤ a.heap.size) (hS : ∀ k, S k → k < a.heap.size) (hT : ∀ k, T k → ¬ k < B ∧ ¬ S k) : Keep B S a b :=
  ⟨h.os, h.tape, h.output, h.size, fun k hk => h.block k (hk.elim (fun x => Nat.lt_of_lt_of_le x hB) (hS k)) (fun ht => hk.elim (hT k ht).1 (hT k ht).2)⟩
theorem Keep.below {B : Nat} {S : Nat → Prop} {a b : World} (h : Keep B S a b) : Below B a b := ⟨h.os, h.tape, h.output, h.size, fun k hk => h.block k (.inl hk)⟩
theorem Keep.mono {B : Nat} {S T : Nat → Prop} {a b : World} (h : Keep B T a b) (hs : ∀ k, S k → T k) : Keep B S a b := ⟨h.os, h.tape, h.output, h.size, fun k hk => h.block k (hk.imp id (hs k))⟩
/-- what stands through whatever turns neither what lies below B nor the blocks of S. -/
def Stable (B : Nat) (S : Nat → Prop) (p : World → Prop) : Prop := ∀ A A', p A → Keep B S A A' → p A'
/-- the blocks of S lie at or beyond B, are there, and are none of O's. -/
def Owns (B : Nat) (O S : Nat → Prop) (w : World) : Prop := ∀ b, S b → B ≤ b ∧ b < w.heap.size ∧ ¬ O b
/-- a step that turns S and O alone: S' may hold new blocks besides. -/
structure MovesO (O S : Nat → Prop) (w : World) (S' : Nat → Prop) (w' : World) : Prop where
  only : Only (fun b => S b ∨ O b) w w'
  grows : ∀ b, S' b → S b ∨ w.heap.size ≤ b
  there : ∀ b, S' b → b < w'.heap.size
/-- a step of the owner of S. -/
structure Moves (S : Nat → Prop) (w : World) (S' : Nat → Prop) (w' : World) : Prop where
  only : Only S w w'
  grows : ∀ b, S' b → S b ∨ w.heap.size ≤ b
  there : ∀ b, S' b → b < w'.heap.size
theorem Moves.o {O S S' : Nat → Prop} {w w' : World} (h : Moves S w S' w') : MovesO O S w S' w' := ⟨h.only.mono (fun _ _ x => .inl x), h.grows, h.there⟩
theorem Moves.owns {B : Nat} {O S S' : Nat → Prop} {w w' : World} (h : Moves S w S' w') (ho : Owns B O S w) (hB : B ≤ w.heap.size) (hO : ∀ b, O b → b < w.heap.size) : Owns B O S' w' := fun b hb => by
  rcases h.grows b hb with x | x
  · obtain ⟨p, q, r⟩ := ho b x; exact ⟨p, Nat.lt_of_lt_of_le q h.only.size, r⟩
  · exact ⟨Nat.le_trans hB x, h.there b hb, fun y => absurd (hO b y) (by omega)⟩
theorem Moves.trans {S S' S'' : Nat → Prop} {w w' w'' : World} (h : Moves S w S' w') (k : Moves S' w' S'' w'') : Moves S w S'' w'' :=
  ⟨h.only.next k.only (fun i hi x => (h.grows i x).elim id (fun y => by omega)), fun b hb => (k.grows b hb).elim (fun x => h.grows b x) (fun x => .inr (Nat.le_trans h.only.size x)), k.there⟩
theorem Moves.refl {S : Nat → Prop} {w : World} (h : ∀ b, S b → b < w.heap.size) : Moves S w S w := ⟨Only.refl _ _, fun _ x => .inl x, h⟩
theorem MovesO.trans {O S S' S'' : Nat → Prop} {w w' w'' : World} (h : MovesO O S w S' w') (k : MovesO O S' w' S'' w'') : MovesO O S w S'' w'' :=
  ⟨h.only.next k.only (fun i hi x => x.elim (fun x => (h.grows i x).elim .inl (fun y => by omega)) .inr), fun b hb => (k.grows b hb).elim (fun x => h.grows b x) (fun x => .inr (Nat.le_trans h.only.size x)), k.there⟩
theorem MovesO.refl {O S : Nat → Prop} {w : World} (h : ∀ b, S b → b < w.heap.size) : MovesO O S w S w := ⟨Only.refl _ _, fun _ x => .inl x, h⟩
/-- a step of the iterator's own. -/
theorem MovesO.of_only {O T S : Nat → Prop} {w w' : World} (h : Only T w w') (ht : ∀ b, b < w.heap.size → T b → O b) (hs : ∀ b, S b → b < w.heap.size) : MovesO O S w S w' :=
  ⟨h.mono (fun k hk x => .inr (ht k hk x)), fun _ x => .inl x, fun b x => Nat.lt_of_lt_of_le (hs b x) h.size⟩

/-- A call of yield, at whatever depth. -/
def YieldW (P : Program) (l : Nat) (args : Array Value) (W : World) (R : Ending → World → Prop) : Prop := ∀ n, YieldAt Fence.wide n P l args W R
theorem YieldW.mono {l : Nat} {args : Array Value} {W : World} {R R' : Ending → World → Prop} (h : YieldW P l args W R) (hr : ∀ e w, R e w → R' e w) : YieldW P l args W R' := fun n => (h n).mono hr

/-- the caller's word on the rounds. -/
structure Rounds {α : Type} (P : Program) (B : Nat) (O : Nat → Prop) (l : Nat) (enc : Nat → α → Array Value) (xs : List α)
    (J : (Nat → Prop) → Nat → World → Prop) (Jx : (Nat → Prop) → World → Prop) (Jp : (Nat → Prop) → List PanicEntry → World → Prop) : Prop where
  stJ : ∀ S k, Stable B S (J S k)
  stX : ∀ S, Stable B S (Jx S)
  stP : ∀ S ch, Stable B S (Jp S ch)
  round : ∀ S k (x : α) W, xs[k]? = some x → B ≤ W.heap.size → Owns B O S W → J S k W → YieldW P l (enc k x) W fun e W' =>
    (e = .returned (.bool true) ∧ ∃ S', J S' (k + 1) W' ∧ Moves S W S' W') ∨ (e = .returned (.bool false) ∧ ∃ S', Jx S' W' ∧ Moves S W S' W') ∨ (∃ ch, e = .panicked ch ∧ ∃ S', Jp S' ch W' ∧ Moves S W S' W')

/-- THE ITERATOR's CONTRACT: called with yield in a world that meets 'pre' it hands xs over, one by one; O: blocks that are its own. -/
def Gives {α : Type} (P : Program) (B : Nat) (O : Nat → Prop) (g : Nat) (lb : Array Value) (enc : Nat → α → Array Value) (xs : List α) (pre : World → Prop) : Prop :=
  ∀ (l : Nat) (J : (Nat → Prop) → Nat → World → Prop) (Jx : (Nat → Prop) → World → Prop) (Jp : (Nat → Prop) → List PanicEntry → World → Prop) (S : Nat → Prop) (W : World),
    Rounds P B O l enc xs J Jx Jp → pre W → B ≤ W.heap.size → Owns B O S W → J S 0 W →
    Calls P g (#[.func (.yield l) #[] #[]] ++ lb) W fun e W' =>
      ((∃ v, e = .returned v) ∧ ∃ S', MovesO O S W S' W' ∧ (J S' xs.length W' ∨ Jx S' W')) ∨ (∃ ch, e = .panicked ch ∧ ∃ S', MovesO O S W S' W' ∧ Jp S' ch W')

/-- how a round's body ends. -/
def bodyPostR (J : (Nat → Prop) → Nat → World → Prop) (Ix : Code → (Nat → Prop) → World → Prop) (Jp : (Nat → Prop) → List PanicEntry → World → Prop) (k : Nat) (S : Nat → Prop) (W : World) : Exit → Act → World → Prop
  | .normal, _, W' => ∃ S', J S' (k + 1) W' ∧ Moves S W S' W'
  | .ret, _, W' => ∃ S', Ix .ret S' W' ∧ Moves S W S' W'
  | .exit id, _, W' => ∃ S', Ix (.exit id) S' W' ∧ Moves S W S' W'
  | .goto c, _, W' => ∃ S', Ix (.goto c) S' W' ∧ Moves S W S' W'
  | .panic ch, a, W' => a.defers = [] ∧ ∃ S', Jp S' ch W' ∧ Moves S W S' W'
  | .outgrown, _, _ => False

/-! ### CODE IN ONE FRAME -/
/-- 'wpIn' in the wide fence, of one frame's function. -/
def wpB (P : Program) (f : FuncId) (c : Code) (Q : Exit → Act → World → Prop) (a : Act) (w : World) : Prop :=
  ∀ (b : Frame) (k : List Item) (cs : List Frame), b.fn = f → b.roundOf = none →
    ∃ e a' w', Q e a' w' ∧ ArrivesIn (Machine.fenced P Fence.wide) P (lone (b.atR a (.code c :: k)) cs w) b k cs e a' w'
section
variable {f : FuncId} {Q : Exit → Act → World → Prop} {a : Act} {w : World}
theorem fencedW (m : Machine) : m.fenced P Fence.wide := fenced_wide P m
theorem wpB_of {c : Code} {n : Nat} (h : c.wpIn Fence.wide n P Q a w) : wpB P f c Q a w := fun b k cs _ hr => h b k cs hr trivial (room_wide _)
theorem wpB_seq {x y : Code} (h : wpB P f x (Exit.then (wpB P f y Q) Q) a w) : wpB P f (.seq x y) Q a w := by
  intro b k cs hb hr
  obtain ⟨e, a₁, w₁, hq, harr⟩ := h b (.code y :: k) cs hb hr
  cases e with
  | normal =>
    obtain ⟨e₂, a₂, w₂, hq₂, harr₂⟩ := hq b k cs hb hr
    exact ⟨e₂, a₂, w₂, hq₂, .of_steps (.head (fencedW _) stepR_seq harr) harr₂⟩
  | exit id => exact ⟨_, a₁, w₁, hq, .of_steps (.one (fencedW _) stepR_seq) (.pass (x := .code y) rfl (fun _ _ => .inl (by simp)) harr)⟩
  | goto l => exact ⟨_, a₁, w₁, hq, .of_steps (.one (fencedW _) stepR_seq) (.pass (x := .code y) rfl (fun _ _ => .inl (by simp)) harr)⟩
  | ret => exact ⟨_, a₁, w₁, hq, .of_steps (.one (fencedW _) stepR_seq) (.pass (x := .code y) rfl (fun _ _ => .inl (by simp)) harr)⟩
  | panic ch => exact ⟨_, a₁, w₁, hq, .of_steps (.one (fencedW _) stepR_seq) (.pass (x := .code y) rfl (fun _ _ => .inl (by simp)) harr)⟩
  | outgrown => exact ⟨_, a₁, w₁, hq, .of_steps (.one (fencedW _) stepR_seq) (.pass (x := .code y) rfl (fun _ _ => .inl (by simp)) harr)⟩
theorem wpB_seq_k {x y : Code} {n : Nat} (h : ∀ K : Act → World → Prop, (∀ a w, wpB P f y Q a w → K a w) → x.wpIn Fence.wide n P (Exit.then K Q) a w) : wpB P f (.seq x y) Q a w :=
  wpB_seq (wpB_of (n := n) (h _ fun _ _ h => h))
theorem wpB_block {id : Nat} {c : Code} (h : wpB P f c (Exit.inBlock id Q) a w) : wpB P f (.block id c) Q a w := by
  intro b k cs hb hr
  have h0 := fencedW (P := P) (lone (b.atR a (.code (.block id c) :: k)) cs w)
  obtain ⟨e, a₁, w₁, hq, harr⟩ := h b (.inBlock id :: k) cs hb hr
  cases e with
  | normal => exact ⟨.normal, a₁, w₁, hq, .head h0 stepR_block (StepsIn.trans harr (.one (fencedW _) stepR_inBlock))⟩
  | exit id' =>
    by_cases hid : id' = id
    · simp only [Exit.inBlock, hid, if_true] at hq
      exact ⟨.normal, a₁, w₁, hq, .head h0 stepR_block (harr.1 k (by simp [exitTo, hid]))⟩
    · simp only [Exit.inBlock, hid, if_false] at hq
      have this : (id == id') = false := by simp; exact fun h => hid h.symm
      have hx : exitTo id' (.inBlock id :: k) = exitTo id' k := by simp [exitTo, this]
      exact ⟨.exit id', a₁, w₁, hq, fun k' hk => .head h0 stepR_block (harr.1 k' (by rw [hx]; exact hk)),
        fun hr' hk => let ⟨k₁, h1, h2⟩ := harr.2 hr' (by rw [hx]; exact hk); ⟨k₁, h1, .head h0 stepR_block h2⟩⟩
  | goto l =>
    have hx : gotoIn l (.inBlock id :: k) = gotoIn l k := by simp [gotoIn]
    exact ⟨_, a₁, w₁, hq, fun k' hk => .head h0 stepR_block (harr.1 k' (by rw [hx]; exact hk)),
      fun hr' hk => let ⟨k₁, h1, h2⟩ := harr.2 hr' (by rw [hx]; exact hk); ⟨k₁, h1, .head h0 stepR_block h2⟩⟩
  | ret => exact ⟨_, a₁, w₁, hq, .of_steps (.one h0 stepR_block) harr⟩
  | panic ch => exact ⟨_, a₁, w₁, hq, .of_steps (.one h0 stepR_block) harr⟩
  | outgrown => exact ⟨_, a₁, w₁, hq, .of_steps (.one h0 stepR_block) harr⟩
theorem stepR_scope {b : Frame} {a : Act} {k : List Item} {cs : List Frame} {w : World} {c : Code} : step P (lone (b.atR a (.code (.scope c) :: k)) cs w) = .next (lone (b.atR a (.code c :: .inScope c :: k)) cs w) :=
  step_lone_go (by simp [stepG, stepG.exec, Frame.atR])
theorem stepR_inScope {b : Frame} {a : Act} {k : List Item} {cs : List Frame} {w : World} {c : Code} : step P (lone (b.atR a (.inScope c :: k)) cs w) = .next (lone (b.atR a k) cs w) :=
  step_lone_go (by simp [stepG, stepG.exec, Frame.atR])
theorem wpB_scope {c : Code} (h : wpB P f c (Exit.noGoto Q) a w) : wpB P f (.scope c) Q a w := by
  intro b k cs hb hr
  have h0 := fencedW (P := P) (lone (b.atR a (.code (.scope c) :: k)) cs w)
  obtain ⟨e, a₁, w₁, hq, harr⟩ := h b (.inScope c :: k) cs hb hr
  cases e with
  | normal => exact ⟨.normal, a₁, w₁, hq, .head h0 stepR_scope (StepsIn.trans harr (.one (fencedW _) stepR_inScope))⟩
  | exit id =>
    have hx : exitTo id (.inScope c :: k) = exitTo id k := by simp [exitTo]
    exact ⟨.exit id, a₁, w₁, hq, fun k' hk => .head h0 stepR_scope (harr.1 k' (by rw [hx]; exact hk)),
      fun hr' hk => let ⟨k₁, h1, h2⟩ := harr.2 hr' (by rw [hx]; exact hk); ⟨k₁, h1, .head h0 stepR_scope h2⟩⟩
  | goto l => exact hq.elim
  | ret => exact ⟨_, a₁, w₁, hq, .of_steps (.one h0 stepR_scope) harr⟩
  | panic ch => exact ⟨_, a₁, w₁, hq, .of_steps (.one h0 stepR_scope) harr⟩
  | outgrown => exact ⟨_, a₁, w₁, hq, .of_steps (.one h0 stepR_scope) harr⟩
theorem wpB_mono {c : Code} {Q' : Exit → Act → World → Prop} (h : wpB P f c Q a w) (hq : ∀ e a w, Q e a w → Q' e a w) : wpB P f c Q' a w :=
  fun b k cs hb hr => let ⟨e, a', w', q, r⟩ := h b k cs hb hr; ⟨e, a', w', hq _ _ _ q, r⟩

/-- A function's contract from its body. -/
theorem calls_of_wpB {fn : Func} {c : Code} {args : Array Value} {R : Ending → World → Prop} (hf : P.funcs[f]? = some fn) (hb : fn.body = some c)
    (h : wpB P f c (bodyPostM Fence.wide 0 P fn R) { tmps := args ++ Array.replicate (fn.ntmps - args.size) undef, defers := [] } w) : Calls P f args w R := by
  refine (callsIn_wide (n := 0)).1 ⟨trivial, fun cs hr => ?_⟩
  let b : Frame := { (default : Frame) with fn := f, kind := .normal, roundOf := none }
  have henter : Frame.enter P f args .normal =
      b.atR { tmps := args ++ Array.replicate (fn.ntmps - args.size) undef, defers := [] } [.code c] := by
    simp [Frame.enter, Frame.atR, hf, hb, b]
  obtain ⟨e, a', w', hq, harr⟩ := h b [] cs rfl rfl
  rw [← henter] at harr
  cases e with
  | normal =>
    obtain ⟨e', w'', fr', hR, hs, hfn, hl⟩ := leaves_stepsInM a'.defers .returning w' { b.atR a' [] with mode := .returning } cs rfl rfl rfl hf rfl trivial hr hq
    exact ⟨e', w'', fr', hR, ComesIn.of_steps (StepsIn.trans harr (.one (fencedW _) (stepR_end rfl))) hs, hfn, hl⟩
  | ret =>
    obtain ⟨todo, hs₀⟩ := harr.1 rfl
    obtain ⟨e', w'', fr', hR, hs, hfn, hl⟩ := leaves_stepsInM a'.defers .returning w' { b.atR a' todo with mode := .returning } cs rfl rfl rfl hf rfl trivial hr hq
    exact ⟨e', w'', fr', hR, ComesIn.of_steps hs₀ hs, hfn, hl⟩
  | panic chain =>
    obtain ⟨todo, hs₀⟩ := harr
    obtain ⟨e', w'', fr', hR, hs, hfn, hl⟩ := leaves_stepsInM a'.defers (.panicking chain) w' { b.atR a' todo with mode := .panicking chain } cs rfl rfl rfl hf rfl trivial hr hq
    exact ⟨e', w'', fr', hR, ComesIn.of_steps hs₀ hs, hfn, hl⟩
  | exit id => exact hq.elim
  | goto l => exact hq.elim
  | outgrown => exact ⟨.outgrown, w', b, hq, harr.resolve_left (by simp [b]), rfl, trivial⟩
end

/-- the statement, in one frame: the record is laid; the function is called; what follows. -/
theorem wpB_rangeFunc {f : FuncId} {n : Nat} {g : Operand} {ps : Array Tmp} {assign body : Code} {Q : Exit → Act → World → Prop} {a : Act} {w : World}
    {l : Nat} {mark : List Deferred} {w₁ : World} {d : Deferred} {w₁' : World} {gf : FuncId} {args : Array Value} {w₂ : World}
    (he : (Instr.enterLoop f a.tmps ps assign body none).run P w = .ok (l, mark) w₁)
    (hres : (resolve a.eval (rangeCall g l) 0).run P w₁ = .ok d w₁')
    (hinv : (invoke d.target d.args).run P w₁' = .ok (.enter gf args) w₂)
    (hcall : Calls P gf args w₂ (rangePost Fence.wide n P l Q { a with defers := mark ++ a.defers })) :
    wpB P f (.rangeFunc g ps assign body) Q a w := by
  intro b k cs hb hro
  rw [← hro, ← hb] at he
  have henter := stepR_rangeFunc (P := P) (b := b) (a := a) (k := k) (cs := cs) (w := w) he hres hinv
  obtain ⟨e, w₃, fr, hR, hsteps, hfn, hleave⟩ := ((callsIn_wide (n := 0)).2 hcall).2 (b.atR { a with defers := mark ++ a.defers } (.inRangeFunc l :: k) :: cs) (room_wide _)
  cases e with
  | outgrown =>
    obtain ⟨a₀, w₀, hq⟩ := hR
    exact ⟨.outgrown, a₀, w₀, hq, .inr (Outgrown.of_steps (.one henter) hsteps)⟩
  | returned v =>
    obtain ⟨jump, w₄, hend, hj⟩ := hR
    have sback : StepsIn (Machine.fenced P Fence.wide) P (lone (b.atR a (.code (.rangeFunc g ps assign body) :: k)) cs w) (lone (b.atR { a with defers := mark ++ a.defers } ((jump.map Item.code).toList ++ k)) cs w₄) := by
      refine .head (fencedW _) henter (StepsIn.trans hsteps (.head (fencedW _) ?_ (.one (fencedW _) (stepR_endRangeFunc hend))))
      rw [← finish_atR_inRangeFunc l v]; exact step_leave_returned hleave
    cases jump with
    | none => exact ⟨.normal, _, w₄, hj, sback⟩
    | some c =>
      obtain ⟨e', a'', w₅, hq, harr⟩ := hj b k cs hro trivial (room_wide _)
      exact ⟨e', a'', w₅, hq, .of_steps sback harr⟩
  | panicked chain =>
    refine ⟨.panic chain, _, w₃, hR, .inRangeFunc l :: k, .head (fencedW _) henter (StepsIn.trans hsteps (.one (fencedW _) ?_))⟩
    rw [← Frame.raise_atR]; exact step_leave_panicked hleave

theorem only_putObj (W : World) (l : Nat) (o : Obj) : Only (fun k => k = l) W (W.putObj l o) :=
  ⟨rfl, rfl, rfl, by simp, fun k _ hk => World.putObj_heap_other hk⟩
theorem roundIn_any {l : Nat} {f : FuncId} {tmps : Array Value} {assign body : Code} {w : World} {R : Ending → World → Prop} {n m : Nat} (h : RoundIn Fence.wide n P l f tmps assign body w R) : RoundIn Fence.wide m P l f tmps assign body w R :=
  ⟨h.1, fun c cs _ => h.2 c cs (room_wide _)⟩

/-- S, the block for the rounds' deferred calls, the record. -/
def plus (S : Nat → Prop) (D : Nat) : Nat → Prop := fun b => S b ∨ b = D ∨ b = D + 1
theorem Keep.putObj {B : Nat} {S : Nat → Prop} (W : World) (l : Nat) (o : Obj) (h1 : B ≤ l) (h2 : ¬ S l) : Keep B S W (W.putObj l o) :=
  ⟨rfl, rfl, rfl, by simp, fun k hk => World.putObj_heap_other (fun e => by subst e; exact hk.elim (fun x => by omega) h2)⟩

/-- **THE LAW FOR THE CALLER.** -/
theorem wpB_range {α : Type} {f : FuncId} {fn : Func} (hf : P.funcs[f]? = some fn) {g : Operand} {ps : Array Tmp} {assign body : Code} {Q : Exit → Act → World → Prop} {a : Act} {w : World} {n : Nat}
    {gf : Nat} {lb : Array Value} (hg : a.eval g = .func (.func gf) #[] lb) (eg : ∀ args w, (callFunc gf args).run P w = .ok (.enter gf args) w)
    {B : Nat} {O : Nat → Prop} {enc : Nat → α → Array Value} {xs : List α} {pre : World → Prop} (hseq : Gives P B O gf lb enc xs pre) (hps : ∀ k x, (enc k x).size = ps.size)
    (hB : B ≤ w.heap.size) (hO : ∀ b, O b → b < w.heap.size) (hpre : ∀ w', Only (fun _ => False) w w' → pre w')
    (J : (Nat → Prop) → Nat → World → Prop) (Ix : Code → (Nat → Prop) → World → Prop) (Jp : (Nat → Prop) → List PanicEntry → World → Prop) (A : (Nat → Prop) → Nat → Act → World → Prop)
    (stJ : ∀ S k, Stable B S (J S k)) (stX : ∀ c S, Stable B S (Ix c S)) (stP : ∀ S ch, Stable B S (Jp S ch)) (stA : ∀ S k a, Stable B S (A S k a))
    (S : Nat → Prop) (hS : Owns B O S w) (h0 : J S 0 w)
    (hassign : ∀ (l : Nat) (S : Nat → Prop) (k : Nat) (x : α) (W : World) (K : Act → World → Prop), xs[k]? = some x → w.heap.size + 1 < W.heap.size → Owns B O S W → J S k W → (∀ a₁ S' W', A S' k a₁ W' → Moves S W S' W' → K a₁ W') →
      assign.wpIn (Fence.wide.inRound l) n P (Exit.then K (fun _ _ _ => False)) { tmps := (ps.zip (enc k x)).foldl (fun t (p, v) => t.setIfInBounds p v) a.tmps, defers := [] } W)
    (hbody : ∀ (l : Nat) (S : Nat → Prop) (k : Nat) (x : α) (a₁ : Act) (W : World), xs[k]? = some x → w.heap.size + 1 < W.heap.size → Owns B O S W → A S k a₁ W → body.wpIn (Fence.wide.inRound l) n P (bodyPostR J Ix Jp k S W) a₁ W)
    (hdone : ∀ (S' : Nat → Prop) (W : World), MovesO O S w S' W → J S' xs.length W → W.heap[w.heap.size]? = some (.deferred (some [])) → ¬ S' w.heap.size → Q .normal { a with defers := { target := .collected w.heap.size, args := #[] } :: a.defers } W)
    (hstop : ∀ (c : Code) (S' : Nat → Prop) (W : World), MovesO O S w S' W → Ix c S' W → W.heap[w.heap.size]? = some (.deferred (some [])) → ¬ S' w.heap.size → c.wpIn Fence.wide n P Q { a with defers := { target := .collected w.heap.size, args := #[] } :: a.defers } W)
    (hpanic : ∀ (ch : List PanicEntry) (S' : Nat → Prop) (W : World), MovesO O S w S' W → Jp S' ch W → W.heap[w.heap.size]? = some (.deferred (some [])) → ¬ S' w.heap.size → Q (.panic ch) { a with defers := { target := .collected w.heap.size, args := #[] } :: a.defers } W) :
    wpB P f (.rangeFunc g ps assign body) Q a w := by
  obtain ⟨D, hD⟩ : ∃ D, D = w.heap.size := ⟨_, rfl⟩
  obtain ⟨rec, hrec⟩ : ∃ rec : LoopState → Option Code → Loop, rec = fun st pe => { state := st, pending := pe, fn := f, tmps := a.tmps, params := ps, assign, body, defers := D } := ⟨_, rfl⟩
  obtain ⟨W1, hW1⟩ : ∃ W1, (w.alloc (.deferred (some []))).alloc (.loop (rec .ready none)) = W1 := ⟨_, rfl⟩
  have hL1 : W1.heap[D + 1]? = some (.loop (rec .ready none)) := by
    rw [← hW1, hD]; have := World.alloc_heap_new (w.alloc (.deferred (some []))) (.loop (rec .ready none)); rwa [World.size_alloc] at this
  have hK1 : W1.heap[D]? = some (.deferred (some [])) := by
    rw [← hW1, hD]; exact (Below.heap_alloc _ _ _ (by simp)).trans (World.alloc_heap_new w _)
  have ho1 : ∀ T, Only T w W1 := fun T => by rw [← hW1]; exact ((Only.refl _ _).alloc _).alloc _
  have hs1 : W1.heap.size = D + 2 := by rw [← hW1, hD]; simp
  have hS' : ∀ b, S b → b < D := fun b hb => by rw [hD]; exact (hS b hb).2.1
  refine wpB_rangeFunc (n := n) (l := D + 1) (mark := [{ target := .collected D, args := #[] }]) (w₁ := W1) (d := { target := .fn (.func gf) lb, args := #[.func (.yield (D + 1)) #[] #[]] }) (w₁' := W1) (gf := gf)
    (args := #[.func (.yield (D + 1)) #[] #[]] ++ lb) (w₂ := W1) ?_ ?_ ?_ ?_
  · rw [← hW1, hrec, hD]; exact run_enterLoop_outer _ _ _ _ _
  · simp only [resolve, hg]
    simp [go_sem]
  · simp [invoke, go_sem, eg]
  · refine (hseq (D + 1)
      (fun T k W => ∃ S, T = plus S D ∧ J S k W ∧ W.heap[D + 1]? = some (.loop (rec .ready none)) ∧ W.heap[D]? = some (.deferred (some [])) ∧ ¬ S D ∧ ¬ S (D + 1))
      (fun T W => ∃ S c, T = plus S D ∧ Ix c S W ∧ W.heap[D + 1]? = some (.loop (rec .done (some c))) ∧ W.heap[D]? = some (.deferred (some [])) ∧ ¬ S D ∧ ¬ S (D + 1))
      (fun T ch W => ∃ S, T = plus S D ∧ Jp S ch W ∧ W.heap[D]? = some (.deferred (some [])) ∧ ¬ S D)
      (plus S D) W1 ⟨?_, ?_, ?_, ?_⟩ (hpre W1 (ho1 _)) (by omega) ?_ ⟨S, rfl, stJ S 0 w W1 h0 ?_, hL1, hK1, fun x => by have := hS' D x; omega, fun x => by have := hS' _ x; omega⟩).mono ?_
    · rintro T k A A' ⟨S, rfl, h1, h2, h3, h4⟩ hk
      exact ⟨S, rfl, stJ S k A A' h1 (hk.mono (fun _ x => .inl x)), (hk.block _ (.inr (.inr (.inr rfl)))).trans h2, (hk.block _ (.inr (.inr (.inl rfl)))).trans h3, h4⟩
    · rintro T A A' ⟨S, c, rfl, h1, h2, h3, h4⟩ hk
      exact ⟨S, c, rfl, stX c S A A' h1 (hk.mono (fun _ x => .inl x)), (hk.block _ (.inr (.inr (.inr rfl)))).trans h2, (hk.block _ (.inr (.inr (.inl rfl)))).trans h3, h4⟩
    · rintro T ch A A' ⟨S, rfl, h1, h3, h4⟩ hk
      exact ⟨S, rfl, stP S ch A A' h1 (hk.mono (fun _ x => .inl x)), (hk.block _ (.inr (.inr (.inl rfl)))).trans h3, h4⟩
    · -- ONE ROUND
      rintro T k x W hx hBW hT ⟨S, rfl, hJ, hL, hK, hnD, hnL⟩ m
      have hlt : D + 1 < W.heap.size := lt_heap hL
      have hlt0 : D < W.heap.size := lt_heap hK
      have hown : Owns B O S W := fun b hb => hT b (.inl hb)
      have hy := run_yield (P := P) (args := enc k x) hL (by rw [hrec]; exact hps k x)
      rw [hrec] at hy
      refine ⟨f, _, assign, body, hy, roundIn_any (n := n) (roundIn_of_wpInP (fn := fn) trivial hf ?_)⟩
      refine hassign (D + 1) S k x W _ hx (by omega) hown hJ fun a₁ S1 Wa hA hM => ?_
      have hLa : Wa.heap[D + 1]? = some (.loop (rec .ready none)) := hM.only.heap hL hnL
      have hKa : Wa.heap[D]? = some (.deferred (some [])) := hM.only.heap hK hnD
      have hnL1 : ¬ S1 (D + 1) := fun x => (hM.grows _ x).elim hnL (fun y => by omega)
      have hnD1 : ¬ S1 D := fun x => (hM.grows _ x).elim hnD (fun y => by omega)
      have hlta : D + 1 < Wa.heap.size := lt_heap hLa
      refine ⟨_, run_beginRound hLa (by rw [hrec]), ?_⟩
      have hlb : (Wa.putObj (D + 1) (.loop { rec .ready none with state := .busy })).heap[D + 1]? = some (.loop { rec .ready none with state := .busy }) := World.putObj_heap_same hlta
      have hkb : (Wa.putObj (D + 1) (.loop { rec .ready none with state := .busy })).heap[D]? = some (.deferred (some [])) := (World.putObj_heap_other (by omega)).trans hKa
      have hwb : (Wa.putObj (D + 1) (.loop { rec .ready none with state := .busy })).heap.size = Wa.heap.size := by simp
      have hob : Only (fun k => k = D + 1) Wa (Wa.putObj (D + 1) (.loop { rec .ready none with state := .busy })) := only_putObj _ _ _
      have hAb := stA S1 k a₁ Wa _ hA (Keep.putObj (B := B) (S := S1) Wa (D + 1) (.loop { rec .ready none with state := .busy }) (by omega) hnL1)
      generalize hWb : Wa.putObj (D + 1) (.loop { rec .ready none with state := .busy }) = Wb at *
      have hownb : Owns B O S1 Wb := fun b hb => by
        rcases hM.grows b hb with y | y
        · obtain ⟨p, q, r⟩ := hown b y; exact ⟨p, by rw [hwb]; exact hM.there b hb, r⟩
        · refine ⟨by omega, by rw [hwb]; exact hM.there b hb, fun z => ?_⟩
          have := hO b z; omega
      refine wpIn_mono (hbody (D + 1) S1 k x a₁ Wb hx (by omega) hownb hAb) ?_
      -- THE ROUND'S END
      have fin : ∀ (S2 : Nat → Prop) (W3 : World) (o : Obj), Moves S1 Wb S2 W3 → W3.heap[D + 1]? = some (.loop { rec .ready none with state := .busy }) ∧ W3.heap[D]? = some (.deferred (some [])) ∧ ¬ S2 D ∧ ¬ S2 (D + 1) ∧
          Moves (plus S D) W (plus S2 D) W3 ∧ Moves (plus S D) W (plus S2 D) (W3.putObj (D + 1) o) ∧ Keep B S2 W3 (W3.putObj (D + 1) o) := fun S2 W3 o hM2 => by
        have h1 := hM2.only.heap hlb hnL1
        have h2 := hM2.only.heap hkb hnD1
        have g : ∀ b, S2 b → S b ∨ W.heap.size ≤ b := fun b hb => by
          rcases hM2.grows b hb with y | y
          · exact hM.grows b y
          · have := hM.only.size; exact .inr (by omega)
        have n1 : ¬ S2 D := fun x => (g _ x).elim hnD (fun y => by omega)
        have n2 : ¬ S2 (D + 1) := fun x => (g _ x).elim hnL (fun y => by omega)
        have o1 : Only (plus S D) W W3 := by
          refine Only.next (Only.next (hM.only.mono (fun _ _ x => .inl x)) hob (fun i _ e => .inr (.inr e))) hM2.only (fun i hi x => ?_)
          rcases hM.grows i x with y | y
          · exact .inl y
          · omega
        have l3 := lt_heap h1
        have m1 : Moves (plus S D) W (plus S2 D) W3 := ⟨o1, fun b hb => by
            rcases hb with y | y
            · exact (g b y).imp .inl id
            · exact .inl (.inr y), fun b hb => by
            rcases hb with y | rfl | rfl
            · exact hM2.there b y
            · omega
            · exact l3⟩
        refine ⟨h1, h2, n1, n2, m1, ⟨Only.next o1 (only_putObj _ _ _) (fun i _ e => .inr (.inr e)), m1.grows, fun b hb => by rw [World.putObj_size]; exact m1.there b hb⟩, Keep.putObj _ _ _ (by omega) n2⟩
      rintro e a3 W3 hp
      cases e with
      | normal =>
        obtain ⟨S2, hJ2, hM2⟩ := hp
        obtain ⟨h1, h2, n1, n2, _, m2, k2⟩ := fin S2 W3 (.loop (rec .ready none)) hM2
        have he := run_endRound (P := P) none h1
        refine ⟨_, _, he, .inl ⟨rfl, plus S2 D, ⟨S2, rfl, ?_, ?_, ?_, n1, n2⟩, ?_⟩⟩
        · exact stJ S2 (k + 1) _ _ hJ2 (by rw [hrec] at k2 ⊢; exact k2)
        · rw [World.putObj_heap_same (lt_heap h1)]; rw [hrec]; rfl
        · exact (World.putObj_heap_other (by omega)).trans h2
        · rw [hrec] at m2 ⊢; exact m2
      | ret =>
        obtain ⟨S2, hJ2, hM2⟩ := hp
        obtain ⟨h1, h2, n1, n2, _, m2, k2⟩ := fin S2 W3 (.loop (rec .done (some .ret))) hM2
        have he := run_endRound (P := P) (some .ret) h1
        refine ⟨_, _, he, .inr (.inl ⟨rfl, plus S2 D, ⟨S2, .ret, rfl, ?_, ?_, ?_, n1, n2⟩, ?_⟩)⟩
        · exact stX .ret S2 _ _ hJ2 (by rw [hrec] at k2 ⊢; exact k2)
        · rw [World.putObj_heap_same (lt_heap h1)]; rw [hrec]; rfl
        · exact (World.putObj_heap_other (by omega)).trans h2
        · rw [hrec] at m2 ⊢; exact m2
      | exit id =>
        obtain ⟨S2, hJ2, hM2⟩ := hp
        obtain ⟨h1, h2, n1, n2, _, m2, k2⟩ := fin S2 W3 (.loop (rec .done (some (.exit id)))) hM2
        have he := run_endRound (P := P) (some (.exit id)) h1
        refine ⟨_, _, he, .inr (.inl ⟨rfl, plus S2 D, ⟨S2, .exit id, rfl, ?_, ?_, ?_, n1, n2⟩, ?_⟩)⟩
        · exact stX (.exit id) S2 _ _ hJ2 (by rw [hrec] at k2 ⊢; exact k2)
        · rw [World.putObj_heap_same (lt_heap h1)]; rw [hrec]; rfl
        · exact (World.putObj_heap_other (by omega)).trans h2
        · rw [hrec] at m2 ⊢; exact m2
      | goto c =>
        obtain ⟨S2, hJ2, hM2⟩ := hp
        obtain ⟨h1, h2, n1, n2, _, m2, k2⟩ := fin S2 W3 (.loop (rec .done (some (.goto c)))) hM2
        have he := run_endRound (P := P) (some (.goto c)) h1
        refine ⟨_, _, he, .inr (.inl ⟨rfl, plus S2 D, ⟨S2, .goto c, rfl, ?_, ?_, ?_, n1, n2⟩, ?_⟩)⟩
        · exact stX (.goto c) S2 _ _ hJ2 (by rw [hrec] at k2 ⊢; exact k2)
        · rw [World.putObj_heap_same (lt_heap h1)]; rw [hrec]; rfl
        · exact (World.putObj_heap_other (by omega)).trans h2
        · rw [hrec] at m2 ⊢; exact m2
      | panic ch =>
        obtain ⟨hd, S2, hJ2, hM2⟩ := hp
        obtain ⟨h1, h2, n1, n2, m1, _, _⟩ := fin S2 W3 (.loop (rec .ready none)) hM2
        exact ⟨hd, .inr (.inr ⟨ch, rfl, plus S2 D, ⟨S2, rfl, hJ2, h2, n1⟩, m1⟩)⟩
      | outgrown => exact hp.elim
    · rintro b (hb | rfl | rfl)
      · have := hS b hb; exact ⟨this.1, by have := hS' b hb; omega, this.2.2⟩
      · exact ⟨by omega, by omega, fun x => by have := hO _ x; omega⟩
      · exact ⟨by omega, by omega, fun x => by have := hO _ x; omega⟩
    · exact Keep.of_only (T := fun _ => False) (ho1 _) hB (fun k hk => by have := hS' k hk; omega) (fun _ h => h.elim)
    · -- BEHIND THE ITERATOR
      have back : ∀ (S2 : Nat → Prop) (W' : World) (o : Obj), MovesO O (plus S D) W1 (plus S2 D) W' → MovesO O S w S2 W' ∧ MovesO O S w S2 (W'.putObj (D + 1) o) := fun S2 W' o h => by
        have ho : Only (fun b => S b ∨ O b) w W' := (ho1 _).next h.only (fun i hi x => by
          rcases x with (y | y | y) | y
          · exact .inl y
          · omega
          · omega
          · exact .inr y)
        have hg : ∀ b, S2 b → S b ∨ w.heap.size ≤ b := fun b hb => by
          rcases h.grows b (.inl hb) with (y | y | y) | y
          · exact .inl y
          · exact .inr (by omega)
          · exact .inr (by omega)
          · exact .inr (by omega)
        exact ⟨⟨ho, hg, fun b hb => h.there b (.inl hb)⟩, ⟨ho.next (only_putObj _ _ _) (fun i hi e => by omega), hg, fun b hb => by rw [World.putObj_size]; exact h.there b (.inl hb)⟩⟩
      rintro e W' (⟨⟨v, rfl⟩, T, hM, hT⟩ | ⟨ch, rfl, T, hM, hT⟩)
      · rcases hT with ⟨S2, rfl, hJ2, hL2, hK2, hn, hnl⟩ | ⟨S2, c, rfl, hJ2, hL2, hK2, hn, hnl⟩
        · refine ⟨none, _, by have := run_endLoop (P := P) hL2 (by rw [hrec]; simp); rw [hrec] at this; exact this, ?_⟩
          have hbk := (back S2 W' (.loop { state := .exhausted, pending := none, fn := f, tmps := a.tmps, params := ps, assign := assign, body := body, defers := D }) hM).2
          subst hD
          exact hdone S2 _ hbk (stJ _ _ _ _ hJ2 (Keep.putObj _ _ _ (by omega) hnl)) ((World.putObj_heap_other (by omega)).trans hK2) hn
        · refine ⟨some c, _, by have := run_endLoop (P := P) hL2 (by rw [hrec]; simp); rw [hrec] at this; exact this, ?_⟩
          have hbk := (back S2 W' (.loop { state := .exhausted, pending := some c, fn := f, tmps := a.tmps, params := ps, assign := assign, body := body, defers := D }) hM).2
          subst hD
          exact hstop c S2 _ hbk (stX _ _ _ _ hJ2 (Keep.putObj _ _ _ (by omega) hnl)) ((World.putObj_heap_other (by omega)).trans hK2) hn
      · obtain ⟨S2, rfl, hJ2, hK2, hn⟩ := hT
        have hbk := (back S2 W' (.loop (rec .ready none)) hM).1
        subst hD
        exact hpanic ch S2 _ hbk hJ2 hK2 hn

/-- leaving with one mark. -/
theorem leaves_mark {n : Nat} {fn : Func} {tmps : Array Value} {R : Ending → World → Prop} {D : Nat} {ds : List Deferred} {u : FrameMode} {W : World} (hu : u ≠ .run) (h : W.heap[D]? = some (.deferred (some [])))
    (hr : LeavesInM Fence.wide n P fn tmps R ds u (W.putObj D (.deferred none))) : LeavesInM Fence.wide n P fn tmps R ({ target := .collected D, args := #[] } :: ds) u W :=
  ⟨hu, .inl ⟨D, _, rfl, run_takeDeferred h, hr⟩⟩
theorem leaves_ret {n : Nat} {fn : Func} {tmps : Array Value} {R : Ending → World → Prop} {W : World} {v : Value} (hv : (results fn tmps).run P W = .ok v W) (hr : R (.returned v) W) : LeavesInM Fence.wide n P fn tmps R [] .returning W := ⟨v, hv, hr⟩
theorem leaves_panic {n : Nat} {fn : Func} {tmps : Array Value} {R : Ending → World → Prop} {W : World} {ch : List PanicEntry} (hr : R (.panicked ch) W) : LeavesInM Fence.wide n P fn tmps R [] (.panicking ch) W := hr
theorem wpB_seq_label {f : FuncId} {Q : Exit → Act → World → Prop} {a : Act} {w : World} {l : Nat} {y : Code} (h : wpB P f y Q a w) : wpB P f (.seq (.label l) y) Q a w :=
  wpB_seq (wpB_of (n := 0) (wpIn_wide.2 (wp_label h)))
/-- 'S', and one block more. -/
def plus1 (S : Nat → Prop) (b : Nat) : Nat → Prop := fun k => S k ∨ k = b
theorem Keep.rest1 {B b : Nat} {S : Nat → Prop} {A A' : World} (h : Keep B (plus1 S b) A A') : Keep B S A A' := h.mono (fun _ x => .inl x)
theorem Keep.one1 {B b : Nat} {S : Nat → Prop} {A A' : World} (h : Keep B (plus1 S b) A A') {o : Obj} (ho : A.heap[b]? = some o) : A'.heap[b]? = some o := (h.block b (.inr (.inr rfl))).trans ho
theorem owns_later {B : Nat} {O S : Nat → Prop} {A A' : World} (h : Owns B O S A) (hs : A.heap.size ≤ A'.heap.size) : Owns B O S A' := fun b hb => ⟨(h b hb).1, Nat.lt_of_lt_of_le (h b hb).2.1 hs, (h b hb).2.2⟩
theorem Moves.plus1 {S S' : Nat → Prop} {w w' : World} {b : Nat} (h : Moves S w S' w') (hb : b < w.heap.size) : Moves (plus1 S b) w (plus1 S' b) w' :=
  ⟨h.only.mono (fun _ _ x => .inl x), fun k hk => hk.elim (fun x => (h.grows k x).imp .inl id) (fun x => .inl (.inr x)), fun k hk => hk.elim (h.there k) (fun x => by subst x; exact Nat.lt_of_lt_of_le hb h.only.size)⟩
theorem MovesO.outer {O O' S S' : Nat → Prop} {w w3 A : World} {b : Nat} (hb : w.heap.size ≤ b) (h0 : Only (fun _ => False) w w3) (h : MovesO O' (plus1 S b) w3 (plus1 S' b) A) (hO : ∀ b, O' b → w.heap.size ≤ b) : MovesO O S w S' A :=
  ⟨(h0.mono (fun _ _ x => x.elim)).next h.only (fun i hi x => by
    rcases x with (y | y) | y
    · exact .inl y
    · omega
    · have := hO i y; omega), fun k hk => by
    rcases h.grows k (.inl hk) with (y | y) | y
    · exact .inl y
    · exact .inr (by omega)
    · exact .inr (Nat.le_trans h0.size y), fun k hk => h.there k (.inl hk)⟩
theorem MovesO.put {O S S' : Nat → Prop} {w A : World} {D : Nat} (h : MovesO O S w S' A) (hD : w.heap.size ≤ D) (o : Obj) : MovesO O S w S' (A.putObj D o) :=
  ⟨h.only.next (only_putObj _ _ _) (fun i hi e => by omega), h.grows, fun b hb => by rw [World.putObj_size]; exact h.there b hb⟩
end Go.Proofs.YtnlkmiieebahoaaDoor
