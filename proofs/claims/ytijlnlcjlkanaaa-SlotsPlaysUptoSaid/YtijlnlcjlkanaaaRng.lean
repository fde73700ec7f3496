/- A range over a function whose loop variables are boxed or slots, and which may be left by a break: one goal behind it. It bears no function of the program. -/
import Derived.Test.YtijlnlcjlkanaaaProg
import Derived.RangeFuncNested
import Derived.RangeFuncBox
set_option linter.unusedVariables false
namespace Go.Proofs.Ytijlnlcjlkanaaa.Rng
open Go.RowKit
variable {F : Fence} {n : Nat} {P : Program}
/-- The loop's variables, where the first lies in a box of its own. -/
def Ax {α : Type} (bx : α → Array Value) (T : TypeId) (f : Array Value → α → Nat → Array Value) (lo : Nat) (tm : Array Value) (x : α) (a' : Act) (W : World) : Prop :=
  ∃ Bx, lo ≤ Bx ∧ W.heap[Bx]? = some (.cells (bx x) T (0, 0)) ∧ a' = { tmps := f tm x Bx, defers := [] }
theorem ax_own {α : Type} {bx : α → Array Value} {T : TypeId} {f : Array Value → α → Nat → Array Value} {lo B : Nat} {tm : Array Value} (x : α) (a' : Act) : OwnFrom B (fun (_ : Unit) W => Ax bx T f lo tm x a' W) := by
  rintro s W W' row ⟨Bx, h1, h2, h3⟩ hg hr
  refine ⟨Bx, h1, ?_, h3⟩
  refine (hg.block Bx (Array.getElem?_eq_some_iff.1 h2).1 ?_).trans h2
  intro e
  obtain ⟨_, o, ho, hc⟩ := hr Bx e.symm
  rw [h2] at ho
  cases ho
  cases hc
/-- Outside every round: left by its end, or by a break. -/
theorem range_break {α : Type} {g : Operand} {ps : Array Tmp} {assign body : Code} {Q : Exit → Act → World → Prop} {a : Act} {w : World} (id : Nat)
    (hro : F.round = none) (h1 : 1 ≤ n) {gf : Nat} {lb : Array Value} (hg : a.eval g = .func (.func gf) #[] lb) (hFg : F.fn gf) (eg : ∀ args w, (callFunc gf args).run P w = .ok (.enter gf args) w)
    {encs : α → Array Value} {Kp : World → World → Prop} {S Sp : List α → Prop} {N : Nat} (hseq : SeqStopsK F (n - 1) P gf lb encs Kp S Sp N w)
    (hKt : ∀ {A B C : World}, Kp A B → Kp B C → Kp A C) (hKb : ∀ (W : World) (l : Nat) (o o' : Obj), w.heap.size ≤ l → W.heap[l]? = some o → o.isCells = false → o.isWalk = false → Kp W (W.putObj l o')) (hps : ∀ x, (encs x).size = ps.size)
    (I X : List α → World → Prop) (hI : OwnFrom w.heap.size I) (hX : OwnFrom w.heap.size X) (h0 : I [] w) (bx : α → Array Value) (T : TypeId) (f : Array Value → α → Nat → Array Value) (lo : Nat)
    (hassign : ∀ (l : Nat) (pre : List α) (x : α) (W : World) (K : Act → World → Prop), I pre W → (∀ Bx W', KeepsFrom w.heap.size W W' → Kp W W' → I pre W' → lo ≤ Bx → W'.heap[Bx]? = some (.cells (bx x) T (0, 0)) → K { tmps := f a.tmps x Bx, defers := [] } W') →
      assign.wpIn (F.inRound l) (n - 1 - 1) P (Exit.then K (fun _ _ _ => False)) { tmps := (ps.zip (encs x)).foldl (fun t (p, v) => t.setIfInBounds p v) a.tmps, defers := [] } W)
    (hbody : ∀ (l : Nat) (pre : List α) (x : α) (Bx : Nat) (W : World), w.heap.size ≤ l → (∃ r, W.heap[l]? = some (.loop r)) → I pre W → lo ≤ Bx → W.heap[Bx]? = some (.cells (bx x) T (0, 0)) → pre.length < N →
      body.wpIn (F.inRound l) (n - 1 - 1) P (ownPostG w.heap.size Kp I (fun c pre W => c = .exit id ∧ X pre W) (pre ++ [x]) W) { tmps := f a.tmps x Bx, defers := [] } W)
    (hq : ∀ a W, Q .normal a W → Q (.exit id) a W) (Fin : World → Prop) (hd : ∀ xs W, S xs → I xs W → Fin W) (hs : ∀ pre W, Sp pre → X pre W → Fin W)
    (rest : ∀ (D : Nat) (W : World), w.heap.size ≤ D → Fin W → W.heap[D]? = some (.deferred (some [])) → Q .normal { a with defers := { target := .collected D, args := #[] } :: a.defers } W) :
    (Code.rangeFunc g ps assign body).wpIn F n P Q a w := by
  refine wpIn_rangeFunc_ownH hro h1 hg hFg eg hseq hKt hKb (Below.refl _ _) hps I (fun c pre W => c = .exit id ∧ X pre W) hI (fun c => OwnFrom.and (fun s W W' row hs hg hr => hs) hX) h0 (Ax bx T f lo a.tmps) ax_own ?_ ?_ ?_ ?_
  · intro l pre x W K hi hK
    exact hassign l pre x W K hi fun Bx W' h1 h2 h3 h4 h5 => hK _ _ h1 h2 h3 ⟨Bx, h4, h5, rfl⟩
  · rintro l pre x a' W hl hr hi ⟨Bx, h4, h5, rfl⟩ hlt
    exact hbody l pre x Bx W hl hr hi h4 h5 hlt
  · intro D xs W hD hS hi hdf
    exact rest D W hD (hd xs W hS hi) hdf
  · rintro D c pre W hD hSp ⟨rfl, hx⟩ hdf
    have := hq _ _ (rest D W hD (hs pre W hSp hx) hdf)
    exact wpIn_exit this
/-- In a round: left by its end, or by a break. -/
theorem range_break_in {α : Type} {g : Operand} {ps : Array Tmp} {assign body : Code} {Q : Exit → Act → World → Prop} {a : Act} {w : World} (id : Nat)
    {l₀ : Nat} {r₀ : Loop} (hro : F.round = some l₀) (hl₀ : w.heap[l₀]? = some (.loop r₀)) (h1 : 1 ≤ n) {gf : Nat} {lb : Array Value} (hg : a.eval g = .func (.func gf) #[] lb) (hFg : F.fn gf) (eg : ∀ args w, (callFunc gf args).run P w = .ok (.enter gf args) w)
    {encs : α → Array Value} {Kp : World → World → Prop} {S Sp : List α → Prop} {N : Nat} (hseq : SeqStopsK F (n - 1) P gf lb encs Kp S Sp N w)
    (hKt : ∀ {A B C : World}, Kp A B → Kp B C → Kp A C) (hKb : ∀ (W : World) (l : Nat) (o o' : Obj), w.heap.size ≤ l → W.heap[l]? = some o → o.isCells = false → o.isWalk = false → Kp W (W.putObj l o')) (hps : ∀ x, (encs x).size = ps.size)
    (I X : List α → World → Prop) (hI : OwnFrom w.heap.size I) (hX : OwnFrom w.heap.size X) (h0 : I [] w) (bx : α → Array Value) (T : TypeId) (f : Array Value → α → Nat → Array Value) (lo : Nat)
    (hassign : ∀ (l : Nat) (pre : List α) (x : α) (W : World) (K : Act → World → Prop), I pre W → (∀ Bx W', KeepsFrom w.heap.size W W' → Kp W W' → I pre W' → lo ≤ Bx → W'.heap[Bx]? = some (.cells (bx x) T (0, 0)) → K { tmps := f a.tmps x Bx, defers := [] } W') →
      assign.wpIn (F.inRound l) (n - 1 - 1) P (Exit.then K (fun _ _ _ => False)) { tmps := (ps.zip (encs x)).foldl (fun t (p, v) => t.setIfInBounds p v) a.tmps, defers := [] } W)
    (hbody : ∀ (l : Nat) (pre : List α) (x : α) (Bx : Nat) (W : World), w.heap.size ≤ l → (∃ r, W.heap[l]? = some (.loop r)) → I pre W → lo ≤ Bx → W.heap[Bx]? = some (.cells (bx x) T (0, 0)) → pre.length < N →
      body.wpIn (F.inRound l) (n - 1 - 1) P (ownPostG w.heap.size Kp I (fun c pre W => c = .exit id ∧ X pre W) (pre ++ [x]) W) { tmps := f a.tmps x Bx, defers := [] } W)
    (hq : ∀ a W, Q .normal a W → Q (.exit id) a W) (Fin : World → Prop) (hd : ∀ xs W, S xs → I xs W → Fin W) (hs : ∀ pre W, Sp pre → X pre W → Fin W)
    (rest : ∀ (W : World), Fin W → Q .normal a W) :
    (Code.rangeFunc g ps assign body).wpIn F n P Q a w := by
  refine wpIn_rangeFunc_ownN hro hl₀ h1 hg hFg eg hseq hKt hKb (Below.refl _ _) hps I (fun c pre W => c = .exit id ∧ X pre W) hI (fun c => OwnFrom.and (fun s W W' row hs hg hr => hs) hX) h0 (Ax bx T f lo a.tmps) ax_own ?_ ?_ ?_ ?_
  · intro l pre x W K hi hK
    exact hassign l pre x W K hi fun Bx W' h1 h2 h3 h4 h5 => hK _ _ h1 h2 h3 ⟨Bx, h4, h5, rfl⟩
  · rintro l pre x a' W hl hr hi ⟨Bx, h4, h5, rfl⟩ hlt
    exact hbody l pre x Bx W hl hr hi h4 h5 hlt
  · intro xs W hS hi
    exact rest W (hd xs W hS hi)
  · rintro c pre W hSp ⟨rfl, hx⟩
    exact wpIn_exit (hq _ _ (rest W (hs pre W hSp hx)))
end Go.Proofs.Ytijlnlcjlkanaaa.Rng
