/- A region inside a round of a range over a function, walked as anywhere: where no operation is a defer statement. It bears no function of the program. -/
import Derived.Test.YtijlnlcjlkanaaaProg
import Derived.RangeFuncCalls
import Derived.StillTailTactics
import Derived.OrdersIn
import Derived.TacticsInMore
import Derived.BigQuiet
set_option linter.unusedVariables false
namespace Go.Proofs.Ytijlnlcjlkanaaa.Rnd

/-- No defer statement. -/
def calm (o : Oper) : Bool := match o.op with | .defer _ => false | _ => true
theorem calm_op {o : Oper} (h : calm o = true) : ∀ c, o.op ≠ .defer c := fun c e => by
  unfold calm at h; rw [e] at h; cases h
section
variable {l n : Nat} {P : Program} {ops : Array Oper} {Q : Exit → Act → World → Prop}
theorem rows_round {row : String} {args : Array Value} {w : World} {R : Value → World → Prop} (h : Rows P row args w R) : RowsIn (Fence.wide.inRound l) n P row args w R :=
  fun c cs _ => let ⟨v, w', r, s⟩ := h c cs; ⟨v, w', r, stepsIn_wide.2 s⟩
theorem op_round {o : Oper} {a : Act} {w : World} {next next' : Act → World → Prop} (hn : ∀ a w, next a w → next' a w) (hd : calm o = true) (h : o.wp P a w next Q) : o.wpIn (Fence.wide.inRound l) n P a w next' Q := by
  refine ⟨fun _ _ => trivial, ?_⟩
  rw [show (Fence.wide.inRound l).round = some l from rfl, Oper.semAt_some l a.eval o (calm_op hd)]
  unfold Oper.wp at h
  generalize (execOp a.eval o).run P w = x at h
  cases x with
  | ok v w' =>
    cases v with
    | value v => exact hn _ _ h
    | skip => exact hn _ _ h
    | defer d => exact hn _ _ h
    | enter f args =>
      refine ⟨fun hh => (by cases hh), CallsIn.inRound l (callsIn_wide.2 (Calls.mono h ?_))⟩
      intro e w'' he
      cases e with
      | returned v => exact hn _ _ he
      | panicked c => exact he
      | outgrown => exact he
    | row row args => exact ⟨fun hh => (by cases hh), rows_round (Rows.mono h fun v w'' hv => hn _ _ hv)⟩
    | _ => exact h.elim
  | halt hh w' =>
    cases hh with
    | panic v => exact h
    | _ => exact h.elim
theorem any_round (hq : ¬ LetsOut Q) (hc : ∀ (i : Nat) (o : Oper), ops[i]? = some o → calm o = true) (md : Region.Mode) : ∀ (f : Nat) (listed : Array Bool) (a : Act) (w : World), wpAny P md ops Q f listed a w → wpAnyIn (Fence.wide.inRound l) n P md ops Q f listed a w
  | 0, listed, a, w, h => h
  | f + 1, listed, a, w, h => by
    refine ⟨h.1, fun i hi => ?_⟩
    have h2 := h.2 i hi
    unfold wpOp at h2
    unfold wpOpIn
    cases ho : ops[i]? with
    | none => rw [ho] at h2; exact any_round hq hc md f _ a w h2
    | some o =>
      rw [ho] at h2
      simp only at h2 ⊢
      by_cases hw : Region.wanted o (yielded ops a.tmps) = true
      · rw [if_pos hw] at h2 ⊢
        rcases h2 with h2 | h2
        · exact op_round (fun a w => any_round hq hc md f _ a w) (hc i o ho) h2
        · exact absurd h2.2 hq
      · rw [if_neg hw] at h2 ⊢
        exact ⟨fun _ _ => trivial, any_round hq hc md f _ _ _ h2⟩
theorem list_round (hq : ¬ LetsOut Q) : ∀ (L : List Oper), (L.all calm = true) → ∀ (a : Act) (w : World), wpList P ops Q L a w → wpListIn (Fence.wide.inRound l) n P ops Q L a w
  | [], _, _, _, h => h
  | o :: L, hc, a, w, h => by
    rw [List.all_cons, Bool.and_eq_true] at hc
    unfold wpList at h
    unfold wpListIn
    by_cases hw : Region.wanted o (yielded ops a.tmps) = true
    · rw [if_pos hw] at h ⊢
      rcases h with h | h
      · exact op_round (fun a w => list_round hq L hc.2 a w) hc.1 h
      · exact absurd h.2 hq
    · rw [if_neg hw] at h ⊢
      exact ⟨fun _ _ => trivial, list_round hq L hc.2 _ _ h⟩
theorem any_still_tail {a : Act} {w : World} {L : List Oper} (k : Nat) (hB : Region.lexTailB .any L.toArray k = true)
    (h : wpStill P L.toArray w (fun a' => wpList P L.toArray Q (L.drop k) a' w) (L.take k) a) : wpAny P .any L.toArray Q L.toArray.size (Array.replicate L.toArray.size false) a w := by
  simp only [Region.lexTailB, Bool.and_eq_true, decide_eq_true_eq] at hB
  obtain ⟨⟨⟨⟨q1, q2⟩, q3⟩, q4⟩, q5⟩ := hB
  have hk : k < L.length := by simpa using q2
  have ht : (L.take k).length = k := by simp; omega
  have hd : (L.drop k).length = L.toArray.size - k := by simp
  have H := wpAnyL_lex (md := .any) (g := L.toArray.size - k) (Lq := fun a' => wpList P L.toArray Q (L.drop k) a' w) q1 q3 q4 q2 (L.take k) 0 (Array.replicate L.toArray.size false) a
    (fun j hj => by have : j < k := by rw [ht] at hj; exact hj
                    simp [this])
    (by rw [ht, Nat.zero_add]) ⟨by simp, fun j o _ hl => (by rw [getD_replicate_false] at hl; cases hl), fun t _ h2 => getD_in (by simpa using h2) (getD_replicate_false _ _)⟩ (by rw [ht]; exact q5) h
  have R := wpAny_of_head (Q' := Q) (g := L.toArray.size - k) (fun listed a' hL => by
    have := wpAny_of_seq (md := .any) (Q' := Q) (L.drop k) k listed a' w (fun j => by simp [List.getElem?_drop]) (by rw [hd]; exact hL.1) hL.2
    rw [hd] at this
    exact this) _ _ _ H
  rw [ht, Nat.add_sub_cancel' (Nat.le_of_lt q2)] at R
  exact R
/-- A region that draws its order, in a round: its first k operations read, the rest come in their order. -/
theorem round_tail {id : Nat} {a : Act} {w : World} {L : List Oper} (k : Nat) (hm : P.follows .mixedOrders = true) (hB : Region.lexTailB .any L.toArray k = true) (hc : L.all calm = true) (hq : ¬ LetsOut Q)
    (h : wpStill P L.toArray { w with drawn := w.drawn + 1 } (fun a' => wpList P L.toArray Q (L.drop k) a' { w with drawn := w.drawn + 1 }) (L.take k) a) : (Code.region id L.toArray true).wpIn (Fence.wide.inRound l) n P Q a w := by
  refine wpIn_region_any hm (any_round hq (fun i o ho => ?_) .any _ _ _ _ (any_still_tail k hB h))
  have : o ∈ L := by
    have := Array.mem_of_getElem? ho
    simpa using this
  exact List.all_eq_true.1 hc o this
theorem still_of_quiet {o : Oper} {a : Act} {W : World} {K K' : Act → Prop} (hk : ∀ a, K a → K' a) (h : o.quiet P a (fun w => w = W) K) : o.still P a W K' := by
  obtain ⟨v, hv, hK⟩ := h
  have h1 := hv W rfl
  unfold Oper.quietAt at h1
  unfold Oper.still
  generalize (execOp a.eval o).run P W = x at h1
  cases x with
  | ok u w' =>
    cases u with
    | value u =>
      obtain ⟨h2, h3⟩ := h1
      exact ⟨h2, hk _ (by rw [h3]; exact hK)⟩
    | skip =>
      obtain ⟨h2, h3⟩ := h1
      exact ⟨h2, hk _ (by rw [← h3]; exact hK)⟩
    | enter f args =>
      obtain ⟨h2, h3⟩ := h1
      exact ⟨h2, v, h3, hk _ hK⟩
    | _ => exact h1.elim
  | halt hh w' => exact h1.elim
theorem wpStill_of_quiet {W : World} {Q' : Act → Prop} : ∀ (L : List Oper) (a : Act), wpQuiet P ops (fun w => w = W) Q' L a → wpStill P ops W Q' L a
  | [], _, h => h
  | o :: L, a, h => by
    unfold wpQuiet at h
    unfold wpStill
    by_cases hw : Region.wanted o (yielded ops a.tmps) = true
    · rw [if_pos hw] at h ⊢
      exact still_of_quiet (fun a => wpStill_of_quiet L a) h
    · rw [if_neg hw] at h ⊢
      exact wpStill_of_quiet L _ h
/-- The same, walked by the cheap step. -/
theorem round_quiet {id : Nat} {a : Act} {w : World} {L : List Oper} (k : Nat) (hm : P.follows .mixedOrders = true) (hB : Region.lexTailB .any L.toArray k = true) (hc : L.all calm = true) (hq : ¬ LetsOut Q)
    (h : wpQuiet P L.toArray (fun w' => w' = { w with drawn := w.drawn + 1 }) (fun a' => wpList P L.toArray Q (L.drop k) a' { w with drawn := w.drawn + 1 }) (L.take k) a) : (Code.region id L.toArray true).wpIn (Fence.wide.inRound l) n P Q a w :=
  round_tail k hm hB hc hq (wpStill_of_quiet _ _ h)
/-- Outside every round. -/
theorem plain_quiet {id : Nat} {a : Act} {w : World} {L : List Oper} (k : Nat) (hm : P.follows .mixedOrders = true) (hB : Region.lexTailB .any L.toArray k = true)
    (h : wpQuiet P L.toArray (fun w' => w' = { w with drawn := w.drawn + 1 }) (fun a' => wpList P L.toArray Q (L.drop k) a' { w with drawn := w.drawn + 1 }) (L.take k) a) : (Code.region id L.toArray true).wp P Q a w :=
  wp_region_still_tail k hm hB (wpStill_of_quiet _ _ h)
end
end Go.Proofs.Ytijlnlcjlkanaaa.Rnd
