/- A region inside a round that draws its order: its loads first, whatever comes up then. It bears no function of the program. -/
import Derived.Test.YtijlnlcjlkanaaaRnd
import Derived.Deep.RegionHeld3
set_option linter.unusedVariables false
namespace Go.Proofs.Ytijlnlcjlkanaaa.Vsf
open Rnd
variable {l n : Nat} {P : Program} {Q : Exit → Act → World → Prop}
theorem round_held {id : Nat} {a : Act} {w : World} {L : List Oper} (S : World → Prop) (hm : P.follows .mixedOrders = true) (hc : L.all calm = true) (hq : ¬ LetsOut Q) (hS : S w.drew)
    (h : S w.drew → wpAnyH P .any L.toArray Q S L.toArray.size (Array.replicate L.toArray.size false) a w.drew) : (Code.region id L.toArray true).wpIn (Fence.wide.inRound l) n P Q a w := by
  refine wpIn_region_any hm (any_round hq (fun i o ho => ?_) .any _ _ _ _ (wpAny_of_held _ _ _ _ (h hS)))
  have : o ∈ L := by
    have := Array.mem_of_getElem? ho
    simpa using this
  exact List.all_eq_true.1 hc o this
end Go.Proofs.Ytijlnlcjlkanaaa.Vsf
