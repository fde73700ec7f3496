/- drowselaw21.cut; how long the rings are. -/
import Derived.Test.YtclcbiiijoeplaaDoorRrg
import Derived.Test.YtclcbiiijoeplaaDoorRox
set_option linter.unusedVariables false
namespace Go.Proofs.YtclcbiiijoeplaaDoor.Rct
open Go.RowKit Rwo Rcy Rsl Rowz Rrg

/-- A list of sleepers as a value, its length within its room. -/
structure LiesC (w : World) (v : Value) (l : List As) : Prop where
  lies : Lies w v l
  cap : ∀ x n c, v = .slice x n c → n ≤ c
theorem LiesC.below {w w' : World} {v : Value} {l : List As} (h : LiesC w v l) (hb : Below w.heap.size w w') : LiesC w' v l := ⟨h.lies.below hb, h.cap⟩
set_option maxHeartbeats 1000000 in
set_option maxRecDepth 100000 in
theorem cut_any (v : Value) (l : List As) (w : World) (hl : l.length ≤ 1048576) (hv : Hid (LiesC w v l)) :
    Calls Tryd.prog 15 #[v] w fun e w' => w' = w ∧ ∃ v', e = .returned v' ∧ LiesC w v' (l.take 500) := by
  rcases hv.out.lies with ⟨rfl, x, c, rfl⟩ | ⟨b, o, c, rfl, h1, h2⟩
  · go_enter Tryd.func15, Tryd.ntmps15
    go_wp2
    go_ret
    exact ⟨rfl, _, rfl, hv.out⟩
  · have hc := hv.out.cap _ _ _ rfl
    have HV := hv
    clear hv
    by_cases h5 : 500 < l.length
    · have HL : Hid (LiesC w (.slice (some ⟨b, o, none⟩) 500 c) (l.take 500)) := by
        refine ⟨.inr ⟨b, o, c, by rw [List.length_take, Nat.min_eq_left (by omega)], h1, fun j hj => ?_⟩, fun x n c' e => by cases e; omega⟩
        rw [List.length_take, Nat.min_eq_left (by omega)] at hj
        have : (l.take 500).getD j as0 = l.getD j as0 := by
          simp only [List.getD_eq_getElem?_getD, List.getElem?_take]
          rw [if_pos hj]
        rw [this]
        exact h2 j (by omega)
      clear h2
      go_enter Tryd.func15, Tryd.ntmps15
      go_wp2
      go_ret
      exact ⟨rfl, _, rfl, HL.out⟩
    · have HL : Hid (l.take 500 = l) := List.take_of_length_le (by omega)
      clear h2
      go_enter Tryd.func15, Tryd.ntmps15
      go_wp2
      go_ret
      exact ⟨rfl, _, rfl, by rw [HL.out]; exact HV.out⟩
theorem out_rows (l : List As) : ∀ j, ((out l l.length).getD j []).length ≤ l.length := by
  intro j
  rw [List.getD_eq_getElem?_getD]
  by_cases hj : j < (out l l.length).length
  · rw [List.getElem?_eq_getElem hj, Option.getD_some]
    have hm := List.getElem_mem hj
    unfold out at hm
    rw [List.mem_map] at hm
    obtain ⟨k, hk, e⟩ := hm
    unfold rings at hk
    rw [List.mem_filterMap] at hk
    obtain ⟨a, ha, hr⟩ := hk
    rw [List.mem_range] at ha
    obtain ⟨p, hp, _, e2⟩ := (ringAt_some.1 hr).ex
    have := cyc_le (leads_within l) ha hp
    have e3 : (out l l.length)[j] = sers l k := e.symm
    rw [e3, e2]
    simpa [sers, vals] using this
  · rw [List.getElem?_eq_none (by omega)]; simp
end Go.Proofs.YtclcbiiijoeplaaDoor.Rct
