/- drowseref10.Table: Told, Take. -/
import Derived.Test.YtijlnlcjlkanaaaSuf
set_option linter.unusedVariables false
namespace Go.Proofs.Ytijlnlcjlkanaaa.Sug
open Go.RowKit Rwo Sta Stb Stc Stg Ste Stl Stn Sue Suf

theorem below_new (w : World) (o : Obj) : Below w.heap.size w (w.alloc o) := (Below.refl w.heap.size w).alloc (Nat.le_refl _) o
set_option maxHeartbeats 4000000 in
set_option maxRecDepth 100000 in
theorem told_any (g : Nat) (vr : Value) (R : List Th) (most : Nat) (w : World) (h : Hid (RefAt g vr R most w)) (hn : R.length ≤ 1000000) :
    Calls Try.prog 45 #[.pointer (some ⟨g, 0, none⟩)] w fun e w' => ∃ v', e = .returned v' ∧ Own thE 102 w.heap.size v' (R.filter here) w' ∧ Below w.heap.size w w' := by
  obtain ⟨A1, k1, rfl⟩ := Own.shape h.out.all
  go_enter Try.func45, Try.ntmps45
  go_wp2
  go_loopw [3, 4] (fun v u wr => ∃ k : Nat, k ≤ R.length ∧ u = .int .i64 k ∧ Hid (Own thE 102 w.heap.size v ((R.take k).filter here) wr) ∧ Hid (Below w.heap.size w wr)) (fun _ u _ => R.length - (intOf u).toNat)
  case atStart => exact ⟨0, Nat.zero_le _, rfl, Own.nil _ _, Below.refl _ _⟩
  case round =>
    obtain ⟨k, hk, rfl, HO, HB⟩ := hrel
    have HR := Lib.hid (h.out.below HB.out)
    obtain ⟨⟨c0, c1⟩, _⟩ := HR.out.cells
    by_cases hkl : k < R.length
    · obtain ⟨br, cr, _, hv, _, _, hbr, _⟩ := Own.some h.out.all (by intro e; rw [e, List.length_nil] at hkl; omega)
      simp only [Value.slice.injEq] at hv
      obtain ⟨rfl, _, rfl⟩ := hv
      obtain ⟨s, hsl⟩ : ∃ s, R.getD k th0 = s := ⟨_, rfl⟩
      obtain ⟨d0, d1, d2, d3⟩ := th_cells HR.out.all k hkl hsl
      have hnx : (R.take (k + 1)).filter here = (R.take k).filter here ++ (if here s then [s] else []) := by
        rw [List.take_succ_eq_append_getElem hkl, List.filter_append, ← hsl, List.getD_eq_getElem?_getD, List.getElem?_eq_getElem hkl]
        simp [List.filter_cons]
      have HNX := Lib.hid hnx
      clear hnx hsl
      have hfl : ((R.take k).filter here).length ≤ 1000000 := by
        have h1 := List.length_filter_le here (R.take k)
        have h2 := List.length_take_le k R
        omega
      obtain ⟨A2, k2, h2⟩ := Own.shape HO.out
      subst h2
      cases hg : s.gone with
      | true =>
        have HN2 : Hid ((R.take (k + 1)).filter here = (R.take k).filter here) := by have := HNX.out; rw [show here s = false from by unfold here; rw [hg]; rfl] at this; exact (by simpa using this : _ = _)
        rw [hg] at d3
        clear hg HNX
        go_wp2
        go_roundw
        case rel => exact ⟨k + 1, by omega, by go_num, by rw [HN2.out]; exact HO.out, HB.out⟩
        case measure => simp [intOf]; omega
      | false =>
        have HN2 : Hid ((R.take (k + 1)).filter here = (R.take k).filter here ++ [s]) := by have := HNX.out; rw [show here s = true from by unfold here; rw [hg]; rfl] at this; exact (by simpa using this : _ = _)
        rw [hg] at d3
        have hs3 : Hid (thE.f s = [.int .u32 s.h.slot, .int .u32 s.h.gen, .int .i64 s.x, .bool false]) := by show [_, _, _, _] = _; rw [hg]
        clear hg HNX
        have hwz := HB.out.size
        obtain ⟨fl, hfl2⟩ : ∃ fl, fl = (R.take k).filter here := ⟨_, rfl⟩
        rw [← hfl2] at HO hfl HN2
        rw [← hfl2]
        have HFL := Lib.hid hfl2
        clear hfl2
        go_wp2_with (at_builtin; refine wpList_append (E := thE) (by rfl) _ _ _ (by rfl) 102 _ 24 Try.underlying67 infoTh (by rfl) w.heap.size _ fl wr HO.out (by rfl) s #[.int .u32 s.h.slot, .int .u32 s.h.gen, .int .i64 s.x, .bool false] (by rw [hs3.out]) _ wr.heap.size (by rfl) (by rfl) (by omega) ⟨hwz, rfl⟩ ?_; intro g3 cp3 w3 hO3 hb3 hfar3 hsz3 hat3)
        have HO3 := Lib.hid hO3
        have HB3 : Hid (Below w.heap.size w w3) := (HB.out.trans ((below_new wr _).mono hwz)).trans hb3
        clear hO3 hb3 hfar3 hsz3 hat3
        go_roundw
        case rel => exact ⟨k + 1, by omega, by go_num, by rw [HN2.out]; exact HO3.out, HB3.out⟩
        case measure => simp [intOf]; omega
    · have HE : Hid (Own thE 102 w.heap.size u3 (R.filter here) wr) := by have := HO.out; rw [List.take_of_length_le (by omega)] at this; exact this
      clear HO
      go_wp2
      go_ret
      exact ⟨_, rfl, HE.out, HB.out⟩
end Go.Proofs.Ytijlnlcjlkanaaa.Sug
