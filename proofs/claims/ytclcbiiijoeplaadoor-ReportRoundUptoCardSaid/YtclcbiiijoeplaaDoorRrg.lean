/- drowseref21.Rings. -/
import Derived.Test.YtclcbiiijoeplaaDoorRsm
import Derived.Test.YtclcbiiijoeplaaDoorRow
set_option linter.unusedVariables false
namespace Go.Proofs.YtclcbiiijoeplaaDoor.Rrg
open Go.RowKit Go.Sort Rwo Rcy Rsl Rowz

/-- Whose numbers. -/
def sers (l : List As) (k : List Nat) : List Int := k.map fun j => (l.getD j as0).ser
def tos (l : List As) (n : Nat) : List Int := (List.range n).map fun j => oi (leadsF l j)
theorem tos_succ (l : List As) (n : Nat) : tos l (n + 1) = tos l n ++ [oi (leadsF l n)] := by simp [tos, List.range_succ]
theorem tos_length (l : List As) (n : Nat) : (tos l n).length = n := by simp [tos]
theorem tos_get {l : List As} {n j : Nat} (h : j < n) : (tos l n).getD j 0 = oi (leadsF l j) := by simp [tos, List.getD_eq_getElem?_getD, h]
/-- The rings by their numbers. -/
noncomputable def out (l : List As) (n : Nat) : List (List Int) := (rings (leadsF l) n).map (sers l)
theorem out_succ (l : List As) (n : Nat) : out l (n + 1) = out l n ++ (match ringAt (leadsF l) n with | some k => [sers l k] | none => []) := by
  unfold out
  rw [rings_succ, List.map_append]
  cases ringAt (leadsF l) n <;> rfl
theorem out_none {l : List As} {n : Nat} (h : ringAt (leadsF l) n = none) : out l (n + 1) = out l n := by rw [out_succ, h]; simp
theorem out_some {l : List As} {n : Nat} {k : List Nat} (h : ringAt (leadsF l) n = some k) : out l (n + 1) = out l n ++ [sers l k] := by rw [out_succ, h]
theorem out_length (l : List As) (n : Nat) : (out l n).length ≤ n := by
  unfold out rings
  rw [List.length_map]
  have := List.length_filterMap_le (ringAt (leadsF l)) (List.range n)
  simpa using this
/-- How Rings answers. -/
def Post (l : List As) (w : World) (e : Ending) (w' : World) : Prop := ∃ v vs, e = .returned v ∧ RowsI w.heap.size v (out l l.length) vs w' ∧ Below w.heap.size w w'
set_option maxHeartbeats 8000000 in
set_option maxRecDepth 100000 in
theorem rrings_some (b o c : Nat) (l : List As) (w : World) (hl : l.length ≤ 1048576) (hL : Hid (Ass w b o l)) (hb : b < w.heap.size) :
    Calls Tryd.prog 16 #[.slice (some ⟨b, o, none⟩) l.length c] w (Post l w) := by
  go_enter Tryd.func16, Tryd.ntmps16
  go_wp2
  go_loopw [3, 4] (fun v iv wr => ∃ k : Nat, iv = .int .i64 k ∧ k ≤ l.length ∧ Hid (Ints w.heap.size v (tos l k) wr) ∧ Below w.heap.size w wr) (fun _ iv _ => l.length - (intOf iv).toNat)
  case atStart => exact ⟨0, rfl, Nat.zero_le _, Own.nil .., Below.refl _ _⟩
  case round =>
    obtain ⟨k, rfl, hk, hI, hbw⟩ := hrel
    have hsz := hbw.size
    obtain ⟨A1, cp1, rfl⟩ := hI.out.shape
    rw [tos_length] at hI
    rw [tos_length]
    by_cases hlt : k < l.length
    · have HL1 : Hid (Ass wr b o l) := hL.out.below hbw hb
      go_wp2_with fail
      refine (Rsm.leads_any b o c l k wr hl HL1 (by omega) hlt).mono ?_
      rintro e w1 ⟨rfl, hb1⟩
      have hs1 := hb1.size
      have HI1 : Hid (Ints w.heap.size (.slice A1 k cp1) (tos l k) w1) := hI.out.below hb1 (Nat.le_refl _)
      have hlen : (tos l k).length = k := tos_length l k
      have HT := Lib.hid (tos_succ l k)
      have HB1 : Hid (Below w.heap.size w w1) := hbw.trans (hb1.mono hsz)
      obtain ⟨x, hx⟩ : ∃ x, x = oi (leadsF l k) := ⟨_, rfl⟩
      rw [← hx] at HT
      rw [← hx]
      clear hx hb1
      go_wp2_with (at_builtin; refine wpList_append (E := i64E) (by rfl) _ _ _ (by rfl) 3 _ 8 Tryd.underlying45 infoInt (by rfl) w.heap.size _ (tos l k) w1 HI1.out (by rfl) x _ (by rfl) _ w1.heap.size (by rfl) (by rfl) (by omega) ⟨by omega, rfl⟩ ?_; intro g3 cp3 w3 hO3 hb3 hfar3 hsz3 hat3)
      rw [← HT.out] at hO3
      rw [hlen] at hO3
      have HO3 : Hid (Ints w.heap.size (.slice (some ⟨g3, 0, none⟩) (k + 1) cp3) (tos l (k + 1)) w3) := hO3
      have HB3 : Hid (Below w.heap.size w w3) := (HB1.out.alloc (by omega) (.cells #[.int .i64 x] 3)).trans hb3
      clear hO3 hb3 hfar3
      go_wp2
      go_roundw
      case rel => exact ⟨k + 1, by go_num, by omega, HO3, HB3.out⟩
      case measure => simp [intOf]; omega
    · have hke : k = l.length := by omega
      subst hke
      clear hlt hk
      obtain ⟨Wt, rfl⟩ : ∃ W : World, W = wr := ⟨_, rfl⟩
      go_wp2_with fail
      go_loopw [5, 6] (fun v iv wr => ∃ (i : Nat) (vs : List SV), iv = .int .i64 i ∧ i ≤ l.length ∧ Hid (RowsI w.heap.size v (out l i) vs wr) ∧ Hid (Ints w.heap.size (.slice A1 l.length cp1) (tos l l.length) wr) ∧ Below w.heap.size w wr) (fun _ iv _ => l.length - (intOf iv).toNat)
      case atStart => exact ⟨0, [], rfl, Nat.zero_le _, RowsI.nil _ _, hI, hbw⟩
      case round =>
        obtain ⟨i, vs, rfl, hi, hR, hI2, hbw2⟩ := hrel
        have hsz2 := hbw2.size
        obtain ⟨A2, cp2, rfl⟩ := hR.out.out.shape
        by_cases hlt : i < l.length
        · have hne : tos l l.length ≠ [] := fun e => by have := congrArg List.length e; rw [tos_length, List.length_nil] at this; omega
          obtain ⟨gt, capt, hgt, hgt1, hgt2⟩ := shape_some hI2.out hne
          rw [tos_length] at hgt
          simp only [Value.slice.injEq, true_and] at hgt
          obtain ⟨rfl, rfl⟩ := hgt
          have HW : Hid (Within (leadsF l) l.length) := leads_within l
          obtain ⟨ser, hser⟩ : ∃ x, (l.getD i as0).ser = x := ⟨_, rfl⟩
          have c2 : wr.cell? ⟨b, o + i * 7 + 2, none⟩ = some (.int .i64 ser) := by
            rw [← hser]; exact ((hL.out i hlt).below hbw2 hb).c2
          have HSER := Lib.hid hser
          clear hser
          have ct : wr.cell? ⟨gt, i, none⟩ = some (.int .i64 (oi (leadsF l i))) := by rw [← tos_get (n := l.length) hlt]; exact Ints.cell hI2.out (by rw [tos_length]; exact hlt)
          have HN0 := Lib.hid (own_new i64E ser 3 wr)
          have HB0 : Hid (Below wr.heap.size wr (wr.alloc (.cells #[.int .i64 ser] 3))) := (Below.refl _ _).alloc (Nat.le_refl _) _
          clear hne
          obtain ⟨wo, rfl⟩ : ∃ W : World, W = wr := ⟨_, rfl⟩
          go_wp2_with fail
          go_loopw [7, 8, 9, 10] (fun rv av fv nv wr => ∃ (m : Nat) (at_ : Option Nat) (fb : Bool), av = .int .i64 (oi at_) ∧ fv = .bool fb ∧ nv = .int .i64 m ∧ m ≤ l.length ∧ Hid (Rcy.Way (leadsF l) i m at_) ∧ Hid (firstB (leadsF l) i m = fb) ∧ Hid (Ints wo.heap.size rv (sers l (vals (leadsF l) i (m + 1))) wr) ∧ Hid (Below wo.heap.size wo wr)) (fun _ _ _ nv _ => l.length - (intOf nv).toNat)
          case atStart =>
            refine ⟨0, leadsF l i, true, rfl, rfl, rfl, Nat.zero_le _, way_start _ _, rfl, ?_, HB0.out⟩
            show Ints _ _ _ _
            have e : sers l (vals (leadsF l) i (0 + 1)) = [ser] := by
              rw [← HSER.out]; rfl
            rw [e]; exact HN0.out
          case round =>
            obtain ⟨m, at_, fb, rfl, rfl, rfl, hm, HWY, HFB, HRI, HBQ⟩ := hrel
            have hszq := HBQ.out.size
            obtain ⟨A3, cp3, rfl⟩ := HRI.out.shape
            have hvl : (sers l (vals (leadsF l) i (m + 1))).length = m + 1 := by simp [sers, vals]
            rw [hvl]
            obtain ⟨R, hRq⟩ : ∃ R, R = sers l (vals (leadsF l) i (m + 1)) := ⟨_, rfl⟩
            rw [← hRq] at HRI hvl
            rw [hvl] at HRI
            have HRQ := Lib.hid hRq
            clear hRq c2 ct
            have HRW : Hid (RowsI w.heap.size (.slice A2 vs.length cp2) (out l i) vs wr) := hR.out.below HBQ.out (Nat.le_refl _)
            have HI3 : Hid (Ints w.heap.size (.slice (some ⟨gt, 0, none⟩) l.length cp1) (tos l l.length) wr) := hI2.out.below HBQ.out (Nat.le_refl _)
            have HBW : Hid (Below w.heap.size w wr) := hbw2.trans (HBQ.out.mono hsz2)
            have hR2 := hR
            clear hR hI2 HB0 HN0
            cases at_ with
            | none =>
              have HX : Hid (out l (i + 1) = out l i) := out_none (way_end HWY.out)
              have hni : (-1 : Int) ≠ (i : Int) := by omega
              have hnb : ((-1 : Int) == (i : Int)) = false := by rw [beq_eq_false_iff_ne]; omega
              unfold oi
              clear HFB
              by_cases hmn : m < l.length
              all_goals
                go_wp2
                go_roundw
                case rel => exact ⟨i + 1, vs, by go_num, by omega, by rw [HX.out]; exact HRW, HI3, HBW.out⟩
                case measure => simp [intOf]; omega
            | some a =>
              have ha : a < l.length := it_lt HW.out hlt HWY.out.here
              unfold oi
              by_cases hai : a = i
              · subst hai
                cases fb with
                | true =>
                  have HX : Hid (out l (a + 1) = out l a ++ [R]) := by
                    show _ = _
                    rw [HRQ.out]; exact out_some (way_ring HWY.out HFB.out)
                  have hvs : vs.length ≤ a := by rw [hR2.out.len]; exact out_length l a
                  have hnb : ((a : Int) != (a : Int)) = false := by simp
                  have hbm : m < l.length ∨ ¬ m < l.length := Nat.lt_or_ge m l.length |>.imp id (by omega)
                  have hap : Hid (∀ j, j < vs.length → ∀ b, (vs.getD j sv0).val.ownBlock = some b → (SV.val ⟨A3, m + 1, cp3⟩).ownBlock ≠ some b) := fun j hj b' hb' e => by
                    have h1 := (hR2.out.each j hj).lt hb'
                    have h2 := Own.lt HRI.out e
                    omega
                  have HOUT := Lib.hid HRW.out.out
                  clear HFB
                  rcases hbm with hbm | hbm
                  all_goals
                    go_wp2_with (at_builtin; refine wpList_append (E := slE) (by rfl) _ _ _ (by rfl) 45 _ 24 Tryd.underlying42 infoInts (by rfl) w.heap.size _ vs wr HOUT.out (by rfl) ⟨A3, m + 1, cp3⟩ _ (by rfl) _ wr.heap.size (by rfl) (by rfl) (by omega) ⟨by omega, rfl⟩ ?_; intro g3 cp5 w3 hO3 hb3 hfar3 hsz3 hat3)
                    have HP : Hid (RowsI w.heap.size (.slice (some ⟨g3, 0, none⟩) (vs.length + 1) cp5) (out l (a + 1)) (vs ++ [⟨A3, m + 1, cp3⟩]) w3) := by
                      rw [HX.out]
                      exact RowsI.push (B2 := 0) HRW.out (HRI.out.base (by omega)) hap.out hO3 hfar3
                    have HI5 : Hid (Ints w.heap.size (.slice (some ⟨gt, 0, none⟩) l.length cp1) (tos l l.length) w3) :=
                      HI3.out.kept fun b' hb' => hfar3 b' (HI3.out.lt hb').2 (fun e => HRW.out.out.apart HI3.out (by decide) e hb')
                    have HB5 : Hid (Below w.heap.size w w3) := (HBW.out.alloc (by omega) (.cells #[.slice A3 (m + 1) cp3] 45)).trans hb3
                    clear hO3 hb3 hfar3
                    go_wp2
                    go_roundw
                    case rel => exact ⟨a + 1, _, by go_num, by omega, HP, HI5, HB5.out⟩
                    case measure => simp [intOf]; omega
                | false =>
                  have HX : Hid (out l (a + 1) = out l a) := out_none (way_back HWY.out HFB.out)
                  have hnb : ((a : Int) != (a : Int)) = false := by simp
                  clear HFB
                  by_cases hmn : m < l.length
                  all_goals
                    go_wp2
                    go_roundw
                    case rel => exact ⟨a + 1, vs, by go_num, by omega, by rw [HX.out]; exact HRW, HI3, HBW.out⟩
                    case measure => simp [intOf]; omega
              · have hnb : ((a : Int) != (i : Int)) = true := by rw [bne_iff_ne]; omega
                have hnb2 : ((a : Int) == (i : Int)) = false := by rw [beq_eq_false_iff_ne]; omega
                by_cases hmn : m < l.length
                · have c2 : wr.cell? ⟨b, o + a * 7 + 2, none⟩ = some (.int .i64 ((l.getD a as0).ser)) := ((hL.out a ha).below HBW.out hb).c2
                  obtain ⟨sa, hsa⟩ : ∃ x, (l.getD a as0).ser = x := ⟨_, rfl⟩
                  rw [hsa] at c2
                  have ct : wr.cell? ⟨gt, a, none⟩ = some (.int .i64 (oi (leadsF l a))) := by rw [← tos_get (n := l.length) ha]; exact Ints.cell HI3.out (by rw [tos_length]; exact ha)
                  have HR3 : Hid (sers l (vals (leadsF l) i (m + 1 + 1)) = R ++ [sa]) := by
                    show _ = _
                    rw [vals_succ, HWY.out.here, HRQ.out, ← hsa]
                    simp [sers]
                  have HW2 : Hid (Rcy.Way (leadsF l) i (m + 1) (leadsF l a)) := way_step HWY.out hai
                  have HF2 : Hid (firstB (leadsF l) i (m + 1) = (fb && decide (i < a))) := by
                    show _ = _
                    rw [firstB_succ, HFB.out, HWY.out.here]; rfl
                  clear hsa HFB
                  have hrl : R.length = m + 1 := hvl
                  have ways : (fb = true ∧ i < a ∧ ((i : Int) < (a : Int)) ∧ (fb && decide (i < a)) = true) ∨ (fb = true ∧ ¬ i < a ∧ ¬ ((i : Int) < (a : Int)) ∧ (fb && decide (i < a)) = false) ∨ (fb = false ∧ (fb && decide (i < a)) = false) := by
                    by_cases h1 : i < a
                    · cases fb <;> simp [h1] <;> omega
                    · cases fb <;> simp [h1] <;> omega
                  rcases ways with ⟨rfl, h1, h2, h3⟩ | ⟨rfl, h1, h2, h3⟩ | ⟨rfl, h3⟩
                  all_goals
                    rw [h3] at HF2
                    clear h3
                    go_wp2_with (at_builtin; refine wpList_append (E := i64E) (by rfl) _ _ _ (by rfl) 3 _ 8 Tryd.underlying45 infoInt (by rfl) wo.heap.size _ R wr HRI.out (by rfl) sa _ (by rfl) _ wr.heap.size (by rfl) (by rfl) (by omega) ⟨by omega, rfl⟩ ?_; intro g3 cp5 w3 hO3 hb3 hfar3 hsz3 hat3; have ct3 := (hb3.cell (p := ⟨gt, a, none⟩) hgt2).trans ((((Below.refl wo.heap.size wr).alloc hszq (.cells #[.int .i64 sa] 3)).cell (p := ⟨gt, a, none⟩) hgt2).trans ct))
                    rw [hrl] at hO3
                    rw [← HR3.out] at hO3
                    have HO3 : Hid (Ints wo.heap.size (.slice (some ⟨g3, 0, none⟩) (m + 1 + 1) cp5) (sers l (vals (leadsF l) i (m + 1 + 1))) w3) := hO3
                    have HB5 : Hid (Below wo.heap.size wo w3) := (HBQ.out.alloc (by omega) (.cells #[.int .i64 sa] 3)).trans hb3
                    clear hO3 hb3 hfar3
                    go_wp2
                    go_roundw
                    case rel => exact ⟨m + 1, leadsF l a, _, rfl, rfl, by go_num, by omega, HW2, HF2, HO3, HB5⟩
                    case measure => simp [intOf]; omega
                · have HX : Hid (out l (i + 1) = out l i) := out_none (way_long HW.out hlt (by omega) HWY.out hai)
                  have hme : m = l.length := by omega
                  subst hme
                  clear HFB
                  go_wp2
                  go_roundw
                  case rel => exact ⟨i + 1, vs, by go_num, by omega, by rw [HX.out]; exact HRW, HI3, HBW.out⟩
                  case measure => simp [intOf]; omega
        · have hie : i = l.length := by omega
          subst hie
          go_wp2
          go_ret
          exact ⟨_, vs, rfl, hR.out, hbw2⟩
theorem out_nil : out [] 0 = [] := rfl
set_option maxHeartbeats 1000000 in
set_option maxRecDepth 100000 in
theorem rrings_none (x : Option Addr) (c : Nat) (w : World) : Calls Tryd.prog 16 #[.slice x 0 c] w (Post [] w) := by
  go_enter Tryd.func16, Tryd.ntmps16
  go_wp2
  go_loopw [3, 4] (fun v iv wr => v = .slice none 0 0 ∧ iv = .int .i64 ((0 : Nat) : Int) ∧ wr = w) (fun _ _ _ => 0)
  case atStart => exact ⟨rfl, rfl, rfl⟩
  case round =>
    obtain ⟨rfl, rfl, rfl⟩ := hrel
    go_wp2
    go_loopw [5, 6] (fun v iv wq => v = .slice none 0 0 ∧ iv = .int .i64 ((0 : Nat) : Int) ∧ wq = wr) (fun _ _ _ => 0)
    case atStart => exact ⟨rfl, rfl, rfl⟩
    case round =>
      obtain ⟨rfl, rfl, rfl⟩ := hrel
      go_wp2
      go_ret
      exact ⟨_, [], rfl, RowsI.nil _ _, Below.refl _ _⟩
theorem rrings_any (v : Value) (l : List As) (w : World) (hl : l.length ≤ 1048576) (hv : Lies w v l) : Calls Tryd.prog 16 #[v] w (Post l w) := by
  rcases hv with ⟨rfl, x, c, rfl⟩ | ⟨b, o, c, rfl, h1, h2⟩
  · exact rrings_none x c w
  · exact rrings_some b o c l w hl h2 h1
end Go.Proofs.YtclcbiiijoeplaaDoor.Rrg
