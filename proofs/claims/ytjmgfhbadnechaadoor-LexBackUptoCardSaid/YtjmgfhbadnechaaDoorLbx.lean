/- The walk of LexBack. -/
import Derived.Test.YtjmgfhbadnechaaDoorLbw
set_option linter.unusedVariables false
namespace Go.Proofs.YtjmgfhbadnechaaDoor.Lbx
open Go.RowKit Wrd Nam Env Num Lxp Lxw Lxr Lxk Lxs Lxj Lrs Lrt Lru Apt Lrv Lrc Lrw Lsa Lsb Lsc Lsd Lse Lss Lsw Lpw Lba Lbb Lbw

set_option maxHeartbeats 4000000 in
set_option maxRecDepth 100000 in
theorem walk_zero (A : Option Addr) (c : Nat) (S : ByteArray) (M : List Tok) (w : World) (hE : Hid (Env w)) (hS : S.size ≤ 20000)
    (C1 : Hid (Calls Tryd.prog 8 #[.slice A 0 c] w fun e w' => e = .returned (.tuple #[.string S, .int .i64 0]) ∧ Below w.heap.size w w'))
    (hM : Hid (Lxn.scan S.data.toList = .inr M)) (HML : Hid (M.length = 1)) (hend : Hid (M.getD 0 zero = ⟨0, ⟨#[]⟩, 0, S.size, 1⟩)) :
    Calls Tryd.prog 7 #[.slice A 0 c] w fun e w' => e = .returned (.bool true) ∧ Below w.heap.size w w' := by
  have t0 : decide ((20000 : Int) < (S.size : Int)) = false := decide_eq_false (by omega)
  have HNE : Hid (M ≠ []) := fun e => by have := HML.out; rw [e, List.length_nil] at this; omega
  go_enter Tryd.func7, Tryd.ntmps7
  go_wp2_with fail
  refine C1.out.mono ?_
  rintro e w1 ⟨rfl, hb1⟩
  go_wp2_with fail
  refine (join_17 w1 (hE.out.below hb1)).mono ?_
  rintro e w2 ⟨rfl, hb2⟩
  have hb2' := hb1.trans (hb2.mono hb1.size)
  go_wp2_with fail
  refine (lex_ok hM.out (by omega) _ (hE.out.below hb2')).mono ?_
  rintro e w3 ⟨A3, cp3, rfl, hO3, hb3⟩
  obtain ⟨b3, o3, rfl, kb3, T3⟩ := own_some hO3 HNE.out
  have hbw := hb2'.trans (hb3.mono hb2'.size)
  have y2 := T3 0 (by rw [HML.out]; omega)
  rw [hend.out] at y2
  obtain ⟨d0, d1, d2, d3, d4⟩ := y2
  simp only [Nat.zero_mul, Nat.add_zero] at d0 d1 d2 d3 d4
  rw [HML.out]
  clear hO3 T3 hb1 hb2 hb2' hb3 C1 hE hM
  go_wp2
  go_loopw [10] (fun i wr => i = .int .i64 ((0 : Nat) : Int) ∧ w3 = wr) (fun i _ => 0)
  case atStart => exact ⟨rfl, rfl⟩
  case round =>
    obtain ⟨rfl, rfl⟩ := hrel
    go_wp2
    go_ret
    exact ⟨rfl, hbw.trans (((Below.refl _ w3).alloc (Nat.le_refl _) _).mono hbw.size)⟩
set_option maxHeartbeats 4000000 in
set_option maxRecDepth 100000 in
theorem walk_zero_end (b o c : Nat) (l : List Tok) (S : ByteArray) (M : List Tok) (w : World) (ht : Hid (Toks w b o l)) (hb : b < w.heap.size) (hE : Hid (Env w)) (hS : S.size ≤ 20000) (HL : Hid (l.length = 1))
    (C1 : Hid (Calls Tryd.prog 8 #[.slice (some ⟨b, o, none⟩) 1 c] w fun e w' => e = .returned (.tuple #[.string S, .int .i64 0]) ∧ Below w.heap.size w w'))
    (hM : Hid (Lxn.scan S.data.toList = .inr M)) (HML : Hid (M.length = 1)) (hend : Hid (M.getD 0 zero = ⟨0, ⟨#[]⟩, 0, S.size, 1⟩)) (hlast : Hid ((l.getD 0 zero).kind = 0)) :
    Calls Tryd.prog 7 #[.slice (some ⟨b, o, none⟩) 1 c] w fun e w' => e = .returned (.bool true) ∧ Below w.heap.size w w' := by
  have t0 : decide ((20000 : Int) < (S.size : Int)) = false := decide_eq_false (by omega)
  have HNE : Hid (M ≠ []) := fun e => by have := HML.out; rw [e, List.length_nil] at this; omega
  go_enter Tryd.func7, Tryd.ntmps7
  go_wp2_with fail
  refine C1.out.mono ?_
  rintro e w1 ⟨rfl, hb1⟩
  go_wp2_with fail
  refine (join_17 w1 (hE.out.below hb1)).mono ?_
  rintro e w2 ⟨rfl, hb2⟩
  have hb2' := hb1.trans (hb2.mono hb1.size)
  go_wp2_with fail
  refine (lex_ok hM.out (by omega) _ (hE.out.below hb2')).mono ?_
  rintro e w3 ⟨A3, cp3, rfl, hO3, hb3⟩
  obtain ⟨b3, o3, rfl, kb3, T3⟩ := own_some hO3 HNE.out
  have hbw := hb2'.trans (hb3.mono hb2'.size)
  have e0 : w3.cell? ⟨b, o, none⟩ = some (.int .i64 0) := by
    have := ((ht.out.below hbw hb) 0 (by rw [HL.out]; omega)).c0
    rw [hlast.out] at this
    simpa using this
  have y2 := T3 0 (by rw [HML.out]; omega)
  rw [hend.out] at y2
  obtain ⟨d0, d1, d2, d3, d4⟩ := y2
  simp only [Nat.zero_mul, Nat.add_zero] at d0 d1 d2 d3 d4
  rw [HML.out]
  clear hO3 T3 hb1 hb2 hb2' hb3 C1 hE hM ht
  go_wp2
  go_loopw [10] (fun i wr => i = .int .i64 ((0 : Nat) : Int) ∧ w3 = wr) (fun i _ => 0)
  case atStart => exact ⟨rfl, rfl⟩
  case round =>
    obtain ⟨rfl, rfl⟩ := hrel
    go_wp2
    go_ret
    exact ⟨rfl, hbw.trans (((Below.refl _ w3).alloc (Nat.le_refl _) _).mono hbw.size)⟩
theorem getD_snoc (l : List Tok) (e : Tok) : (l ++ [e]).getD l.length zero = e := by simp
theorem getD_init {l m : List Tok} {j : Nat} (h : j < l.length) : (l ++ m).getD j zero = l.getD j zero := getD_left h
theorem nums_of {l : List Tok} (hf : Fits l) : Nums l := fun t ht => by
  obtain ⟨j, hj, e⟩ := List.mem_iff_getElem.1 ht
  have := (hf.2 j hj).2.1
  rw [List.getD_eq_getElem?_getD, List.getElem?_eq_getElem hj] at this
  rw [← e]; exact this
theorem core_all {l : List Tok} : ∀ t ∈ core l, t.kind ≠ 0 := fun t ht => by
  have := List.all_takeWhile (l := l) (p := fun t : Tok => t.kind != 0)
  have h := List.all_eq_true.1 this t ht
  simpa using h
theorem walk (v : Value) (l : List Tok) (w : World) (hf : Hid (Fits l)) (hv : Hid (Lies w v l)) (hE : Hid (Env w)) :
    Calls Tryd.prog 7 #[v] w fun e w' => e = .returned (.bool true) ∧ Below w.heap.size w w' := by
  have CJ := Lxm.join_any v l w hf.out hv.out hE.out.toPow
  have hshape : ∃ A c, v = .slice A l.length c := by
    rcases hv.out with ⟨rfl, x, c, rfl⟩ | ⟨b, o, c, rfl, _, _⟩
    · exact ⟨x, c, rfl⟩
    · exact ⟨_, c, rfl⟩
  cases hJ : joined l with
  | none =>
    rw [hJ] at CJ
    obtain ⟨A, c, rfl⟩ := hshape
    exact walk_none _ w hE _ A c rfl CJ
  | some S =>
    rw [hJ] at CJ
    by_cases hS : 20000 < S.size
    · obtain ⟨A, c, rfl⟩ := hshape
      exact walk_long _ S w hE hS _ A c rfl CJ
    · obtain ⟨hF, hd⟩ := joined_fine hJ
      obtain ⟨ts, hM, htl, htj⟩ := scan_join (s := S.data.toList) (by show S.size ≤ _; omega) hd hF (nums_of hf.out)
      have hsz : S.data.toList.length = S.size := rfl
      rw [hsz] at hM
      rcases hv.out with ⟨rfl, x, c, rfl⟩ | ⟨b, o, c, rfl, hb, ht⟩
      · have hc : (core ([] : List Tok)).length = 0 := rfl
        rw [if_pos hc] at hM
        have hts : ts = [] := List.length_eq_zero_iff.1 (by rw [htl]; rfl)
        subst hts
        exact walk_zero x c S _ w hE (by omega) CJ hM rfl rfl
      · have hcl := @core_all l
        rcases fine_core l hF with hl | ⟨e, hl, he⟩
        · -- the list has no end
          generalize hcr : core l = cr at *
          subst hl
          by_cases h0 : l.length = 0
          · have : l = [] := List.length_eq_zero_iff.1 h0
            subst this
            rw [if_pos h0] at hM
            have hts : ts = [] := List.length_eq_zero_iff.1 (by rw [htl]; rfl)
            subst hts
            exact walk_zero _ c S _ w hE (by omega) CJ hM rfl rfl
          · obtain ⟨k, hk⟩ : ∃ k, l.length = k + 1 := ⟨l.length - 1, by omega⟩
            rw [if_neg h0, hk, Nat.add_sub_cancel] at hM
            rw [hk] at htl htj
            have hk2 : k ≤ 1048576 := by have := hf.out.1; omega
            have hlast : (l.getD k zero).kind ≠ 0 := hcl _ (getD_tok (by omega))
            cases hc : Lxn.calls (l.getD k zero) with
            | true =>
              rw [hc, if_pos rfl] at hM
              rw [hk] at CJ ⊢
              refine walk_put b o c l k S _ w ht hb hE (by omega) hk hk2 CJ hM (by show _ = _; simp [htl]) (fun j hj => ?_) ?_ ?_ hc hlast
              · obtain ⟨q, hq⟩ := htj j hj
                refine ⟨q, ?_⟩
                rw [getD_left (by simp [htl]; omega), getD_left (by omega)]; exact hq
              · show _ = _
                rw [getD_left (by simp [htl]), ← htl, getD_snoc]; rfl
              · show _ = _
                have : (ts ++ [(⟨6, eol, 0, S.size, 1⟩ : Tok)]).length = k + 2 := by simp [htl]
                rw [← this, getD_snoc]
            | false =>
              rw [hc, if_neg (by decide)] at hM
              rw [hk] at CJ ⊢
              refine walk_plain b o c l k S _ w ht hb hE (by omega) hk hk2 CJ hM (by show _ = _; simp [htl]) (fun j hj => ?_) ?_ hc hlast
              · obtain ⟨q, hq⟩ := htj j hj
                refine ⟨q, ?_⟩
                rw [getD_left (by omega)]; exact hq
              · show _ = _
                rw [← htl, getD_snoc]
        · -- the list has its end
          generalize hcr : core l = cr at *
          subst hl
          have hlen : (cr ++ [e]).length = cr.length + 1 := by simp
          have hlastk : ((cr ++ [e]).getD cr.length zero).kind = 0 := by rw [getD_snoc]; exact he
          rw [hlen] at CJ ⊢
          by_cases h0 : cr.length = 0
          · have : cr = [] := List.length_eq_zero_iff.1 h0
            subst this
            rw [if_pos h0] at hM
            have hts : ts = [] := List.length_eq_zero_iff.1 (by rw [htl]; rfl)
            subst hts
            exact walk_zero_end b o c _ S _ w ht hb hE (by omega) hlen CJ hM rfl rfl hlastk
          · obtain ⟨k, hk⟩ : ∃ k, cr.length = k + 1 := ⟨cr.length - 1, by omega⟩
            rw [if_neg h0, hk, Nat.add_sub_cancel] at hM
            rw [hk] at htl htj hlastk
            have hk2 : k ≤ 1048576 := by have := hf.out.1; rw [hlen] at this; omega
            have hgk : (cr ++ [e]).getD k zero = cr.getD k zero := getD_left (by omega)
            have hlen2 : (cr ++ [e]).length = k + 2 := by rw [hlen, hk]
            have hmt : ∀ j, j < k + 1 → ∃ q : Nat, ts.getD j zero = reread ((cr ++ [e]).getD j zero) q 1 := fun j hj => by
              obtain ⟨q, hq⟩ := htj j hj
              exact ⟨q, by rw [hq, getD_left (by omega)]⟩
            cases hc : Lxn.calls (cr.getD k zero) with
            | true =>
              rw [hc, if_pos rfl] at hM
              rw [hk] at CJ ⊢
              refine walk_end_put b o c _ k S _ w ht hb hE (by omega) hlen2 hk2 CJ hM (by show _ = _; simp [htl]) (fun j hj => ?_) ?_ ?_ (by show _ = _; rw [hgk]; exact hc) hlastk
              · obtain ⟨q, hq⟩ := hmt j hj
                refine ⟨q, ?_⟩
                rw [getD_left (by simp [htl]; omega), getD_left (by omega)]; exact hq
              · show _ = _
                rw [getD_left (by simp [htl]), ← htl, getD_snoc]; rfl
              · show _ = _
                have : (ts ++ [(⟨6, eol, 0, S.size, 1⟩ : Tok)]).length = k + 2 := by simp [htl]
                rw [← this, getD_snoc]
            | false =>
              rw [hc, if_neg (by decide)] at hM
              rw [hk] at CJ ⊢
              refine walk_end b o c _ k S _ w ht hb hE (by omega) hlen2 hk2 CJ hM (by show _ = _; simp [htl]) (fun j hj => ?_) ?_ (by show _ = _; rw [hgk]; exact hc) hlastk
              · obtain ⟨q, hq⟩ := hmt j hj
                refine ⟨q, ?_⟩
                rw [getD_left (by omega)]; exact hq
              · show _ = _
                rw [← htl, getD_snoc]
end Go.Proofs.YtjmgfhbadnechaaDoor.Lbx
