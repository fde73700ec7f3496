/- (*lex.scanner).one. -/
import Derived.Test.YtjmgfhbadnechaaDoorLsc
import Derived.Test.YtjmgfhbadnechaaDoorUnq
import Derived.Test.YtjmgfhbadnechaaDoorNum
set_option linter.unusedVariables false
namespace Go.Proofs.YtjmgfhbadnechaaDoor.Lsd
open Go.RowKit Wrd Nam Env Num Lxp Lxw Lxr Lxk Lxs Lxj Lrs Lrt Lru Apt Lrv Lrc Lsa Lsb Lsc

/-- How 'one' answers. -/
def Oned (g : Nat) (src : ByteArray) (p : Nat) (line : Int) (out : List Tok) (r : Int ⊕ Lxn.Piece) (w : World) (e : Ending) (w' : World) : Prop :=
  Below g w w' ∧ match r with
  | .inl er => e = .returned (.int .i64 er) ∧ ∃ v' f', Sc g src p line v' out f' w'
  | .inr (k, t, q, m) => e = .returned (.int .i64 0) ∧ ∃ v', Sc g src (p + m) line v' (out ++ [⟨k, t, q, p, line⟩]) true w'
theorem run_alnum : ∀ (l : List UInt8) (j : Nat), j < Lxn.run l → ∃ c, l[j]? = some c ∧ alnum c = true
  | [], j, h => by simp [Lxn.run] at h
  | c :: l, j, h => by
    cases ha : alnum c with
    | false => rw [run_stop ha] at h; omega
    | true =>
      rw [run_go ha] at h
      cases j with
      | zero => exact ⟨c, rfl, ha⟩
      | succ j => exact run_alnum l j (by omega)
theorem run_next : ∀ (l : List UInt8) (c : UInt8), l[Lxn.run l]? = some c → alnum c = false
  | [], c, h => by simp at h
  | d :: l, c, h => by
    cases ha : alnum d with
    | false =>
      rw [run_stop ha] at h
      simp only [List.getElem?_cons_zero, Option.some.injEq] at h
      rw [← h]; exact ha
    | true =>
      rw [run_go ha] at h
      exact run_next l c h
theorem run_at {X : ByteArray} {j : Nat} (hj : j < X.size) (h : j < Lxn.run X.data.toList) : alnum X[j] = true := by
  obtain ⟨c, h1, h2⟩ := run_alnum _ j h
  have e : X.data.toList[j]? = some X[j] := by rw [List.getElem?_eq_getElem (by exact hj)]; rfl
  rw [e] at h1
  cases h1; exact h2
theorem run_end {X : ByteArray} (hj : Lxn.run X.data.toList < X.size) : alnum X[Lxn.run X.data.toList] = false := by
  refine run_next X.data.toList _ ?_
  rw [List.getElem?_eq_getElem (by exact hj)]; rfl
theorem wordly_is (c : UInt8) (r : Bool) (w : World) (h : alnum c = r) : Calls Tryd.prog 53 #[.int .u8 c.toNat] w fun e w' => e = .returned (.bool r) ∧ w = w' := by
  subst h; exact wordly_any c w
theorem Sc.drewN {g : Nat} {src : ByteArray} {p : Nat} {line : Int} {v : Value} {out : List Tok} {fresh : Bool} {w : World} (h : Sc g src p line v out fresh w) (n : Nat) : Sc g src p line v out fresh (w.drewN n) := h.below (below_drewN w n)
theorem cut_dig {c : UInt8} {r : List UInt8} {N : Nat} {v er : Int} (h : digit c = true) (hN : Lxn.run (c :: r) = N) (hp : Pnu.parse ((c :: r).take N) = (v, er)) : Lxn.cut (c :: r) = if er = 0 then .inr (3, ⟨#[]⟩, v, N) else .inl 33 := by
  subst hN
  unfold Lxn.cut
  simp only [h, if_true, hp]
theorem cut_let {c : UInt8} {r : List UInt8} {N : Nat} {Y : ByteArray} (h : digit c = false) (hl : letter c = true) (hN : Lxn.run (c :: r) = N) (hY : (⟨((c :: r).take N).toArray⟩ : ByteArray) = Y) : Lxn.cut (c :: r) = if Plo.isWord Y = true then .inr (2, Y, 0, N) else if 30 < N then .inl 35 else .inr (1, Y, 0, N) := by
  subst hN; subst hY
  unfold Lxn.cut
  simp only [h, hl, if_true, Bool.false_eq_true, if_false]
def quoC (o : Option (List UInt8 × Nat)) : Int ⊕ Lxn.Piece := match o with
  | none => .inl 34
  | some (t, k) => .inr (4, ⟨t.toArray⟩, 0, k)
theorem cut_quo {r : List UInt8} : Lxn.cut (34 :: r) = quoC (Plw.unquote (34 :: r)) := by
  have h1 : digit 34 = false := by decide
  have h2 : letter 34 = false := by decide
  unfold quoC
  simp only [Lxn.cut, h1, h2, Bool.false_eq_true, if_false, if_true]
  cases Plw.unquote (34 :: r) <;> rfl
theorem take_is (X : ByteArray) (N : Nat) : (X.extract 0 N).data.toList = X.data.toList.take N := by
  rw [Lib.extract_data]; simp
set_option maxHeartbeats 16000000 in
set_option maxRecDepth 100000 in
theorem one_any (g : Nat) (src : ByteArray) (p : Nat) (line : Int) (v : Value) (out : List Tok) (fresh : Bool) (w : World) (h : Hid (Sc g src p line v out fresh w)) (hp : p < src.size) (hs : src.size ≤ 20000) (hl : out.length ≤ 900000) (hE : Hid (Env w)) :
    Calls Tryd.prog 29 #[.pointer (some ⟨g, 0, none⟩)] w (Oned g src p line out (Lxn.cut (src.data.toList.drop p)) w) := by
  obtain ⟨⟨c0, c1, c2, c3, c4⟩, f0, f1, f2, f3, f4⟩ := h.out.blk.cells
  have hlt := h.out.lt
  obtain ⟨C, hC⟩ : ∃ C, Lxn.cut (src.data.toList.drop p) = C := ⟨_, rfl⟩
  rw [hC]
  obtain ⟨X, hX⟩ : ∃ X, src.extract p src.size = X := ⟨_, rfl⟩
  have hXd : X.data.toList = src.data.toList.drop p := by rw [← hX]; exact rest_is src p
  rw [← hXd] at hC
  have HC := Lib.hid hC
  clear hC
  have hXs : X.size = src.size - p := by
    have : X.data.toList.length = src.data.toList.length - p := by rw [hXd, List.length_drop]
    exact this
  clear hXd
  obtain ⟨N, hN⟩ : ∃ N, Lxn.run X.data.toList = N := ⟨_, rfl⟩
  have hNX : N ≤ X.size := by rw [← hN]; exact Lxn.run_le _
  have HA : Hid (∀ j (hj : j < X.size), j < N → alnum X[j] = true) := fun j hj h => run_at hj (by rw [hN]; exact h)
  have HB : Hid (∀ h : N < X.size, alnum X[N] = false) := by subst hN; exact fun h => run_end h
  have HN := Lib.hid hN
  have hx0 : 0 < X.size := by omega
  have HD : Hid (X.data.toList = X[0] :: X.data.toList.drop 1) := drop_at X 0 hx0
  have hXm : X.size ≤ 20000 := by omega
  clear hN hXs
  go_enter Tryd.func29, Tryd.ntmps29
  go_wp2_with fail
  go_quiet (fail)
  go_wp2_with fail
  have HS := Lib.hid (Sc.drewN h.out nq)
  have HE : Hid (Env (w.drewN nq)) := hE.out.below (below_drewN w nq)
  have hbw : Below g w (w.drewN nq) := below_drewN_up (Below.refl g w) nq
  obtain ⟨w1, hw1⟩ : ∃ w1, w1 = w.drewN nq := ⟨_, rfl⟩
  rw [← hw1] at HS HE hbw
  rw [← hw1]
  clear hw1 c0 c1 c2 c3 c4 f0 f1 f2 f3 f4 hX
  go_loopw [4] (fun i wr => ∃ k : Nat, k ≤ N ∧ i = .int .i64 k ∧ w1 = wr) (fun i _ => N - (intOf i).toNat)
  case atStart => exact ⟨0, Nat.zero_le _, rfl, rfl⟩
  case round =>
    obtain ⟨k, hk, rfl, rfl⟩ := hrel
    by_cases hkN : k < N
    · have hkX : k < X.size := by omega
      have HAk := Lib.hid (HA.out k hkX hkN)
      go_wp2_with (go_at_call 53; refine (wordly_is _ true _ HAk.out).mono ?_; rintro e w2 ⟨rfl, rfl⟩)
      go_roundw
      case rel => exact ⟨k + 1, by omega, by go_num, trivial⟩
      case measure => simp [intOf]; omega
    · have hkN2 : k = N := by omega
      subst hkN2
      clear hkN hk HA
      have ADD : Hid (∀ (W : World) (kk : Int) (t : ByteArray) (n : Int) (m : Nat), Below w1.heap.size w1 W → p + m ≤ 1000000 → Calls Tryd.prog 30 #[.pointer (some ⟨g, 0, none⟩), .int .i64 kk, .string t, .int .i64 n, .int .i64 m] W fun e w' => e = .returned (.tuple #[]) ∧ (∃ v', Sc g src (p + m) line v' (out ++ [⟨kk, t, n, p, line⟩]) true w') ∧ Below g W w') :=
        fun W kk t n m hb hm => add_any g src p line v out fresh kk t n m W (Lib.hid (HS.out.below hb)) hm (by omega)
      have FIN : Hid (∀ (W W' : World) (kk : Int) (t : ByteArray) (n : Int) (m : Nat), C = .inr (kk, t, n, m) → Below w1.heap.size w1 W → (∃ v', Sc g src (p + m) line v' (out ++ [⟨kk, t, n, p, line⟩]) true W') → Below g W W' → Oned g src p line out C w (.returned (.int .i64 0)) W') := fun W W' kk t n m hc hb hS hb2 => by
        rw [hc]
        exact ⟨hbw.trans ((hb.mono (Nat.le_of_lt HS.out.lt)).trans hb2), rfl, hS⟩
      have BAD : Hid (∀ (W : World) (er : Int), C = .inl er → Below w1.heap.size w1 W → Oned g src p line out C w (.returned (.int .i64 er)) W) := fun W er hc hb => by
        rw [hc]
        exact ⟨hbw.trans (hb.mono (Nat.le_of_lt HS.out.lt)), rfl, v, fresh, HS.out.below hb⟩
      clear hbw
      obtain ⟨Y, hY⟩ : ∃ Y, X.extract 0 k = Y := ⟨_, rfl⟩
      have hYd : Y.data.toList = X.data.toList.take k := by rw [← hY]; exact take_is X k
      have hYs : Y.size ≤ 35184372088832 := by
        have : Y.data.toList.length ≤ X.data.toList.length := by rw [hYd, List.length_take]; omega
        have e1 : Y.data.toList.length = Y.size := rfl
        have e2 : X.data.toList.length = X.size := rfl
        omega
      cases hd : digit X[0] with
      | true =>
        have hd' : 48 ≤ X[0].toNat ∧ X[0].toNat ≤ 57 := of_decide_eq_true hd
        have d1 : decide ((48 : Int) ≤ (X[0].toNat : Int)) = true := decide_eq_true (by omega)
        have d2 : decide ((X[0].toNat : Int) ≤ 57) = true := decide_eq_true (by omega)
        obtain ⟨pv, er, hpv⟩ : ∃ pv er, Pnu.parse Y.data.toList = (pv, er) := ⟨_, _, rfl⟩
        have CP : Hid (∀ w, Env w → Calls Tryd.prog 54 #[.string Y] w fun e' w' => e' = .returned (.tuple #[.int .i64 pv, .int .i64 er]) ∧ Below w.heap.size w w') := fun w hE => (Num.parse_any Y w hYs hE).mono fun _ _ h => by rw [hpv] at h; exact h
        have HCC : Hid (C = if er = 0 then .inr (3, ⟨#[]⟩, pv, k) else .inl 33) := by
          show _ = _
          have hpv' := hpv
          rw [hYd, HD.out] at hpv'
          have hN' := HN.out
          rw [HD.out] at hN'
          rw [← HC.out, HD.out, cut_dig hd hN' hpv']
        clear hpv hYd hd hd'
        by_cases hkX : k < X.size
        all_goals
          go_wp2_with (go_at_call 53; refine (wordly_is _ false _ (HB.out hkX)).mono ?_; rintro e w2 ⟨rfl, rfl⟩)
          refine (CP.out _ HE.out).mono ?_
          rintro e w2 ⟨rfl, hb2⟩
          cases h0 : (er == 0) with
          | true =>
            obtain rfl := eq_of_beq h0
            have HCD : Hid (C = .inr (3, ⟨#[]⟩, pv, k)) := HCC.out
            clear h0
            go_wp2_with fail
            refine (ADD.out w2 3 ⟨#[]⟩ pv k hb2 (by omega)).mono ?_
            rintro e w3 ⟨rfl, hS3, hb3⟩
            have HF := Lib.hid (FIN.out w2 w3 3 ⟨#[]⟩ pv k HCD.out hb2 hS3 hb3)
            clear hS3
            go_wp2
            go_ret
            exact HF.out
          | false =>
            have h0' : (er != 0) = true := by unfold bne; rw [h0]; rfl
            have HCD : Hid (C = .inl 33) := by
              show _ = _
              rw [HCC.out, if_neg (by simpa using h0)]
            have HF := Lib.hid (BAD.out w2 33 HCD.out hb2)
            go_wp2
            go_ret
            exact HF.out
      | false =>
        have hd0 : ¬ (48 ≤ X[0].toNat ∧ X[0].toNat ≤ 57) := of_decide_eq_false hd
        have hd1 : Hid (digit X[0] = false) := hd
        clear hd
        have hdd : (decide ((48 : Int) ≤ (X[0].toNat : Int)) = false) ∨ (decide ((48 : Int) ≤ (X[0].toNat : Int)) = true ∧ decide ((X[0].toNat : Int) ≤ 57) = false) := by
          by_cases h48 : 48 ≤ X[0].toNat
          · exact .inr ⟨decide_eq_true (by omega), decide_eq_false (by omega)⟩
          · exact .inl (decide_eq_false (by omega))
        clear hd0
        cases hle : letter X[0] with
        | true =>
          have hk1 : 0 < k := by
            have := Lxn.run_pos (c := X[0]) (r := X.data.toList.drop 1) (by unfold alnum; rw [hle]; rfl)
            rw [← HD.out, HN.out] at this; omega
          have HCC : Hid (C = if Plo.isWord Y = true then .inr (2, Y, 0, k) else if 30 < k then .inl 35 else .inr (1, Y, 0, k)) := by
            show _ = _
            have hN' := HN.out
            rw [HD.out] at hN'
            rw [← HC.out, HD.out]
            refine cut_let hd1.out hle hN' ?_
            rw [← HD.out]
            exact (Plo.ba_ext hYd).symm
          clear hle hYd
          cases hw : Plo.isWord Y with
          | true =>
            have HW := Lib.hid hw
            have HCD : Hid (C = .inr (2, Y, 0, k)) := by show _ = _; rw [HCC.out, hw, if_pos rfl]
            clear hw
            by_cases hkX : k < X.size <;> rcases hdd with d1 | ⟨d1, d2⟩
            all_goals
              go_wp2_with (go_at_call 53; refine (wordly_is _ false _ (HB.out hkX)).mono ?_; rintro e w2 ⟨rfl, rfl⟩)
              refine (word_is Y true _ HW.out).mono ?_
              rintro e w2 ⟨rfl, hb2⟩
              go_wp2_with fail
              refine (ADD.out w2 2 Y 0 k hb2 (by omega)).mono ?_
              rintro e w3 ⟨rfl, hS3, hb3⟩
              have HF := Lib.hid (FIN.out w2 w3 2 Y 0 k HCD.out hb2 hS3 hb3)
              clear hS3
              go_wp2
              go_ret
              exact HF.out
          | false =>
            have HW := Lib.hid hw
            clear hw
            cases h30 : decide ((30 : Int) < (k : Int)) with
            | true =>
              have h30' := of_decide_eq_true h30
              have HCD : Hid (C = .inl 35) := by show _ = _; rw [HCC.out, HW.out, if_neg (by decide), if_pos (by omega)]
              by_cases hkX : k < X.size <;> rcases hdd with d1 | ⟨d1, d2⟩
              all_goals
                go_wp2_with (go_at_call 53; refine (wordly_is _ false _ (HB.out hkX)).mono ?_; rintro e w2 ⟨rfl, rfl⟩)
                refine (word_is Y false _ HW.out).mono ?_
                rintro e w2 ⟨rfl, hb2⟩
                have HF := Lib.hid (BAD.out w2 35 HCD.out hb2)
                go_wp2
                go_ret
                exact HF.out
            | false =>
              have h30' := of_decide_eq_false h30
              have HCD : Hid (C = .inr (1, Y, 0, k)) := by show _ = _; rw [HCC.out, HW.out, if_neg (by decide), if_neg (by omega)]
              by_cases hkX : k < X.size <;> rcases hdd with d1 | ⟨d1, d2⟩
              all_goals
                go_wp2_with (go_at_call 53; refine (wordly_is _ false _ (HB.out hkX)).mono ?_; rintro e w2 ⟨rfl, rfl⟩)
                refine (word_is Y false _ HW.out).mono ?_
                rintro e w2 ⟨rfl, hb2⟩
                go_wp2_with fail
                refine (ADD.out w2 1 Y 0 k hb2 (by omega)).mono ?_
                rintro e w3 ⟨rfl, hS3, hb3⟩
                have HF := Lib.hid (FIN.out w2 w3 1 Y 0 k HCD.out hb2 hS3 hb3)
                clear hS3
                go_wp2
                go_ret
                exact HF.out
        | false =>
          have hk0 : k = 0 := by
            have : alnum X[0] = false := by unfold alnum; rw [hle, hd1.out]; rfl
            have h2 := run_stop (c := X[0]) (r := X.data.toList.drop 1) this
            rw [← HD.out, HN.out] at h2; exact h2
          have hkX : k < X.size := by omega
          have HL := Lib.hid hle
          clear hle hYd hY
          subst hk0
          cases hq : ((X[0].toNat : Int) == 34) with
          | true =>
            have e34 : X[0] = 34 := UInt8.toNat_inj.1 (by have := eq_of_beq hq; show X[0].toNat = 34; omega)
            have HCC : Hid (C = quoC (Plw.unquote X.data.toList)) := by
              show _ = _
              rw [← HC.out, HD.out, e34, cut_quo]
            clear e34
            have C0 := fun w => Unq.unquote_any X w (by omega)
            cases hu : Plw.unquote X.data.toList with
            | none =>
              rw [hu] at C0
              have CU : Hid (∀ w, Calls Tryd.prog 55 #[.string X] w fun e w' => e = .returned (.tuple #[.string ⟨#[]⟩, .int .i64 0, .int .i64 21]) ∧ Below w.heap.size w w') := C0
              have HCD : Hid (C = .inl 34) := by show _ = _; rw [HCC.out, hu]; rfl
              clear C0 hu
              rcases hdd with d1 | ⟨d1, d2⟩
              all_goals
                go_wp2_with (go_at_call 53; refine (wordly_is _ false _ (HB.out hkX)).mono ?_; rintro e w2 ⟨rfl, rfl⟩)
                refine (CU.out _).mono ?_
                rintro e w2 ⟨rfl, hb2⟩
                have HF := Lib.hid (BAD.out w2 34 HCD.out hb2)
                go_wp2
                go_ret
                exact HF.out
            | some tk =>
              obtain ⟨t, m⟩ := tk
              rw [hu] at C0
              have CU : Hid (∀ w, Calls Tryd.prog 55 #[.string X] w fun e w' => e = .returned (.tuple #[.string ⟨t.toArray⟩, .int .i64 m, .int .i64 0]) ∧ Below w.heap.size w w') := C0
              have HCD : Hid (C = .inr (4, ⟨t.toArray⟩, 0, m)) := by show _ = _; rw [HCC.out, hu]; rfl
              have hm : m ≤ X.size := (Lxn.unquote_le hu).2.1
              clear C0 hu
              obtain ⟨T, hT⟩ : ∃ T : ByteArray, (⟨t.toArray⟩ : ByteArray) = T := ⟨_, rfl⟩
              rw [hT] at CU HCD
              clear hT
              rcases hdd with d1 | ⟨d1, d2⟩
              all_goals
                go_wp2_with (go_at_call 53; refine (wordly_is _ false _ (HB.out hkX)).mono ?_; rintro e w2 ⟨rfl, rfl⟩)
                refine (CU.out _).mono ?_
                rintro e w2 ⟨rfl, hb2⟩
                go_wp2_with fail
                refine (ADD.out w2 4 T 0 m hb2 (by omega)).mono ?_
                rintro e w3 ⟨rfl, hS3, hb3⟩
                have HF := Lib.hid (FIN.out w2 w3 4 T 0 m HCD.out hb2 hS3 hb3)
                clear hS3
                go_wp2
                go_ret
                exact HF.out
          | false =>
            have HCC : Hid (C = match Lxn.firstSign X.data.toList with | none => .inl 32 | some s => .inr (if isT s semi = true then 6 else 5, s, 0, s.size)) := by
              show _ = _
              rw [← HC.out, HD.out, cut_sign HL.out hd1.out (fun e => by rw [e] at hq; exact absurd hq (by decide))]
              cases Lxn.firstSign (X[0] :: X.data.toList.drop 1) <;> rfl
            have HS0 := Lib.hid (HS.out.below ((Below.refl _ w1).alloc (Nat.le_refl _) (.cells signCells 9)))
            have Q34 := hq
            rcases hdd with d1 | ⟨d1, d2⟩
            all_goals
              go_wp2_with (go_at_call 53; refine (wordly_is _ false _ (HB.out hkX)).mono ?_; rintro e w2 ⟨rfl, rfl⟩)
              refine (signs_any _).mono ?_
              rintro e w2 ⟨rfl, hw2⟩
              have hb2 : Below w1.heap.size w1 w2 := by rw [hw2]; exact (Below.refl _ _).alloc (Nat.le_refl _) _
              have HSt : Hid (Strs w2 w1.heap.size signs) := signs_in rfl hw2
              clear hw2 HS0
              go_wp2_with fail
              go_loopw [101] (fun i wr => ∃ k : Nat, k ≤ 27 ∧ i = .int .i64 k ∧ w2 = wr ∧ Hid (∀ j, j < k → headed (signs.getD j ByteArray.empty) X.data.toList = false)) (fun i _ => 27 - (intOf i).toNat)
              case atStart => exact ⟨0, Nat.zero_le _, rfl, rfl, fun j hj => absurd hj (by omega)⟩
              case round =>
                obtain ⟨k, hk, rfl, rfl, hN2⟩ := hrel
                by_cases hlt3 : k < 27
                · have cm := HSt.out k hlt3
                  obtain ⟨y, hy⟩ : ∃ y, signs.getD k ByteArray.empty = y := ⟨_, rfl⟩
                  rw [hy] at cm
                  have hyz : y.size ≤ 2 := by rw [← hy]; exact signs_small _ (Plo.getD_mem hlt3)
                  have HY := Lib.hid hy
                  clear hy
                  obtain ⟨b, hb⟩ : ∃ b, headed y X.data.toList = b := ⟨_, rfl⟩
                  have HP : Hid (∀ w, Calls Tryd.prog 27 #[.string X, .string y] w fun e w' => e = .returned (.bool b) ∧ w = w') := fun w => (Unq.hasPrefix X y w).mono fun _ _ ⟨h1, h2⟩ => ⟨by rw [h1, ← hb]; rfl, h2⟩
                  cases b with
                  | false =>
                    have HT : Hid (∀ j, j < k + 1 → headed (signs.getD j ByteArray.empty) X.data.toList = false) := by
                      intro j hj
                      by_cases e : j = k
                      · rw [e, HY.out]; exact hb
                      · exact hN2.out j (by omega)
                    clear hb hN2
                    go_wp2_with fail
                    refine (HP.out _).mono ?_
                    rintro e w3 ⟨rfl, rfl⟩
                    go_wp2
                    go_roundw
                    case rel => exact ⟨k + 1, by omega, by go_num, trivial, HT⟩
                    case measure => simp [intOf]; omega
                  | true =>
                    have HF := firstSign_at hlt3 hN2.out (by rw [HY.out]; exact hb)
                    rw [HY.out] at HF
                    have HR : Hid (C = .inr (if isT y semi = true then 6 else 5, y, 0, y.size)) := by
                      show _ = _
                      rw [HCC.out, HF]
                    have hpy : y.size ≤ X.size := by
                      have := (List.isPrefixOf_iff_prefix.1 hb).length_le
                      exact this
                    clear hb hN2 HF
                    cases hsm : (y.toList == [59]) with
                    | true =>
                      have HCD : Hid (C = .inr (6, y, 0, y.size)) := by
                        have hys : y = ⟨#[59]⟩ := Plo.ba_ext (by rw [← Lib.toList_data]; exact eq_of_beq hsm)
                        have h1 : isT y semi = true := by rw [hys]; decide
                        show _ = _
                        rw [HR.out, h1, if_pos rfl]
                      go_wp2_with fail
                      refine (HP.out _).mono ?_
                      rintro e w3 ⟨rfl, rfl⟩
                      go_wp2_with fail
                      refine (ADD.out _ 6 y 0 y.size hb2 (by omega)).mono ?_
                      rintro e w3 ⟨rfl, hS3, hb3⟩
                      have HF := Lib.hid (FIN.out _ w3 6 y 0 y.size HCD.out hb2 hS3 hb3)
                      clear hS3
                      go_wp2
                      go_ret
                      exact HF.out
                    | false =>
                      have HCD : Hid (C = .inr (5, y, 0, y.size)) := by
                        have h1 : isT y semi = false := by
                          cases e : isT y semi with
                          | false => rfl
                          | true =>
                            have := eq_of_beq e
                            rw [Lib.toList_data, this] at hsm
                            exact absurd hsm (by decide)
                        show _ = _
                        rw [HR.out, h1, if_neg (by decide)]
                      go_wp2_with fail
                      refine (HP.out _).mono ?_
                      rintro e w3 ⟨rfl, rfl⟩
                      go_wp2_with fail
                      refine (ADD.out _ 5 y 0 y.size hb2 (by omega)).mono ?_
                      rintro e w3 ⟨rfl, hS3, hb3⟩
                      have HF := Lib.hid (FIN.out _ w3 5 y 0 y.size HCD.out hb2 hS3 hb3)
                      clear hS3
                      go_wp2
                      go_ret
                      exact HF.out
                · have HCD : Hid (C = .inl 32) := by
                    show _ = _
                    rw [HCC.out, firstSign_no fun j hj => hN2.out j (by rw [signs_length] at hj; omega)]
                  have HF := Lib.hid (BAD.out _ 32 HCD.out hb2)
                  clear hN2
                  go_wp2
                  go_ret
                  exact HF.out
end Go.Proofs.YtjmgfhbadnechaaDoor.Lsd
