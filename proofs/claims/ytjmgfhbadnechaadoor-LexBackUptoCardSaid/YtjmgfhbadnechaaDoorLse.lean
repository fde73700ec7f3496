/- lex.Scan. -/
import Derived.Test.YtjmgfhbadnechaaDoorLsd
import Derived.Test.YtjmgfhbadnechaaDoorLpq
import Derived.Deep.LoopGhost
import Derived.RegionTactic
set_option linter.unusedVariables false
namespace Go.Proofs.YtjmgfhbadnechaaDoor.Lse
open Go.RowKit Wrd Nam Env Num Lxp Lxw Lxr Lxk Lxs Lxj Lrs Lrt Lru Apt Lrv Lrc Lrw Lsa Lsb Lsc Lsd

/-- How lex.Scan answers. -/
def Told (B : Nat) (r : (Int × Int) ⊕ List Tok) (e : Ending) (w' : World) : Prop := match r with
  | .inl (a, er) => ∃ N, e = .returned (.tuple #[.slice none 0 0, .iface 56 (.pointer (some ⟨N, 0, none⟩))]) ∧ B ≤ N ∧ w'.heap[N]? = some (.cells #[.int .i64 a, .int .i64 er] 58 (0, 0))
  | .inr l => ∃ v, e = .returned (.tuple #[v, .nilIface]) ∧ OwnT B v l w'
theorem ends_any (g : Nat) (src : ByteArray) (p : Nat) (line : Int) (v : Value) (out : List Tok) (last : Tok) (fresh : Bool) (w : World) (h : Hid (Sc g src p line v out fresh w)) (hp : p ≤ 900000) (hl : out.length ≤ 900000)
    (hf : fresh = true ∧ (∃ init, out = init ++ [last]) ∨ fresh = false ∧ last = zero) :
    Calls Tryd.prog 26 #[.pointer (some ⟨g, 0, none⟩)] w (Ended g src p line (Lxn.close p line out last) w) := by
  rcases hf with ⟨rfl, init, rfl⟩ | ⟨rfl, rfl⟩
  · exact ends_fresh g src p line v init last w h hp (by simp at hl; omega)
  · rw [close_no Lpq.calls_zero]
    exact ends_stale g src p line v out w h
/-- What stands at a round's head. -/
structure At (s : ByteArray) (w0 : World) (n : Nat) (R : (Int × Int) ⊕ List Tok) (p : Nat) (line : Int) (v : Value) (out : List Tok) (fresh : Bool) (last : Tok) (wr : World) : Prop where
  sc : Sc w0.heap.size s p line v out fresh wr
  hp : p ≤ s.size
  l0 : 1 ≤ line
  l1 : line ≤ p + 1
  ol : out.length ≤ p
  hn : s.size < p + n
  below : Below w0.heap.size w0 wr
  tie : fresh = true ∧ (∃ init, out = init ++ [last]) ∨ fresh = false ∧ last = zero
  go : Lxn.go s.data.toList n p line out last = R
def Head2 (s : ByteArray) (w0 : World) (R : (Int × Int) ⊕ List Tok) (n : Nat) (wr : World) : Prop := ∃ p line v out fresh last, At s w0 n R p line v out fresh last wr
theorem two {X : List UInt8} : Lib.hasPrefix X [47, 47] = decide (0 < Lxn.comment X) := by
  cases X with
  | nil => rfl
  | cons a X =>
    cases X with
    | nil =>
      show (47 == a && false) = _
      rw [Bool.and_false, comment_one]; rfl
    | cons b X =>
      show (47 == a && (47 == b && true)) = _
      by_cases ha : a = 47
      · subst ha
        by_cases hb : b = 47
        · subst hb
          have : 0 < Lxn.comment (47 :: 47 :: X) := by
            rw [comment_yes, upto_go (by decide)]; omega
          simp [this]
        · rw [comment_no2 hb]; simp [Ne.symm hb]
      · rw [comment_no ha]; simp [Ne.symm ha]
theorem upto_index : ∀ X : List UInt8, (upto X : Int) = if Lib.indexByte X 10 < 0 then (X.length : Int) else Lib.indexByte X 10
  | [] => rfl
  | c :: X => by
    have ih := upto_index X
    have hge := Lib.indexByte_ge X 10
    by_cases h : c = 10
    · subst h; rfl
    · have hb : (c == 10) = false := beq_false_of_ne h
      rw [upto_go h]
      unfold Lib.indexByte
      rw [hb]
      simp only [Bool.false_eq_true, if_false]
      by_cases h1 : Lib.indexByte X 10 = -1
      · rw [h1] at ih
        simp only [h1, beq_self_eq_true, if_true, List.length_cons]
        simp only [show ((-1 : Int) < 0) = True from by simp, if_true] at ih ⊢
        omega
      · have h2 : (Lib.indexByte X 10 == -1) = false := beq_false_of_ne h1
        rw [h2]
        simp only [Bool.false_eq_true, if_false]
        rw [if_neg (by omega)] at ih
        rw [if_neg (by omega)]
        omega
theorem comment_upto {X : List UInt8} (h : 0 < Lxn.comment X) : Lxn.comment X = upto X := by
  unfold Lxn.comment at h ⊢
  split
  · rfl
  · rename_i h2
    split at h
    · rename_i r; exact absurd rfl (h2 r)
    · omega
/-- A cell of the scanner is written. -/
theorem sc_at {g : Nat} {src : ByteArray} {p : Nat} {line : Int} {v : Value} {out : List Tok} {fresh : Bool} {w : World} (h : Sc g src p line v out fresh w) (q : Nat) : Sc g src q line v out fresh (w.setCell ⟨g, 1, none⟩ (.int .i64 q)) :=
  ⟨heap_setCell_same _ g 1 _ _ _ h.blk, OwnT.other h.own fun b hb => by rw [heap_setCell_other _ _ _ _ (by simp; omega)], by have := h.lt; simp; omega⟩
theorem sc_line {g : Nat} {src : ByteArray} {p : Nat} {line : Int} {v : Value} {out : List Tok} {fresh : Bool} {w : World} (h : Sc g src p line v out fresh w) (q : Int) : Sc g src p q v out fresh (w.setCell ⟨g, 2, none⟩ (.int .i64 q)) :=
  ⟨heap_setCell_same _ g 2 _ _ _ h.blk, OwnT.other h.own fun b hb => by rw [heap_setCell_other _ _ _ _ (by simp; omega)], by have := h.lt; simp; omega⟩
theorem sc_new (w : World) (s : ByteArray) : Sc w.heap.size s 0 1 (.slice none 0 0) [] false (w.alloc (.cells #[.string s, .int .i64 0, .int .i64 1, .slice none 0 0, .bool false] 61)) :=
  ⟨heap_alloc_new w _, OwnT.nil _ _, by simp⟩
set_option maxHeartbeats 1000000 in
set_option maxRecDepth 100000 in
theorem scan_long (s : ByteArray) (w : World) (hs : 20000 < s.size) (hm : s.size ≤ 1048576) :
    Calls Tryd.prog 14 #[.string s] w fun e w' => Told w.heap.size (.inl (0, 31)) e w' ∧ Below w.heap.size w w' := by
  go_enter Tryd.func14, Tryd.ntmps14
  go_wp2
  go_ret2
  exact ⟨⟨w.heap.size, rfl, Nat.le_refl _, heap_alloc_new w _⟩, (Below.refl _ w).alloc (Nat.le_refl _) _⟩
set_option maxHeartbeats 16000000 in
set_option maxRecDepth 100000 in
theorem scan_go (s : ByteArray) (w : World) (hs : s.size ≤ 20000) (hE : Hid (Env w)) :
    Calls Tryd.prog 14 #[.string s] w fun e w' => Told w.heap.size (Lxn.go s.data.toList (s.size + 1) 0 1 [] zero) e w' ∧ Below w.heap.size w w' := by
  obtain ⟨R, hR⟩ : ∃ R, Lxn.go s.data.toList (s.size + 1) 0 1 [] zero = R := ⟨_, rfl⟩
  have HH : Hid (Head2 s w R (s.size + 1) (w.alloc (.cells #[.string s, .int .i64 0, .int .i64 1, .slice none 0 0, .bool false] 61))) :=
    ⟨0, 1, .slice none 0 0, [], false, zero, sc_new w s, Nat.zero_le _, by omega, by omega, Nat.le_refl _, by omega, (Below.refl _ _).alloc (Nat.le_refl _) _, .inr ⟨rfl, rfl⟩, hR⟩
  rw [hR]
  clear hR
  go_enter Tryd.func14, Tryd.ntmps14
  go_wp2
  go_loopg [5, 6, 7] (s.size + 1) (fun k c n e wr => Hid (Head2 s w R k wr))
  case atStart => exact HH
  case round =>
    clear HH
    obtain ⟨p, line, v, out, fresh, last, H⟩ := hrel.out
    clear hrel
    have hp := H.hp
    have l0 := H.l0
    have l1 := H.l1
    have ol := H.ol
    have hn := H.hn
    have HX := Lib.hid H
    clear H
    obtain ⟨n, rfl⟩ : ∃ m, gk = m + 1 := ⟨gk - 1, by omega⟩
    obtain ⟨⟨c0, c1, c2, c3, c4⟩, f0, f1, f2, f3, f4⟩ := HX.out.sc.blk.cells
    have hlt := HX.out.sc.lt
    by_cases hps : p < s.size
    · have HD := Lib.hid (drop_some hps)
      cases h10 : ((s[p].toNat : Int) == 10) with
      | true =>
        have HD : Hid (s.data.toList.drop p = 10 :: s.data.toList.drop (p + 1)) := by
          have : s[p] = 10 := UInt8.toNat_inj.1 (by have := eq_of_beq h10; show s[p].toNat = 10; omega)
          show _ = _
          rw [HD.out, this]
        have HN : Hid (∀ W v', Sc w.heap.size s (p + 1) (line + 1) v' (Lxn.close p line out last) false W → Below w.heap.size w W → Head2 s w R n W) := fun W v' hS hb => by
          have hoc := @out_close p line out last
          exact ⟨p + 1, line + 1, v', _, false, zero, hS, by omega, by omega, by omega, by omega, by omega, hb, .inr ⟨rfl, rfl⟩, by rw [← HX.out.go, go_line HD.out]⟩
        go_wp2_with fail
        refine (ends_any _ s p line v out last fresh wr (Lib.hid HX.out.sc) (by omega) (by omega) HX.out.tie).mono ?_
        rintro e w2 ⟨rfl, ⟨v2, hS2⟩, hb2⟩
        have hbw := HX.out.below.trans hb2
        clear c0 c1 c2 c3 c4 f0 f1 f2 f3 f4
        obtain ⟨⟨c0, c1, c2, c3, c4⟩, f0, f1, f2, f3, f4⟩ := hS2.blk.cells
        have HF := Lib.hid (HN.out _ v2 (sc_line (sc_at hS2 (p + 1)) (line + 1)) ((hbw.setCell (p := ⟨w.heap.size, 1, none⟩) (Nat.le_refl _) _).setCell (p := ⟨w.heap.size, 2, none⟩) (Nat.le_refl _) _))
        clear hS2
        go_wp2
        go_roundg n
        case rel => exact HF
        case measure => omega
      | false =>
        have hc10 : s[p] ≠ 10 := fun e => by rw [e] at h10; exact absurd h10 (by decide)
        have HNB : Hid (Lxn.blank s[p] = true → Head2 s w R n (wr.setCell ⟨w.heap.size, 1, none⟩ (.int .i64 ((p : Int) + 1)))) := fun hb =>
          ⟨p + 1, line, v, out, fresh, last, sc_at HX.out.sc (p + 1), by omega, l0, by omega, by omega, by omega, HX.out.below.setCell (p := ⟨w.heap.size, 1, none⟩) (Nat.le_refl _) _, HX.out.tie, by rw [← HX.out.go, go_blank HD.out hc10 hb]⟩
        cases h32 : ((s[p].toNat : Int) == 32) with
        | true =>
          have HF := Lib.hid (HNB.out (by
            have : s[p] = 32 := UInt8.toNat_inj.1 (by have := eq_of_beq h32; show s[p].toNat = 32; omega)
            rw [this]; decide))
          clear hc10
          go_wp2
          go_roundg n
          case rel => exact HF
          case measure => omega
        | false =>
        cases h9 : ((s[p].toNat : Int) == 9) with
        | true =>
          have HF := Lib.hid (HNB.out (by
            have : s[p] = 9 := UInt8.toNat_inj.1 (by have := eq_of_beq h9; show s[p].toNat = 9; omega)
            rw [this]; decide))
          clear hc10
          go_wp2
          go_roundg n
          case rel => exact HF
          case measure => omega
        | false =>
        cases h13 : ((s[p].toNat : Int) == 13) with
        | true =>
          have HF := Lib.hid (HNB.out (by
            have : s[p] = 13 := UInt8.toNat_inj.1 (by have := eq_of_beq h13; show s[p].toNat = 13; omega)
            rw [this]; decide))
          clear hc10
          go_wp2
          go_roundg n
          case rel => exact HF
          case measure => omega
        | false =>
        have hbl : Lxn.blank s[p] = false := by
          have a1 : s[p] ≠ 32 := fun e => by rw [e] at h32; exact absurd h32 (by decide)
          have a2 : s[p] ≠ 9 := fun e => by rw [e] at h9; exact absurd h9 (by decide)
          have a3 : s[p] ≠ 13 := fun e => by rw [e] at h13; exact absurd h13 (by decide)
          simp [Lxn.blank, a1, a2, a3]
        have HK := Lib.hid (And.intro hc10 hbl)
        clear hc10 hbl HNB
        obtain ⟨X, hX⟩ : ∃ X, s.extract p s.size = X := ⟨_, rfl⟩
        have hXd : X.data.toList = s.data.toList.drop p := by rw [← hX]; exact rest_is s p
        have HXD := Lib.hid hXd
        clear hXd
        obtain ⟨b, hb⟩ : ∃ b, decide (0 < Lxn.comment (s.data.toList.drop p)) = b := ⟨_, rfl⟩
        have HP : Hid (∀ w, Calls Tryd.prog 27 #[.string X, .string ⟨#[47, 47]⟩] w fun e w' => e = .returned (.bool b) ∧ w = w') := fun w => (Unq.hasPrefix X ⟨#[47, 47]⟩ w).mono fun _ _ ⟨h1, h2⟩ => ⟨by rw [h1, ← hb, ← HXD.out]; exact ret_bool two, h2⟩
        cases b with
        | true =>
          have hcm : 0 < Lxn.comment (s.data.toList.drop p) := of_decide_eq_true hb
          obtain ⟨m, hm⟩ : ∃ m, Lxn.comment (s.data.toList.drop p) = m := ⟨_, rfl⟩
          have hml : p + m ≤ s.size := by
            have := comment_le (s.data.toList.drop p)
            rw [hm, List.length_drop] at this
            have e : s.data.toList.length = s.size := rfl
            omega
          have hj0 := upto_index X.data.toList
          rw [HXD.out, ← comment_upto hcm, hm, List.length_drop] at hj0
          have hsl : s.data.toList.length = s.size := rfl
          rw [hsl, ← HXD.out] at hj0
          have HN : Hid (Head2 s w R n (wr.setCell ⟨w.heap.size, 1, none⟩ (.int .i64 ((p + m : Nat) : Int)))) :=
            ⟨p + m, line, v, out, fresh, last, sc_at HX.out.sc (p + m), by omega, l0, by omega, by omega, by omega, HX.out.below.setCell (p := ⟨w.heap.size, 1, none⟩) (Nat.le_refl _) _, HX.out.tie, by rw [← HX.out.go, go_comment hcm, hm]⟩
          clear hb hcm hm hsl
          obtain ⟨j, hj⟩ : ∃ j, Lib.indexByte X.data.toList 10 = j := ⟨_, rfl⟩
          have HI : Hid (∀ w, Calls Tryd.prog 28 #[.string X, .int .u8 10] w fun e w' => e = .returned (.int .i64 j) ∧ w = w') := fun w => Unq.indexByte X 10 j w hj
          rw [hj] at hj0
          clear hj
          cases hjn : decide (j < 0) with
          | true =>
            have hjn' := of_decide_eq_true hjn
            rw [if_pos hjn'] at hj0
            have e : ((p : Int) + ((s.size : Int) - (p : Int))) = ((p + m : Nat) : Int) := by omega
            have HF : Hid (Head2 s w R n (wr.setCell ⟨w.heap.size, 1, none⟩ (.int .i64 ((p : Int) + ((s.size : Int) - (p : Int)))))) := by
              show Head2 _ _ _ _ _
              rw [e]; exact HN.out
            clear hj0 e
            go_wp2_with fail
            refine (HP.out _).mono ?_
            rintro e' w2 ⟨rfl, rfl⟩
            go_wp2_with fail
            refine (HI.out _).mono ?_
            rintro e' w2 ⟨rfl, rfl⟩
            go_wp2
            go_roundg n
            case rel => exact HF
            case measure => omega
          | false =>
            have hjn' := of_decide_eq_false hjn
            rw [if_neg hjn'] at hj0
            have e : ((p : Int) + j) = ((p + m : Nat) : Int) := by omega
            have HF : Hid (Head2 s w R n (wr.setCell ⟨w.heap.size, 1, none⟩ (.int .i64 ((p : Int) + j)))) := by
              show Head2 _ _ _ _ _
              rw [e]; exact HN.out
            have b1 : 0 ≤ j := by omega
            have b2 : j ≤ 20000 := by omega
            clear hj0 e hjn'
            go_wp2_with fail
            refine (HP.out _).mono ?_
            rintro e' w2 ⟨rfl, rfl⟩
            go_wp2_with fail
            refine (HI.out _).mono ?_
            rintro e' w2 ⟨rfl, rfl⟩
            go_wp2
            go_roundg n
            case rel => exact HF
            case measure => omega
        | false =>
          have HM : Hid (Lxn.comment (s.data.toList.drop p) = 0) := by
            have := of_decide_eq_false hb
            show _ = _
            omega
          clear hb
          have HE1 : Env wr := hE.out.below HX.out.below
          have ONE := Lib.hid (one_any _ s p line v out fresh wr (Lib.hid HX.out.sc) hps hs (by omega) (Lib.hid HE1))
          clear HE1
          obtain ⟨C, hC⟩ : ∃ C, Lxn.cut (s.data.toList.drop p) = C := ⟨_, rfl⟩
          rw [hC] at ONE
          rcases C with er | ⟨k, tx, q, m⟩
          · have he := cut_err hC
            have hne : (er != 0) = true := by rw [bne_iff_ne]; omega
            have HRR : Hid (R = .inl ((p : Int), er)) := by
              show _ = _
              rw [← HX.out.go]
              exact go_bad HD.out HK.out.1 HK.out.2 HM.out hC
            have ONE : Hid (Calls Tryd.prog 29 #[.pointer (some ⟨w.heap.size, 0, none⟩)] wr fun e w' => e = .returned (.int .i64 er) ∧ (∃ v' f', Sc w.heap.size s p line v' out f' w') ∧ Below w.heap.size wr w') := ONE.out.mono fun e w' h => ⟨h.2.1, h.2.2, h.1⟩
            clear hC
            go_wp2_with fail
            refine (HP.out _).mono ?_
            rintro e' w2 ⟨rfl, rfl⟩
            go_wp2_with fail
            refine ONE.out.mono ?_
            rintro e' w2 ⟨rfl, ⟨v2, fr2, hS2⟩, hb2⟩
            have hbw := HX.out.below.trans hb2
            clear c0 c1 c2 c3 c4 f0 f1 f2 f3 f4
            obtain ⟨⟨c0, c1, c2, c3, c4⟩, f0, f1, f2, f3, f4⟩ := hS2.blk.cells
            have hlt2 := hS2.lt
            clear hS2
            go_wp2_with fail
            go_region
            all_goals
              go_wp2
              go_ret2
              rw [HRR.out]
              exact ⟨⟨w2.heap.size, rfl, Nat.le_of_lt hlt2, heap_alloc_new w2 _⟩, by first | exact hbw.alloc (Nat.le_of_lt hlt2) _ | exact hbw.drew.alloc (by simp; omega) _ | exact (hbw.alloc (Nat.le_of_lt hlt2) _).drew⟩
          · have hcp := Lpp.callPiece HD.out (by rw [← HD.out]; exact hC) line
            have hm := Lxn.cut_facts (by rw [HD.out] at hC; exact hC)
            have hm1 : 1 ≤ m := hm.1
            have hm2 : p + m ≤ s.size := hcp.2.1
            have HN : Hid (∀ W v', Sc w.heap.size s (p + m) line v' (out ++ [⟨k, tx, q, p, line⟩]) true W → Below w.heap.size wr W → Head2 s w R n W) := fun W v' hS hb =>
              ⟨p + m, line, v', _, true, ⟨k, tx, q, p, line⟩, hS, hm2, l0, by omega, by simp; omega, by omega, HX.out.below.trans hb, .inl ⟨rfl, out, rfl⟩, by
                rw [← HX.out.go]
                exact (go_token HD.out HK.out.1 HK.out.2 HM.out hC).symm⟩
            have ONE : Hid (Calls Tryd.prog 29 #[.pointer (some ⟨w.heap.size, 0, none⟩)] wr fun e w' => e = .returned (.int .i64 0) ∧ (∃ v', Sc w.heap.size s (p + m) line v' (out ++ [⟨k, tx, q, p, line⟩]) true w') ∧ Below w.heap.size wr w') := ONE.out.mono fun e w' h => ⟨h.2.1, h.2.2, h.1⟩
            clear hC hcp hm
            go_wp2_with fail
            refine (HP.out _).mono ?_
            rintro e' w2 ⟨rfl, rfl⟩
            go_wp2_with fail
            refine ONE.out.mono ?_
            rintro e' w2 ⟨rfl, ⟨v2, hS2⟩, hb2⟩
            have HF := Lib.hid (HN.out w2 v2 hS2 hb2)
            clear hS2
            go_wp2
            go_roundg n
            case rel => exact HF
            case measure => omega
    · have hpe : p = s.size := by omega
      have HD := Lib.hid (drop_none hps)
      have HRR : Hid (R = .inr (Lxn.close p line out last ++ [⟨0, ⟨#[]⟩, 0, p, line⟩])) := by
        show _ = _
        rw [← HX.out.go]
        exact go_end HD.out
      clear hpe
      have hoc := @out_close p line out last
      go_wp2_with fail
      refine (ends_any _ s p line v out last fresh wr (Lib.hid HX.out.sc) (by omega) (by omega) HX.out.tie).mono ?_
      rintro e w2 ⟨rfl, ⟨v2, hS2⟩, hb2⟩
      have hbw := HX.out.below.trans hb2
      have HS2 := Lib.hid hS2
      clear hS2 c0 c1 c2 c3 c4 f0 f1 f2 f3 f4
      go_wp2_with fail
      refine (add_any _ s p line v2 _ false 0 ⟨#[]⟩ 0 0 _ HS2 (by omega) (by omega)).mono ?_
      rintro e w3 ⟨rfl, ⟨v3, hS3⟩, hb3⟩
      obtain ⟨⟨c0, c1, c2, c3, c4⟩, f0, f1, f2, f3, f4⟩ := hS3.blk.cells
      have HS3 := Lib.hid hS3
      clear hS3
      go_wp2
      go_ret2
      rw [HRR.out]
      exact ⟨⟨v3, rfl, OwnT.base HS3.out.own (by omega)⟩, hbw.trans hb3⟩
theorem scan_any (s : ByteArray) (w : World) (hs : s.size ≤ 1048576) (hE : Env w) :
    Calls Tryd.prog 14 #[.string s] w fun e w' => Told w.heap.size (Lxn.scan s.data.toList) e w' ∧ Below w.heap.size w w' := by
  by_cases h : 20000 < s.size
  · rw [show Lxn.scan s.data.toList = .inl (0, 31) from if_pos h]
    exact scan_long s w h hs
  · rw [show Lxn.scan s.data.toList = Lxn.go s.data.toList (s.size + 1) 0 1 [] zero from if_neg h]
    exact scan_go s w (by omega) (Lib.hid hE)
end Go.Proofs.YtjmgfhbadnechaaDoor.Lse
