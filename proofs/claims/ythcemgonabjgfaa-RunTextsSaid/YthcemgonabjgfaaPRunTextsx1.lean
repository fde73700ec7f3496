-- PRINTED BY print.sh 35421559b90ae4d0a3588c463048766b98c2df88dd9212a6774a882060cdf62d: not written by this session
import Derived.Test.YthcemgonabjgfaaPRunTextsx0
namespace Go.Proofs.Ythcemgonabjgfaa.PRunTexts
open Go.RowKit Go.Proofs.YthcemgonabjgfaaW.PrintWords Go.Proofs.YthcemgonabjgfaaW.PrintLast Go.Proofs.YthcemgonabjgfaaW.PrintMore
attribute [local go_sem] max2_int min2_int max_two min_two max_three min_three max_four min_four   -- for this text's walks alone
set_option linter.unusedVariables false
set_option linter.unusedSimpArgs false

/-! ### run_Text: function 5 -/
def run_Text.f (a0 : Int) : Option (ByteArray) := if a0 = 0 then (some (⟨#[100, 111, 110, 101]⟩ : ByteArray)) else (if a0 = 1 then (some (⟨#[112, 97, 114, 107, 101, 100]⟩ : ByteArray)) else (if a0 = 11 then (some (⟨#[97, 108, 108, 32, 103, 111, 114, 111, 117, 116, 105, 110, 101, 115, 32, 97, 114, 101, 32, 97, 115, 108, 101, 101, 112]⟩ : ByteArray)) else (if a0 = 12 then (some (⟨#[115, 101, 110, 100, 32, 111, 110, 32, 99, 108, 111, 115, 101, 100, 32, 99, 104, 97, 110, 110, 101, 108]⟩ : ByteArray)) else (if a0 = 13 then (some (⟨#[99, 108, 111, 115, 101, 32, 111, 102, 32, 99, 108, 111, 115, 101, 100, 32, 99, 104, 97, 110, 110, 101, 108]⟩ : ByteArray)) else (if a0 = 14 then (some (⟨#[99, 108, 111, 115, 101, 32, 111, 102, 32, 110, 105, 108, 32, 99, 104, 97, 110, 110, 101, 108]⟩ : ByteArray)) else (if a0 = 15 then (some (⟨#[117, 110, 108, 111, 99, 107, 32, 111, 102, 32, 117, 110, 108, 111, 99, 107, 101, 100, 32, 109, 117, 116, 101, 120]⟩ : ByteArray)) else (if a0 = 16 then (some (⟨#[110, 105, 108, 32, 109, 117, 116, 101, 120]⟩ : ByteArray)) else (if a0 = 17 then (some (⟨#[110, 105, 108, 32, 119, 97, 105, 116, 32, 103, 114, 111, 117, 112]⟩ : ByteArray)) else (if a0 = 18 then (some (⟨#[119, 97, 105, 116, 32, 103, 114, 111, 117, 112, 32, 99, 111, 117, 110, 116, 101, 114, 32, 111, 117, 116, 32, 111, 102, 32, 114, 97, 110, 103, 101]⟩ : ByteArray)) else (if a0 = 19 then (some (⟨#[100, 105, 118, 105, 115, 105, 111, 110, 32, 98, 121, 32, 122, 101, 114, 111]⟩ : ByteArray)) else (if a0 = 20 then (some (⟨#[99, 104, 97, 110, 110, 101, 108, 32, 115, 105, 122, 101, 32, 111, 117, 116, 32, 111, 102, 32, 114, 97, 110, 103, 101]⟩ : ByteArray)) else (if a0 = 21 then (some (⟨#[111, 117, 116, 32, 111, 102, 32, 109, 101, 109, 111, 114, 121]⟩ : ByteArray)) else (if a0 = 22 then (some (⟨#[116, 111, 111, 32, 109, 97, 110, 121, 32, 103, 111, 114, 111, 117, 116, 105, 110, 101, 115]⟩ : ByteArray)) else (if a0 = 23 then (some (⟨#[115, 116, 97, 99, 107, 32, 116, 111, 111, 32, 100, 101, 101, 112]⟩ : ByteArray)) else (if a0 = 24 then (some (⟨#[116, 111, 111, 32, 109, 117, 99, 104, 32, 111, 117, 116, 112, 117, 116]⟩ : ByteArray)) else (if a0 = 25 then (some (⟨#[119, 114, 111, 110, 103, 32, 107, 105, 110, 100, 32, 111, 102, 32, 111, 98, 106, 101, 99, 116]⟩ : ByteArray)) else (some (⟨#[]⟩ : ByteArray))))))))))))))))))
set_option maxHeartbeats 8000000 in
set_option maxRecDepth 100000 in
theorem run_Text.calls (a0 : Int) (r : ByteArray) (w : World) (h : run_Text.f a0 = some r) :
    Calls Try.prog 5 #[.int .i64 a0] w fun e w' => e = .returned (.string r) ∧ Drawn0 w w' := by
  have H : (if a0 = 0 then (some (⟨#[100, 111, 110, 101]⟩ : ByteArray)) else (if a0 = 1 then (some (⟨#[112, 97, 114, 107, 101, 100]⟩ : ByteArray)) else (if a0 = 11 then (some (⟨#[97, 108, 108, 32, 103, 111, 114, 111, 117, 116, 105, 110, 101, 115, 32, 97, 114, 101, 32, 97, 115, 108, 101, 101, 112]⟩ : ByteArray)) else (if a0 = 12 then (some (⟨#[115, 101, 110, 100, 32, 111, 110, 32, 99, 108, 111, 115, 101, 100, 32, 99, 104, 97, 110, 110, 101, 108]⟩ : ByteArray)) else (if a0 = 13 then (some (⟨#[99, 108, 111, 115, 101, 32, 111, 102, 32, 99, 108, 111, 115, 101, 100, 32, 99, 104, 97, 110, 110, 101, 108]⟩ : ByteArray)) else (if a0 = 14 then (some (⟨#[99, 108, 111, 115, 101, 32, 111, 102, 32, 110, 105, 108, 32, 99, 104, 97, 110, 110, 101, 108]⟩ : ByteArray)) else (if a0 = 15 then (some (⟨#[117, 110, 108, 111, 99, 107, 32, 111, 102, 32, 117, 110, 108, 111, 99, 107, 101, 100, 32, 109, 117, 116, 101, 120]⟩ : ByteArray)) else (if a0 = 16 then (some (⟨#[110, 105, 108, 32, 109, 117, 116, 101, 120]⟩ : ByteArray)) else (if a0 = 17 then (some (⟨#[110, 105, 108, 32, 119, 97, 105, 116, 32, 103, 114, 111, 117, 112]⟩ : ByteArray)) else (if a0 = 18 then (some (⟨#[119, 97, 105, 116, 32, 103, 114, 111, 117, 112, 32, 99, 111, 117, 110, 116, 101, 114, 32, 111, 117, 116, 32, 111, 102, 32, 114, 97, 110, 103, 101]⟩ : ByteArray)) else (if a0 = 19 then (some (⟨#[100, 105, 118, 105, 115, 105, 111, 110, 32, 98, 121, 32, 122, 101, 114, 111]⟩ : ByteArray)) else (if a0 = 20 then (some (⟨#[99, 104, 97, 110, 110, 101, 108, 32, 115, 105, 122, 101, 32, 111, 117, 116, 32, 111, 102, 32, 114, 97, 110, 103, 101]⟩ : ByteArray)) else (if a0 = 21 then (some (⟨#[111, 117, 116, 32, 111, 102, 32, 109, 101, 109, 111, 114, 121]⟩ : ByteArray)) else (if a0 = 22 then (some (⟨#[116, 111, 111, 32, 109, 97, 110, 121, 32, 103, 111, 114, 111, 117, 116, 105, 110, 101, 115]⟩ : ByteArray)) else (if a0 = 23 then (some (⟨#[115, 116, 97, 99, 107, 32, 116, 111, 111, 32, 100, 101, 101, 112]⟩ : ByteArray)) else (if a0 = 24 then (some (⟨#[116, 111, 111, 32, 109, 117, 99, 104, 32, 111, 117, 116, 112, 117, 116]⟩ : ByteArray)) else (if a0 = 25 then (some (⟨#[119, 114, 111, 110, 103, 32, 107, 105, 110, 100, 32, 111, 102, 32, 111, 98, 106, 101, 99, 116]⟩ : ByteArray)) else (some (⟨#[]⟩ : ByteArray))))))))))))))))))) = some r := h
  clear h
  by_cases c2 : a0 = 0
  · rw [if_pos c2] at H
    have c2b0 : (a0 == 0) = true := beq_iff_eq.mpr c2
    have c2b1 : (a0 != 0) = false := bne_eq_false_iff_eq.mpr c2
    clear c2
    obtain rfl := Option.some.inj H
    go_enter Try.func5, Try.ntmps5
    go_wp2
    go_ret
    exact ⟨by first | rfl | (simp; done) | (simp [*]; done), by repeat (first | exact Drawn0.refl _ | apply Drawn0.step)⟩
  · rw [if_neg c2] at H
    have c2b0 : (a0 == 0) = false := beq_eq_false_iff_ne.mpr c2
    have c2b1 : (a0 != 0) = true := bne_iff_ne.mpr c2
    by_cases c3 : a0 = 1
    · rw [if_pos c3] at H
      have c3b0 : (a0 == 1) = true := beq_iff_eq.mpr c3
      have c3b1 : (a0 != 1) = false := bne_eq_false_iff_eq.mpr c3
      clear c3
      obtain rfl := Option.some.inj H
      go_enter Try.func5, Try.ntmps5
      go_wp2
      go_ret
      exact ⟨by first | rfl | (simp; done) | (simp [*]; done), by repeat (first | exact Drawn0.refl _ | apply Drawn0.step)⟩
    · rw [if_neg c3] at H
      have c3b0 : (a0 == 1) = false := beq_eq_false_iff_ne.mpr c3
      have c3b1 : (a0 != 1) = true := bne_iff_ne.mpr c3
      by_cases c4 : a0 = 11
      · rw [if_pos c4] at H
        have c4b0 : (a0 == 11) = true := beq_iff_eq.mpr c4
        have c4b1 : (a0 != 11) = false := bne_eq_false_iff_eq.mpr c4
        clear c4
        obtain rfl := Option.some.inj H
        go_enter Try.func5, Try.ntmps5
        go_wp2
        go_ret
        exact ⟨by first | rfl | (simp; done) | (simp [*]; done), by repeat (first | exact Drawn0.refl _ | apply Drawn0.step)⟩
      · rw [if_neg c4] at H
        have c4b0 : (a0 == 11) = false := beq_eq_false_iff_ne.mpr c4
        have c4b1 : (a0 != 11) = true := bne_iff_ne.mpr c4
        by_cases c5 : a0 = 12
        · rw [if_pos c5] at H
          have c5b0 : (a0 == 12) = true := beq_iff_eq.mpr c5
          have c5b1 : (a0 != 12) = false := bne_eq_false_iff_eq.mpr c5
          clear c5
          obtain rfl := Option.some.inj H
          go_enter Try.func5, Try.ntmps5
          go_wp2
          go_ret
          exact ⟨by first | rfl | (simp; done) | (simp [*]; done), by repeat (first | exact Drawn0.refl _ | apply Drawn0.step)⟩
        · rw [if_neg c5] at H
          have c5b0 : (a0 == 12) = false := beq_eq_false_iff_ne.mpr c5
          have c5b1 : (a0 != 12) = true := bne_iff_ne.mpr c5
          by_cases c6 : a0 = 13
          · rw [if_pos c6] at H
            have c6b0 : (a0 == 13) = true := beq_iff_eq.mpr c6
            have c6b1 : (a0 != 13) = false := bne_eq_false_iff_eq.mpr c6
            clear c6
            obtain rfl := Option.some.inj H
            go_enter Try.func5, Try.ntmps5
            go_wp2
            go_ret
            exact ⟨by first | rfl | (simp; done) | (simp [*]; done), by repeat (first | exact Drawn0.refl _ | apply Drawn0.step)⟩
          · rw [if_neg c6] at H
            have c6b0 : (a0 == 13) = false := beq_eq_false_iff_ne.mpr c6
            have c6b1 : (a0 != 13) = true := bne_iff_ne.mpr c6
            by_cases c7 : a0 = 14
            · rw [if_pos c7] at H
              have c7b0 : (a0 == 14) = true := beq_iff_eq.mpr c7
              have c7b1 : (a0 != 14) = false := bne_eq_false_iff_eq.mpr c7
              clear c7
              obtain rfl := Option.some.inj H
              go_enter Try.func5, Try.ntmps5
              go_wp2
              go_ret
              exact ⟨by first | rfl | (simp; done) | (simp [*]; done), by repeat (first | exact Drawn0.refl _ | apply Drawn0.step)⟩
            · rw [if_neg c7] at H
              have c7b0 : (a0 == 14) = false := beq_eq_false_iff_ne.mpr c7
              have c7b1 : (a0 != 14) = true := bne_iff_ne.mpr c7
              by_cases c8 : a0 = 15
              · rw [if_pos c8] at H
                have c8b0 : (a0 == 15) = true := beq_iff_eq.mpr c8
                have c8b1 : (a0 != 15) = false := bne_eq_false_iff_eq.mpr c8
                clear c8
                obtain rfl := Option.some.inj H
                go_enter Try.func5, Try.ntmps5
                go_wp2
                go_ret
                exact ⟨by first | rfl | (simp; done) | (simp [*]; done), by repeat (first | exact Drawn0.refl _ | apply Drawn0.step)⟩
              · rw [if_neg c8] at H
                have c8b0 : (a0 == 15) = false := beq_eq_false_iff_ne.mpr c8
                have c8b1 : (a0 != 15) = true := bne_iff_ne.mpr c8
                by_cases c9 : a0 = 16
                · rw [if_pos c9] at H
                  have c9b0 : (a0 == 16) = true := beq_iff_eq.mpr c9
                  have c9b1 : (a0 != 16) = false := bne_eq_false_iff_eq.mpr c9
                  clear c9
                  obtain rfl := Option.some.inj H
                  go_enter Try.func5, Try.ntmps5
                  go_wp2
                  go_ret
                  exact ⟨by first | rfl | (simp; done) | (simp [*]; done), by repeat (first | exact Drawn0.refl _ | apply Drawn0.step)⟩
                · rw [if_neg c9] at H
                  have c9b0 : (a0 == 16) = false := beq_eq_false_iff_ne.mpr c9
                  have c9b1 : (a0 != 16) = true := bne_iff_ne.mpr c9
                  by_cases c10 : a0 = 17
                  · rw [if_pos c10] at H
                    have c10b0 : (a0 == 17) = true := beq_iff_eq.mpr c10
                    have c10b1 : (a0 != 17) = false := bne_eq_false_iff_eq.mpr c10
                    clear c10
                    obtain rfl := Option.some.inj H
                    go_enter Try.func5, Try.ntmps5
                    go_wp2
                    go_ret
                    exact ⟨by first | rfl | (simp; done) | (simp [*]; done), by repeat (first | exact Drawn0.refl _ | apply Drawn0.step)⟩
                  · rw [if_neg c10] at H
                    have c10b0 : (a0 == 17) = false := beq_eq_false_iff_ne.mpr c10
                    have c10b1 : (a0 != 17) = true := bne_iff_ne.mpr c10
                    by_cases c11 : a0 = 18
                    · rw [if_pos c11] at H
                      have c11b0 : (a0 == 18) = true := beq_iff_eq.mpr c11
                      have c11b1 : (a0 != 18) = false := bne_eq_false_iff_eq.mpr c11
                      clear c11
                      obtain rfl := Option.some.inj H
                      go_enter Try.func5, Try.ntmps5
                      go_wp2
                      go_ret
                      exact ⟨by first | rfl | (simp; done) | (simp [*]; done), by repeat (first | exact Drawn0.refl _ | apply Drawn0.step)⟩
                    · rw [if_neg c11] at H
                      have c11b0 : (a0 == 18) = false := beq_eq_false_iff_ne.mpr c11
                      have c11b1 : (a0 != 18) = true := bne_iff_ne.mpr c11
                      by_cases c12 : a0 = 19
                      · rw [if_pos c12] at H
                        have c12b0 : (a0 == 19) = true := beq_iff_eq.mpr c12
                        have c12b1 : (a0 != 19) = false := bne_eq_false_iff_eq.mpr c12
                        clear c12
                        obtain rfl := Option.some.inj H
                        go_enter Try.func5, Try.ntmps5
                        go_wp2
                        go_ret
                        exact ⟨by first | rfl | (simp; done) | (simp [*]; done), by repeat (first | exact Drawn0.refl _ | apply Drawn0.step)⟩
                      · rw [if_neg c12] at H
                        have c12b0 : (a0 == 19) = false := beq_eq_false_iff_ne.mpr c12
                        have c12b1 : (a0 != 19) = true := bne_iff_ne.mpr c12
                        by_cases c13 : a0 = 20
                        · rw [if_pos c13] at H
                          have c13b0 : (a0 == 20) = true := beq_iff_eq.mpr c13
                          have c13b1 : (a0 != 20) = false := bne_eq_false_iff_eq.mpr c13
                          clear c13
                          obtain rfl := Option.some.inj H
                          go_enter Try.func5, Try.ntmps5
                          go_wp2
                          go_ret
                          exact ⟨by first | rfl | (simp; done) | (simp [*]; done), by repeat (first | exact Drawn0.refl _ | apply Drawn0.step)⟩
                        · rw [if_neg c13] at H
                          have c13b0 : (a0 == 20) = false := beq_eq_false_iff_ne.mpr c13
                          have c13b1 : (a0 != 20) = true := bne_iff_ne.mpr c13
                          by_cases c14 : a0 = 21
                          · rw [if_pos c14] at H
                            have c14b0 : (a0 == 21) = true := beq_iff_eq.mpr c14
                            have c14b1 : (a0 != 21) = false := bne_eq_false_iff_eq.mpr c14
                            clear c14
                            obtain rfl := Option.some.inj H
                            go_enter Try.func5, Try.ntmps5
                            go_wp2
                            go_ret
                            exact ⟨by first | rfl | (simp; done) | (simp [*]; done), by repeat (first | exact Drawn0.refl _ | apply Drawn0.step)⟩
                          · rw [if_neg c14] at H
                            have c14b0 : (a0 == 21) = false := beq_eq_false_iff_ne.mpr c14
                            have c14b1 : (a0 != 21) = true := bne_iff_ne.mpr c14
                            by_cases c15 : a0 = 22
                            · rw [if_pos c15] at H
                              have c15b0 : (a0 == 22) = true := beq_iff_eq.mpr c15
                              have c15b1 : (a0 != 22) = false := bne_eq_false_iff_eq.mpr c15
                              clear c15
                              obtain rfl := Option.some.inj H
                              go_enter Try.func5, Try.ntmps5
                              go_wp2
                              go_ret
                              exact ⟨by first | rfl | (simp; done) | (simp [*]; done), by repeat (first | exact Drawn0.refl _ | apply Drawn0.step)⟩
                            · rw [if_neg c15] at H
                              have c15b0 : (a0 == 22) = false := beq_eq_false_iff_ne.mpr c15
                              have c15b1 : (a0 != 22) = true := bne_iff_ne.mpr c15
                              by_cases c16 : a0 = 23
                              · rw [if_pos c16] at H
                                have c16b0 : (a0 == 23) = true := beq_iff_eq.mpr c16
                                have c16b1 : (a0 != 23) = false := bne_eq_false_iff_eq.mpr c16
                                clear c16
                                obtain rfl := Option.some.inj H
                                go_enter Try.func5, Try.ntmps5
                                go_wp2
                                go_ret
                                exact ⟨by first | rfl | (simp; done) | (simp [*]; done), by repeat (first | exact Drawn0.refl _ | apply Drawn0.step)⟩
                              · rw [if_neg c16] at H
                                have c16b0 : (a0 == 23) = false := beq_eq_false_iff_ne.mpr c16
                                have c16b1 : (a0 != 23) = true := bne_iff_ne.mpr c16
                                by_cases c17 : a0 = 24
                                · rw [if_pos c17] at H
                                  have c17b0 : (a0 == 24) = true := beq_iff_eq.mpr c17
                                  have c17b1 : (a0 != 24) = false := bne_eq_false_iff_eq.mpr c17
                                  clear c17
                                  obtain rfl := Option.some.inj H
                                  go_enter Try.func5, Try.ntmps5
                                  go_wp2
                                  go_ret
                                  exact ⟨by first | rfl | (simp; done) | (simp [*]; done), by repeat (first | exact Drawn0.refl _ | apply Drawn0.step)⟩
                                · rw [if_neg c17] at H
                                  have c17b0 : (a0 == 24) = false := beq_eq_false_iff_ne.mpr c17
                                  have c17b1 : (a0 != 24) = true := bne_iff_ne.mpr c17
                                  by_cases c18 : a0 = 25
                                  · rw [if_pos c18] at H
                                    have c18b0 : (a0 == 25) = true := beq_iff_eq.mpr c18
                                    have c18b1 : (a0 != 25) = false := bne_eq_false_iff_eq.mpr c18
                                    clear c18
                                    obtain rfl := Option.some.inj H
                                    go_enter Try.func5, Try.ntmps5
                                    go_wp2
                                    go_ret
                                    exact ⟨by first | rfl | (simp; done) | (simp [*]; done), by repeat (first | exact Drawn0.refl _ | apply Drawn0.step)⟩
                                  · rw [if_neg c18] at H
                                    have c18b0 : (a0 == 25) = false := beq_eq_false_iff_ne.mpr c18
                                    have c18b1 : (a0 != 25) = true := bne_iff_ne.mpr c18
                                    obtain rfl := Option.some.inj H
                                    go_enter Try.func5, Try.ntmps5
                                    go_wp2
                                    go_ret
                                    exact ⟨by first | rfl | (simp; done) | (simp [*]; done), by repeat (first | exact Drawn0.refl _ | apply Drawn0.step)⟩

/-! ### drowselaw20_texts: function 6 -/
def drowselaw20_texts.f (a0 : Int) : Option (ByteArray) := if a0 = 0 then (some (⟨#[100, 111, 110, 101]⟩ : ByteArray)) else (if a0 = 1 then (some (⟨#[112, 97, 114, 107, 101, 100]⟩ : ByteArray)) else ((some (([(⟨#[97, 108, 108, 32, 103, 111, 114, 111, 117, 116, 105, 110, 101, 115, 32, 97, 114, 101, 32, 97, 115, 108, 101, 101, 112]⟩ : ByteArray), (⟨#[115, 101, 110, 100, 32, 111, 110, 32, 99, 108, 111, 115, 101, 100, 32, 99, 104, 97, 110, 110, 101, 108]⟩ : ByteArray), (⟨#[99, 108, 111, 115, 101, 32, 111, 102, 32, 99, 108, 111, 115, 101, 100, 32, 99, 104, 97, 110, 110, 101, 108]⟩ : ByteArray), (⟨#[99, 108, 111, 115, 101, 32, 111, 102, 32, 110, 105, 108, 32, 99, 104, 97, 110, 110, 101, 108]⟩ : ByteArray), (⟨#[117, 110, 108, 111, 99, 107, 32, 111, 102, 32, 117, 110, 108, 111, 99, 107, 101, 100, 32, 109, 117, 116, 101, 120]⟩ : ByteArray), (⟨#[110, 105, 108, 32, 109, 117, 116, 101, 120]⟩ : ByteArray), (⟨#[110, 105, 108, 32, 119, 97, 105, 116, 32, 103, 114, 111, 117, 112]⟩ : ByteArray), (⟨#[119, 97, 105, 116, 32, 103, 114, 111, 117, 112, 32, 99, 111, 117, 110, 116, 101, 114, 32, 111, 117, 116, 32, 111, 102, 32, 114, 97, 110, 103, 101]⟩ : ByteArray), (⟨#[100, 105, 118, 105, 115, 105, 111, 110, 32, 98, 121, 32, 122, 101, 114, 111]⟩ : ByteArray), (⟨#[99, 104, 97, 110, 110, 101, 108, 32, 115, 105, 122, 101, 32, 111, 117, 116, 32, 111, 102, 32, 114, 97, 110, 103, 101]⟩ : ByteArray), (⟨#[111, 117, 116, 32, 111, 102, 32, 109, 101, 109, 111, 114, 121]⟩ : ByteArray), (⟨#[116, 111, 111, 32, 109, 97, 110, 121, 32, 103, 111, 114, 111, 117, 116, 105, 110, 101, 115]⟩ : ByteArray), (⟨#[115, 116, 97, 99, 107, 32, 116, 111, 111, 32, 100, 101, 101, 112]⟩ : ByteArray), (⟨#[116, 111, 111, 32, 109, 117, 99, 104, 32, 111, 117, 116, 112, 117, 116]⟩ : ByteArray), (⟨#[119, 114, 111, 110, 103, 32, 107, 105, 110, 100, 32, 111, 102, 32, 111, 98, 106, 101, 99, 116]⟩ : ByteArray)] : List ByteArray) : List ByteArray)).bind fun y101 => (if a0 < 11 then (some (⟨#[]⟩ : ByteArray)) else (if (wrap64 (a0 - 11)) ≥ (y101.length : Int) then (some (⟨#[]⟩ : ByteArray)) else (if 0 ≤ (wrap64 (a0 - 11)) then (if (wrap64 (a0 - 11)) < (y101.length : Int) then (some (rdOf ByteArray.empty y101 (wrap64 (a0 - 11)))) else (none)) else (none))))))
set_option maxHeartbeats 8000000 in
set_option maxRecDepth 100000 in
theorem drowselaw20_texts.calls (a0 : Int) (r : ByteArray) (w : World) (h : drowselaw20_texts.f a0 = some r) :
    Calls Try.prog 6 #[.int .i64 a0] w fun e w' => e = .returned (.string r) ∧ Below w.heap.size w w' := by
  have HB := Aside0.mk (Below.refl w.heap.size w)
  have H : (if a0 = 0 then (some (⟨#[100, 111, 110, 101]⟩ : ByteArray)) else (if a0 = 1 then (some (⟨#[112, 97, 114, 107, 101, 100]⟩ : ByteArray)) else ((some (([(⟨#[97, 108, 108, 32, 103, 111, 114, 111, 117, 116, 105, 110, 101, 115, 32, 97, 114, 101, 32, 97, 115, 108, 101, 101, 112]⟩ : ByteArray), (⟨#[115, 101, 110, 100, 32, 111, 110, 32, 99, 108, 111, 115, 101, 100, 32, 99, 104, 97, 110, 110, 101, 108]⟩ : ByteArray), (⟨#[99, 108, 111, 115, 101, 32, 111, 102, 32, 99, 108, 111, 115, 101, 100, 32, 99, 104, 97, 110, 110, 101, 108]⟩ : ByteArray), (⟨#[99, 108, 111, 115, 101, 32, 111, 102, 32, 110, 105, 108, 32, 99, 104, 97, 110, 110, 101, 108]⟩ : ByteArray), (⟨#[117, 110, 108, 111, 99, 107, 32, 111, 102, 32, 117, 110, 108, 111, 99, 107, 101, 100, 32, 109, 117, 116, 101, 120]⟩ : ByteArray), (⟨#[110, 105, 108, 32, 109, 117, 116, 101, 120]⟩ : ByteArray), (⟨#[110, 105, 108, 32, 119, 97, 105, 116, 32, 103, 114, 111, 117, 112]⟩ : ByteArray), (⟨#[119, 97, 105, 116, 32, 103, 114, 111, 117, 112, 32, 99, 111, 117, 110, 116, 101, 114, 32, 111, 117, 116, 32, 111, 102, 32, 114, 97, 110, 103, 101]⟩ : ByteArray), (⟨#[100, 105, 118, 105, 115, 105, 111, 110, 32, 98, 121, 32, 122, 101, 114, 111]⟩ : ByteArray), (⟨#[99, 104, 97, 110, 110, 101, 108, 32, 115, 105, 122, 101, 32, 111, 117, 116, 32, 111, 102, 32, 114, 97, 110, 103, 101]⟩ : ByteArray), (⟨#[111, 117, 116, 32, 111, 102, 32, 109, 101, 109, 111, 114, 121]⟩ : ByteArray), (⟨#[116, 111, 111, 32, 109, 97, 110, 121, 32, 103, 111, 114, 111, 117, 116, 105, 110, 101, 115]⟩ : ByteArray), (⟨#[115, 116, 97, 99, 107, 32, 116, 111, 111, 32, 100, 101, 101, 112]⟩ : ByteArray), (⟨#[116, 111, 111, 32, 109, 117, 99, 104, 32, 111, 117, 116, 112, 117, 116]⟩ : ByteArray), (⟨#[119, 114, 111, 110, 103, 32, 107, 105, 110, 100, 32, 111, 102, 32, 111, 98, 106, 101, 99, 116]⟩ : ByteArray)] : List ByteArray) : List ByteArray)).bind fun y101 => (if a0 < 11 then (some (⟨#[]⟩ : ByteArray)) else (if (wrap64 (a0 - 11)) ≥ (y101.length : Int) then (some (⟨#[]⟩ : ByteArray)) else (if 0 ≤ (wrap64 (a0 - 11)) then (if (wrap64 (a0 - 11)) < (y101.length : Int) then (some (rdOf ByteArray.empty y101 (wrap64 (a0 - 11)))) else (none)) else (none))))))) = some r := h
  clear h
  by_cases c2 : a0 = 0
  · rw [if_pos c2] at H
    have c2b0 : (a0 == 0) = true := beq_iff_eq.mpr c2
    have c2b1 : (a0 != 0) = false := bne_eq_false_iff_eq.mpr c2
    clear c2
    obtain rfl := Option.some.inj H
    go_enter Try.func6, Try.ntmps6
    go_wp2
    go_ret
    exact ⟨by first | rfl | (simp [errW_none, errW_some] <;> rfl) | (simp [*, errW_none, errW_some] <;> rfl), by repeat (first | (with_reducible first | exact HB.out | apply below_alloc | apply pw_below_drewN | apply below_drew1) | exact HB.out)⟩
  · rw [if_neg c2] at H
    have c2b0 : (a0 == 0) = false := beq_eq_false_iff_ne.mpr c2
    have c2b1 : (a0 != 0) = true := bne_iff_ne.mpr c2
    by_cases c3 : a0 = 1
    · rw [if_pos c3] at H
      have c3b0 : (a0 == 1) = true := beq_iff_eq.mpr c3
      have c3b1 : (a0 != 1) = false := bne_eq_false_iff_eq.mpr c3
      clear c3
      obtain rfl := Option.some.inj H
      go_enter Try.func6, Try.ntmps6
      go_wp2
      go_ret
      exact ⟨by first | rfl | (simp [errW_none, errW_some] <;> rfl) | (simp [*, errW_none, errW_some] <;> rfl), by repeat (first | (with_reducible first | exact HB.out | apply below_alloc | apply pw_below_drewN | apply below_drew1) | exact HB.out)⟩
    · rw [if_neg c3] at H
      have c3b0 : (a0 == 1) = false := beq_eq_false_iff_ne.mpr c3
      have c3b1 : (a0 != 1) = true := bne_iff_ne.mpr c3
      obtain ⟨y101, hy101⟩ : ∃ y_ : List ByteArray, y_ = (([(⟨#[97, 108, 108, 32, 103, 111, 114, 111, 117, 116, 105, 110, 101, 115, 32, 97, 114, 101, 32, 97, 115, 108, 101, 101, 112]⟩ : ByteArray), (⟨#[115, 101, 110, 100, 32, 111, 110, 32, 99, 108, 111, 115, 101, 100, 32, 99, 104, 97, 110, 110, 101, 108]⟩ : ByteArray), (⟨#[99, 108, 111, 115, 101, 32, 111, 102, 32, 99, 108, 111, 115, 101, 100, 32, 99, 104, 97, 110, 110, 101, 108]⟩ : ByteArray), (⟨#[99, 108, 111, 115, 101, 32, 111, 102, 32, 110, 105, 108, 32, 99, 104, 97, 110, 110, 101, 108]⟩ : ByteArray), (⟨#[117, 110, 108, 111, 99, 107, 32, 111, 102, 32, 117, 110, 108, 111, 99, 107, 101, 100, 32, 109, 117, 116, 101, 120]⟩ : ByteArray), (⟨#[110, 105, 108, 32, 109, 117, 116, 101, 120]⟩ : ByteArray), (⟨#[110, 105, 108, 32, 119, 97, 105, 116, 32, 103, 114, 111, 117, 112]⟩ : ByteArray), (⟨#[119, 97, 105, 116, 32, 103, 114, 111, 117, 112, 32, 99, 111, 117, 110, 116, 101, 114, 32, 111, 117, 116, 32, 111, 102, 32, 114, 97, 110, 103, 101]⟩ : ByteArray), (⟨#[100, 105, 118, 105, 115, 105, 111, 110, 32, 98, 121, 32, 122, 101, 114, 111]⟩ : ByteArray), (⟨#[99, 104, 97, 110, 110, 101, 108, 32, 115, 105, 122, 101, 32, 111, 117, 116, 32, 111, 102, 32, 114, 97, 110, 103, 101]⟩ : ByteArray), (⟨#[111, 117, 116, 32, 111, 102, 32, 109, 101, 109, 111, 114, 121]⟩ : ByteArray), (⟨#[116, 111, 111, 32, 109, 97, 110, 121, 32, 103, 111, 114, 111, 117, 116, 105, 110, 101, 115]⟩ : ByteArray), (⟨#[115, 116, 97, 99, 107, 32, 116, 111, 111, 32, 100, 101, 101, 112]⟩ : ByteArray), (⟨#[116, 111, 111, 32, 109, 117, 99, 104, 32, 111, 117, 116, 112, 117, 116]⟩ : ByteArray), (⟨#[119, 114, 111, 110, 103, 32, 107, 105, 110, 100, 32, 111, 102, 32, 111, 98, 106, 101, 99, 116]⟩ : ByteArray)] : List ByteArray)) := ⟨_, rfl⟩
      replace H : (if a0 < 11 then (some (⟨#[]⟩ : ByteArray)) else (if (wrap64 (a0 - 11)) ≥ (y101.length : Int) then (some (⟨#[]⟩ : ByteArray)) else (if 0 ≤ (wrap64 (a0 - 11)) then (if (wrap64 (a0 - 11)) < (y101.length : Int) then (some (rdOf ByteArray.empty y101 (wrap64 (a0 - 11)))) else (none)) else (none)))) = some r := by first | (rw [hy101]; with_reducible exact H) | (have H2_ := (Option.bind_some _ _).symm.trans H; rw [hy101]; with_reducible exact H2_) | (have H2_ := (Option.bind_some _ _).symm.trans H; with_reducible exact H2_) | with_reducible exact H | (rw [hy101]; exact H) | exact H
      have Ny101 := Aside0.mk hy101
      clear hy101
      by_cases c4 : a0 < 11
      · rw [if_pos c4] at H
        have c4b0 : decide (a0 < 11) = true := decide_eq_true c4
        clear c4
        obtain rfl := Option.some.inj H
        go_enter Try.func6, Try.ntmps6
        go_wp2_with (first | ((with_reducible refine gate_dst (N := 9) rfl ?_); (try (refine gate_guard (by rfl) ?_; dsimp only)); refine Kd.R_lit Kd.string _ 9 ?hg (N := 9) ?hd (xs := ([(⟨#[97, 108, 108, 32, 103, 111, 114, 111, 117, 116, 105, 110, 101, 115, 32, 97, 114, 101, 32, 97, 115, 108, 101, 101, 112]⟩ : ByteArray), (⟨#[115, 101, 110, 100, 32, 111, 110, 32, 99, 108, 111, 115, 101, 100, 32, 99, 104, 97, 110, 110, 101, 108]⟩ : ByteArray), (⟨#[99, 108, 111, 115, 101, 32, 111, 102, 32, 99, 108, 111, 115, 101, 100, 32, 99, 104, 97, 110, 110, 101, 108]⟩ : ByteArray), (⟨#[99, 108, 111, 115, 101, 32, 111, 102, 32, 110, 105, 108, 32, 99, 104, 97, 110, 110, 101, 108]⟩ : ByteArray), (⟨#[117, 110, 108, 111, 99, 107, 32, 111, 102, 32, 117, 110, 108, 111, 99, 107, 101, 100, 32, 109, 117, 116, 101, 120]⟩ : ByteArray), (⟨#[110, 105, 108, 32, 109, 117, 116, 101, 120]⟩ : ByteArray), (⟨#[110, 105, 108, 32, 119, 97, 105, 116, 32, 103, 114, 111, 117, 112]⟩ : ByteArray), (⟨#[119, 97, 105, 116, 32, 103, 114, 111, 117, 112, 32, 99, 111, 117, 110, 116, 101, 114, 32, 111, 117, 116, 32, 111, 102, 32, 114, 97, 110, 103, 101]⟩ : ByteArray), (⟨#[100, 105, 118, 105, 115, 105, 111, 110, 32, 98, 121, 32, 122, 101, 114, 111]⟩ : ByteArray), (⟨#[99, 104, 97, 110, 110, 101, 108, 32, 115, 105, 122, 101, 32, 111, 117, 116, 32, 111, 102, 32, 114, 97, 110, 103, 101]⟩ : ByteArray), (⟨#[111, 117, 116, 32, 111, 102, 32, 109, 101, 109, 111, 114, 121]⟩ : ByteArray), (⟨#[116, 111, 111, 32, 109, 97, 110, 121, 32, 103, 111, 114, 111, 117, 116, 105, 110, 101, 115]⟩ : ByteArray), (⟨#[115, 116, 97, 99, 107, 32, 116, 111, 111, 32, 100, 101, 101, 112]⟩ : ByteArray), (⟨#[116, 111, 111, 32, 109, 117, 99, 104, 32, 111, 117, 116, 112, 117, 116]⟩ : ByteArray), (⟨#[119, 114, 111, 110, 103, 32, 107, 105, 110, 100, 32, 111, 102, 32, 111, 98, 106, 101, 99, 116]⟩ : ByteArray)] : List ByteArray)) (inner := [.string (⟨#[97, 108, 108, 32, 103, 111, 114, 111, 117, 116, 105, 110, 101, 115, 32, 97, 114, 101, 32, 97, 115, 108, 101, 101, 112]⟩ : ByteArray), .string (⟨#[115, 101, 110, 100, 32, 111, 110, 32, 99, 108, 111, 115, 101, 100, 32, 99, 104, 97, 110, 110, 101, 108]⟩ : ByteArray), .string (⟨#[99, 108, 111, 115, 101, 32, 111, 102, 32, 99, 108, 111, 115, 101, 100, 32, 99, 104, 97, 110, 110, 101, 108]⟩ : ByteArray), .string (⟨#[99, 108, 111, 115, 101, 32, 111, 102, 32, 110, 105, 108, 32, 99, 104, 97, 110, 110, 101, 108]⟩ : ByteArray), .string (⟨#[117, 110, 108, 111, 99, 107, 32, 111, 102, 32, 117, 110, 108, 111, 99, 107, 101, 100, 32, 109, 117, 116, 101, 120]⟩ : ByteArray), .string (⟨#[110, 105, 108, 32, 109, 117, 116, 101, 120]⟩ : ByteArray), .string (⟨#[110, 105, 108, 32, 119, 97, 105, 116, 32, 103, 114, 111, 117, 112]⟩ : ByteArray), .string (⟨#[119, 97, 105, 116, 32, 103, 114, 111, 117, 112, 32, 99, 111, 117, 110, 116, 101, 114, 32, 111, 117, 116, 32, 111, 102, 32, 114, 97, 110, 103, 101]⟩ : ByteArray), .string (⟨#[100, 105, 118, 105, 115, 105, 111, 110, 32, 98, 121, 32, 122, 101, 114, 111]⟩ : ByteArray), .string (⟨#[99, 104, 97, 110, 110, 101, 108, 32, 115, 105, 122, 101, 32, 111, 117, 116, 32, 111, 102, 32, 114, 97, 110, 103, 101]⟩ : ByteArray), .string (⟨#[111, 117, 116, 32, 111, 102, 32, 109, 101, 109, 111, 114, 121]⟩ : ByteArray), .string (⟨#[116, 111, 111, 32, 109, 97, 110, 121, 32, 103, 111, 114, 111, 117, 116, 105, 110, 101, 115]⟩ : ByteArray), .string (⟨#[115, 116, 97, 99, 107, 32, 116, 111, 111, 32, 100, 101, 101, 112]⟩ : ByteArray), .string (⟨#[116, 111, 111, 32, 109, 117, 99, 104, 32, 111, 117, 116, 112, 117, 116]⟩ : ByteArray), .string (⟨#[119, 114, 111, 110, 103, 32, 107, 105, 110, 100, 32, 111, 102, 32, 111, 98, 106, 101, 99, 116]⟩ : ByteArray)]) (ok := fun _ => True) (okp := fun _ => True) ?hr ?hp (fun _ hk => hk) trivial (Below.refl _ _) (Nat.le_refl _) (by simp) ?_; (case hd => rfl); (case hg => rfl); (case hr => first | (go_simp; done) | (go_simp; rfl)); (case hp => exact (Reps.one (show Kd.M Kd.string _ _ _ (⟨#[97, 108, 108, 32, 103, 111, 114, 111, 117, 116, 105, 110, 101, 115, 32, 97, 114, 101, 32, 97, 115, 108, 101, 101, 112]⟩ : ByteArray) [.string (⟨#[97, 108, 108, 32, 103, 111, 114, 111, 117, 116, 105, 110, 101, 115, 32, 97, 114, 101, 32, 97, 115, 108, 101, 101, 112]⟩ : ByteArray)] from rfl) (Reps.one (show Kd.M Kd.string _ _ _ (⟨#[115, 101, 110, 100, 32, 111, 110, 32, 99, 108, 111, 115, 101, 100, 32, 99, 104, 97, 110, 110, 101, 108]⟩ : ByteArray) [.string (⟨#[115, 101, 110, 100, 32, 111, 110, 32, 99, 108, 111, 115, 101, 100, 32, 99, 104, 97, 110, 110, 101, 108]⟩ : ByteArray)] from rfl) (Reps.one (show Kd.M Kd.string _ _ _ (⟨#[99, 108, 111, 115, 101, 32, 111, 102, 32, 99, 108, 111, 115, 101, 100, 32, 99, 104, 97, 110, 110, 101, 108]⟩ : ByteArray) [.string (⟨#[99, 108, 111, 115, 101, 32, 111, 102, 32, 99, 108, 111, 115, 101, 100, 32, 99, 104, 97, 110, 110, 101, 108]⟩ : ByteArray)] from rfl) (Reps.one (show Kd.M Kd.string _ _ _ (⟨#[99, 108, 111, 115, 101, 32, 111, 102, 32, 110, 105, 108, 32, 99, 104, 97, 110, 110, 101, 108]⟩ : ByteArray) [.string (⟨#[99, 108, 111, 115, 101, 32, 111, 102, 32, 110, 105, 108, 32, 99, 104, 97, 110, 110, 101, 108]⟩ : ByteArray)] from rfl) (Reps.one (show Kd.M Kd.string _ _ _ (⟨#[117, 110, 108, 111, 99, 107, 32, 111, 102, 32, 117, 110, 108, 111, 99, 107, 101, 100, 32, 109, 117, 116, 101, 120]⟩ : ByteArray) [.string (⟨#[117, 110, 108, 111, 99, 107, 32, 111, 102, 32, 117, 110, 108, 111, 99, 107, 101, 100, 32, 109, 117, 116, 101, 120]⟩ : ByteArray)] from rfl) (Reps.one (show Kd.M Kd.string _ _ _ (⟨#[110, 105, 108, 32, 109, 117, 116, 101, 120]⟩ : ByteArray) [.string (⟨#[110, 105, 108, 32, 109, 117, 116, 101, 120]⟩ : ByteArray)] from rfl) (Reps.one (show Kd.M Kd.string _ _ _ (⟨#[110, 105, 108, 32, 119, 97, 105, 116, 32, 103, 114, 111, 117, 112]⟩ : ByteArray) [.string (⟨#[110, 105, 108, 32, 119, 97, 105, 116, 32, 103, 114, 111, 117, 112]⟩ : ByteArray)] from rfl) (Reps.one (show Kd.M Kd.string _ _ _ (⟨#[119, 97, 105, 116, 32, 103, 114, 111, 117, 112, 32, 99, 111, 117, 110, 116, 101, 114, 32, 111, 117, 116, 32, 111, 102, 32, 114, 97, 110, 103, 101]⟩ : ByteArray) [.string (⟨#[119, 97, 105, 116, 32, 103, 114, 111, 117, 112, 32, 99, 111, 117, 110, 116, 101, 114, 32, 111, 117, 116, 32, 111, 102, 32, 114, 97, 110, 103, 101]⟩ : ByteArray)] from rfl) (Reps.one (show Kd.M Kd.string _ _ _ (⟨#[100, 105, 118, 105, 115, 105, 111, 110, 32, 98, 121, 32, 122, 101, 114, 111]⟩ : ByteArray) [.string (⟨#[100, 105, 118, 105, 115, 105, 111, 110, 32, 98, 121, 32, 122, 101, 114, 111]⟩ : ByteArray)] from rfl) (Reps.one (show Kd.M Kd.string _ _ _ (⟨#[99, 104, 97, 110, 110, 101, 108, 32, 115, 105, 122, 101, 32, 111, 117, 116, 32, 111, 102, 32, 114, 97, 110, 103, 101]⟩ : ByteArray) [.string (⟨#[99, 104, 97, 110, 110, 101, 108, 32, 115, 105, 122, 101, 32, 111, 117, 116, 32, 111, 102, 32, 114, 97, 110, 103, 101]⟩ : ByteArray)] from rfl) (Reps.one (show Kd.M Kd.string _ _ _ (⟨#[111, 117, 116, 32, 111, 102, 32, 109, 101, 109, 111, 114, 121]⟩ : ByteArray) [.string (⟨#[111, 117, 116, 32, 111, 102, 32, 109, 101, 109, 111, 114, 121]⟩ : ByteArray)] from rfl) (Reps.one (show Kd.M Kd.string _ _ _ (⟨#[116, 111, 111, 32, 109, 97, 110, 121, 32, 103, 111, 114, 111, 117, 116, 105, 110, 101, 115]⟩ : ByteArray) [.string (⟨#[116, 111, 111, 32, 109, 97, 110, 121, 32, 103, 111, 114, 111, 117, 116, 105, 110, 101, 115]⟩ : ByteArray)] from rfl) (Reps.one (show Kd.M Kd.string _ _ _ (⟨#[115, 116, 97, 99, 107, 32, 116, 111, 111, 32, 100, 101, 101, 112]⟩ : ByteArray) [.string (⟨#[115, 116, 97, 99, 107, 32, 116, 111, 111, 32, 100, 101, 101, 112]⟩ : ByteArray)] from rfl) (Reps.one (show Kd.M Kd.string _ _ _ (⟨#[116, 111, 111, 32, 109, 117, 99, 104, 32, 111, 117, 116, 112, 117, 116]⟩ : ByteArray) [.string (⟨#[116, 111, 111, 32, 109, 117, 99, 104, 32, 111, 117, 116, 112, 117, 116]⟩ : ByteArray)] from rfl) (Reps.one (show Kd.M Kd.string _ _ _ (⟨#[119, 114, 111, 110, 103, 32, 107, 105, 110, 100, 32, 111, 102, 32, 111, 98, 106, 101, 99, 116]⟩ : ByteArray) [.string (⟨#[119, 114, 111, 110, 103, 32, 107, 105, 110, 100, 32, 111, 102, 32, 111, 98, 106, 101, 99, 116]⟩ : ByteArray)] from rfl) (Reps.none _ _))))))))))))))))); intro v102 w5 ho6 hb hg_ hnew_; clear hg_ hnew_; (first | rw [← Ny101.out] at ho6 | (simp only [Int.reduceToNat] at ho6; rw [← Ny101.out] at ho6)); have n0_ := Aside0.mk (Kd.R_lower ho6 (below_size (by repeat (first | (with_reducible first | exact HB.out | apply below_alloc | apply pw_below_drewN | apply below_drew1) | exact HB.out)))); have n1_ := Aside0.mk (below_step (by repeat (first | (with_reducible first | exact HB.out | apply below_alloc | apply pw_below_drewN | apply below_drew1) | exact HB.out)) hb); clear HB; have HO103 := n0_; have HB := n1_; clear n0_ n1_; clear hb ho6))
        go_ret
        exact ⟨by first | rfl | (simp [errW_none, errW_some] <;> rfl) | (simp [*, errW_none, errW_some] <;> rfl), by repeat (first | (with_reducible first | exact HB.out | apply below_alloc | apply pw_below_drewN | apply below_drew1) | exact HB.out)⟩
      · rw [if_neg c4] at H
        have c4b0 : decide (a0 < 11) = false := decide_eq_false c4
        clear c4
        by_cases c7 : (wrap64 (a0 - 11)) ≥ (y101.length : Int)
        · rw [if_pos c7] at H
          have c7b0 : decide ((y101.length : Int) ≤ (wrap64 (a0 - 11))) = true := decide_eq_true c7
          clear c7
          obtain rfl := Option.some.inj H
          go_enter Try.func6, Try.ntmps6
          go_wp2_with (first | ((with_reducible refine gate_dst (N := 9) rfl ?_); (try (refine gate_guard (by rfl) ?_; dsimp only)); refine Kd.R_lit Kd.string _ 9 ?hg (N := 9) ?hd (xs := ([(⟨#[97, 108, 108, 32, 103, 111, 114, 111, 117, 116, 105, 110, 101, 115, 32, 97, 114, 101, 32, 97, 115, 108, 101, 101, 112]⟩ : ByteArray), (⟨#[115, 101, 110, 100, 32, 111, 110, 32, 99, 108, 111, 115, 101, 100, 32, 99, 104, 97, 110, 110, 101, 108]⟩ : ByteArray), (⟨#[99, 108, 111, 115, 101, 32, 111, 102, 32, 99, 108, 111, 115, 101, 100, 32, 99, 104, 97, 110, 110, 101, 108]⟩ : ByteArray), (⟨#[99, 108, 111, 115, 101, 32, 111, 102, 32, 110, 105, 108, 32, 99, 104, 97, 110, 110, 101, 108]⟩ : ByteArray), (⟨#[117, 110, 108, 111, 99, 107, 32, 111, 102, 32, 117, 110, 108, 111, 99, 107, 101, 100, 32, 109, 117, 116, 101, 120]⟩ : ByteArray), (⟨#[110, 105, 108, 32, 109, 117, 116, 101, 120]⟩ : ByteArray), (⟨#[110, 105, 108, 32, 119, 97, 105, 116, 32, 103, 114, 111, 117, 112]⟩ : ByteArray), (⟨#[119, 97, 105, 116, 32, 103, 114, 111, 117, 112, 32, 99, 111, 117, 110, 116, 101, 114, 32, 111, 117, 116, 32, 111, 102, 32, 114, 97, 110, 103, 101]⟩ : ByteArray), (⟨#[100, 105, 118, 105, 115, 105, 111, 110, 32, 98, 121, 32, 122, 101, 114, 111]⟩ : ByteArray), (⟨#[99, 104, 97, 110, 110, 101, 108, 32, 115, 105, 122, 101, 32, 111, 117, 116, 32, 111, 102, 32, 114, 97, 110, 103, 101]⟩ : ByteArray), (⟨#[111, 117, 116, 32, 111, 102, 32, 109, 101, 109, 111, 114, 121]⟩ : ByteArray), (⟨#[116, 111, 111, 32, 109, 97, 110, 121, 32, 103, 111, 114, 111, 117, 116, 105, 110, 101, 115]⟩ : ByteArray), (⟨#[115, 116, 97, 99, 107, 32, 116, 111, 111, 32, 100, 101, 101, 112]⟩ : ByteArray), (⟨#[116, 111, 111, 32, 109, 117, 99, 104, 32, 111, 117, 116, 112, 117, 116]⟩ : ByteArray), (⟨#[119, 114, 111, 110, 103, 32, 107, 105, 110, 100, 32, 111, 102, 32, 111, 98, 106, 101, 99, 116]⟩ : ByteArray)] : List ByteArray)) (inner := [.string (⟨#[97, 108, 108, 32, 103, 111, 114, 111, 117, 116, 105, 110, 101, 115, 32, 97, 114, 101, 32, 97, 115, 108, 101, 101, 112]⟩ : ByteArray), .string (⟨#[115, 101, 110, 100, 32, 111, 110, 32, 99, 108, 111, 115, 101, 100, 32, 99, 104, 97, 110, 110, 101, 108]⟩ : ByteArray), .string (⟨#[99, 108, 111, 115, 101, 32, 111, 102, 32, 99, 108, 111, 115, 101, 100, 32, 99, 104, 97, 110, 110, 101, 108]⟩ : ByteArray), .string (⟨#[99, 108, 111, 115, 101, 32, 111, 102, 32, 110, 105, 108, 32, 99, 104, 97, 110, 110, 101, 108]⟩ : ByteArray), .string (⟨#[117, 110, 108, 111, 99, 107, 32, 111, 102, 32, 117, 110, 108, 111, 99, 107, 101, 100, 32, 109, 117, 116, 101, 120]⟩ : ByteArray), .string (⟨#[110, 105, 108, 32, 109, 117, 116, 101, 120]⟩ : ByteArray), .string (⟨#[110, 105, 108, 32, 119, 97, 105, 116, 32, 103, 114, 111, 117, 112]⟩ : ByteArray), .string (⟨#[119, 97, 105, 116, 32, 103, 114, 111, 117, 112, 32, 99, 111, 117, 110, 116, 101, 114, 32, 111, 117, 116, 32, 111, 102, 32, 114, 97, 110, 103, 101]⟩ : ByteArray), .string (⟨#[100, 105, 118, 105, 115, 105, 111, 110, 32, 98, 121, 32, 122, 101, 114, 111]⟩ : ByteArray), .string (⟨#[99, 104, 97, 110, 110, 101, 108, 32, 115, 105, 122, 101, 32, 111, 117, 116, 32, 111, 102, 32, 114, 97, 110, 103, 101]⟩ : ByteArray), .string (⟨#[111, 117, 116, 32, 111, 102, 32, 109, 101, 109, 111, 114, 121]⟩ : ByteArray), .string (⟨#[116, 111, 111, 32, 109, 97, 110, 121, 32, 103, 111, 114, 111, 117, 116, 105, 110, 101, 115]⟩ : ByteArray), .string (⟨#[115, 116, 97, 99, 107, 32, 116, 111, 111, 32, 100, 101, 101, 112]⟩ : ByteArray), .string (⟨#[116, 111, 111, 32, 109, 117, 99, 104, 32, 111, 117, 116, 112, 117, 116]⟩ : ByteArray), .string (⟨#[119, 114, 111, 110, 103, 32, 107, 105, 110, 100, 32, 111, 102, 32, 111, 98, 106, 101, 99, 116]⟩ : ByteArray)]) (ok := fun _ => True) (okp := fun _ => True) ?hr ?hp (fun _ hk => hk) trivial (Below.refl _ _) (Nat.le_refl _) (by simp) ?_; (case hd => rfl); (case hg => rfl); (case hr => first | (go_simp; done) | (go_simp; rfl)); (case hp => exact (Reps.one (show Kd.M Kd.string _ _ _ (⟨#[97, 108, 108, 32, 103, 111, 114, 111, 117, 116, 105, 110, 101, 115, 32, 97, 114, 101, 32, 97, 115, 108, 101, 101, 112]⟩ : ByteArray) [.string (⟨#[97, 108, 108, 32, 103, 111, 114, 111, 117, 116, 105, 110, 101, 115, 32, 97, 114, 101, 32, 97, 115, 108, 101, 101, 112]⟩ : ByteArray)] from rfl) (Reps.one (show Kd.M Kd.string _ _ _ (⟨#[115, 101, 110, 100, 32, 111, 110, 32, 99, 108, 111, 115, 101, 100, 32, 99, 104, 97, 110, 110, 101, 108]⟩ : ByteArray) [.string (⟨#[115, 101, 110, 100, 32, 111, 110, 32, 99, 108, 111, 115, 101, 100, 32, 99, 104, 97, 110, 110, 101, 108]⟩ : ByteArray)] from rfl) (Reps.one (show Kd.M Kd.string _ _ _ (⟨#[99, 108, 111, 115, 101, 32, 111, 102, 32, 99, 108, 111, 115, 101, 100, 32, 99, 104, 97, 110, 110, 101, 108]⟩ : ByteArray) [.string (⟨#[99, 108, 111, 115, 101, 32, 111, 102, 32, 99, 108, 111, 115, 101, 100, 32, 99, 104, 97, 110, 110, 101, 108]⟩ : ByteArray)] from rfl) (Reps.one (show Kd.M Kd.string _ _ _ (⟨#[99, 108, 111, 115, 101, 32, 111, 102, 32, 110, 105, 108, 32, 99, 104, 97, 110, 110, 101, 108]⟩ : ByteArray) [.string (⟨#[99, 108, 111, 115, 101, 32, 111, 102, 32, 110, 105, 108, 32, 99, 104, 97, 110, 110, 101, 108]⟩ : ByteArray)] from rfl) (Reps.one (show Kd.M Kd.string _ _ _ (⟨#[117, 110, 108, 111, 99, 107, 32, 111, 102, 32, 117, 110, 108, 111, 99, 107, 101, 100, 32, 109, 117, 116, 101, 120]⟩ : ByteArray) [.string (⟨#[117, 110, 108, 111, 99, 107, 32, 111, 102, 32, 117, 110, 108, 111, 99, 107, 101, 100, 32, 109, 117, 116, 101, 120]⟩ : ByteArray)] from rfl) (Reps.one (show Kd.M Kd.string _ _ _ (⟨#[110, 105, 108, 32, 109, 117, 116, 101, 120]⟩ : ByteArray) [.string (⟨#[110, 105, 108, 32, 109, 117, 116, 101, 120]⟩ : ByteArray)] from rfl) (Reps.one (show Kd.M Kd.string _ _ _ (⟨#[110, 105, 108, 32, 119, 97, 105, 116, 32, 103, 114, 111, 117, 112]⟩ : ByteArray) [.string (⟨#[110, 105, 108, 32, 119, 97, 105, 116, 32, 103, 114, 111, 117, 112]⟩ : ByteArray)] from rfl) (Reps.one (show Kd.M Kd.string _ _ _ (⟨#[119, 97, 105, 116, 32, 103, 114, 111, 117, 112, 32, 99, 111, 117, 110, 116, 101, 114, 32, 111, 117, 116, 32, 111, 102, 32, 114, 97, 110, 103, 101]⟩ : ByteArray) [.string (⟨#[119, 97, 105, 116, 32, 103, 114, 111, 117, 112, 32, 99, 111, 117, 110, 116, 101, 114, 32, 111, 117, 116, 32, 111, 102, 32, 114, 97, 110, 103, 101]⟩ : ByteArray)] from rfl) (Reps.one (show Kd.M Kd.string _ _ _ (⟨#[100, 105, 118, 105, 115, 105, 111, 110, 32, 98, 121, 32, 122, 101, 114, 111]⟩ : ByteArray) [.string (⟨#[100, 105, 118, 105, 115, 105, 111, 110, 32, 98, 121, 32, 122, 101, 114, 111]⟩ : ByteArray)] from rfl) (Reps.one (show Kd.M Kd.string _ _ _ (⟨#[99, 104, 97, 110, 110, 101, 108, 32, 115, 105, 122, 101, 32, 111, 117, 116, 32, 111, 102, 32, 114, 97, 110, 103, 101]⟩ : ByteArray) [.string (⟨#[99, 104, 97, 110, 110, 101, 108, 32, 115, 105, 122, 101, 32, 111, 117, 116, 32, 111, 102, 32, 114, 97, 110, 103, 101]⟩ : ByteArray)] from rfl) (Reps.one (show Kd.M Kd.string _ _ _ (⟨#[111, 117, 116, 32, 111, 102, 32, 109, 101, 109, 111, 114, 121]⟩ : ByteArray) [.string (⟨#[111, 117, 116, 32, 111, 102, 32, 109, 101, 109, 111, 114, 121]⟩ : ByteArray)] from rfl) (Reps.one (show Kd.M Kd.string _ _ _ (⟨#[116, 111, 111, 32, 109, 97, 110, 121, 32, 103, 111, 114, 111, 117, 116, 105, 110, 101, 115]⟩ : ByteArray) [.string (⟨#[116, 111, 111, 32, 109, 97, 110, 121, 32, 103, 111, 114, 111, 117, 116, 105, 110, 101, 115]⟩ : ByteArray)] from rfl) (Reps.one (show Kd.M Kd.string _ _ _ (⟨#[115, 116, 97, 99, 107, 32, 116, 111, 111, 32, 100, 101, 101, 112]⟩ : ByteArray) [.string (⟨#[115, 116, 97, 99, 107, 32, 116, 111, 111, 32, 100, 101, 101, 112]⟩ : ByteArray)] from rfl) (Reps.one (show Kd.M Kd.string _ _ _ (⟨#[116, 111, 111, 32, 109, 117, 99, 104, 32, 111, 117, 116, 112, 117, 116]⟩ : ByteArray) [.string (⟨#[116, 111, 111, 32, 109, 117, 99, 104, 32, 111, 117, 116, 112, 117, 116]⟩ : ByteArray)] from rfl) (Reps.one (show Kd.M Kd.string _ _ _ (⟨#[119, 114, 111, 110, 103, 32, 107, 105, 110, 100, 32, 111, 102, 32, 111, 98, 106, 101, 99, 116]⟩ : ByteArray) [.string (⟨#[119, 114, 111, 110, 103, 32, 107, 105, 110, 100, 32, 111, 102, 32, 111, 98, 106, 101, 99, 116]⟩ : ByteArray)] from rfl) (Reps.none _ _))))))))))))))))); intro v102 w8 ho9 hb hg_ hnew_; clear hg_ hnew_; (first | rw [← Ny101.out] at ho9 | (simp only [Int.reduceToNat] at ho9; rw [← Ny101.out] at ho9)); have n0_ := Aside0.mk (Kd.R_lower ho9 (below_size (by repeat (first | (with_reducible first | exact HB.out | apply below_alloc | apply pw_below_drewN | apply below_drew1) | exact HB.out)))); have n1_ := Aside0.mk (below_step (by repeat (first | (with_reducible first | exact HB.out | apply below_alloc | apply pw_below_drewN | apply below_drew1) | exact HB.out)) hb); clear HB; have HO103 := n0_; have HB := n1_; clear n0_ n1_; clear hb ho9; obtain ⟨Ao10, co10, eo10⟩ := Kd.R_slice HO103.out; subst eo10))
          go_ret
          exact ⟨by first | rfl | (simp [errW_none, errW_some] <;> rfl) | (simp [*, errW_none, errW_some] <;> rfl), by repeat (first | (with_reducible first | exact HB.out | apply below_alloc | apply pw_below_drewN | apply below_drew1) | exact HB.out)⟩
        · rw [if_neg c7] at H
          have c7b0 : decide ((y101.length : Int) ≤ (wrap64 (a0 - 11))) = false := decide_eq_false c7
          clear c7
          obtain ⟨ji11, hji11⟩ : ∃ j_ : Int, (wrap64 (a0 - 11)) = j_ := ⟨_, rfl⟩
          replace H : (if 0 ≤ (ji11) then (if (ji11) < (y101.length : Int) then (some (rdOf ByteArray.empty y101 (ji11))) else (none)) else (none)) = some r := by first | (rw [hji11] at H; exact H) | (simp only [hji11] at H ⊢; exact H)
          (try rw [hji11] at c7b0)
          have hji11w : (IntKind.i64.wrap (a0 - 11)) = ji11 := (i64_w _).trans hji11
          by_cases c12 : 0 ≤ (ji11)
          · rw [if_pos c12] at H
            have c12b0 : decide (0 ≤ (ji11)) = true := decide_eq_true c12
            clear c12
            by_cases c13 : (ji11) < (y101.length : Int)
            · rw [if_pos c13] at H
              have c13b0 : decide ((ji11) < (y101.length : Int)) = true := decide_eq_true c13
              clear c13
              obtain rfl := Option.some.inj H
              go_enter Try.func6, Try.ntmps6
              go_wp2_with (first | ((with_reducible refine gate_dst (N := 9) rfl ?_); (try (refine gate_guard (by rfl) ?_; dsimp only)); refine Kd.R_lit Kd.string _ 9 ?hg (N := 9) ?hd (xs := ([(⟨#[97, 108, 108, 32, 103, 111, 114, 111, 117, 116, 105, 110, 101, 115, 32, 97, 114, 101, 32, 97, 115, 108, 101, 101, 112]⟩ : ByteArray), (⟨#[115, 101, 110, 100, 32, 111, 110, 32, 99, 108, 111, 115, 101, 100, 32, 99, 104, 97, 110, 110, 101, 108]⟩ : ByteArray), (⟨#[99, 108, 111, 115, 101, 32, 111, 102, 32, 99, 108, 111, 115, 101, 100, 32, 99, 104, 97, 110, 110, 101, 108]⟩ : ByteArray), (⟨#[99, 108, 111, 115, 101, 32, 111, 102, 32, 110, 105, 108, 32, 99, 104, 97, 110, 110, 101, 108]⟩ : ByteArray), (⟨#[117, 110, 108, 111, 99, 107, 32, 111, 102, 32, 117, 110, 108, 111, 99, 107, 101, 100, 32, 109, 117, 116, 101, 120]⟩ : ByteArray), (⟨#[110, 105, 108, 32, 109, 117, 116, 101, 120]⟩ : ByteArray), (⟨#[110, 105, 108, 32, 119, 97, 105, 116, 32, 103, 114, 111, 117, 112]⟩ : ByteArray), (⟨#[119, 97, 105, 116, 32, 103, 114, 111, 117, 112, 32, 99, 111, 117, 110, 116, 101, 114, 32, 111, 117, 116, 32, 111, 102, 32, 114, 97, 110, 103, 101]⟩ : ByteArray), (⟨#[100, 105, 118, 105, 115, 105, 111, 110, 32, 98, 121, 32, 122, 101, 114, 111]⟩ : ByteArray), (⟨#[99, 104, 97, 110, 110, 101, 108, 32, 115, 105, 122, 101, 32, 111, 117, 116, 32, 111, 102, 32, 114, 97, 110, 103, 101]⟩ : ByteArray), (⟨#[111, 117, 116, 32, 111, 102, 32, 109, 101, 109, 111, 114, 121]⟩ : ByteArray), (⟨#[116, 111, 111, 32, 109, 97, 110, 121, 32, 103, 111, 114, 111, 117, 116, 105, 110, 101, 115]⟩ : ByteArray), (⟨#[115, 116, 97, 99, 107, 32, 116, 111, 111, 32, 100, 101, 101, 112]⟩ : ByteArray), (⟨#[116, 111, 111, 32, 109, 117, 99, 104, 32, 111, 117, 116, 112, 117, 116]⟩ : ByteArray), (⟨#[119, 114, 111, 110, 103, 32, 107, 105, 110, 100, 32, 111, 102, 32, 111, 98, 106, 101, 99, 116]⟩ : ByteArray)] : List ByteArray)) (inner := [.string (⟨#[97, 108, 108, 32, 103, 111, 114, 111, 117, 116, 105, 110, 101, 115, 32, 97, 114, 101, 32, 97, 115, 108, 101, 101, 112]⟩ : ByteArray), .string (⟨#[115, 101, 110, 100, 32, 111, 110, 32, 99, 108, 111, 115, 101, 100, 32, 99, 104, 97, 110, 110, 101, 108]⟩ : ByteArray), .string (⟨#[99, 108, 111, 115, 101, 32, 111, 102, 32, 99, 108, 111, 115, 101, 100, 32, 99, 104, 97, 110, 110, 101, 108]⟩ : ByteArray), .string (⟨#[99, 108, 111, 115, 101, 32, 111, 102, 32, 110, 105, 108, 32, 99, 104, 97, 110, 110, 101, 108]⟩ : ByteArray), .string (⟨#[117, 110, 108, 111, 99, 107, 32, 111, 102, 32, 117, 110, 108, 111, 99, 107, 101, 100, 32, 109, 117, 116, 101, 120]⟩ : ByteArray), .string (⟨#[110, 105, 108, 32, 109, 117, 116, 101, 120]⟩ : ByteArray), .string (⟨#[110, 105, 108, 32, 119, 97, 105, 116, 32, 103, 114, 111, 117, 112]⟩ : ByteArray), .string (⟨#[119, 97, 105, 116, 32, 103, 114, 111, 117, 112, 32, 99, 111, 117, 110, 116, 101, 114, 32, 111, 117, 116, 32, 111, 102, 32, 114, 97, 110, 103, 101]⟩ : ByteArray), .string (⟨#[100, 105, 118, 105, 115, 105, 111, 110, 32, 98, 121, 32, 122, 101, 114, 111]⟩ : ByteArray), .string (⟨#[99, 104, 97, 110, 110, 101, 108, 32, 115, 105, 122, 101, 32, 111, 117, 116, 32, 111, 102, 32, 114, 97, 110, 103, 101]⟩ : ByteArray), .string (⟨#[111, 117, 116, 32, 111, 102, 32, 109, 101, 109, 111, 114, 121]⟩ : ByteArray), .string (⟨#[116, 111, 111, 32, 109, 97, 110, 121, 32, 103, 111, 114, 111, 117, 116, 105, 110, 101, 115]⟩ : ByteArray), .string (⟨#[115, 116, 97, 99, 107, 32, 116, 111, 111, 32, 100, 101, 101, 112]⟩ : ByteArray), .string (⟨#[116, 111, 111, 32, 109, 117, 99, 104, 32, 111, 117, 116, 112, 117, 116]⟩ : ByteArray), .string (⟨#[119, 114, 111, 110, 103, 32, 107, 105, 110, 100, 32, 111, 102, 32, 111, 98, 106, 101, 99, 116]⟩ : ByteArray)]) (ok := fun _ => True) (okp := fun _ => True) ?hr ?hp (fun _ hk => hk) trivial (Below.refl _ _) (Nat.le_refl _) (by simp) ?_; (case hd => rfl); (case hg => rfl); (case hr => first | (go_simp; done) | (go_simp; rfl)); (case hp => exact (Reps.one (show Kd.M Kd.string _ _ _ (⟨#[97, 108, 108, 32, 103, 111, 114, 111, 117, 116, 105, 110, 101, 115, 32, 97, 114, 101, 32, 97, 115, 108, 101, 101, 112]⟩ : ByteArray) [.string (⟨#[97, 108, 108, 32, 103, 111, 114, 111, 117, 116, 105, 110, 101, 115, 32, 97, 114, 101, 32, 97, 115, 108, 101, 101, 112]⟩ : ByteArray)] from rfl) (Reps.one (show Kd.M Kd.string _ _ _ (⟨#[115, 101, 110, 100, 32, 111, 110, 32, 99, 108, 111, 115, 101, 100, 32, 99, 104, 97, 110, 110, 101, 108]⟩ : ByteArray) [.string (⟨#[115, 101, 110, 100, 32, 111, 110, 32, 99, 108, 111, 115, 101, 100, 32, 99, 104, 97, 110, 110, 101, 108]⟩ : ByteArray)] from rfl) (Reps.one (show Kd.M Kd.string _ _ _ (⟨#[99, 108, 111, 115, 101, 32, 111, 102, 32, 99, 108, 111, 115, 101, 100, 32, 99, 104, 97, 110, 110, 101, 108]⟩ : ByteArray) [.string (⟨#[99, 108, 111, 115, 101, 32, 111, 102, 32, 99, 108, 111, 115, 101, 100, 32, 99, 104, 97, 110, 110, 101, 108]⟩ : ByteArray)] from rfl) (Reps.one (show Kd.M Kd.string _ _ _ (⟨#[99, 108, 111, 115, 101, 32, 111, 102, 32, 110, 105, 108, 32, 99, 104, 97, 110, 110, 101, 108]⟩ : ByteArray) [.string (⟨#[99, 108, 111, 115, 101, 32, 111, 102, 32, 110, 105, 108, 32, 99, 104, 97, 110, 110, 101, 108]⟩ : ByteArray)] from rfl) (Reps.one (show Kd.M Kd.string _ _ _ (⟨#[117, 110, 108, 111, 99, 107, 32, 111, 102, 32, 117, 110, 108, 111, 99, 107, 101, 100, 32, 109, 117, 116, 101, 120]⟩ : ByteArray) [.string (⟨#[117, 110, 108, 111, 99, 107, 32, 111, 102, 32, 117, 110, 108, 111, 99, 107, 101, 100, 32, 109, 117, 116, 101, 120]⟩ : ByteArray)] from rfl) (Reps.one (show Kd.M Kd.string _ _ _ (⟨#[110, 105, 108, 32, 109, 117, 116, 101, 120]⟩ : ByteArray) [.string (⟨#[110, 105, 108, 32, 109, 117, 116, 101, 120]⟩ : ByteArray)] from rfl) (Reps.one (show Kd.M Kd.string _ _ _ (⟨#[110, 105, 108, 32, 119, 97, 105, 116, 32, 103, 114, 111, 117, 112]⟩ : ByteArray) [.string (⟨#[110, 105, 108, 32, 119, 97, 105, 116, 32, 103, 114, 111, 117, 112]⟩ : ByteArray)] from rfl) (Reps.one (show Kd.M Kd.string _ _ _ (⟨#[119, 97, 105, 116, 32, 103, 114, 111, 117, 112, 32, 99, 111, 117, 110, 116, 101, 114, 32, 111, 117, 116, 32, 111, 102, 32, 114, 97, 110, 103, 101]⟩ : ByteArray) [.string (⟨#[119, 97, 105, 116, 32, 103, 114, 111, 117, 112, 32, 99, 111, 117, 110, 116, 101, 114, 32, 111, 117, 116, 32, 111, 102, 32, 114, 97, 110, 103, 101]⟩ : ByteArray)] from rfl) (Reps.one (show Kd.M Kd.string _ _ _ (⟨#[100, 105, 118, 105, 115, 105, 111, 110, 32, 98, 121, 32, 122, 101, 114, 111]⟩ : ByteArray) [.string (⟨#[100, 105, 118, 105, 115, 105, 111, 110, 32, 98, 121, 32, 122, 101, 114, 111]⟩ : ByteArray)] from rfl) (Reps.one (show Kd.M Kd.string _ _ _ (⟨#[99, 104, 97, 110, 110, 101, 108, 32, 115, 105, 122, 101, 32, 111, 117, 116, 32, 111, 102, 32, 114, 97, 110, 103, 101]⟩ : ByteArray) [.string (⟨#[99, 104, 97, 110, 110, 101, 108, 32, 115, 105, 122, 101, 32, 111, 117, 116, 32, 111, 102, 32, 114, 97, 110, 103, 101]⟩ : ByteArray)] from rfl) (Reps.one (show Kd.M Kd.string _ _ _ (⟨#[111, 117, 116, 32, 111, 102, 32, 109, 101, 109, 111, 114, 121]⟩ : ByteArray) [.string (⟨#[111, 117, 116, 32, 111, 102, 32, 109, 101, 109, 111, 114, 121]⟩ : ByteArray)] from rfl) (Reps.one (show Kd.M Kd.string _ _ _ (⟨#[116, 111, 111, 32, 109, 97, 110, 121, 32, 103, 111, 114, 111, 117, 116, 105, 110, 101, 115]⟩ : ByteArray) [.string (⟨#[116, 111, 111, 32, 109, 97, 110, 121, 32, 103, 111, 114, 111, 117, 116, 105, 110, 101, 115]⟩ : ByteArray)] from rfl) (Reps.one (show Kd.M Kd.string _ _ _ (⟨#[115, 116, 97, 99, 107, 32, 116, 111, 111, 32, 100, 101, 101, 112]⟩ : ByteArray) [.string (⟨#[115, 116, 97, 99, 107, 32, 116, 111, 111, 32, 100, 101, 101, 112]⟩ : ByteArray)] from rfl) (Reps.one (show Kd.M Kd.string _ _ _ (⟨#[116, 111, 111, 32, 109, 117, 99, 104, 32, 111, 117, 116, 112, 117, 116]⟩ : ByteArray) [.string (⟨#[116, 111, 111, 32, 109, 117, 99, 104, 32, 111, 117, 116, 112, 117, 116]⟩ : ByteArray)] from rfl) (Reps.one (show Kd.M Kd.string _ _ _ (⟨#[119, 114, 111, 110, 103, 32, 107, 105, 110, 100, 32, 111, 102, 32, 111, 98, 106, 101, 99, 116]⟩ : ByteArray) [.string (⟨#[119, 114, 111, 110, 103, 32, 107, 105, 110, 100, 32, 111, 102, 32, 111, 98, 106, 101, 99, 116]⟩ : ByteArray)] from rfl) (Reps.none _ _))))))))))))))))); intro v102 w14 ho15 hb hg_ hnew_; clear hg_ hnew_; (first | rw [← Ny101.out] at ho15 | (simp only [Int.reduceToNat] at ho15; rw [← Ny101.out] at ho15)); have n0_ := Aside0.mk (Kd.R_lower ho15 (below_size (by repeat (first | (with_reducible first | exact HB.out | apply below_alloc | apply pw_below_drewN | apply below_drew1) | exact HB.out)))); have n1_ := Aside0.mk (below_step (by repeat (first | (with_reducible first | exact HB.out | apply below_alloc | apply pw_below_drewN | apply below_drew1) | exact HB.out)) hb); clear HB; have HO103 := n0_; have HB := n1_; clear n0_ n1_; clear hb ho15; obtain ⟨Ao16, co16, eo16⟩ := Kd.R_slice HO103.out; subst eo16; have p104 : 0 ≤ ((ji11) : Int) := of_decide_eq_true (by first | (with_reducible assumption) | assumption); have q104 : (ji11) < (y101.length : Int) := of_decide_eq_true (by first | (with_reducible assumption) | assumption); obtain ⟨ad104, e104, hx104_0⟩ := Kd.at_string (Kd.R_reads' HO103.out).2.2 (ji11) p104 q104; cases e104; replace p104 := eq_true p104; replace q104 := eq_true q104))
              go_ret
              exact ⟨by first | rfl | (simp [errW_none, errW_some] <;> rfl) | (simp only [← hji11]; first | rfl | (simp [errW_none, errW_some] <;> rfl)) | (simp [*, errW_none, errW_some] <;> rfl), by repeat (first | (with_reducible first | exact HB.out | apply below_alloc | apply pw_below_drewN | apply below_drew1) | exact HB.out)⟩
            · rw [if_neg c13] at H
              exact absurd H (by simp)
          · rw [if_neg c12] at H
            exact absurd H (by simp)

/-! ### run_Exit: function 7 -/
def run_Exit.f (a0_0 : Int) (a0_1 : Int) (a0_2 : ByteArray) (l0_3 : List (S70)) (l0_4 : List (S72)) (a0_5 : Int) (a0_6 : Int) (l0_7 : List (S74)) : Option (Int) := if a0_0 = 2 then (some 0) else (if a0_0 = 3 then (some 2) else (some 1))
set_option maxHeartbeats 8000000 in
set_option maxRecDepth 100000 in
theorem run_Exit.calls (a0_0 : Int) (a0_1 : Int) (a0_2 : ByteArray) (A0_3 : Option Addr) (c0_3 : Nat) (l0_3 : List (S70)) (A0_4 : Option Addr) (c0_4 : Nat) (l0_4 : List (S72)) (a0_5 : Int) (a0_6 : Int) (A0_7 : Option Addr) (c0_7 : Nat) (l0_7 : List (S74)) (r : Int) (w : World) (hr0_3 : Kd.C k70 w A0_3 l0_3.length l0_3) (hc0_3 : l0_3.length ≤ c0_3) (hr0_4 : Kd.C k72 w A0_4 l0_4.length l0_4) (hc0_4 : l0_4.length ≤ c0_4) (hr0_7 : Kd.C k74 w A0_7 l0_7.length l0_7) (hc0_7 : l0_7.length ≤ c0_7) (h : run_Exit.f a0_0 a0_1 a0_2 l0_3 l0_4 a0_5 a0_6 l0_7 = some r) :
    Calls Try.prog 7 #[.agg #[.int .i64 a0_0, .int .i64 a0_1, .string a0_2, .slice A0_3 l0_3.length c0_3, .slice A0_4 l0_4.length c0_4, .int .i64 a0_5, .int .i64 a0_6, .slice A0_7 l0_7.length c0_7]] w fun e w' => e = .returned (.int .i64 r) ∧ Below w.heap.size w w' := by
  have hu30 := Try.underlying30
  have HR0_3 := Aside0.mk hr0_3
  have HC0_3 := Aside0.mk hc0_3
  clear hr0_3 hc0_3
  have HR0_4 := Aside0.mk hr0_4
  have HC0_4 := Aside0.mk hc0_4
  clear hr0_4 hc0_4
  have HR0_7 := Aside0.mk hr0_7
  have HC0_7 := Aside0.mk hc0_7
  clear hr0_7 hc0_7
  have HB := Aside0.mk (Below.refl w.heap.size w)
  have H : (if a0_0 = 2 then (some 0) else (if a0_0 = 3 then (some 2) else (some 1))) = some r := h
  clear h
  by_cases c2 : a0_0 = 2
  · rw [if_pos c2] at H
    have c2b0 : (a0_0 == 2) = true := beq_iff_eq.mpr c2
    have c2b1 : (a0_0 != 2) = false := bne_eq_false_iff_eq.mpr c2
    clear c2
    obtain rfl := Option.some.inj H
    go_enter Try.func7, Try.ntmps7
    go_wp2_with (first | ((with_reducible refine gate_dst (N := 1) rfl ?_); refine box_event ?hg (N := 1) ?hd (cs := #[.int .i64 a0_0, .int .i64 a0_1, .string a0_2, .slice A0_3 l0_3.length c0_3, .slice A0_4 l0_4.length c0_4, .int .i64 a0_5, .int .i64 a0_6, .slice A0_7 l0_7.length c0_7]) (t := 30) ?hr ?_; (case hd => rfl); (case hg => rfl); (case hr => first | (go_simp; done) | (go_simp; rfl)); intro gb105 hg w3 hbox hb; have n0_ := Aside0.mk (below_step (by repeat (first | (with_reducible first | exact HB.out | apply below_alloc | apply pw_below_drewN | apply below_drew1) | exact HB.out)) hb); have n1_ := Aside0.mk (hbox); have n2_ := Aside0.mk ((by rw [hg]; exact (below_size (by repeat (first | (with_reducible first | exact HB.out | apply below_alloc | apply pw_below_drewN | apply below_drew1) | exact HB.out))) : w.heap.size ≤ gb105)); have n3_ := Aside0.mk ((by rw [hg]; exact (below_size (by repeat (first | (with_reducible first | exact HB.out | apply below_alloc | apply pw_below_drewN | apply below_drew1) | exact HB.out))) : w.heap.size ≤ gb105)); clear HB; have HB := n0_; have BK105 := n1_; have GW105 := n2_; have GE105 := n3_; clear n0_ n1_ n2_ n3_; clear hb hbox hg; have hcz4_0 : w3.cell? ⟨gb105, 0, none⟩ = some (.int .i64 a0_0) := (blk_cell BK105.out 0).trans rfl; have hcz4_1 : w3.cell? ⟨gb105, 1, none⟩ = some (.int .i64 a0_1) := (blk_cell BK105.out 1).trans rfl; have hcz4_2 : w3.cell? ⟨gb105, 2, none⟩ = some (.string a0_2) := (blk_cell BK105.out 2).trans rfl; have hcz4_3 : w3.cell? ⟨gb105, 3, none⟩ = some (.slice A0_3 l0_3.length c0_3) := (blk_cell BK105.out 3).trans rfl; have hcz4_4 : w3.cell? ⟨gb105, 4, none⟩ = some (.slice A0_4 l0_4.length c0_4) := (blk_cell BK105.out 4).trans rfl; have hcz4_5 : w3.cell? ⟨gb105, 5, none⟩ = some (.int .i64 a0_5) := (blk_cell BK105.out 5).trans rfl; have hcz4_6 : w3.cell? ⟨gb105, 6, none⟩ = some (.int .i64 a0_6) := (blk_cell BK105.out 6).trans rfl; have hcz4_7 : w3.cell? ⟨gb105, 7, none⟩ = some (.slice A0_7 l0_7.length c0_7) := (blk_cell BK105.out 7).trans rfl; have hfz4_0 := blk_frozen BK105.out 0; have hfz4_1 := blk_frozen BK105.out 1; have hfz4_2 := blk_frozen BK105.out 2; have hfz4_3 := blk_frozen BK105.out 3; have hfz4_4 := blk_frozen BK105.out 4; have hfz4_5 := blk_frozen BK105.out 5; have hfz4_6 := blk_frozen BK105.out 6; have hfz4_7 := blk_frozen BK105.out 7))
    go_ret
    exact ⟨by first | rfl | (simp [errW_none, errW_some] <;> rfl) | (simp [*, errW_none, errW_some] <;> rfl), by repeat (first | (with_reducible first | exact HB.out | apply below_alloc | apply pw_below_drewN | apply below_drew1 | refine below_set ?_ GE105.out) | exact HB.out)⟩
  · rw [if_neg c2] at H
    have c2b0 : (a0_0 == 2) = false := beq_eq_false_iff_ne.mpr c2
    have c2b1 : (a0_0 != 2) = true := bne_iff_ne.mpr c2
    by_cases c5 : a0_0 = 3
    · rw [if_pos c5] at H
      have c5b0 : (a0_0 == 3) = true := beq_iff_eq.mpr c5
      have c5b1 : (a0_0 != 3) = false := bne_eq_false_iff_eq.mpr c5
      clear c5
      obtain rfl := Option.some.inj H
      go_enter Try.func7, Try.ntmps7
      go_wp2_with (first | ((with_reducible refine gate_dst (N := 1) rfl ?_); refine box_event ?hg (N := 1) ?hd (cs := #[.int .i64 a0_0, .int .i64 a0_1, .string a0_2, .slice A0_3 l0_3.length c0_3, .slice A0_4 l0_4.length c0_4, .int .i64 a0_5, .int .i64 a0_6, .slice A0_7 l0_7.length c0_7]) (t := 30) ?hr ?_; (case hd => rfl); (case hg => rfl); (case hr => first | (go_simp; done) | (go_simp; rfl)); intro gb105 hg w6 hbox hb; have n0_ := Aside0.mk (below_step (by repeat (first | (with_reducible first | exact HB.out | apply below_alloc | apply pw_below_drewN | apply below_drew1) | exact HB.out)) hb); have n1_ := Aside0.mk (hbox); have n2_ := Aside0.mk ((by rw [hg]; exact (below_size (by repeat (first | (with_reducible first | exact HB.out | apply below_alloc | apply pw_below_drewN | apply below_drew1) | exact HB.out))) : w.heap.size ≤ gb105)); have n3_ := Aside0.mk ((by rw [hg]; exact (below_size (by repeat (first | (with_reducible first | exact HB.out | apply below_alloc | apply pw_below_drewN | apply below_drew1) | exact HB.out))) : w.heap.size ≤ gb105)); clear HB; have HB := n0_; have BK105 := n1_; have GW105 := n2_; have GE105 := n3_; clear n0_ n1_ n2_ n3_; clear hb hbox hg; have hcz7_0 : w6.cell? ⟨gb105, 0, none⟩ = some (.int .i64 a0_0) := (blk_cell BK105.out 0).trans rfl; have hcz7_1 : w6.cell? ⟨gb105, 1, none⟩ = some (.int .i64 a0_1) := (blk_cell BK105.out 1).trans rfl; have hcz7_2 : w6.cell? ⟨gb105, 2, none⟩ = some (.string a0_2) := (blk_cell BK105.out 2).trans rfl; have hcz7_3 : w6.cell? ⟨gb105, 3, none⟩ = some (.slice A0_3 l0_3.length c0_3) := (blk_cell BK105.out 3).trans rfl; have hcz7_4 : w6.cell? ⟨gb105, 4, none⟩ = some (.slice A0_4 l0_4.length c0_4) := (blk_cell BK105.out 4).trans rfl; have hcz7_5 : w6.cell? ⟨gb105, 5, none⟩ = some (.int .i64 a0_5) := (blk_cell BK105.out 5).trans rfl; have hcz7_6 : w6.cell? ⟨gb105, 6, none⟩ = some (.int .i64 a0_6) := (blk_cell BK105.out 6).trans rfl; have hcz7_7 : w6.cell? ⟨gb105, 7, none⟩ = some (.slice A0_7 l0_7.length c0_7) := (blk_cell BK105.out 7).trans rfl; have hfz7_0 := blk_frozen BK105.out 0; have hfz7_1 := blk_frozen BK105.out 1; have hfz7_2 := blk_frozen BK105.out 2; have hfz7_3 := blk_frozen BK105.out 3; have hfz7_4 := blk_frozen BK105.out 4; have hfz7_5 := blk_frozen BK105.out 5; have hfz7_6 := blk_frozen BK105.out 6; have hfz7_7 := blk_frozen BK105.out 7))
      go_ret
      exact ⟨by first | rfl | (simp [errW_none, errW_some] <;> rfl) | (simp [*, errW_none, errW_some] <;> rfl), by repeat (first | (with_reducible first | exact HB.out | apply below_alloc | apply pw_below_drewN | apply below_drew1 | refine below_set ?_ GE105.out) | exact HB.out)⟩
    · rw [if_neg c5] at H
      have c5b0 : (a0_0 == 3) = false := beq_eq_false_iff_ne.mpr c5
      have c5b1 : (a0_0 != 3) = true := bne_iff_ne.mpr c5
      obtain rfl := Option.some.inj H
      go_enter Try.func7, Try.ntmps7
      go_wp2_with (first | ((with_reducible refine gate_dst (N := 1) rfl ?_); refine box_event ?hg (N := 1) ?hd (cs := #[.int .i64 a0_0, .int .i64 a0_1, .string a0_2, .slice A0_3 l0_3.length c0_3, .slice A0_4 l0_4.length c0_4, .int .i64 a0_5, .int .i64 a0_6, .slice A0_7 l0_7.length c0_7]) (t := 30) ?hr ?_; (case hd => rfl); (case hg => rfl); (case hr => first | (go_simp; done) | (go_simp; rfl)); intro gb105 hg w8 hbox hb; have n0_ := Aside0.mk (below_step (by repeat (first | (with_reducible first | exact HB.out | apply below_alloc | apply pw_below_drewN | apply below_drew1) | exact HB.out)) hb); have n1_ := Aside0.mk (hbox); have n2_ := Aside0.mk ((by rw [hg]; exact (below_size (by repeat (first | (with_reducible first | exact HB.out | apply below_alloc | apply pw_below_drewN | apply below_drew1) | exact HB.out))) : w.heap.size ≤ gb105)); have n3_ := Aside0.mk ((by rw [hg]; exact (below_size (by repeat (first | (with_reducible first | exact HB.out | apply below_alloc | apply pw_below_drewN | apply below_drew1) | exact HB.out))) : w.heap.size ≤ gb105)); clear HB; have HB := n0_; have BK105 := n1_; have GW105 := n2_; have GE105 := n3_; clear n0_ n1_ n2_ n3_; clear hb hbox hg; have hcz9_0 : w8.cell? ⟨gb105, 0, none⟩ = some (.int .i64 a0_0) := (blk_cell BK105.out 0).trans rfl; have hcz9_1 : w8.cell? ⟨gb105, 1, none⟩ = some (.int .i64 a0_1) := (blk_cell BK105.out 1).trans rfl; have hcz9_2 : w8.cell? ⟨gb105, 2, none⟩ = some (.string a0_2) := (blk_cell BK105.out 2).trans rfl; have hcz9_3 : w8.cell? ⟨gb105, 3, none⟩ = some (.slice A0_3 l0_3.length c0_3) := (blk_cell BK105.out 3).trans rfl; have hcz9_4 : w8.cell? ⟨gb105, 4, none⟩ = some (.slice A0_4 l0_4.length c0_4) := (blk_cell BK105.out 4).trans rfl; have hcz9_5 : w8.cell? ⟨gb105, 5, none⟩ = some (.int .i64 a0_5) := (blk_cell BK105.out 5).trans rfl; have hcz9_6 : w8.cell? ⟨gb105, 6, none⟩ = some (.int .i64 a0_6) := (blk_cell BK105.out 6).trans rfl; have hcz9_7 : w8.cell? ⟨gb105, 7, none⟩ = some (.slice A0_7 l0_7.length c0_7) := (blk_cell BK105.out 7).trans rfl; have hfz9_0 := blk_frozen BK105.out 0; have hfz9_1 := blk_frozen BK105.out 1; have hfz9_2 := blk_frozen BK105.out 2; have hfz9_3 := blk_frozen BK105.out 3; have hfz9_4 := blk_frozen BK105.out 4; have hfz9_5 := blk_frozen BK105.out 5; have hfz9_6 := blk_frozen BK105.out 6; have hfz9_7 := blk_frozen BK105.out 7))
      go_ret
      exact ⟨by first | rfl | (simp [errW_none, errW_some] <;> rfl) | (simp [*, errW_none, errW_some] <;> rfl), by repeat (first | (with_reducible first | exact HB.out | apply below_alloc | apply pw_below_drewN | apply below_drew1 | refine below_set ?_ GE105.out) | exact HB.out)⟩

/-! ### drowselaw20_RunTexts: function 3 -/
def drowselaw20_RunTexts.j0 : Nat → Int → Int → Int → Option (Bool)
  | 0, _, _, _ => none
  | k + 1, x1, x5, x6 => if x1 = 3 then ((run_Text.f x5).bind fun t106 => ((drowselaw20_texts.f x5).bind fun t107 => (if t106.toList = t107.toList then ((run_Exit.f x1 x5 (⟨#[]⟩ : ByteArray) ([] : List (S70)) ([] : List (S72)) 3 0 ([] : List (S74))).bind fun t108 => (some (t108 == 2))) else (some false)))) else ((run_Text.f x5).bind fun t109 => ((drowselaw20_texts.f x5).bind fun t110 => (if t109.toList = t110.toList then ((run_Exit.f x1 x5 (⟨#[]⟩ : ByteArray) ([] : List (S70)) ([] : List (S72)) 3 0 ([] : List (S74))).bind fun t111 => (some (t111 == x6))) else (some false))))
def drowselaw20_RunTexts.f (k : Nat) (a0 : Int) (a1 : Int) : Option (Bool) := if a1 = 2 then (drowselaw20_RunTexts.j0 k a1 a0 0) else (drowselaw20_RunTexts.j0 k a1 a0 1)
theorem drowselaw20_RunTexts.mono_l : ∀ k, (∀ y0 y1 y2, LeO (drowselaw20_RunTexts.j0 k y0 y1 y2) (drowselaw20_RunTexts.j0 (k + 1) y0 y1 y2))
  | 0 => fun _ _ _ r h => by simp [drowselaw20_RunTexts.j0] at h
  | k + 1 => by
    have ih0 := drowselaw20_RunTexts.mono_l k
    · intro y0 y1 y2
      unfold drowselaw20_RunTexts.j0
      repeat' first
      | (with_reducible exact ih0 _ _ _)
      | (with_reducible exact LeO.refl _)
      | (with_reducible exact LeO.none _)
      | (with_reducible refine LeO.ite ?_ ?_)
      | (with_reducible refine LeO.bind ?_ (fun _ => ?_))
      | exact ih0 _ _ _
      | exact LeO.none _
      | refine LeO.ite ?_ ?_
      | refine LeO.bind ?_ (fun _ => ?_)
theorem drowselaw20_RunTexts.mono : ∀ a0 a1 k, LeO (drowselaw20_RunTexts.f k a0 a1) (drowselaw20_RunTexts.f (k + 1) a0 a1) := by
  intro a0 a1 k
  have ih0 := drowselaw20_RunTexts.mono_l k
  unfold drowselaw20_RunTexts.f
  repeat' first
      | (with_reducible exact ih0 _ _ _)
      | (with_reducible exact LeO.refl _)
      | (with_reducible exact LeO.none _)
      | (with_reducible refine LeO.ite ?_ ?_)
      | (with_reducible refine LeO.bind ?_ (fun _ => ?_))
      | exact ih0 _ _ _
      | exact LeO.none _
      | refine LeO.ite ?_ ?_
      | refine LeO.bind ?_ (fun _ => ?_)
set_option maxHeartbeats 8000000 in
set_option maxRecDepth 100000 in
theorem drowselaw20_RunTexts.calls (k : Nat) (a0 : Int) (a1 : Int) (r : Bool) (w : World) (h : drowselaw20_RunTexts.f k a0 a1 = some r) :
    Calls Try.prog 3 #[.int .i64 a0, .int .i64 a1] w fun e w' => e = .returned (.bool r) ∧ Below w.heap.size w w' := by
  have hu30 := Try.underlying30
  have HB := Aside0.mk (Below.refl w.heap.size w)
  have H : (if a1 = 2 then (drowselaw20_RunTexts.j0 k a1 a0 0) else (drowselaw20_RunTexts.j0 k a1 a0 1)) = some r := h
  clear h
  have HC3 := Aside0.mk H
  clear H
  go_enter Try.func3, Try.ntmps3
  go_upto_if 9 with (fail)
  go_cut [6] (fun v6 wc => ∃ (kq : Nat) (x6_2 : Int), v6 = .int .i64 x6_2 ∧ Aside0 (drowselaw20_RunTexts.j0 kq a1 a0 x6_2 = some r) ∧ Aside0 (kq ≤ k) ∧ Aside0 (Below w.heap.size w wc))
  case first =>
    have H := HC3.out
    clear HC3
    by_cases c4 : a1 = 2
    · rw [if_pos c4] at H
      have c4b0 : (a1 == 2) = true := beq_iff_eq.mpr c4
      have c4b1 : (a1 != 2) = false := bne_eq_false_iff_eq.mpr c4
      clear c4
      (first | rw [c4b0] | (simp only [i64_w, i32_w]; rw [c4b0]) | skip)
      have H' := Aside0.mk H
      clear H
      go_wp2
      go_meet
      case rel => exact ⟨_, (0), (by first | rfl | (simp; done) | (simp [*]; done)), H', ⟨by first | omega | exact Nat.le_refl _⟩, ⟨by repeat (first | (with_reducible first | exact HB.out | apply below_alloc | apply pw_below_drewN | apply below_drew1) | exact HB.out)⟩⟩
    · rw [if_neg c4] at H
      have c4b0 : (a1 == 2) = false := beq_eq_false_iff_ne.mpr c4
      have c4b1 : (a1 != 2) = true := bne_iff_ne.mpr c4
      (first | rw [c4b0] | (simp only [i64_w, i32_w]; rw [c4b0]) | skip)
      have H' := Aside0.mk H
      clear H
      go_wp2
      go_meet
      case rel => exact ⟨_, (1), (by first | rfl | (simp; done) | (simp [*]; done)), H', ⟨by first | omega | exact Nat.le_refl _⟩, ⟨by repeat (first | (with_reducible first | exact HB.out | apply below_alloc | apply pw_below_drewN | apply below_drew1) | exact HB.out)⟩⟩
  case rest =>
    clear HC3
    try clear p2
    try clear c3
    try clear c4
    try clear c4b0
    try clear c4b1
    obtain ⟨kq, x6_2, rfl, HA, HJ2, HB⟩ := hcut
    cases kq with
    | zero => exact absurd HA.out (by simp [drowselaw20_RunTexts.j0])
    | succ kj2 =>
      have H := HA.out
      clear HA
      simp only [drowselaw20_RunTexts.j0] at H
      by_cases c5 : a1 = 3
      · rw [if_pos c5] at H
        have c5b0 : (a1 == 3) = true := beq_iff_eq.mpr c5
        have c5b1 : (a1 != 3) = false := bne_eq_false_iff_eq.mpr c5
        clear c5
        replace H := Option.bind_eq_some_iff.mp H
        obtain ⟨t106, A60, H⟩ := H
        replace H : ((drowselaw20_texts.f a0).bind fun t107 => (if t106.toList = t107.toList then ((run_Exit.f a1 a0 (⟨#[]⟩ : ByteArray) ([] : List (S70)) ([] : List (S72)) 3 0 ([] : List (S74))).bind fun t108 => (some (t108 == 2))) else (some false))) = some r := H
        have A6 := Aside0.mk A60
        clear A60
        replace H := Option.bind_eq_some_iff.mp H
        obtain ⟨t107, A70, H⟩ := H
        replace H : (if t106.toList = t107.toList then ((run_Exit.f a1 a0 (⟨#[]⟩ : ByteArray) ([] : List (S70)) ([] : List (S72)) 3 0 ([] : List (S74))).bind fun t108 => (some (t108 == 2))) else (some false)) = some r := H
        have A7 := Aside0.mk A70
        clear A70
        by_cases c8 : t106.toList = t107.toList
        · rw [if_pos c8] at H
          have c8b0 : (t106.toList == t107.toList) = true := beq_iff_eq.mpr c8
          have c8b1 : (t106.toList != t107.toList) = false := bne_eq_false_iff_eq.mpr c8
          clear c8
          replace H := Option.bind_eq_some_iff.mp H
          obtain ⟨t108, A90, H⟩ := H
          replace H : (some (t108 == 2)) = some r := H
          have A9 := Aside0.mk A90
          clear A90
          obtain rfl := Option.some.inj H
          go_wp2_with (first | ((with_reducible refine gate_callee (f := 5) rfl ?_); refine goesL_ (some 13) rfl rfl Try.func5 (by kernel_rfl) rfl #[.int .i64 a0] rfl (by (try simp only [List.map_toArray, List.map_cons, List.map_nil]); first | done | rfl | (simp only [List.length_drop, List.length_take]; rfl)) ?_; (with_reducible refine (run_Text.calls a0 t106 _ A6.out).mono ?_); rintro e w' ⟨rfl, ⟨nd, rfl⟩⟩; refine ⟨_, rfl, ?_⟩) | ((with_reducible refine gate_callee (f := 6) rfl ?_); refine goesL_ (some 15) rfl rfl Try.func6 (by kernel_rfl) rfl #[.int .i64 a0] rfl (by (try simp only [List.map_toArray, List.map_cons, List.map_nil]); first | done | rfl | (simp only [List.length_drop, List.length_take]; rfl)) ?_; (with_reducible refine (drowselaw20_texts.calls a0 t107 _ A7.out).mono ?_); rintro e w10 ⟨rfl, hb⟩; refine ⟨_, rfl, ?_⟩; have n0_ := Aside0.mk (below_step (by repeat (first | (with_reducible first | exact HB.out | apply below_alloc | apply pw_below_drewN | apply below_drew1) | exact HB.out)) hb); clear HB; have HB := n0_; clear n0_; (try clear hb); (try clear hb2); (try clear hk); (try clear hi)) | (go_at_call 7; (refine (run_Exit.calls a1 a0 (⟨#[]⟩ : ByteArray) _ _ ([] : List (S70)) _ _ ([] : List (S72)) 3 0 _ _ ([] : List (S74)) t108 _ ?side1 ?side2 ?side3 ?side4 ?side5 ?side6 A9.out).mono ?_); (case side1 => exact Kd.C_nil _ _); (case side2 => exact Nat.le_refl _); (case side3 => exact Kd.C_nil _ _); (case side4 => exact Nat.le_refl _); (case side5 => exact Kd.C_nil _ _); (case side6 => exact Nat.le_refl _); rintro e w11 ⟨rfl, hb⟩; have n0_ := Aside0.mk (below_step (by repeat (first | (with_reducible first | exact HB.out | apply below_alloc | apply pw_below_drewN | apply below_drew1) | exact HB.out)) hb); clear HB; have HB := n0_; clear n0_; (try clear hb); (try clear hb2); (try clear hk); (try clear hi)))
          go_ret
          exact ⟨by first | rfl | (simp [errW_none, errW_some] <;> rfl) | (simp [*, errW_none, errW_some] <;> rfl), by repeat (first | (with_reducible first | exact HB.out | apply below_alloc | apply pw_below_drewN | apply below_drew1) | exact HB.out)⟩
        · rw [if_neg c8] at H
          have c8b0 : (t106.toList == t107.toList) = false := beq_eq_false_iff_ne.mpr c8
          have c8b1 : (t106.toList != t107.toList) = true := bne_iff_ne.mpr c8
          obtain rfl := Option.some.inj H
          go_wp2_with (first | ((with_reducible refine gate_callee (f := 5) rfl ?_); refine goesL_ (some 13) rfl rfl Try.func5 (by kernel_rfl) rfl #[.int .i64 a0] rfl (by (try simp only [List.map_toArray, List.map_cons, List.map_nil]); first | done | rfl | (simp only [List.length_drop, List.length_take]; rfl)) ?_; (with_reducible refine (run_Text.calls a0 t106 _ A6.out).mono ?_); rintro e w' ⟨rfl, ⟨nd, rfl⟩⟩; refine ⟨_, rfl, ?_⟩) | ((with_reducible refine gate_callee (f := 6) rfl ?_); refine goesL_ (some 15) rfl rfl Try.func6 (by kernel_rfl) rfl #[.int .i64 a0] rfl (by (try simp only [List.map_toArray, List.map_cons, List.map_nil]); first | done | rfl | (simp only [List.length_drop, List.length_take]; rfl)) ?_; (with_reducible refine (drowselaw20_texts.calls a0 t107 _ A7.out).mono ?_); rintro e w12 ⟨rfl, hb⟩; refine ⟨_, rfl, ?_⟩; have n0_ := Aside0.mk (below_step (by repeat (first | (with_reducible first | exact HB.out | apply below_alloc | apply pw_below_drewN | apply below_drew1) | exact HB.out)) hb); clear HB; have HB := n0_; clear n0_; (try clear hb); (try clear hb2); (try clear hk); (try clear hi)))
          go_ret
          exact ⟨by first | rfl | (simp [errW_none, errW_some] <;> rfl) | (simp [*, errW_none, errW_some] <;> rfl), by repeat (first | (with_reducible first | exact HB.out | apply below_alloc | apply pw_below_drewN | apply below_drew1) | exact HB.out)⟩
      · rw [if_neg c5] at H
        have c5b0 : (a1 == 3) = false := beq_eq_false_iff_ne.mpr c5
        have c5b1 : (a1 != 3) = true := bne_iff_ne.mpr c5
        replace H := Option.bind_eq_some_iff.mp H
        obtain ⟨t109, A130, H⟩ := H
        replace H : ((drowselaw20_texts.f a0).bind fun t110 => (if t109.toList = t110.toList then ((run_Exit.f a1 a0 (⟨#[]⟩ : ByteArray) ([] : List (S70)) ([] : List (S72)) 3 0 ([] : List (S74))).bind fun t111 => (some (t111 == x6_2))) else (some false))) = some r := H
        have A13 := Aside0.mk A130
        clear A130
        replace H := Option.bind_eq_some_iff.mp H
        obtain ⟨t110, A140, H⟩ := H
        replace H : (if t109.toList = t110.toList then ((run_Exit.f a1 a0 (⟨#[]⟩ : ByteArray) ([] : List (S70)) ([] : List (S72)) 3 0 ([] : List (S74))).bind fun t111 => (some (t111 == x6_2))) else (some false)) = some r := H
        have A14 := Aside0.mk A140
        clear A140
        by_cases c15 : t109.toList = t110.toList
        · rw [if_pos c15] at H
          have c15b0 : (t109.toList == t110.toList) = true := beq_iff_eq.mpr c15
          have c15b1 : (t109.toList != t110.toList) = false := bne_eq_false_iff_eq.mpr c15
          clear c15
          replace H := Option.bind_eq_some_iff.mp H
          obtain ⟨t111, A160, H⟩ := H
          replace H : (some (t111 == x6_2)) = some r := H
          have A16 := Aside0.mk A160
          clear A160
          obtain rfl := Option.some.inj H
          go_wp2_with (first | ((with_reducible refine gate_callee (f := 5) rfl ?_); refine goesL_ (some 13) rfl rfl Try.func5 (by kernel_rfl) rfl #[.int .i64 a0] rfl (by (try simp only [List.map_toArray, List.map_cons, List.map_nil]); first | done | rfl | (simp only [List.length_drop, List.length_take]; rfl)) ?_; (with_reducible refine (run_Text.calls a0 t109 _ A13.out).mono ?_); rintro e w' ⟨rfl, ⟨nd, rfl⟩⟩; refine ⟨_, rfl, ?_⟩) | ((with_reducible refine gate_callee (f := 6) rfl ?_); refine goesL_ (some 15) rfl rfl Try.func6 (by kernel_rfl) rfl #[.int .i64 a0] rfl (by (try simp only [List.map_toArray, List.map_cons, List.map_nil]); first | done | rfl | (simp only [List.length_drop, List.length_take]; rfl)) ?_; (with_reducible refine (drowselaw20_texts.calls a0 t110 _ A14.out).mono ?_); rintro e w17 ⟨rfl, hb⟩; refine ⟨_, rfl, ?_⟩; have n0_ := Aside0.mk (below_step (by repeat (first | (with_reducible first | exact HB.out | apply below_alloc | apply pw_below_drewN | apply below_drew1) | exact HB.out)) hb); clear HB; have HB := n0_; clear n0_; (try clear hb); (try clear hb2); (try clear hk); (try clear hi)) | (go_at_call 7; (refine (run_Exit.calls a1 a0 (⟨#[]⟩ : ByteArray) _ _ ([] : List (S70)) _ _ ([] : List (S72)) 3 0 _ _ ([] : List (S74)) t111 _ ?side1 ?side2 ?side3 ?side4 ?side5 ?side6 A16.out).mono ?_); (case side1 => exact Kd.C_nil _ _); (case side2 => exact Nat.le_refl _); (case side3 => exact Kd.C_nil _ _); (case side4 => exact Nat.le_refl _); (case side5 => exact Kd.C_nil _ _); (case side6 => exact Nat.le_refl _); rintro e w18 ⟨rfl, hb⟩; have n0_ := Aside0.mk (below_step (by repeat (first | (with_reducible first | exact HB.out | apply below_alloc | apply pw_below_drewN | apply below_drew1) | exact HB.out)) hb); clear HB; have HB := n0_; clear n0_; (try clear hb); (try clear hb2); (try clear hk); (try clear hi)))
          go_ret
          exact ⟨by first | rfl | (simp [errW_none, errW_some] <;> rfl) | (simp [*, errW_none, errW_some] <;> rfl), by repeat (first | (with_reducible first | exact HB.out | apply below_alloc | apply pw_below_drewN | apply below_drew1) | exact HB.out)⟩
        · rw [if_neg c15] at H
          have c15b0 : (t109.toList == t110.toList) = false := beq_eq_false_iff_ne.mpr c15
          have c15b1 : (t109.toList != t110.toList) = true := bne_iff_ne.mpr c15
          obtain rfl := Option.some.inj H
          go_wp2_with (first | ((with_reducible refine gate_callee (f := 5) rfl ?_); refine goesL_ (some 13) rfl rfl Try.func5 (by kernel_rfl) rfl #[.int .i64 a0] rfl (by (try simp only [List.map_toArray, List.map_cons, List.map_nil]); first | done | rfl | (simp only [List.length_drop, List.length_take]; rfl)) ?_; (with_reducible refine (run_Text.calls a0 t109 _ A13.out).mono ?_); rintro e w' ⟨rfl, ⟨nd, rfl⟩⟩; refine ⟨_, rfl, ?_⟩) | ((with_reducible refine gate_callee (f := 6) rfl ?_); refine goesL_ (some 15) rfl rfl Try.func6 (by kernel_rfl) rfl #[.int .i64 a0] rfl (by (try simp only [List.map_toArray, List.map_cons, List.map_nil]); first | done | rfl | (simp only [List.length_drop, List.length_take]; rfl)) ?_; (with_reducible refine (drowselaw20_texts.calls a0 t110 _ A14.out).mono ?_); rintro e w19 ⟨rfl, hb⟩; refine ⟨_, rfl, ?_⟩; have n0_ := Aside0.mk (below_step (by repeat (first | (with_reducible first | exact HB.out | apply below_alloc | apply pw_below_drewN | apply below_drew1) | exact HB.out)) hb); clear HB; have HB := n0_; clear n0_; (try clear hb); (try clear hb2); (try clear hk); (try clear hi)))
          go_ret
          exact ⟨by first | rfl | (simp [errW_none, errW_some] <;> rfl) | (simp [*, errW_none, errW_some] <;> rfl), by repeat (first | (with_reducible first | exact HB.out | apply below_alloc | apply pw_below_drewN | apply below_drew1) | exact HB.out)⟩

/-- THE ONE PURE STATEMENT of drowselaw20_RunTexts: yours. -/
def drowselaw20_RunTexts.Pure : Prop := ∀ (a0 : Int) (a1 : Int), (Lit.int .i64 a0).wf = true → (Lit.int .i64 a1).wf = true → ∃ k, drowselaw20_RunTexts.f k a0 a1 = some true
theorem drowselaw20_RunTexts.walk (P : drowselaw20_RunTexts.Pure) (a0 : Int) (a1 : Int) (w : World) (w0 : (Lit.int .i64 a0).wf = true) (w1 : (Lit.int .i64 a1).wf = true) :
    Calls Try.prog 3 #[.int .i64 a0, .int .i64 a1] w fun e w' => e = .returned (.bool true) ∧ Below w.heap.size w w' := by
  obtain ⟨k, h⟩ := P a0 a1 w0 w1
  refine (drowselaw20_RunTexts.calls k a0 a1 true w h).mono ?_
  rintro e w' ⟨rfl, hd⟩
  exact ⟨rfl, hd⟩

end Go.Proofs.Ythcemgonabjgfaa.PRunTexts
