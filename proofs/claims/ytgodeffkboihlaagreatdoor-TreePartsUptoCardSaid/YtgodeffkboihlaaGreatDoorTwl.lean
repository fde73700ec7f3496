/- tree's writer: stmt. Printed by mkwrite.py. -/
import Derived.Test.YtgodeffkboihlaaGreatDoorTwk
set_option linter.unusedVariables false
namespace Go.Proofs.YtgodeffkboihlaaGreatDoor.Twl
open Go.RowKit Tra Trb Trf Trd Tcn Trh Tha Txa Tpr Tpt Twa Twb Twc Twd Twe Twf Twh Twi Twj Twk Tqe

/-- What writes clauses pays. -/
def WritesC (X : Nat → Bs) (ks : List Tr) : Prop := ∀ (B p k : Nat) (l : Bs) (w : World) (a : Option Addr) (c : Nat), Ws B p l k w → k + 1 + sizes ks ≤ 1000000000000 → KL w (fun b => b < B) ks a → l.length + (X k).length ≤ most →
  Calls Tryz.prog 70 #[.pointer (some ⟨p, 0, none⟩), .slice a ks.length c] w (Post B p l (X k) k w)
theorem sizes_drop (ks : List Tr) (n : Nat) : sizes (ks.drop n) ≤ sizes ks := by
  have := sizes_append (ks.take n) (ks.drop n)
  rw [List.take_append_drop] at this; omega
set_option maxHeartbeats 8000000 in
set_option maxRecDepth 100000 in
theorem var_0 (d : Nd) (ks : List Tr) (hk : d.k = 5) (h0 : ks.length = 0) (hlen : ks.length ≤ 1048576) {B p dd : Nat} {l : Bs} {w : World} {b o : Nat} (hz : dd + 1 + sizes ks ≤ 1000000000000) (hS : Ws B p l dd w) (hA : At w (fun b => b < B) (.mk d ks) b o) (hl : l.length + (([118, 97, 114, 32] ++ s8 d.text ++ [32] ++ s8 d.ty) ++ []).length ≤ most) :
    Calls Tryz.prog 52 #[.pointer (some ⟨p, 0, none⟩), .pointer (some ⟨b, o, none⟩)] w (Post B p l (([118, 97, 114, 32] ++ s8 d.text ++ [32] ++ s8 d.ty) ++ []) dd w) := by
  obtain ⟨a, c, hN⟩ := Nb.start hA
  have HS := Lib.hid hS
  have HKZ := Lib.hid hz
  have HA := Lib.hid hA
  have HL := Lib.hid hl
  have HB := Lib.hid (Below.refl B w)
  have HK : Hid (Keeps p w w) := Lib.OthersKept.refl _ _ _

  have HX := Lib.hid hN
  obtain ⟨k, tx, n, ty, s4, s5, s6⟩ := d
  simp only at hk
  subst hk
  obtain ⟨c0, c1, c2, c3, c7⟩ := HX.out.cells
  have HN0 := Lib.hid h0
  rw [h0] at c7
  clear h0
  clear hz hS hl hA hN
  go_enter Tryz.func52, Tryz.ntmps52
  have HSA : Hid (∀ W, Below B w W → W.cell? ⟨b, o + 1, none⟩ = some (.string tx) ∧ W.cell? ⟨b, o + 3, none⟩ = some (.string ty)) := fun W hb => by
    obtain ⟨_, q1, _, q3, _⟩ := (HX.out.kept hb).cells
    exact ⟨q1, q3⟩
  go_wp2_with fail
  refine wp_region_held_drew (S := fun W => W.cell? ⟨b, o + 1, none⟩ = some (.string tx) ∧ W.cell? ⟨b, o + 3, none⟩ = some (.string ty)) (by kernel_rfl) (HSA.out _ (Below.refl B w).drew) (fun hHeld => ?_)
  change wpAnyH _ _ _ _ _ 11 #[false, false, false, false, false, false, false, false, false, false, false] _ _
  refine wpAnyH_take (i := 0) (v := ?_) rfl (by kernel_rfl) (by kernel_rfl) (by kernel_rfl) (fun _ _ _ h => h) (Or.inl ⟨by rfl, ?_⟩) hHeld ?_
  rotate_left
  · intro w hSw
    try dsimp only at hSw
    go_simp
    with_reducible rfl
  try dsimp only [Act.put, List.getElem_toArray, List.getElem_cons_zero, List.getElem_cons_succ]
  try simp only [List.setIfInBounds_toArray, List.set_cons_zero, List.set_cons_succ]
  refine wpAnyH_take (i := 1) (v := ?_) rfl (by kernel_rfl) (by kernel_rfl) (by kernel_rfl) (fun _ _ _ h => h) (Or.inl ⟨by rfl, ?_⟩) hHeld ?_
  rotate_left
  · intro w hSw
    try dsimp only at hSw
    go_simp
    with_reducible rfl
  try dsimp only [Act.put, List.getElem_toArray, List.getElem_cons_zero, List.getElem_cons_succ]
  try simp only [List.setIfInBounds_toArray, List.set_cons_zero, List.set_cons_succ]
  refine wpAnyH_take (i := 2) (v := ?_) rfl (by kernel_rfl) (by kernel_rfl) (by kernel_rfl) (fun _ _ _ h => h) (Or.inl ⟨by rfl, ?_⟩) hHeld ?_
  rotate_left
  · intro w hSw
    try dsimp only at hSw
    go_simp
    with_reducible rfl
  try dsimp only [Act.put, List.getElem_toArray, List.getElem_cons_zero, List.getElem_cons_succ]
  try simp only [List.setIfInBounds_toArray, List.set_cons_zero, List.set_cons_succ]
  refine wpAnyH_take (i := 3) (v := ?_) rfl (by kernel_rfl) (by kernel_rfl) (by kernel_rfl) (fun _ _ _ h => h) (Or.inl ⟨by rfl, ?_⟩) hHeld ?_
  rotate_left
  · intro w hSw
    try dsimp only at hSw
    go_simp
    with_reducible rfl
  try dsimp only [Act.put, List.getElem_toArray, List.getElem_cons_zero, List.getElem_cons_succ]
  try simp only [List.setIfInBounds_toArray, List.set_cons_zero, List.set_cons_succ]
  refine wpAnyH_take (i := 4) (v := ?_) rfl (by kernel_rfl) (by kernel_rfl) (by kernel_rfl) (fun _ _ _ h => h) (Or.inl ⟨by rfl, ?_⟩) hHeld ?_
  rotate_left
  · intro w hSw
    try dsimp only at hSw
    go_simp
    with_reducible rfl
  try dsimp only [Act.put, List.getElem_toArray, List.getElem_cons_zero, List.getElem_cons_succ]
  try simp only [List.setIfInBounds_toArray, List.set_cons_zero, List.set_cons_succ]
  refine wpAnyH_take (i := 5) (v := ?_) rfl (by kernel_rfl) (by kernel_rfl) (by kernel_rfl) (fun _ _ _ h => h) (Or.inl ⟨by rfl, ?_⟩) hHeld ?_
  rotate_left
  · intro w hSw
    try dsimp only at hSw
    go_simp
    with_reducible rfl
  try dsimp only [Act.put, List.getElem_toArray, List.getElem_cons_zero, List.getElem_cons_succ]
  try simp only [List.setIfInBounds_toArray, List.set_cons_zero, List.set_cons_succ]
  refine wpAnyH_take (i := 6) (v := ?_) rfl (by kernel_rfl) (by kernel_rfl) (by kernel_rfl) (fun _ _ _ h => h) (Or.inl ⟨by rfl, ?_⟩) hHeld ?_
  rotate_left
  · intro w hSw
    try dsimp only at hSw
    go_simp
    with_reducible rfl
  try dsimp only [Act.put, List.getElem_toArray, List.getElem_cons_zero, List.getElem_cons_succ]
  try simp only [List.setIfInBounds_toArray, List.set_cons_zero, List.set_cons_succ]
  refine wpAnyH_take (i := 7) (v := ?_) rfl (by kernel_rfl) (by kernel_rfl) (by kernel_rfl) (fun _ _ _ h => h) (Or.inl ⟨by rfl, ?_⟩) hHeld ?_
  rotate_left
  · intro w hSw
    try dsimp only at hSw
    go_simp
    with_reducible rfl
  try dsimp only [Act.put, List.getElem_toArray, List.getElem_cons_zero, List.getElem_cons_succ]
  try simp only [List.setIfInBounds_toArray, List.set_cons_zero, List.set_cons_succ]
  refine wpAnyH_take (i := 8) (v := ?_) rfl (by kernel_rfl) (by kernel_rfl) (by kernel_rfl) (fun _ _ _ h => h) (Or.inl ⟨by rfl, ?_⟩) hHeld ?_
  rotate_left
  · intro w hSw
    try dsimp only at hSw
    go_simp
    with_reducible rfl
  try dsimp only [Act.put, List.getElem_toArray, List.getElem_cons_zero, List.getElem_cons_succ]
  try simp only [List.setIfInBounds_toArray, List.set_cons_zero, List.set_cons_succ]
  have hd := (Below.refl w.heap.size w).drew
  have hd2 := (Below.refl B w).drew
  have HB := Lib.hid (HB.out.trans hd2)
  have HK : Hid (Keeps p w w.drew) := HK.out.trans (keeps_below hd)
  have HX := Lib.hid (HX.out.kept hd2)
  have HS := Lib.hid (HS.out.kept hd)
  have HSA : Hid (∀ W, Below B w.drew W → W.cell? ⟨b, o + 1, none⟩ = some (.string tx) ∧ W.cell? ⟨b, o + 3, none⟩ = some (.string ty)) := fun W hb => HSA.out W (hd2.trans hb)
  obtain ⟨wd1, hwd⟩ : ∃ W, W = w.drew := ⟨_, rfl⟩
  rw [← hwd] at HB HK HX HS HSA hHeld
  rw [← hwd]
  clear hd hd2 hwd c0 c1 c2 c3 c7 
  refine wpAnyH_ready (rs := [9]) (by kernel_rfl) (by simp) ?_
  refine AllReadyH.cons rfl (fun K hKK => ?_) AllReadyH.nil
  go_simp
  refine hKK.out _ _ (HSA.out _ ((Below.refl B wd1).alloc HS.out.hB _)) (fun hHeld => ?_)
  clear hKK K
  try dsimp only [Act.put, List.getElem_toArray, List.getElem_cons_zero, List.getElem_cons_succ]
  try simp only [List.setIfInBounds_toArray, List.set_cons_zero, List.set_cons_succ]
  refine wpAnyH_ready (rs := [10]) (by kernel_rfl) (by simp) ?_
  refine AllReadyH.cons rfl (fun K hKK => ?_) AllReadyH.nil
  go_simp
  go_at_call 27
  refine (add4 ⟨#[118, 97, 114, 32]⟩ tx ⟨#[32]⟩ ty HS.out (by have := HL.out; simp at this ⊢; omega)).mono ?_
  rintro e w1 ⟨rfl, h1, h2, h3⟩
  refine hKK.out _ _ (HSA.out _ h2) (fun hHeld => ?_)
  clear hKK K hHeld
  try dsimp only [Act.put, List.getElem_toArray, List.getElem_cons_zero, List.getElem_cons_succ]
  try simp only [List.setIfInBounds_toArray, List.set_cons_zero, List.set_cons_succ]
  have HS := Lib.hid h1
  have HX := Lib.hid (HX.out.kept h2)
  have HB := Lib.hid (HB.out.trans h2)
  have HK : Hid (Keeps p w w1) := HK.out.trans h3
  clear h1 h2 h3 HSA
  obtain ⟨c0, c1, c2, c3, c7⟩ := HX.out.cells
  refine wpAnyH_done (by kernel_rfl) ?_ _
  rw [HN0.out] at c7
  go_wp2
  go_end0
  refine ⟨rfl, ?_, HB.out, HK.out⟩
  have := HS.out
  simpa using this
set_option maxHeartbeats 8000000 in
set_option maxRecDepth 100000 in
theorem var_1 (E : Tr → Bs) (d : Nd) (ks : List Tr) (hk : d.k = 5) (hHE0 : Writes 68 (E (kid 0 ks)) (kid 0 ks)) (h2 : ks.length = 1) (hlen : ks.length ≤ 1048576) {B p dd : Nat} {l : Bs} {w : World} {b o : Nat} (hz : dd + 1 + sizes ks ≤ 1000000000000) (hS : Ws B p l dd w) (hA : At w (fun b => b < B) (.mk d ks) b o) (hl : l.length + (([118, 97, 114, 32] ++ s8 d.text ++ [32] ++ s8 d.ty) ++ ([32, 61, 32] ++ E (kid 0 ks))).length ≤ most) :
    Calls Tryz.prog 52 #[.pointer (some ⟨p, 0, none⟩), .pointer (some ⟨b, o, none⟩)] w (Post B p l (([118, 97, 114, 32] ++ s8 d.text ++ [32] ++ s8 d.ty) ++ ([32, 61, 32] ++ E (kid 0 ks))) dd w) := by
  obtain ⟨a, c, hN⟩ := Nb.start hA
  have HS := Lib.hid hS
  have HKZ := Lib.hid hz
  have HA := Lib.hid hA
  have HL := Lib.hid hl
  have HB := Lib.hid (Below.refl B w)
  have HK : Hid (Keeps p w w) := Lib.OthersKept.refl _ _ _
  have hk0 : 0 < ks.length := by omega
  have HE0 := Lib.hid hHE0
  clear hHE0
  obtain ⟨kb, ko, rfl⟩ := kl_some' hN.kl hk0
  have HX := Lib.hid hN
  obtain ⟨k, tx, n, ty, s4, s5, s6⟩ := d
  simp only at hk
  subst hk
  obtain ⟨c0, c1, c2, c3, c7⟩ := HX.out.cells
  have HL2 := Lib.hid h2
  rw [h2] at c7
  clear h2
  clear hz hS hl hA hN
  go_enter Tryz.func52, Tryz.ntmps52
  have HSA : Hid (∀ W, Below B w W → W.cell? ⟨b, o + 1, none⟩ = some (.string tx) ∧ W.cell? ⟨b, o + 3, none⟩ = some (.string ty)) := fun W hb => by
    obtain ⟨_, q1, _, q3, _⟩ := (HX.out.kept hb).cells
    exact ⟨q1, q3⟩
  go_wp2_with fail
  refine wp_region_held_drew (S := fun W => W.cell? ⟨b, o + 1, none⟩ = some (.string tx) ∧ W.cell? ⟨b, o + 3, none⟩ = some (.string ty)) (by kernel_rfl) (HSA.out _ (Below.refl B w).drew) (fun hHeld => ?_)
  change wpAnyH _ _ _ _ _ 11 #[false, false, false, false, false, false, false, false, false, false, false] _ _
  refine wpAnyH_take (i := 0) (v := ?_) rfl (by kernel_rfl) (by kernel_rfl) (by kernel_rfl) (fun _ _ _ h => h) (Or.inl ⟨by rfl, ?_⟩) hHeld ?_
  rotate_left
  · intro w hSw
    try dsimp only at hSw
    go_simp
    with_reducible rfl
  try dsimp only [Act.put, List.getElem_toArray, List.getElem_cons_zero, List.getElem_cons_succ]
  try simp only [List.setIfInBounds_toArray, List.set_cons_zero, List.set_cons_succ]
  refine wpAnyH_take (i := 1) (v := ?_) rfl (by kernel_rfl) (by kernel_rfl) (by kernel_rfl) (fun _ _ _ h => h) (Or.inl ⟨by rfl, ?_⟩) hHeld ?_
  rotate_left
  · intro w hSw
    try dsimp only at hSw
    go_simp
    with_reducible rfl
  try dsimp only [Act.put, List.getElem_toArray, List.getElem_cons_zero, List.getElem_cons_succ]
  try simp only [List.setIfInBounds_toArray, List.set_cons_zero, List.set_cons_succ]
  refine wpAnyH_take (i := 2) (v := ?_) rfl (by kernel_rfl) (by kernel_rfl) (by kernel_rfl) (fun _ _ _ h => h) (Or.inl ⟨by rfl, ?_⟩) hHeld ?_
  rotate_left
  · intro w hSw
    try dsimp only at hSw
    go_simp
    with_reducible rfl
  try dsimp only [Act.put, List.getElem_toArray, List.getElem_cons_zero, List.getElem_cons_succ]
  try simp only [List.setIfInBounds_toArray, List.set_cons_zero, List.set_cons_succ]
  refine wpAnyH_take (i := 3) (v := ?_) rfl (by kernel_rfl) (by kernel_rfl) (by kernel_rfl) (fun _ _ _ h => h) (Or.inl ⟨by rfl, ?_⟩) hHeld ?_
  rotate_left
  · intro w hSw
    try dsimp only at hSw
    go_simp
    with_reducible rfl
  try dsimp only [Act.put, List.getElem_toArray, List.getElem_cons_zero, List.getElem_cons_succ]
  try simp only [List.setIfInBounds_toArray, List.set_cons_zero, List.set_cons_succ]
  refine wpAnyH_take (i := 4) (v := ?_) rfl (by kernel_rfl) (by kernel_rfl) (by kernel_rfl) (fun _ _ _ h => h) (Or.inl ⟨by rfl, ?_⟩) hHeld ?_
  rotate_left
  · intro w hSw
    try dsimp only at hSw
    go_simp
    with_reducible rfl
  try dsimp only [Act.put, List.getElem_toArray, List.getElem_cons_zero, List.getElem_cons_succ]
  try simp only [List.setIfInBounds_toArray, List.set_cons_zero, List.set_cons_succ]
  refine wpAnyH_take (i := 5) (v := ?_) rfl (by kernel_rfl) (by kernel_rfl) (by kernel_rfl) (fun _ _ _ h => h) (Or.inl ⟨by rfl, ?_⟩) hHeld ?_
  rotate_left
  · intro w hSw
    try dsimp only at hSw
    go_simp
    with_reducible rfl
  try dsimp only [Act.put, List.getElem_toArray, List.getElem_cons_zero, List.getElem_cons_succ]
  try simp only [List.setIfInBounds_toArray, List.set_cons_zero, List.set_cons_succ]
  refine wpAnyH_take (i := 6) (v := ?_) rfl (by kernel_rfl) (by kernel_rfl) (by kernel_rfl) (fun _ _ _ h => h) (Or.inl ⟨by rfl, ?_⟩) hHeld ?_
  rotate_left
  · intro w hSw
    try dsimp only at hSw
    go_simp
    with_reducible rfl
  try dsimp only [Act.put, List.getElem_toArray, List.getElem_cons_zero, List.getElem_cons_succ]
  try simp only [List.setIfInBounds_toArray, List.set_cons_zero, List.set_cons_succ]
  refine wpAnyH_take (i := 7) (v := ?_) rfl (by kernel_rfl) (by kernel_rfl) (by kernel_rfl) (fun _ _ _ h => h) (Or.inl ⟨by rfl, ?_⟩) hHeld ?_
  rotate_left
  · intro w hSw
    try dsimp only at hSw
    go_simp
    with_reducible rfl
  try dsimp only [Act.put, List.getElem_toArray, List.getElem_cons_zero, List.getElem_cons_succ]
  try simp only [List.setIfInBounds_toArray, List.set_cons_zero, List.set_cons_succ]
  refine wpAnyH_take (i := 8) (v := ?_) rfl (by kernel_rfl) (by kernel_rfl) (by kernel_rfl) (fun _ _ _ h => h) (Or.inl ⟨by rfl, ?_⟩) hHeld ?_
  rotate_left
  · intro w hSw
    try dsimp only at hSw
    go_simp
    with_reducible rfl
  try dsimp only [Act.put, List.getElem_toArray, List.getElem_cons_zero, List.getElem_cons_succ]
  try simp only [List.setIfInBounds_toArray, List.set_cons_zero, List.set_cons_succ]
  have hd := (Below.refl w.heap.size w).drew
  have hd2 := (Below.refl B w).drew
  have HB := Lib.hid (HB.out.trans hd2)
  have HK : Hid (Keeps p w w.drew) := HK.out.trans (keeps_below hd)
  have HX := Lib.hid (HX.out.kept hd2)
  have HS := Lib.hid (HS.out.kept hd)
  have HSA : Hid (∀ W, Below B w.drew W → W.cell? ⟨b, o + 1, none⟩ = some (.string tx) ∧ W.cell? ⟨b, o + 3, none⟩ = some (.string ty)) := fun W hb => HSA.out W (hd2.trans hb)
  obtain ⟨wd1, hwd⟩ : ∃ W, W = w.drew := ⟨_, rfl⟩
  rw [← hwd] at HB HK HX HS HSA hHeld
  rw [← hwd]
  clear hd hd2 hwd c0 c1 c2 c3 c7 
  refine wpAnyH_ready (rs := [9]) (by kernel_rfl) (by simp) ?_
  refine AllReadyH.cons rfl (fun K hKK => ?_) AllReadyH.nil
  go_simp
  refine hKK.out _ _ (HSA.out _ ((Below.refl B wd1).alloc HS.out.hB _)) (fun hHeld => ?_)
  clear hKK K
  try dsimp only [Act.put, List.getElem_toArray, List.getElem_cons_zero, List.getElem_cons_succ]
  try simp only [List.setIfInBounds_toArray, List.set_cons_zero, List.set_cons_succ]
  refine wpAnyH_ready (rs := [10]) (by kernel_rfl) (by simp) ?_
  refine AllReadyH.cons rfl (fun K hKK => ?_) AllReadyH.nil
  go_simp
  go_at_call 27
  refine (add4 ⟨#[118, 97, 114, 32]⟩ tx ⟨#[32]⟩ ty HS.out (by have := HL.out; simp at this ⊢; omega)).mono ?_
  rintro e w1 ⟨rfl, h1, h2, h3⟩
  refine hKK.out _ _ (HSA.out _ h2) (fun hHeld => ?_)
  clear hKK K hHeld
  try dsimp only [Act.put, List.getElem_toArray, List.getElem_cons_zero, List.getElem_cons_succ]
  try simp only [List.setIfInBounds_toArray, List.set_cons_zero, List.set_cons_succ]
  have HS := Lib.hid h1
  have HX := Lib.hid (HX.out.kept h2)
  have HB := Lib.hid (HB.out.trans h2)
  have HK : Hid (Keeps p w w1) := HK.out.trans h3
  clear h1 h2 h3 HSA
  obtain ⟨c0, c1, c2, c3, c7⟩ := HX.out.cells
  rw [HL2.out] at c7
  refine wpAnyH_done (by kernel_rfl) ?_ _
  go_wp2_with fail
  refine (add1 ⟨#[32, 61, 32]⟩ HS.out (by have := HL.out; simp at this ⊢; omega)).mono ?_
  rintro e w2 ⟨rfl, h1, h2, h3⟩
  have HS := Lib.hid h1
  have HX := Lib.hid (HX.out.kept h2)
  have HB := Lib.hid (HB.out.trans h2)
  have HK : Hid (Keeps p w w2) := HK.out.trans h3
  clear h1 h2 h3 c0 c1 c2 c3 c7
  obtain ⟨c0, c1, c2, c3, c7⟩ := HX.out.cells
  rw [HL2.out] at c7
  go_wp2_with fail
  refine (HE0.out B p dd _ _ _ _ HS.out (kid_at HX.out hk0) (by have := HL.out; simp at this ⊢; omega)).mono ?_
  rintro e w3 ⟨rfl, h1, h2, h3⟩
  have HS := Lib.hid h1
  have HX := Lib.hid (HX.out.kept h2)
  have HB := Lib.hid (HB.out.trans h2)
  have HK : Hid (Keeps p w w3) := HK.out.trans h3
  clear h1 h2 h3 c0 c1 c2 c3 c7
  obtain ⟨c0, c1, c2, c3, c7⟩ := HX.out.cells
  rw [HL2.out] at c7
  go_wp2
  go_end0
  refine ⟨rfl, ?_, HB.out, HK.out⟩
  have := HS.out
  simpa using this
set_option maxHeartbeats 8000000 in
set_option maxRecDepth 100000 in
theorem if_2 (E : Tr → Bs) (S : Nat → Tr → Bs) (d : Nd) (ks : List Tr) (hk : d.k = 11) (hHBK : WritesS 28 (fun k => blockX S k (kid 1 ks)) (kid 1 ks)) (hHE0 : Writes 68 (E (kid 0 ks)) (kid 0 ks)) (h2 : ks.length = 2) (hlen : ks.length ≤ 1048576) {B p dd : Nat} {l : Bs} {w : World} {b o : Nat} (hz : dd + 1 + sizes ks ≤ 1000000000000) (hS : Ws B p l dd w) (hA : At w (fun b => b < B) (.mk d ks) b o) (hl : l.length + ([105, 102, 32] ++ (E (kid 0 ks) ++ ([32] ++ (blockX S dd (kid 1 ks) ++ ([] : Bs))))).length ≤ most) :
    Calls Tryz.prog 52 #[.pointer (some ⟨p, 0, none⟩), .pointer (some ⟨b, o, none⟩)] w (Post B p l ([105, 102, 32] ++ (E (kid 0 ks) ++ ([32] ++ (blockX S dd (kid 1 ks) ++ ([] : Bs))))) dd w) := by
  obtain ⟨a, c, hN⟩ := Nb.start hA
  have HS := Lib.hid hS
  have HKZ := Lib.hid hz
  have HA := Lib.hid hA
  have HL := Lib.hid hl
  have HB := Lib.hid (Below.refl B w)
  have HK : Hid (Keeps p w w) := Lib.OthersKept.refl _ _ _
  have HBK := Lib.hid hHBK
  clear hHBK
  have hk0 : 0 < ks.length := by omega
  have hk1 : 1 < ks.length := by omega
  have HE0 := Lib.hid hHE0
  clear hHE0
  obtain ⟨kb, ko, rfl⟩ := kl_some' hN.kl hk0
  have HX := Lib.hid hN
  obtain ⟨k, tx, n, ty, s4, s5, s6⟩ := d
  simp only at hk
  subst hk
  obtain ⟨c0, c1, c2, c3, c7⟩ := HX.out.cells
  have HL2 := Lib.hid h2
  rw [h2] at c7
  clear h2
  clear hz hS hl hA hN
  go_enter Tryz.func52, Tryz.ntmps52
  go_wp2_with fail
  refine (add1 ⟨#[105, 102, 32]⟩ HS.out (by have := HL.out; simp at this ⊢; omega)).mono ?_
  rintro e w1 ⟨rfl, h1, h2, h3⟩
  have HS := Lib.hid h1
  have HX := Lib.hid (HX.out.kept h2)
  have HB := Lib.hid (HB.out.trans h2)
  have HK : Hid (Keeps p w w1) := HK.out.trans h3
  clear h1 h2 h3 c0 c1 c2 c3 c7
  obtain ⟨c0, c1, c2, c3, c7⟩ := HX.out.cells
  rw [HL2.out] at c7
  go_wp2_with fail
  refine (HE0.out B p dd _ _ _ _ HS.out (kid_at HX.out hk0) (by have := HL.out; simp at this ⊢; omega)).mono ?_
  rintro e w2 ⟨rfl, h1, h2, h3⟩
  have HS := Lib.hid h1
  have HX := Lib.hid (HX.out.kept h2)
  have HB := Lib.hid (HB.out.trans h2)
  have HK : Hid (Keeps p w w2) := HK.out.trans h3
  clear h1 h2 h3 c0 c1 c2 c3 c7
  obtain ⟨c0, c1, c2, c3, c7⟩ := HX.out.cells
  rw [HL2.out] at c7
  go_wp2_with fail
  refine (add1 ⟨#[32]⟩ HS.out (by have := HL.out; simp at this ⊢; omega)).mono ?_
  rintro e w3 ⟨rfl, h1, h2, h3⟩
  have HS := Lib.hid h1
  have HX := Lib.hid (HX.out.kept h2)
  have HB := Lib.hid (HB.out.trans h2)
  have HK : Hid (Keeps p w w3) := HK.out.trans h3
  clear h1 h2 h3 c0 c1 c2 c3 c7
  obtain ⟨c0, c1, c2, c3, c7⟩ := HX.out.cells
  rw [HL2.out] at c7
  go_wp2_with fail
  refine (HBK.out B p dd _ _ _ _ HS.out (by have := HKZ.out; have := size_kid hk1; show dd + size (ks.getD 1 tr0) ≤ _; omega) (kid_at HX.out hk1) (by have := HL.out; simp at this ⊢; omega)).mono ?_
  rintro e w4 ⟨rfl, h1, h2, h3⟩
  have HS := Lib.hid h1
  have HX := Lib.hid (HX.out.kept h2)
  have HB := Lib.hid (HB.out.trans h2)
  have HK : Hid (Keeps p w w4) := HK.out.trans h3
  clear h1 h2 h3 c0 c1 c2 c3 c7
  obtain ⟨c0, c1, c2, c3, c7⟩ := HX.out.cells
  rw [HL2.out] at c7
  go_wp2
  go_end0
  refine ⟨rfl, ?_, HB.out, HK.out⟩
  have := HS.out
  simpa using this
set_option maxHeartbeats 8000000 in
set_option maxRecDepth 100000 in
theorem if_3 (E : Tr → Bs) (S : Nat → Tr → Bs) (d : Nd) (ks : List Tr) (hk : d.k = 11) (hHBK : WritesS 28 (fun k => blockX S k (kid 1 ks)) (kid 1 ks)) (hHST : WritesS 52 (fun k => S k (kid 2 ks)) (kid 2 ks)) (hHE0 : Writes 68 (E (kid 0 ks)) (kid 0 ks)) (h2 : ks.length = 3) (hlen : ks.length ≤ 1048576) {B p dd : Nat} {l : Bs} {w : World} {b o : Nat} (hz : dd + 1 + sizes ks ≤ 1000000000000) (hS : Ws B p l dd w) (hA : At w (fun b => b < B) (.mk d ks) b o) (hl : l.length + ([105, 102, 32] ++ (E (kid 0 ks) ++ ([32] ++ (blockX S dd (kid 1 ks) ++ ([32, 101, 108, 115, 101, 32] ++ S dd (kid 2 ks)))))).length ≤ most) :
    Calls Tryz.prog 52 #[.pointer (some ⟨p, 0, none⟩), .pointer (some ⟨b, o, none⟩)] w (Post B p l ([105, 102, 32] ++ (E (kid 0 ks) ++ ([32] ++ (blockX S dd (kid 1 ks) ++ ([32, 101, 108, 115, 101, 32] ++ S dd (kid 2 ks)))))) dd w) := by
  obtain ⟨a, c, hN⟩ := Nb.start hA
  have HS := Lib.hid hS
  have HKZ := Lib.hid hz
  have HA := Lib.hid hA
  have HL := Lib.hid hl
  have HB := Lib.hid (Below.refl B w)
  have HK : Hid (Keeps p w w) := Lib.OthersKept.refl _ _ _
  have HBK := Lib.hid hHBK
  clear hHBK
  have HST := Lib.hid hHST
  clear hHST
  have hk0 : 0 < ks.length := by omega
  have hk1 : 1 < ks.length := by omega
  have hk2 : 2 < ks.length := by omega
  have HE0 := Lib.hid hHE0
  clear hHE0
  obtain ⟨kb, ko, rfl⟩ := kl_some' hN.kl hk0
  have HX := Lib.hid hN
  obtain ⟨k, tx, n, ty, s4, s5, s6⟩ := d
  simp only at hk
  subst hk
  obtain ⟨c0, c1, c2, c3, c7⟩ := HX.out.cells
  have HL2 := Lib.hid h2
  rw [h2] at c7
  clear h2
  clear hz hS hl hA hN
  go_enter Tryz.func52, Tryz.ntmps52
  go_wp2_with fail
  refine (add1 ⟨#[105, 102, 32]⟩ HS.out (by have := HL.out; simp at this ⊢; omega)).mono ?_
  rintro e w1 ⟨rfl, h1, h2, h3⟩
  have HS := Lib.hid h1
  have HX := Lib.hid (HX.out.kept h2)
  have HB := Lib.hid (HB.out.trans h2)
  have HK : Hid (Keeps p w w1) := HK.out.trans h3
  clear h1 h2 h3 c0 c1 c2 c3 c7
  obtain ⟨c0, c1, c2, c3, c7⟩ := HX.out.cells
  rw [HL2.out] at c7
  go_wp2_with fail
  refine (HE0.out B p dd _ _ _ _ HS.out (kid_at HX.out hk0) (by have := HL.out; simp at this ⊢; omega)).mono ?_
  rintro e w2 ⟨rfl, h1, h2, h3⟩
  have HS := Lib.hid h1
  have HX := Lib.hid (HX.out.kept h2)
  have HB := Lib.hid (HB.out.trans h2)
  have HK : Hid (Keeps p w w2) := HK.out.trans h3
  clear h1 h2 h3 c0 c1 c2 c3 c7
  obtain ⟨c0, c1, c2, c3, c7⟩ := HX.out.cells
  rw [HL2.out] at c7
  go_wp2_with fail
  refine (add1 ⟨#[32]⟩ HS.out (by have := HL.out; simp at this ⊢; omega)).mono ?_
  rintro e w3 ⟨rfl, h1, h2, h3⟩
  have HS := Lib.hid h1
  have HX := Lib.hid (HX.out.kept h2)
  have HB := Lib.hid (HB.out.trans h2)
  have HK : Hid (Keeps p w w3) := HK.out.trans h3
  clear h1 h2 h3 c0 c1 c2 c3 c7
  obtain ⟨c0, c1, c2, c3, c7⟩ := HX.out.cells
  rw [HL2.out] at c7
  go_wp2_with fail
  refine (HBK.out B p dd _ _ _ _ HS.out (by have := HKZ.out; have := size_kid hk1; show dd + size (ks.getD 1 tr0) ≤ _; omega) (kid_at HX.out hk1) (by have := HL.out; simp at this ⊢; omega)).mono ?_
  rintro e w4 ⟨rfl, h1, h2, h3⟩
  have HS := Lib.hid h1
  have HX := Lib.hid (HX.out.kept h2)
  have HB := Lib.hid (HB.out.trans h2)
  have HK : Hid (Keeps p w w4) := HK.out.trans h3
  clear h1 h2 h3 c0 c1 c2 c3 c7
  obtain ⟨c0, c1, c2, c3, c7⟩ := HX.out.cells
  rw [HL2.out] at c7
  go_wp2_with fail
  refine (add1 ⟨#[32, 101, 108, 115, 101, 32]⟩ HS.out (by have := HL.out; simp at this ⊢; omega)).mono ?_
  rintro e w5 ⟨rfl, h1, h2, h3⟩
  have HS := Lib.hid h1
  have HX := Lib.hid (HX.out.kept h2)
  have HB := Lib.hid (HB.out.trans h2)
  have HK : Hid (Keeps p w w5) := HK.out.trans h3
  clear h1 h2 h3 c0 c1 c2 c3 c7
  obtain ⟨c0, c1, c2, c3, c7⟩ := HX.out.cells
  rw [HL2.out] at c7
  go_wp2_with fail
  refine (HST.out B p dd _ _ _ _ HS.out (by have := HKZ.out; have := size_kid hk2; show dd + size (ks.getD 2 tr0) ≤ _; omega) (kid_at HX.out hk2) (by have := HL.out; simp at this ⊢; omega)).mono ?_
  rintro e w6 ⟨rfl, h1, h2, h3⟩
  have HS := Lib.hid h1
  have HX := Lib.hid (HX.out.kept h2)
  have HB := Lib.hid (HB.out.trans h2)
  have HK : Hid (Keeps p w w6) := HK.out.trans h3
  clear h1 h2 h3 c0 c1 c2 c3 c7
  obtain ⟨c0, c1, c2, c3, c7⟩ := HX.out.cells
  rw [HL2.out] at c7
  go_wp2
  go_end0
  refine ⟨rfl, ?_, HB.out, HK.out⟩
  have := HS.out
  simpa using this
set_option maxHeartbeats 8000000 in
set_option maxRecDepth 100000 in
theorem for_1 (E : Tr → Bs) (S : Nat → Tr → Bs) (d : Nd) (ks : List Tr) (hk : d.k = 12) (hHBK : WritesS 28 (fun k => blockX S k (kid 0 ks)) (kid 0 ks)) (hH : Writes 69 (headX E d ks) (.mk d ks)) (h2 : ks.length = 1) (hlen : ks.length ≤ 1048576) {B p dd : Nat} {l : Bs} {w : World} {b o : Nat} (hz : dd + 1 + sizes ks ≤ 1000000000000) (hS : Ws B p l dd w) (hA : At w (fun b => b < B) (.mk d ks) b o) (hl : l.length + ([102, 111, 114, 32] ++ (headX E d ks ++ blockX S dd (kid 0 ks))).length ≤ most) :
    Calls Tryz.prog 52 #[.pointer (some ⟨p, 0, none⟩), .pointer (some ⟨b, o, none⟩)] w (Post B p l ([102, 111, 114, 32] ++ (headX E d ks ++ blockX S dd (kid 0 ks))) dd w) := by
  obtain ⟨a, c, hN⟩ := Nb.start hA
  have HS := Lib.hid hS
  have HKZ := Lib.hid hz
  have HA := Lib.hid hA
  have HL := Lib.hid hl
  have HB := Lib.hid (Below.refl B w)
  have HK : Hid (Keeps p w w) := Lib.OthersKept.refl _ _ _
  have HBK := Lib.hid hHBK
  clear hHBK
  have HH := Lib.hid hH
  clear hH
  have hk0 : 0 < ks.length := by omega
  obtain ⟨kb, ko, rfl⟩ := kl_some' hN.kl hk0
  have HX := Lib.hid hN
  obtain ⟨k, tx, n, ty, s4, s5, s6⟩ := d
  simp only at hk
  subst hk
  obtain ⟨c0, c1, c2, c3, c7⟩ := HX.out.cells
  have HL2 := Lib.hid h2
  rw [h2] at c7
  clear h2
  clear hz hS hl hA hN
  go_enter Tryz.func52, Tryz.ntmps52
  go_wp2_with fail
  refine (add1 ⟨#[102, 111, 114, 32]⟩ HS.out (by have := HL.out; simp at this ⊢; omega)).mono ?_
  rintro e w1 ⟨rfl, h1, h2, h3⟩
  have HS := Lib.hid h1
  have HX := Lib.hid (HX.out.kept h2)
  have HB := Lib.hid (HB.out.trans h2)
  have HK : Hid (Keeps p w w1) := HK.out.trans h3
  clear h1 h2 h3 c0 c1 c2 c3 c7
  obtain ⟨c0, c1, c2, c3, c7⟩ := HX.out.cells
  rw [HL2.out] at c7
  go_wp2_with fail
  refine (HH.out B p dd _ _ _ _ HS.out (Twb.At.low HA.out HB.out) (by have := HL.out; simp at this ⊢; omega)).mono ?_
  rintro e w2 ⟨rfl, h1, h2, h3⟩
  have HS := Lib.hid h1
  have HX := Lib.hid (HX.out.kept h2)
  have HB := Lib.hid (HB.out.trans h2)
  have HK : Hid (Keeps p w w2) := HK.out.trans h3
  clear h1 h2 h3 c0 c1 c2 c3 c7
  obtain ⟨c0, c1, c2, c3, c7⟩ := HX.out.cells
  rw [HL2.out] at c7
  have hwr : IntKind.i64.wrap 0 = 0 := by rfl
  go_wp2_with fail
  go_still_tail 12, (by kernel_rfl)
  change wpList _ _ _ _ _ w2.drew
  have hd := (Below.refl w2.heap.size w2).drew
  have HB := Lib.hid (HB.out.trans (hd.mono HS.out.hB))
  have HK : Hid (Keeps p w w2.drew) := HK.out.trans (keeps_below hd)
  have HX := Lib.hid (HX.out.kept (hd.mono HS.out.hB))
  have HS := Lib.hid (HS.out.kept hd)
  obtain ⟨w3, hwd⟩ : ∃ W, W = w2.drew := ⟨_, rfl⟩
  rw [← hwd] at HB HK HX HS
  rw [← hwd]
  clear hd hwd c0 c1 c2 c3 c7
  obtain ⟨c0, c1, c2, c3, c7⟩ := HX.out.cells
  rw [HL2.out] at c7
  clear hwr
  go_wp2_with fail
  refine (HBK.out B p dd _ _ _ _ HS.out (by have := HKZ.out; have := size_kid hk0; show dd + size (ks.getD 0 tr0) ≤ _; omega) (kid_at HX.out hk0) (by have := HL.out; simp at this ⊢; omega)).mono ?_
  rintro e w4 ⟨rfl, h1, h2, h3⟩
  have HS := Lib.hid h1
  have HX := Lib.hid (HX.out.kept h2)
  have HB := Lib.hid (HB.out.trans h2)
  have HK : Hid (Keeps p w w4) := HK.out.trans h3
  clear h1 h2 h3 c0 c1 c2 c3 c7
  obtain ⟨c0, c1, c2, c3, c7⟩ := HX.out.cells
  rw [HL2.out] at c7
  go_wp2
  go_end0
  refine ⟨rfl, ?_, HB.out, HK.out⟩
  have := HS.out
  simpa using this
set_option maxHeartbeats 8000000 in
set_option maxRecDepth 100000 in
theorem for_2 (E : Tr → Bs) (S : Nat → Tr → Bs) (d : Nd) (ks : List Tr) (hk : d.k = 12) (hHBK : WritesS 28 (fun k => blockX S k (kid 1 ks)) (kid 1 ks)) (hH : Writes 69 (headX E d ks) (.mk d ks)) (h2 : ks.length = 2) (hlen : ks.length ≤ 1048576) {B p dd : Nat} {l : Bs} {w : World} {b o : Nat} (hz : dd + 1 + sizes ks ≤ 1000000000000) (hS : Ws B p l dd w) (hA : At w (fun b => b < B) (.mk d ks) b o) (hl : l.length + ([102, 111, 114, 32] ++ (headX E d ks ++ blockX S dd (kid 1 ks))).length ≤ most) :
    Calls Tryz.prog 52 #[.pointer (some ⟨p, 0, none⟩), .pointer (some ⟨b, o, none⟩)] w (Post B p l ([102, 111, 114, 32] ++ (headX E d ks ++ blockX S dd (kid 1 ks))) dd w) := by
  obtain ⟨a, c, hN⟩ := Nb.start hA
  have HS := Lib.hid hS
  have HKZ := Lib.hid hz
  have HA := Lib.hid hA
  have HL := Lib.hid hl
  have HB := Lib.hid (Below.refl B w)
  have HK : Hid (Keeps p w w) := Lib.OthersKept.refl _ _ _
  have HBK := Lib.hid hHBK
  clear hHBK
  have HH := Lib.hid hH
  clear hH
  have hk0 : 0 < ks.length := by omega
  have hk1 : 1 < ks.length := by omega
  obtain ⟨kb, ko, rfl⟩ := kl_some' hN.kl hk0
  have HX := Lib.hid hN
  obtain ⟨k, tx, n, ty, s4, s5, s6⟩ := d
  simp only at hk
  subst hk
  obtain ⟨c0, c1, c2, c3, c7⟩ := HX.out.cells
  have HL2 := Lib.hid h2
  rw [h2] at c7
  clear h2
  clear hz hS hl hA hN
  go_enter Tryz.func52, Tryz.ntmps52
  go_wp2_with fail
  refine (add1 ⟨#[102, 111, 114, 32]⟩ HS.out (by have := HL.out; simp at this ⊢; omega)).mono ?_
  rintro e w1 ⟨rfl, h1, h2, h3⟩
  have HS := Lib.hid h1
  have HX := Lib.hid (HX.out.kept h2)
  have HB := Lib.hid (HB.out.trans h2)
  have HK : Hid (Keeps p w w1) := HK.out.trans h3
  clear h1 h2 h3 c0 c1 c2 c3 c7
  obtain ⟨c0, c1, c2, c3, c7⟩ := HX.out.cells
  rw [HL2.out] at c7
  go_wp2_with fail
  refine (HH.out B p dd _ _ _ _ HS.out (Twb.At.low HA.out HB.out) (by have := HL.out; simp at this ⊢; omega)).mono ?_
  rintro e w2 ⟨rfl, h1, h2, h3⟩
  have HS := Lib.hid h1
  have HX := Lib.hid (HX.out.kept h2)
  have HB := Lib.hid (HB.out.trans h2)
  have HK : Hid (Keeps p w w2) := HK.out.trans h3
  clear h1 h2 h3 c0 c1 c2 c3 c7
  obtain ⟨c0, c1, c2, c3, c7⟩ := HX.out.cells
  rw [HL2.out] at c7
  have hwr : IntKind.i64.wrap 1 = 1 := by rfl
  go_wp2_with fail
  go_still_tail 12, (by kernel_rfl)
  change wpList _ _ _ _ _ w2.drew
  have hd := (Below.refl w2.heap.size w2).drew
  have HB := Lib.hid (HB.out.trans (hd.mono HS.out.hB))
  have HK : Hid (Keeps p w w2.drew) := HK.out.trans (keeps_below hd)
  have HX := Lib.hid (HX.out.kept (hd.mono HS.out.hB))
  have HS := Lib.hid (HS.out.kept hd)
  obtain ⟨w3, hwd⟩ : ∃ W, W = w2.drew := ⟨_, rfl⟩
  rw [← hwd] at HB HK HX HS
  rw [← hwd]
  clear hd hwd c0 c1 c2 c3 c7
  obtain ⟨c0, c1, c2, c3, c7⟩ := HX.out.cells
  rw [HL2.out] at c7
  clear hwr
  go_wp2_with fail
  refine (HBK.out B p dd _ _ _ _ HS.out (by have := HKZ.out; have := size_kid hk1; show dd + size (ks.getD 1 tr0) ≤ _; omega) (kid_at HX.out hk1) (by have := HL.out; simp at this ⊢; omega)).mono ?_
  rintro e w4 ⟨rfl, h1, h2, h3⟩
  have HS := Lib.hid h1
  have HX := Lib.hid (HX.out.kept h2)
  have HB := Lib.hid (HB.out.trans h2)
  have HK : Hid (Keeps p w w4) := HK.out.trans h3
  clear h1 h2 h3 c0 c1 c2 c3 c7
  obtain ⟨c0, c1, c2, c3, c7⟩ := HX.out.cells
  rw [HL2.out] at c7
  go_wp2
  go_end0
  refine ⟨rfl, ?_, HB.out, HK.out⟩
  have := HS.out
  simpa using this
set_option maxHeartbeats 8000000 in
set_option maxRecDepth 100000 in
theorem for_3 (E : Tr → Bs) (S : Nat → Tr → Bs) (d : Nd) (ks : List Tr) (hk : d.k = 12) (hHBK : WritesS 28 (fun k => blockX S k (kid 2 ks)) (kid 2 ks)) (hH : Writes 69 (headX E d ks) (.mk d ks)) (h2 : ks.length = 3) (hlen : ks.length ≤ 1048576) {B p dd : Nat} {l : Bs} {w : World} {b o : Nat} (hz : dd + 1 + sizes ks ≤ 1000000000000) (hS : Ws B p l dd w) (hA : At w (fun b => b < B) (.mk d ks) b o) (hl : l.length + ([102, 111, 114, 32] ++ (headX E d ks ++ blockX S dd (kid 2 ks))).length ≤ most) :
    Calls Tryz.prog 52 #[.pointer (some ⟨p, 0, none⟩), .pointer (some ⟨b, o, none⟩)] w (Post B p l ([102, 111, 114, 32] ++ (headX E d ks ++ blockX S dd (kid 2 ks))) dd w) := by
  obtain ⟨a, c, hN⟩ := Nb.start hA
  have HS := Lib.hid hS
  have HKZ := Lib.hid hz
  have HA := Lib.hid hA
  have HL := Lib.hid hl
  have HB := Lib.hid (Below.refl B w)
  have HK : Hid (Keeps p w w) := Lib.OthersKept.refl _ _ _
  have HBK := Lib.hid hHBK
  clear hHBK
  have HH := Lib.hid hH
  clear hH
  have hk0 : 0 < ks.length := by omega
  have hk1 : 1 < ks.length := by omega
  have hk2 : 2 < ks.length := by omega
  obtain ⟨kb, ko, rfl⟩ := kl_some' hN.kl hk0
  have HX := Lib.hid hN
  obtain ⟨k, tx, n, ty, s4, s5, s6⟩ := d
  simp only at hk
  subst hk
  obtain ⟨c0, c1, c2, c3, c7⟩ := HX.out.cells
  have HL2 := Lib.hid h2
  rw [h2] at c7
  clear h2
  clear hz hS hl hA hN
  go_enter Tryz.func52, Tryz.ntmps52
  go_wp2_with fail
  refine (add1 ⟨#[102, 111, 114, 32]⟩ HS.out (by have := HL.out; simp at this ⊢; omega)).mono ?_
  rintro e w1 ⟨rfl, h1, h2, h3⟩
  have HS := Lib.hid h1
  have HX := Lib.hid (HX.out.kept h2)
  have HB := Lib.hid (HB.out.trans h2)
  have HK : Hid (Keeps p w w1) := HK.out.trans h3
  clear h1 h2 h3 c0 c1 c2 c3 c7
  obtain ⟨c0, c1, c2, c3, c7⟩ := HX.out.cells
  rw [HL2.out] at c7
  go_wp2_with fail
  refine (HH.out B p dd _ _ _ _ HS.out (Twb.At.low HA.out HB.out) (by have := HL.out; simp at this ⊢; omega)).mono ?_
  rintro e w2 ⟨rfl, h1, h2, h3⟩
  have HS := Lib.hid h1
  have HX := Lib.hid (HX.out.kept h2)
  have HB := Lib.hid (HB.out.trans h2)
  have HK : Hid (Keeps p w w2) := HK.out.trans h3
  clear h1 h2 h3 c0 c1 c2 c3 c7
  obtain ⟨c0, c1, c2, c3, c7⟩ := HX.out.cells
  rw [HL2.out] at c7
  have hwr : IntKind.i64.wrap 2 = 2 := by rfl
  go_wp2_with fail
  go_still_tail 12, (by kernel_rfl)
  change wpList _ _ _ _ _ w2.drew
  have hd := (Below.refl w2.heap.size w2).drew
  have HB := Lib.hid (HB.out.trans (hd.mono HS.out.hB))
  have HK : Hid (Keeps p w w2.drew) := HK.out.trans (keeps_below hd)
  have HX := Lib.hid (HX.out.kept (hd.mono HS.out.hB))
  have HS := Lib.hid (HS.out.kept hd)
  obtain ⟨w3, hwd⟩ : ∃ W, W = w2.drew := ⟨_, rfl⟩
  rw [← hwd] at HB HK HX HS
  rw [← hwd]
  clear hd hwd c0 c1 c2 c3 c7
  obtain ⟨c0, c1, c2, c3, c7⟩ := HX.out.cells
  rw [HL2.out] at c7
  clear hwr
  go_wp2_with fail
  refine (HBK.out B p dd _ _ _ _ HS.out (by have := HKZ.out; have := size_kid hk2; show dd + size (ks.getD 2 tr0) ≤ _; omega) (kid_at HX.out hk2) (by have := HL.out; simp at this ⊢; omega)).mono ?_
  rintro e w4 ⟨rfl, h1, h2, h3⟩
  have HS := Lib.hid h1
  have HX := Lib.hid (HX.out.kept h2)
  have HB := Lib.hid (HB.out.trans h2)
  have HK : Hid (Keeps p w w4) := HK.out.trans h3
  clear h1 h2 h3 c0 c1 c2 c3 c7
  obtain ⟨c0, c1, c2, c3, c7⟩ := HX.out.cells
  rw [HL2.out] at c7
  go_wp2
  go_end0
  refine ⟨rfl, ?_, HB.out, HK.out⟩
  have := HS.out
  simpa using this
set_option maxHeartbeats 8000000 in
set_option maxRecDepth 100000 in
theorem for_4 (E : Tr → Bs) (S : Nat → Tr → Bs) (d : Nd) (ks : List Tr) (hk : d.k = 12) (hHBK : WritesS 28 (fun k => blockX S k (kid 3 ks)) (kid 3 ks)) (hH : Writes 69 (headX E d ks) (.mk d ks)) (h2 : ks.length = 4) (hlen : ks.length ≤ 1048576) {B p dd : Nat} {l : Bs} {w : World} {b o : Nat} (hz : dd + 1 + sizes ks ≤ 1000000000000) (hS : Ws B p l dd w) (hA : At w (fun b => b < B) (.mk d ks) b o) (hl : l.length + ([102, 111, 114, 32] ++ (headX E d ks ++ blockX S dd (kid 3 ks))).length ≤ most) :
    Calls Tryz.prog 52 #[.pointer (some ⟨p, 0, none⟩), .pointer (some ⟨b, o, none⟩)] w (Post B p l ([102, 111, 114, 32] ++ (headX E d ks ++ blockX S dd (kid 3 ks))) dd w) := by
  obtain ⟨a, c, hN⟩ := Nb.start hA
  have HS := Lib.hid hS
  have HKZ := Lib.hid hz
  have HA := Lib.hid hA
  have HL := Lib.hid hl
  have HB := Lib.hid (Below.refl B w)
  have HK : Hid (Keeps p w w) := Lib.OthersKept.refl _ _ _
  have HBK := Lib.hid hHBK
  clear hHBK
  have HH := Lib.hid hH
  clear hH
  have hk0 : 0 < ks.length := by omega
  have hk1 : 1 < ks.length := by omega
  have hk2 : 2 < ks.length := by omega
  have hk3 : 3 < ks.length := by omega
  obtain ⟨kb, ko, rfl⟩ := kl_some' hN.kl hk0
  have HX := Lib.hid hN
  obtain ⟨k, tx, n, ty, s4, s5, s6⟩ := d
  simp only at hk
  subst hk
  obtain ⟨c0, c1, c2, c3, c7⟩ := HX.out.cells
  have HL2 := Lib.hid h2
  rw [h2] at c7
  clear h2
  clear hz hS hl hA hN
  go_enter Tryz.func52, Tryz.ntmps52
  go_wp2_with fail
  refine (add1 ⟨#[102, 111, 114, 32]⟩ HS.out (by have := HL.out; simp at this ⊢; omega)).mono ?_
  rintro e w1 ⟨rfl, h1, h2, h3⟩
  have HS := Lib.hid h1
  have HX := Lib.hid (HX.out.kept h2)
  have HB := Lib.hid (HB.out.trans h2)
  have HK : Hid (Keeps p w w1) := HK.out.trans h3
  clear h1 h2 h3 c0 c1 c2 c3 c7
  obtain ⟨c0, c1, c2, c3, c7⟩ := HX.out.cells
  rw [HL2.out] at c7
  go_wp2_with fail
  refine (HH.out B p dd _ _ _ _ HS.out (Twb.At.low HA.out HB.out) (by have := HL.out; simp at this ⊢; omega)).mono ?_
  rintro e w2 ⟨rfl, h1, h2, h3⟩
  have HS := Lib.hid h1
  have HX := Lib.hid (HX.out.kept h2)
  have HB := Lib.hid (HB.out.trans h2)
  have HK : Hid (Keeps p w w2) := HK.out.trans h3
  clear h1 h2 h3 c0 c1 c2 c3 c7
  obtain ⟨c0, c1, c2, c3, c7⟩ := HX.out.cells
  rw [HL2.out] at c7
  have hwr : IntKind.i64.wrap 3 = 3 := by rfl
  go_wp2_with fail
  go_still_tail 12, (by kernel_rfl)
  change wpList _ _ _ _ _ w2.drew
  have hd := (Below.refl w2.heap.size w2).drew
  have HB := Lib.hid (HB.out.trans (hd.mono HS.out.hB))
  have HK : Hid (Keeps p w w2.drew) := HK.out.trans (keeps_below hd)
  have HX := Lib.hid (HX.out.kept (hd.mono HS.out.hB))
  have HS := Lib.hid (HS.out.kept hd)
  obtain ⟨w3, hwd⟩ : ∃ W, W = w2.drew := ⟨_, rfl⟩
  rw [← hwd] at HB HK HX HS
  rw [← hwd]
  clear hd hwd c0 c1 c2 c3 c7
  obtain ⟨c0, c1, c2, c3, c7⟩ := HX.out.cells
  rw [HL2.out] at c7
  clear hwr
  go_wp2_with fail
  refine (HBK.out B p dd _ _ _ _ HS.out (by have := HKZ.out; have := size_kid hk3; show dd + size (ks.getD 3 tr0) ≤ _; omega) (kid_at HX.out hk3) (by have := HL.out; simp at this ⊢; omega)).mono ?_
  rintro e w4 ⟨rfl, h1, h2, h3⟩
  have HS := Lib.hid h1
  have HX := Lib.hid (HX.out.kept h2)
  have HB := Lib.hid (HB.out.trans h2)
  have HK : Hid (Keeps p w w4) := HK.out.trans h3
  clear h1 h2 h3 c0 c1 c2 c3 c7
  obtain ⟨c0, c1, c2, c3, c7⟩ := HX.out.cells
  rw [HL2.out] at c7
  go_wp2
  go_end0
  refine ⟨rfl, ?_, HB.out, HK.out⟩
  have := HS.out
  simpa using this
set_option maxHeartbeats 8000000 in
set_option maxRecDepth 100000 in
theorem switch_w0 (E : Tr → Bs) (S : Nat → Tr → Bs) (d : Nd) (ks : List Tr) (hk : d.k = 13) (hn : d.n = 0) (hC : WritesC (fun k => clausesX E S k (ks.drop 0)) (ks.drop 0)) (hlen : ks.length ≤ 1048576) {B p dd : Nat} {l : Bs} {w : World} {b o : Nat} (hz : dd + 1 + sizes ks ≤ 1000000000000) (hS : Ws B p l dd w) (hA : At w (fun b => b < B) (.mk d ks) b o) (hl : l.length + ([115, 119, 105, 116, 99, 104, 32] ++ (([] : Bs) ++ clausesX E S dd (ks.drop 0))).length ≤ most) :
    Calls Tryz.prog 52 #[.pointer (some ⟨p, 0, none⟩), .pointer (some ⟨b, o, none⟩)] w (Post B p l ([115, 119, 105, 116, 99, 104, 32] ++ (([] : Bs) ++ clausesX E S dd (ks.drop 0))) dd w) := by
  obtain ⟨a, c, hN⟩ := Nb.start hA
  have HS := Lib.hid hS
  have HKZ := Lib.hid hz
  have HA := Lib.hid hA
  have HL := Lib.hid hl
  have HB := Lib.hid (Below.refl B w)
  have HK : Hid (Keeps p w w) := Lib.OthersKept.refl _ _ _

  have HX := Lib.hid hN
  obtain ⟨k, tx, n, ty, s4, s5, s6⟩ := d
  simp only at hk
  subst hk
  obtain ⟨c0, c1, c2, c3, c7⟩ := HX.out.cells
  simp only at hn
  subst hn
  have hcap := HX.out.cap
  have hdl : (ks.drop 0).length = ks.length - 0 := by simp
  have hc := fun (l : Bs) (W : World) (h1 : Ws B p l dd W) (h2 : KL W (fun b => b < B) (ks.drop 0) (dropA a 0 c)) (h3 : l.length + (clausesX E S dd (ks.drop 0)).length ≤ most) => hC B p dd l W (dropA a 0 c) (c - 0) h1 (by have := HKZ.out; have := sizes_drop ks 0; omega) h2 h3
  rw [hdl] at hc
  have HLI := Lib.hid hc
  have HKD := Lib.hid (fun W (h : KL W (fun b => b < B) ks a) => kl_drop h hcap 0)
  have HRUN : ∀ W, (Instr.slice 23 (.slice a ks.length c) (some (.int .i64 0)) none none).run Tryz.prog W = .ok (.slice (dropA a 0 c) (ks.length - 0) (c - 0)) W := fun W => slice_low a ks.length c 0 W (by omega)
  clear hdl hc hC
  clear hz hS hl hA hN
  go_enter Tryz.func52, Tryz.ntmps52
  go_wp2_with fail
  refine (add1 ⟨#[115, 119, 105, 116, 99, 104, 32]⟩ HS.out (by have := HL.out; simp at this ⊢; omega)).mono ?_
  rintro e w1 ⟨rfl, h1, h2, h3⟩
  have HS := Lib.hid h1
  have HX := Lib.hid (HX.out.kept h2)
  have HB := Lib.hid (HB.out.trans h2)
  have HK : Hid (Keeps p w w1) := HK.out.trans h3
  clear h1 h2 h3 c0 c1 c2 c3 c7
  obtain ⟨c0, c1, c2, c3, c7⟩ := HX.out.cells
  go_wp2_with fail
  go_still_tail 10, (by kernel_rfl)
  change wpList _ _ _ _ _ w1.drew
  have hd := (Below.refl w1.heap.size w1).drew
  have HB := Lib.hid (HB.out.trans (hd.mono HS.out.hB))
  have HK : Hid (Keeps p w w1.drew) := HK.out.trans (keeps_below hd)
  have HX := Lib.hid (HX.out.kept (hd.mono HS.out.hB))
  have HS := Lib.hid (HS.out.kept hd)
  obtain ⟨w2, hwd⟩ : ∃ W, W = w1.drew := ⟨_, rfl⟩
  rw [← hwd] at HB HK HX HS
  rw [← hwd]
  clear hd hwd c0 c1 c2 c3 c7
  obtain ⟨c0, c1, c2, c3, c7⟩ := HX.out.cells
  go_wp2_with fail
  refine (HLI.out _ _ HS.out (HKD.out _ HX.out.kl) (by have := HL.out; simp at this ⊢; omega)).mono ?_
  rintro e w3 ⟨rfl, h1, h2, h3⟩
  have HS := Lib.hid h1
  have HX := Lib.hid (HX.out.kept h2)
  have HB := Lib.hid (HB.out.trans h2)
  have HK : Hid (Keeps p w w3) := HK.out.trans h3
  clear h1 h2 h3 c0 c1 c2 c3 c7
  obtain ⟨c0, c1, c2, c3, c7⟩ := HX.out.cells
  go_wp2
  go_end0
  refine ⟨rfl, ?_, HB.out, HK.out⟩
  have := HS.out
  simpa using this
set_option maxHeartbeats 8000000 in
set_option maxRecDepth 100000 in
theorem switch_w1 (E : Tr → Bs) (S : Nat → Tr → Bs) (d : Nd) (ks : List Tr) (hk : d.k = 13) (hn : d.n = 1) (hk0 : 0 < ks.length) (hC : WritesC (fun k => clausesX E S k (ks.drop 1)) (ks.drop 1)) (hHE0 : Writes 68 (E (kid 0 ks)) (kid 0 ks)) (hlen : ks.length ≤ 1048576) {B p dd : Nat} {l : Bs} {w : World} {b o : Nat} (hz : dd + 1 + sizes ks ≤ 1000000000000) (hS : Ws B p l dd w) (hA : At w (fun b => b < B) (.mk d ks) b o) (hl : l.length + ([115, 119, 105, 116, 99, 104, 32] ++ ((E (kid 0 ks) ++ [32]) ++ clausesX E S dd (ks.drop 1))).length ≤ most) :
    Calls Tryz.prog 52 #[.pointer (some ⟨p, 0, none⟩), .pointer (some ⟨b, o, none⟩)] w (Post B p l ([115, 119, 105, 116, 99, 104, 32] ++ ((E (kid 0 ks) ++ [32]) ++ clausesX E S dd (ks.drop 1))) dd w) := by
  obtain ⟨a, c, hN⟩ := Nb.start hA
  have HS := Lib.hid hS
  have HKZ := Lib.hid hz
  have HA := Lib.hid hA
  have HL := Lib.hid hl
  have HB := Lib.hid (Below.refl B w)
  have HK : Hid (Keeps p w w) := Lib.OthersKept.refl _ _ _
  have HE0 := Lib.hid hHE0
  clear hHE0
  obtain ⟨kb, ko, rfl⟩ := kl_some' hN.kl hk0
  have HX := Lib.hid hN
  obtain ⟨k, tx, n, ty, s4, s5, s6⟩ := d
  simp only at hk
  subst hk
  obtain ⟨c0, c1, c2, c3, c7⟩ := HX.out.cells
  simp only at hn
  subst hn
  have hcap := HX.out.cap
  have hdl : (ks.drop 1).length = ks.length - 1 := by simp
  have hc := fun (l : Bs) (W : World) (h1 : Ws B p l dd W) (h2 : KL W (fun b => b < B) (ks.drop 1) (dropA (some ⟨kb, ko, none⟩) 1 c)) (h3 : l.length + (clausesX E S dd (ks.drop 1)).length ≤ most) => hC B p dd l W (dropA (some ⟨kb, ko, none⟩) 1 c) (c - 1) h1 (by have := HKZ.out; have := sizes_drop ks 1; omega) h2 h3
  rw [hdl] at hc
  have HLI := Lib.hid hc
  have HKD := Lib.hid (fun W (h : KL W (fun b => b < B) ks (some ⟨kb, ko, none⟩)) => kl_drop h hcap 1)
  have HRUN : ∀ W, (Instr.slice 23 (.slice (some ⟨kb, ko, none⟩) ks.length c) (some (.int .i64 1)) none none).run Tryz.prog W = .ok (.slice (dropA (some ⟨kb, ko, none⟩) 1 c) (ks.length - 1) (c - 1)) W := fun W => slice_low (some ⟨kb, ko, none⟩) ks.length c 1 W (by omega)
  clear hdl hc hC
  clear hz hS hl hA hN
  go_enter Tryz.func52, Tryz.ntmps52
  go_wp2_with fail
  refine (add1 ⟨#[115, 119, 105, 116, 99, 104, 32]⟩ HS.out (by have := HL.out; simp at this ⊢; omega)).mono ?_
  rintro e w1 ⟨rfl, h1, h2, h3⟩
  have HS := Lib.hid h1
  have HX := Lib.hid (HX.out.kept h2)
  have HB := Lib.hid (HB.out.trans h2)
  have HK : Hid (Keeps p w w1) := HK.out.trans h3
  clear h1 h2 h3 c0 c1 c2 c3 c7
  obtain ⟨c0, c1, c2, c3, c7⟩ := HX.out.cells
  go_wp2_with fail
  refine (HE0.out B p dd _ _ _ _ HS.out (kid_at HX.out hk0) (by have := HL.out; simp at this ⊢; omega)).mono ?_
  rintro e w2 ⟨rfl, h1, h2, h3⟩
  have HS := Lib.hid h1
  have HX := Lib.hid (HX.out.kept h2)
  have HB := Lib.hid (HB.out.trans h2)
  have HK : Hid (Keeps p w w2) := HK.out.trans h3
  clear h1 h2 h3 c0 c1 c2 c3 c7
  obtain ⟨c0, c1, c2, c3, c7⟩ := HX.out.cells
  go_wp2_with fail
  refine (add1 ⟨#[32]⟩ HS.out (by have := HL.out; simp at this ⊢; omega)).mono ?_
  rintro e w3 ⟨rfl, h1, h2, h3⟩
  have HS := Lib.hid h1
  have HX := Lib.hid (HX.out.kept h2)
  have HB := Lib.hid (HB.out.trans h2)
  have HK : Hid (Keeps p w w3) := HK.out.trans h3
  clear h1 h2 h3 c0 c1 c2 c3 c7
  obtain ⟨c0, c1, c2, c3, c7⟩ := HX.out.cells
  go_wp2_with fail
  go_still_tail 10, (by kernel_rfl)
  change wpList _ _ _ _ _ w3.drew
  have hd := (Below.refl w3.heap.size w3).drew
  have HB := Lib.hid (HB.out.trans (hd.mono HS.out.hB))
  have HK : Hid (Keeps p w w3.drew) := HK.out.trans (keeps_below hd)
  have HX := Lib.hid (HX.out.kept (hd.mono HS.out.hB))
  have HS := Lib.hid (HS.out.kept hd)
  obtain ⟨w4, hwd⟩ : ∃ W, W = w3.drew := ⟨_, rfl⟩
  rw [← hwd] at HB HK HX HS
  rw [← hwd]
  clear hd hwd c0 c1 c2 c3 c7
  obtain ⟨c0, c1, c2, c3, c7⟩ := HX.out.cells
  go_wp2_with fail
  refine (HLI.out _ _ HS.out (HKD.out _ HX.out.kl) (by have := HL.out; simp at this ⊢; omega)).mono ?_
  rintro e w5 ⟨rfl, h1, h2, h3⟩
  have HS := Lib.hid h1
  have HX := Lib.hid (HX.out.kept h2)
  have HB := Lib.hid (HB.out.trans h2)
  have HK : Hid (Keeps p w w5) := HK.out.trans h3
  clear h1 h2 h3 c0 c1 c2 c3 c7
  obtain ⟨c0, c1, c2, c3, c7⟩ := HX.out.cells
  go_wp2
  go_end0
  refine ⟨rfl, ?_, HB.out, HK.out⟩
  have := HS.out
  simpa using this
set_option maxHeartbeats 8000000 in
set_option maxRecDepth 100000 in
theorem select_w (E : Tr → Bs) (S : Nat → Tr → Bs) (d : Nd) (ks : List Tr) (hk : d.k = 15) (hC : WritesC (fun k => clausesX E S k ks) ks) (hlen : ks.length ≤ 1048576) {B p dd : Nat} {l : Bs} {w : World} {b o : Nat} (hz : dd + 1 + sizes ks ≤ 1000000000000) (hS : Ws B p l dd w) (hA : At w (fun b => b < B) (.mk d ks) b o) (hl : l.length + ([115, 101, 108, 101, 99, 116, 32] ++ clausesX E S dd ks).length ≤ most) :
    Calls Tryz.prog 52 #[.pointer (some ⟨p, 0, none⟩), .pointer (some ⟨b, o, none⟩)] w (Post B p l ([115, 101, 108, 101, 99, 116, 32] ++ clausesX E S dd ks) dd w) := by
  obtain ⟨a, c, hN⟩ := Nb.start hA
  have HS := Lib.hid hS
  have HKZ := Lib.hid hz
  have HA := Lib.hid hA
  have HL := Lib.hid hl
  have HB := Lib.hid (Below.refl B w)
  have HK : Hid (Keeps p w w) := Lib.OthersKept.refl _ _ _

  have HX := Lib.hid hN
  obtain ⟨k, tx, n, ty, s4, s5, s6⟩ := d
  simp only at hk
  subst hk
  obtain ⟨c0, c1, c2, c3, c7⟩ := HX.out.cells

  clear hz hS hl hA hN
  go_enter Tryz.func52, Tryz.ntmps52
  go_wp2_with fail
  refine (add1 ⟨#[115, 101, 108, 101, 99, 116, 32]⟩ HS.out (by have := HL.out; simp at this ⊢; omega)).mono ?_
  rintro e w1 ⟨rfl, h1, h2, h3⟩
  have HS := Lib.hid h1
  have HX := Lib.hid (HX.out.kept h2)
  have HB := Lib.hid (HB.out.trans h2)
  have HK : Hid (Keeps p w w1) := HK.out.trans h3
  clear h1 h2 h3 c0 c1 c2 c3 c7
  obtain ⟨c0, c1, c2, c3, c7⟩ := HX.out.cells
  go_wp2_with fail
  refine (hC B p dd _ _ _ _ HS.out HKZ.out HX.out.kl (by have := HL.out; simp at this ⊢; omega)).mono ?_
  rintro e w2 ⟨rfl, h1, h2, h3⟩
  have HS := Lib.hid h1
  have HX := Lib.hid (HX.out.kept h2)
  have HB := Lib.hid (HB.out.trans h2)
  have HK : Hid (Keeps p w w2) := HK.out.trans h3
  clear h1 h2 h3 c0 c1 c2 c3 c7
  obtain ⟨c0, c1, c2, c3, c7⟩ := HX.out.cells
  go_wp2
  go_end0
  refine ⟨rfl, ?_, HB.out, HK.out⟩
  have := HS.out
  simpa using this
set_option maxHeartbeats 8000000 in
set_option maxRecDepth 100000 in
theorem go_w (E : Tr → Bs) (d : Nd) (ks : List Tr) (hk : d.k = 17) (hHE0 : Writes 68 (E (kid 0 ks)) (kid 0 ks)) (h2 : ks.length = 1) (hlen : ks.length ≤ 1048576) {B p dd : Nat} {l : Bs} {w : World} {b o : Nat} (hz : dd + 1 + sizes ks ≤ 1000000000000) (hS : Ws B p l dd w) (hA : At w (fun b => b < B) (.mk d ks) b o) (hl : l.length + ([103, 111, 32] ++ E (kid 0 ks)).length ≤ most) :
    Calls Tryz.prog 52 #[.pointer (some ⟨p, 0, none⟩), .pointer (some ⟨b, o, none⟩)] w (Post B p l ([103, 111, 32] ++ E (kid 0 ks)) dd w) := by
  obtain ⟨a, c, hN⟩ := Nb.start hA
  have HS := Lib.hid hS
  have HKZ := Lib.hid hz
  have HA := Lib.hid hA
  have HL := Lib.hid hl
  have HB := Lib.hid (Below.refl B w)
  have HK : Hid (Keeps p w w) := Lib.OthersKept.refl _ _ _
  have hk0 : 0 < ks.length := by omega
  have HE0 := Lib.hid hHE0
  clear hHE0
  obtain ⟨kb, ko, rfl⟩ := kl_some' hN.kl hk0
  have HX := Lib.hid hN
  obtain ⟨k, tx, n, ty, s4, s5, s6⟩ := d
  simp only at hk
  subst hk
  obtain ⟨c0, c1, c2, c3, c7⟩ := HX.out.cells
  have HL2 := Lib.hid h2
  rw [h2] at c7
  clear h2
  clear hz hS hl hA hN
  go_enter Tryz.func52, Tryz.ntmps52
  go_wp2_with fail
  refine (add1 ⟨#[103, 111, 32]⟩ HS.out (by have := HL.out; simp at this ⊢; omega)).mono ?_
  rintro e w1 ⟨rfl, h1, h2, h3⟩
  have HS := Lib.hid h1
  have HX := Lib.hid (HX.out.kept h2)
  have HB := Lib.hid (HB.out.trans h2)
  have HK : Hid (Keeps p w w1) := HK.out.trans h3
  clear h1 h2 h3 c0 c1 c2 c3 c7
  obtain ⟨c0, c1, c2, c3, c7⟩ := HX.out.cells
  rw [HL2.out] at c7
  go_wp2_with fail
  refine (HE0.out B p dd _ _ _ _ HS.out (kid_at HX.out hk0) (by have := HL.out; simp at this ⊢; omega)).mono ?_
  rintro e w2 ⟨rfl, h1, h2, h3⟩
  have HS := Lib.hid h1
  have HX := Lib.hid (HX.out.kept h2)
  have HB := Lib.hid (HB.out.trans h2)
  have HK : Hid (Keeps p w w2) := HK.out.trans h3
  clear h1 h2 h3 c0 c1 c2 c3 c7
  obtain ⟨c0, c1, c2, c3, c7⟩ := HX.out.cells
  rw [HL2.out] at c7
  go_wp2
  go_end0
  refine ⟨rfl, ?_, HB.out, HK.out⟩
  have := HS.out
  simpa using this
set_option maxHeartbeats 8000000 in
set_option maxRecDepth 100000 in
theorem ret_0 (d : Nd) (ks : List Tr) (hk : d.k = 18) (h0 : ks.length = 0) (hlen : ks.length ≤ 1048576) {B p dd : Nat} {l : Bs} {w : World} {b o : Nat} (hz : dd + 1 + sizes ks ≤ 1000000000000) (hS : Ws B p l dd w) (hA : At w (fun b => b < B) (.mk d ks) b o) (hl : l.length + ([114, 101, 116, 117, 114, 110] ++ ([] : Bs)).length ≤ most) :
    Calls Tryz.prog 52 #[.pointer (some ⟨p, 0, none⟩), .pointer (some ⟨b, o, none⟩)] w (Post B p l ([114, 101, 116, 117, 114, 110] ++ ([] : Bs)) dd w) := by
  obtain ⟨a, c, hN⟩ := Nb.start hA
  have HS := Lib.hid hS
  have HKZ := Lib.hid hz
  have HA := Lib.hid hA
  have HL := Lib.hid hl
  have HB := Lib.hid (Below.refl B w)
  have HK : Hid (Keeps p w w) := Lib.OthersKept.refl _ _ _

  have HX := Lib.hid hN
  obtain ⟨k, tx, n, ty, s4, s5, s6⟩ := d
  simp only at hk
  subst hk
  obtain ⟨c0, c1, c2, c3, c7⟩ := HX.out.cells
  have HN0 := Lib.hid h0
  rw [h0] at c7
  clear h0
  clear hz hS hl hA hN
  go_enter Tryz.func52, Tryz.ntmps52
  go_wp2_with fail
  refine (add1 ⟨#[114, 101, 116, 117, 114, 110]⟩ HS.out (by have := HL.out; simp at this ⊢; omega)).mono ?_
  rintro e w1 ⟨rfl, h1, h2, h3⟩
  have HS := Lib.hid h1
  have HX := Lib.hid (HX.out.kept h2)
  have HB := Lib.hid (HB.out.trans h2)
  have HK : Hid (Keeps p w w1) := HK.out.trans h3
  clear h1 h2 h3 c0 c1 c2 c3 c7
  obtain ⟨c0, c1, c2, c3, c7⟩ := HX.out.cells
  rw [HN0.out] at c7
  go_wp2
  go_end0
  refine ⟨rfl, ?_, HB.out, HK.out⟩
  have := HS.out
  simpa using this
set_option maxHeartbeats 8000000 in
set_option maxRecDepth 100000 in
theorem ret_1 (E : Tr → Bs) (d : Nd) (ks : List Tr) (hk : d.k = 18) (hHE0 : Writes 68 (E (kid 0 ks)) (kid 0 ks)) (h2 : ks.length = 1) (hlen : ks.length ≤ 1048576) {B p dd : Nat} {l : Bs} {w : World} {b o : Nat} (hz : dd + 1 + sizes ks ≤ 1000000000000) (hS : Ws B p l dd w) (hA : At w (fun b => b < B) (.mk d ks) b o) (hl : l.length + ([114, 101, 116, 117, 114, 110] ++ ([32] ++ E (kid 0 ks))).length ≤ most) :
    Calls Tryz.prog 52 #[.pointer (some ⟨p, 0, none⟩), .pointer (some ⟨b, o, none⟩)] w (Post B p l ([114, 101, 116, 117, 114, 110] ++ ([32] ++ E (kid 0 ks))) dd w) := by
  obtain ⟨a, c, hN⟩ := Nb.start hA
  have HS := Lib.hid hS
  have HKZ := Lib.hid hz
  have HA := Lib.hid hA
  have HL := Lib.hid hl
  have HB := Lib.hid (Below.refl B w)
  have HK : Hid (Keeps p w w) := Lib.OthersKept.refl _ _ _
  have hk0 : 0 < ks.length := by omega
  have HE0 := Lib.hid hHE0
  clear hHE0
  obtain ⟨kb, ko, rfl⟩ := kl_some' hN.kl hk0
  have HX := Lib.hid hN
  obtain ⟨k, tx, n, ty, s4, s5, s6⟩ := d
  simp only at hk
  subst hk
  obtain ⟨c0, c1, c2, c3, c7⟩ := HX.out.cells
  have HL2 := Lib.hid h2
  rw [h2] at c7
  clear h2
  clear hz hS hl hA hN
  go_enter Tryz.func52, Tryz.ntmps52
  go_wp2_with fail
  refine (add1 ⟨#[114, 101, 116, 117, 114, 110]⟩ HS.out (by have := HL.out; simp at this ⊢; omega)).mono ?_
  rintro e w1 ⟨rfl, h1, h2, h3⟩
  have HS := Lib.hid h1
  have HX := Lib.hid (HX.out.kept h2)
  have HB := Lib.hid (HB.out.trans h2)
  have HK : Hid (Keeps p w w1) := HK.out.trans h3
  clear h1 h2 h3 c0 c1 c2 c3 c7
  obtain ⟨c0, c1, c2, c3, c7⟩ := HX.out.cells
  rw [HL2.out] at c7
  go_wp2_with fail
  refine (add1 ⟨#[32]⟩ HS.out (by have := HL.out; simp at this ⊢; omega)).mono ?_
  rintro e w2 ⟨rfl, h1, h2, h3⟩
  have HS := Lib.hid h1
  have HX := Lib.hid (HX.out.kept h2)
  have HB := Lib.hid (HB.out.trans h2)
  have HK : Hid (Keeps p w w2) := HK.out.trans h3
  clear h1 h2 h3 c0 c1 c2 c3 c7
  obtain ⟨c0, c1, c2, c3, c7⟩ := HX.out.cells
  rw [HL2.out] at c7
  go_wp2_with fail
  refine (HE0.out B p dd _ _ _ _ HS.out (kid_at HX.out hk0) (by have := HL.out; simp at this ⊢; omega)).mono ?_
  rintro e w3 ⟨rfl, h1, h2, h3⟩
  have HS := Lib.hid h1
  have HX := Lib.hid (HX.out.kept h2)
  have HB := Lib.hid (HB.out.trans h2)
  have HK : Hid (Keeps p w w3) := HK.out.trans h3
  clear h1 h2 h3 c0 c1 c2 c3 c7
  obtain ⟨c0, c1, c2, c3, c7⟩ := HX.out.cells
  rw [HL2.out] at c7
  go_wp2
  go_end0
  refine ⟨rfl, ?_, HB.out, HK.out⟩
  have := HS.out
  simpa using this
set_option maxHeartbeats 8000000 in
set_option maxRecDepth 100000 in
theorem break_w (d : Nd) (ks : List Tr) (hk : d.k = 19) (hlen : ks.length ≤ 1048576) {B p dd : Nat} {l : Bs} {w : World} {b o : Nat} (hz : dd + 1 + sizes ks ≤ 1000000000000) (hS : Ws B p l dd w) (hA : At w (fun b => b < B) (.mk d ks) b o) (hl : l.length + (([98, 114, 101, 97, 107] : Bs)).length ≤ most) :
    Calls Tryz.prog 52 #[.pointer (some ⟨p, 0, none⟩), .pointer (some ⟨b, o, none⟩)] w (Post B p l (([98, 114, 101, 97, 107] : Bs)) dd w) := by
  obtain ⟨a, c, hN⟩ := Nb.start hA
  have HS := Lib.hid hS
  have HKZ := Lib.hid hz
  have HA := Lib.hid hA
  have HL := Lib.hid hl
  have HB := Lib.hid (Below.refl B w)
  have HK : Hid (Keeps p w w) := Lib.OthersKept.refl _ _ _

  have HX := Lib.hid hN
  obtain ⟨k, tx, n, ty, s4, s5, s6⟩ := d
  simp only at hk
  subst hk
  obtain ⟨c0, c1, c2, c3, c7⟩ := HX.out.cells

  clear hz hS hl hA hN
  go_enter Tryz.func52, Tryz.ntmps52
  go_wp2_with fail
  refine (add1 ⟨#[98, 114, 101, 97, 107]⟩ HS.out (by have := HL.out; simp at this ⊢; omega)).mono ?_
  rintro e w1 ⟨rfl, h1, h2, h3⟩
  have HS := Lib.hid h1
  have HX := Lib.hid (HX.out.kept h2)
  have HB := Lib.hid (HB.out.trans h2)
  have HK : Hid (Keeps p w w1) := HK.out.trans h3
  clear h1 h2 h3 c0 c1 c2 c3 c7
  obtain ⟨c0, c1, c2, c3, c7⟩ := HX.out.cells
  go_wp2
  go_end0
  refine ⟨rfl, ?_, HB.out, HK.out⟩
  have := HS.out
  simpa using this
set_option maxHeartbeats 8000000 in
set_option maxRecDepth 100000 in
theorem continue_w (d : Nd) (ks : List Tr) (hk : d.k = 20) (hlen : ks.length ≤ 1048576) {B p dd : Nat} {l : Bs} {w : World} {b o : Nat} (hz : dd + 1 + sizes ks ≤ 1000000000000) (hS : Ws B p l dd w) (hA : At w (fun b => b < B) (.mk d ks) b o) (hl : l.length + (([99, 111, 110, 116, 105, 110, 117, 101] : Bs)).length ≤ most) :
    Calls Tryz.prog 52 #[.pointer (some ⟨p, 0, none⟩), .pointer (some ⟨b, o, none⟩)] w (Post B p l (([99, 111, 110, 116, 105, 110, 117, 101] : Bs)) dd w) := by
  obtain ⟨a, c, hN⟩ := Nb.start hA
  have HS := Lib.hid hS
  have HKZ := Lib.hid hz
  have HA := Lib.hid hA
  have HL := Lib.hid hl
  have HB := Lib.hid (Below.refl B w)
  have HK : Hid (Keeps p w w) := Lib.OthersKept.refl _ _ _

  have HX := Lib.hid hN
  obtain ⟨k, tx, n, ty, s4, s5, s6⟩ := d
  simp only at hk
  subst hk
  obtain ⟨c0, c1, c2, c3, c7⟩ := HX.out.cells

  clear hz hS hl hA hN
  go_enter Tryz.func52, Tryz.ntmps52
  go_wp2_with fail
  refine (add1 ⟨#[99, 111, 110, 116, 105, 110, 117, 101]⟩ HS.out (by have := HL.out; simp at this ⊢; omega)).mono ?_
  rintro e w1 ⟨rfl, h1, h2, h3⟩
  have HS := Lib.hid h1
  have HX := Lib.hid (HX.out.kept h2)
  have HB := Lib.hid (HB.out.trans h2)
  have HK : Hid (Keeps p w w1) := HK.out.trans h3
  clear h1 h2 h3 c0 c1 c2 c3 c7
  obtain ⟨c0, c1, c2, c3, c7⟩ := HX.out.cells
  go_wp2
  go_end0
  refine ⟨rfl, ?_, HB.out, HK.out⟩
  have := HS.out
  simpa using this
set_option maxHeartbeats 8000000 in
set_option maxRecDepth 100000 in
theorem block_w (S : Nat → Tr → Bs) (d : Nd) (ks : List Tr) (hk : d.k = 4) (hBK : WritesS 28 (fun k => blockX S k (.mk d ks)) (.mk d ks)) (hlen : ks.length ≤ 1048576) {B p dd : Nat} {l : Bs} {w : World} {b o : Nat} (hz : dd + 1 + sizes ks ≤ 1000000000000) (hS : Ws B p l dd w) (hA : At w (fun b => b < B) (.mk d ks) b o) (hl : l.length + (blockX S dd (.mk d ks)).length ≤ most) :
    Calls Tryz.prog 52 #[.pointer (some ⟨p, 0, none⟩), .pointer (some ⟨b, o, none⟩)] w (Post B p l (blockX S dd (.mk d ks)) dd w) := by
  obtain ⟨a, c, hN⟩ := Nb.start hA
  have HS := Lib.hid hS
  have HKZ := Lib.hid hz
  have HA := Lib.hid hA
  have HL := Lib.hid hl
  have HB := Lib.hid (Below.refl B w)
  have HK : Hid (Keeps p w w) := Lib.OthersKept.refl _ _ _
  have HBK := Lib.hid hBK
  clear hBK
  have HX := Lib.hid hN
  obtain ⟨k, tx, n, ty, s4, s5, s6⟩ := d
  simp only at hk
  subst hk
  obtain ⟨c0, c1, c2, c3, c7⟩ := HX.out.cells

  clear hz hS hl hA hN
  go_enter Tryz.func52, Tryz.ntmps52
  go_wp2_with fail
  refine (HBK.out B p dd _ _ _ _ HS.out (by have := HKZ.out; simp only [size]; omega) (Twb.At.low HA.out HB.out) (by have := HL.out; simp at this ⊢; omega)).mono ?_
  rintro e w1 ⟨rfl, h1, h2, h3⟩
  have HS := Lib.hid h1
  have HX := Lib.hid (HX.out.kept h2)
  have HB := Lib.hid (HB.out.trans h2)
  have HK : Hid (Keeps p w w1) := HK.out.trans h3
  clear h1 h2 h3 c0 c1 c2 c3 c7
  obtain ⟨c0, c1, c2, c3, c7⟩ := HX.out.cells
  go_wp2
  go_end0
  refine ⟨rfl, ?_, HB.out, HK.out⟩
  have := HS.out
  exact this
set_option maxHeartbeats 8000000 in
set_option maxRecDepth 100000 in
theorem other_w (E : Tr → Bs) (d : Nd) (ks : List Tr) (h4 : d.k ≠ 4) (h5 : d.k ≠ 5) (h11 : d.k ≠ 11) (h12 : d.k ≠ 12) (h13 : d.k ≠ 13) (h15 : d.k ≠ 15) (h17 : d.k ≠ 17) (h18 : d.k ≠ 18) (h19 : d.k ≠ 19) (h20 : d.k ≠ 20) (hM : Writes 71 (simpleX E d ks) (.mk d ks)) (hlen : ks.length ≤ 1048576) {B p dd : Nat} {l : Bs} {w : World} {b o : Nat} (hz : dd + 1 + sizes ks ≤ 1000000000000) (hS : Ws B p l dd w) (hA : At w (fun b => b < B) (.mk d ks) b o) (hl : l.length + (simpleX E d ks).length ≤ most) :
    Calls Tryz.prog 52 #[.pointer (some ⟨p, 0, none⟩), .pointer (some ⟨b, o, none⟩)] w (Post B p l (simpleX E d ks) dd w) := by
  obtain ⟨a, c, hN⟩ := Nb.start hA
  have HS := Lib.hid hS
  have HKZ := Lib.hid hz
  have HA := Lib.hid hA
  have HL := Lib.hid hl
  have HB := Lib.hid (Below.refl B w)
  have HK : Hid (Keeps p w w) := Lib.OthersKept.refl _ _ _
  have HM := Lib.hid hM
  clear hM
  have HX := Lib.hid hN
  obtain ⟨k, tx, n, ty, s4, s5, s6⟩ := d
  obtain ⟨c0, c1, c2, c3, c7⟩ := HX.out.cells
  simp only at h4 h5 h11 h12 h13 h15 h17 h18 h19 h20
  have e4 : (k == 4) = false := beq_false_of_ne h4
  have e5 : (k == 5) = false := beq_false_of_ne h5
  have e11 : (k == 11) = false := beq_false_of_ne h11
  have e12 : (k == 12) = false := beq_false_of_ne h12
  have e13 : (k == 13) = false := beq_false_of_ne h13
  have e15 : (k == 15) = false := beq_false_of_ne h15
  have e17 : (k == 17) = false := beq_false_of_ne h17
  have e18 : (k == 18) = false := beq_false_of_ne h18
  have e19 : (k == 19) = false := beq_false_of_ne h19
  have e20 : (k == 20) = false := beq_false_of_ne h20
  clear h4 h5 h11 h12 h13 h15 h17 h18 h19 h20
  clear hz hS hl hA hN
  go_enter Tryz.func52, Tryz.ntmps52
  go_wp2_with fail
  refine (HM.out B p dd _ _ _ _ HS.out (Twb.At.low HA.out HB.out) (by have := HL.out; simp at this ⊢; omega)).mono ?_
  rintro e w1 ⟨rfl, h1, h2, h3⟩
  have HS := Lib.hid h1
  have HX := Lib.hid (HX.out.kept h2)
  have HB := Lib.hid (HB.out.trans h2)
  have HK : Hid (Keeps p w w1) := HK.out.trans h3
  clear h1 h2 h3 c0 c1 c2 c3 c7
  obtain ⟨c0, c1, c2, c3, c7⟩ := HX.out.cells
  go_wp2
  go_end0
  refine ⟨rfl, ?_, HB.out, HK.out⟩
  have := HS.out
  exact this
end Go.Proofs.YtgodeffkboihlaaGreatDoor.Twl
