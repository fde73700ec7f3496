/- Tokens in memory, whatever list; drowseref03.Join whole; lex.Join. -/
import Derived.Test.YtjmgfhbadnechaaDoorLxj
set_option linter.unusedVariables false
namespace Go.Proofs.YtjmgfhbadnechaaDoor.Lxk
open Go.RowKit Wrd Nam Env Num Lxp Lxw Lxv Lxr App Aps Lxj

/-- A list of tokens as a value. -/
def Lies (w : World) (v : Value) (l : List Tok) : Prop :=
  (l = [] ∧ ∃ x c, v = .slice x 0 c) ∨ ∃ b o c, v = .slice (some ⟨b, o, none⟩) l.length c ∧ b < w.heap.size ∧ Toks w b o l
theorem Lies.below {w w' : World} {v : Value} {l : List Tok} (h : Lies w v l) (hb : Below w.heap.size w w') : Lies w' v l := by
  rcases h with h | ⟨b, o, c, rfl, h1, h2⟩
  · exact .inl h
  · exact .inr ⟨b, o, c, rfl, Nat.lt_of_lt_of_le h1 hb.size, h2.below hb h1⟩

theorem joined_nil : joined [] = some ⟨#[]⟩ := rfl
set_option maxHeartbeats 4000000 in
set_option maxRecDepth 100000 in
theorem rjoin_nil (x : Option Addr) (c : Nat) (w : World) :
    Calls Tryd.prog 9 #[.slice x 0 c] w fun e w' => e = outcome (joined []) ∧ Below w.heap.size w w' := by
  have HR : Hid (joined [] = some ⟨#[]⟩) := joined_nil
  have hS := run_string w.heap.size _ _ w (Own.nil w.heap.size w)
  go_enter Tryd.func9, Tryd.ntmps9
  go_wp2
  go_loopw [4, 5] (fun v i wr => v = .slice none 0 0 ∧ i = .int .i64 ((0 : Nat) : Int) ∧ wr = w) (fun _ i _ => 0)
  case atStart => exact ⟨rfl, rfl, rfl⟩
  case round =>
    obtain ⟨rfl, rfl, rfl⟩ := hrel
    go_wp2
    go_ret2
    exact ⟨by rw [HR.out]; rfl, Below.refl _ _⟩
theorem rjoin_any (v : Value) (l : List Tok) (w : World) (hf : Fits l) (h : Lies w v l) :
    Calls Tryd.prog 9 #[v] w fun e w' => e = outcome (joined l) ∧ Below w.heap.size w w' := by
  rcases h with ⟨rfl, x, c, rfl⟩ | ⟨b, o, c, rfl, h1, h2⟩
  · exact rjoin_nil x c w
  · exact rjoin_some b o c l w hf h2 h1

theorem join_snoc (xs : List (List UInt8)) (y : List UInt8) : Lib.join (xs ++ [y]) [32] = Lib.join xs [32] ++ (if xs.length = 0 then [] else [32]) ++ y := by
  cases xs with
  | nil => simp [Lib.join_one, Lib.join_nil]
  | cons x r =>
    show Lib.join (x :: (r ++ [y])) [32] = _
    rw [Lib.join_cons, Lib.join_cons]
    simp [Lib.joinTail]
theorem acc_join (l : List Tok) : ∀ k, Lib.join ((List.range k).map fun j => ((txt l j).getD ByteArray.empty).data.toList) [32] = acc l k := by
  intro k
  induction k with
  | zero => rfl
  | succ k ih => rw [List.range_succ, List.map_append, List.map_singleton, join_snoc, ih]; simp [acc]

theorem infoStr : (Tryd.prog.info? 9).map (fun i => (i.zero, i.size, i.bytes)) = some (some (.string ⟨#[]⟩), 1, 16) := by kernel_rfl
/-- A row of n strings of the call's own; the first k are f's. -/
def Parts (B g n k : Nat) (f : Nat → ByteArray) (w : World) : Prop := ∃ xs, w.ownsRow B 9 1 (.slice (some ⟨g, 0, none⟩) n n) n xs ∧ ∀ j, j < k → xs[j]? = some (.string (f j))
theorem Parts.below {B g n k : Nat} {f : Nat → ByteArray} {w w' : World} {B' : Nat} (h : Parts B g n k f w) (hb : Below B' w w') (hB : w.heap.size ≤ B') : Parts B g n k f w' := by
  obtain ⟨xs, h, hk⟩ := h
  refine ⟨xs, ⟨h.1, h.2.imp id ?_⟩, hk⟩
  rintro ⟨g, cap, cur, hv, h0, h1, h2⟩
  refine ⟨g, cap, cur, hv, h0, ?_, h2⟩
  have hg : g < w.heap.size := (Array.getElem?_eq_some_iff.1 h1).1
  rw [hb.block g (by omega)]; exact h1
theorem Parts.store {B g n k : Nat} {f : Nat → ByteArray} {w : World} (h : Parts B g n k f w) (hk : k < n) : Parts B g n (k + 1) f (w.setCell ⟨g, k, none⟩ (.string (f k))) := by
  obtain ⟨xs, h, hx⟩ := h
  refine ⟨_, (h.stored k (.string (f k))).1, fun j hj => ?_⟩
  have hl : xs.length = n := by rw [h.1]; omega
  by_cases e : j = k
  · subst e; rw [List.getElem?_set_self (by omega)]
  · rw [List.getElem?_set_ne (fun e' => e e'.symm)]; exact hx j (by omega)
theorem Parts.cell {B g n k : Nat} {f : Nat → ByteArray} {w : World} (h : Parts B g n k f w) (j : Nat) (hj : j < n) : ∃ u, w.cell? ⟨g, j, none⟩ = some u := by
  obtain ⟨xs, hx, _⟩ := h
  rw [hx.cellAt j (by omega)]
  have : j < xs.length := by rw [hx.1]; omega
  exact ⟨xs[j], List.getElem?_eq_getElem this⟩
theorem Parts.frozen {B g n k : Nat} {f : Nat → ByteArray} {w : World} (h : Parts B g n k f w) (j : Nat) : w.frozen? ⟨g, j, none⟩ = false := by
  obtain ⟨xs, hx, _⟩ := h
  exact hx.frozenAt j
theorem Parts.size {B g n k : Nat} {f : Nat → ByteArray} {w : World} (h : Parts B g n k f w) : g < w.heap.size ∧ B ≤ g := by
  obtain ⟨xs, hx, _⟩ := h
  have := hx.lt g rfl
  exact ⟨this.2, this.1⟩
theorem Parts.cells {B g n : Nat} {f : Nat → ByteArray} {w : World} (h : Parts B g n n f w) : ∀ (j : Nat) x, ((List.range n).map f)[j]? = some x → w.cell? ⟨g, 0 + j, none⟩ = some (.string x) := by
  intro j x hx
  obtain ⟨xs, h, hk⟩ := h
  obtain ⟨hj, e⟩ := List.getElem?_eq_some_iff.1 hx
  have hj' : j < n := by simpa using hj
  rw [Nat.zero_add, h.cellAt j (by omega), hk j hj']
  simp at e
  rw [e]
theorem parts_made {B g n : Nat} {f : Nat → ByteArray} {w : World} {xs : List Value} (h : w.ownsRow B 9 1 (.slice (some ⟨g, 0, none⟩) n n) n xs) : Parts B g n 0 f w := ⟨xs, h, fun j hj => absurd hj (by omega)⟩

/-- The text of token k; none: the empty one. -/
def part (l : List Tok) (k : Nat) : ByteArray := (txt l k).getD ByteArray.empty
theorem txt_end {l : List Tok} {k : Nat} {t : Tok} (ht : l.getD k zero = t) (hk : (t.kind == 0) = true) (hlt : k + 1 < l.length) : txt l k = none := by
  unfold txt rwritten
  rw [ht, decide_eq_false (by omega), if_pos ⟨eq_of_beq hk, rfl⟩]
theorem txt_none {l : List Tok} {k : Nat} {t : Tok} (ht : l.getD k zero = t) (h : Lxp.written t = none) : txt l k = none := by
  unfold txt rwritten
  rw [ht, h]; split <;> rfl
theorem txt_some {l : List Tok} {k : Nat} {t : Tok} {s : ByteArray} (ht : l.getD k zero = t) (h : Lxp.written t = some s) (hn : (t.kind == 0) = false ∨ k + 1 = l.length) : txt l k = some s := by
  unfold txt rwritten
  rw [ht, h, if_neg ?_]
  rintro ⟨h1, h2⟩
  rcases hn with hn | hn
  · rw [h1] at hn; exact absurd hn (by decide)
  · exact of_decide_eq_false h2 hn
end Go.Proofs.YtjmgfhbadnechaaDoor.Lxk
