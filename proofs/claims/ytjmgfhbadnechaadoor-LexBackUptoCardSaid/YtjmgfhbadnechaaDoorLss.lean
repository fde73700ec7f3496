/- drowselaw03.number, spoil; drowseref03.Scan at every source. -/
import Derived.Test.YtjmgfhbadnechaaDoorLse
set_option linter.unusedVariables false
namespace Go.Proofs.YtjmgfhbadnechaaDoor.Lss
open Go.RowKit Wrd Nam Env Num Lxp Lxw Lxr Lxk Lxs Lxj Lrs Lrt Lru Apt Lrv Lrc Lrw Lsa Lsb Lsc Lsd Lse

set_option maxHeartbeats 1000000 in
set_option maxRecDepth 100000 in
theorem rscan_long (s : ByteArray) (w : World) (hs : 20000 < s.size) (hm : s.size ≤ 1048576) :
    Calls Tryd.prog 13 #[.string s] w fun e w' => Scanned w.heap.size (.inl (0, 31)) e w' ∧ Below w.heap.size w w' := by
  go_enter Tryd.func13, Tryd.ntmps13
  go_wp2
  go_ret3
  exact ⟨rfl, Below.refl _ _⟩
theorem rscan_any (s : ByteArray) (w : World) (hs : s.size ≤ 1048576) :
    Calls Tryd.prog 13 #[.string s] w fun e w' => Scanned w.heap.size (Lxn.scan s.data.toList) e w' ∧ Below w.heap.size w w' := by
  by_cases h : 20000 < s.size
  · rw [show Lxn.scan s.data.toList = .inl (0, 31) from if_pos h]
    exact rscan_long s w h hs
  · rw [show Lxn.scan s.data.toList = Lxn.go s.data.toList (s.size + 1) 0 1 [] zero from if_neg h]
    exact rscan_go s w (by omega)
set_option maxHeartbeats 1000000 in
set_option maxRecDepth 100000 in
theorem number_nil (w : World) : Calls Tryd.prog 15 #[.nilIface] w fun e w' => e = .returned (.tuple #[.int .i64 0, .int .i64 0, .bool true]) ∧ Below w.heap.size w w' := by
  go_enter Tryd.func15, Tryd.ntmps15
  go_wp2
  go_ret3
  exact ⟨rfl, Below.refl _ _⟩
set_option maxHeartbeats 1000000 in
set_option maxRecDepth 100000 in
theorem number_fault (N : Nat) (a er : Int) (w : World) (h : Hid (w.heap[N]? = some (.cells #[.int .i64 a, .int .i64 er] 58 (0, 0)))) :
    Calls Tryd.prog 15 #[.iface 56 (.pointer (some ⟨N, 0, none⟩))] w fun e w' => e = .returned (.tuple #[.int .i64 er, .int .i64 a, .bool true]) ∧ Below w.heap.size w w' := by
  have c0 : w.cell? ⟨N, 0, none⟩ = some (.int .i64 a) := by rw [cell_of_row w N _ _ _ _ h.out]; rfl
  have c1 : w.cell? ⟨N, 1, none⟩ = some (.int .i64 er) := by rw [cell_of_row w N _ _ _ _ h.out]; rfl
  have hta : ∀ w, (Instr.typeAssert (.iface 56 (.pointer (some ⟨N, 0, none⟩))) 33 56 true).run Tryd.prog w = .ok (.tuple #[.pointer (some ⟨N, 0, none⟩), .bool true]) w := fun _ => by kernel_rfl
  go_enter Tryd.func15, Tryd.ntmps15
  go_wp2_with fail
  go_quiet (fail)
  go_wp2
  go_ret3
  exact ⟨rfl, below_drewN_up (Below.refl _ _) _⟩
/-- v is a []api.Token of the call's own with n elements. -/
def OwnC (B : Nat) (v : Value) (n : Nat) (w : World) : Prop := ∃ xs, w.ownsRow B 42 5 v n xs
theorem OwnC.store {B g n cap : Nat} {w : World} (h : OwnC B (.slice (some ⟨g, 0, none⟩) n cap) n w) (j : Nat) (u : Value) : OwnC B (.slice (some ⟨g, 0, none⟩) n cap) n (w.setCell ⟨g, j, none⟩ u) := by
  obtain ⟨xs, hx⟩ := h
  exact ⟨_, (hx.stored j u).1⟩
theorem OwnC.cell {B g n cap : Nat} {w : World} (h : OwnC B (.slice (some ⟨g, 0, none⟩) n cap) n w) (j : Nat) (hj : j < n * 5) : ∃ u, w.cell? ⟨g, j, none⟩ = some u := by
  obtain ⟨xs, hx⟩ := h
  rw [hx.cellAt j hj]
  have : j < xs.length := by rw [hx.1]; omega
  exact ⟨xs[j], List.getElem?_eq_getElem this⟩
theorem OwnC.frozen {B g n cap : Nat} {w : World} (h : OwnC B (.slice (some ⟨g, 0, none⟩) n cap) n w) (j : Nat) : w.frozen? ⟨g, j, none⟩ = false := by
  obtain ⟨xs, hx⟩ := h
  exact hx.frozenAt j
theorem OwnC.lt {B : Nat} {v : Value} {n : Nat} {w : World} (h : OwnC B v n w) {k : Nat} (hk : v.ownBlock = some k) : B ≤ k ∧ k < w.heap.size := by
  obtain ⟨xs, hx⟩ := h
  exact World.ownsRow.lt hx k hk
theorem wpList_app2 {ops : Array Oper} {rest : List Oper} {o : Oper} {a : Act} {Q : Exit → Act → World → Prop} (hgd : o.guard = none) (s x : Operand)
    (ho : o.op = .call { callee := .builtin .append, args := #[s, x], argTypes := #[22, 22] })
    (B : Nat) (v : Value) (n : Nat) (w : World) (hown : OwnC B v n w) (hs : a.eval s = v) (s0 s1 : Tok) (c : Nat)
    (hx : a.eval x = .slice (some ⟨w.heap.size, 0, none⟩) 2 c) (hlen : n + 2 ≤ 1073741824) (hB : B ≤ w.heap.size) (cs : Array Value) (hcs : cs = (tokCells [s0, s1]).toArray)
    (h : ∀ v' w', Below B w w' → wpList Tryd.prog ops Q rest (a.put o.dst v') w') :
    wpList Tryd.prog ops Q (o :: rest) a (w.alloc (.cells cs 42)) := by
  subst hcs
  obtain ⟨xs, hx2⟩ := hown
  obtain ⟨i0, hi, hz0, hz1, hz2⟩ := info_parts infoTok
  refine wpList_append_own _ hgd s x 22 ho B 42 i0 _ 5 48 Tryd.underlying22 hi hz0 hz1 hz2 rfl (by decide) v n _ hs (World.ownsRow.alloc hx2 _) ⟨w.heap.size, 0, none⟩ 2 c (tokCells [s0, s1]) hx rfl (World.news_of_block (cs := (tokCells [s0, s1]).toArray) (heap_alloc_new w _)) (tokCells_one _) (by unfold maxLen; omega) (by omega) (by simp; omega) ?_
  intro v' w' _ hg _
  exact h v' w' (((Below.refl B w).alloc hB _).grown hg (by simp; omega) (fun k hk => (World.ownsRow.lt hx2 k hk).1))
def seven : Tok := ⟨0, ⟨#[]⟩, 7, 0, 0⟩
def eight : Tok := ⟨0, ⟨#[]⟩, 8, 0, 0⟩
set_option maxHeartbeats 2000000 in
set_option maxRecDepth 100000 in
theorem spoil_some (B g n cp : Nat) (w : World) (h : Hid (OwnC B (.slice (some ⟨g, 0, none⟩) n cp) n w)) (hB : B ≤ w.heap.size) (hn : n ≤ 1048576) :
    Calls Tryd.prog 16 #[.slice (some ⟨g, 0, none⟩) n cp] w fun e w' => e = .returned (.tuple #[]) ∧ Below B w w' := by
  have hg := (h.out.lt (k := g) rfl).1
  go_enter Tryd.func16, Tryd.ntmps16
  go_wp2
  go_loopw [2] (fun i wr => ∃ k : Nat, k ≤ n ∧ i = .int .i64 k ∧ Hid (OwnC B (.slice (some ⟨g, 0, none⟩) n cp) n wr) ∧ Below B w wr) (fun i _ => n - (intOf i).toNat)
  case atStart => exact ⟨0, Nat.zero_le _, rfl, h, Below.refl _ _⟩
  case round =>
    obtain ⟨k, hk, rfl, HO, hb⟩ := hrel
    clear h
    by_cases hlt : k < n
    · obtain ⟨u0, c0⟩ := HO.out.cell (k * 5) (by omega)
      obtain ⟨u1, c1⟩ := HO.out.cell (k * 5 + 1) (by omega)
      obtain ⟨u2, c2⟩ := HO.out.cell (k * 5 + 2) (by omega)
      obtain ⟨u3, c3⟩ := HO.out.cell (k * 5 + 3) (by omega)
      obtain ⟨u4, c4⟩ := HO.out.cell (k * 5 + 4) (by omega)
      have f0 := HO.out.frozen (k * 5)
      have f1 := HO.out.frozen (k * 5 + 1)
      have f2 := HO.out.frozen (k * 5 + 2)
      have f3 := HO.out.frozen (k * 5 + 3)
      have f4 := HO.out.frozen (k * 5 + 4)
      go_wp2
      go_roundw
      case rel => exact ⟨k + 1, by omega, by go_num, Lib.hid (((((HO.out.store _ _).store _ _).store _ _).store _ _).store _ _), ((((hb.setCell (p := ⟨g, k * 5, none⟩) hg _).setCell (p := ⟨g, k * 5 + 1, none⟩) hg _).setCell (p := ⟨g, k * 5 + 2, none⟩) hg _).setCell (p := ⟨g, k * 5 + 3, none⟩) hg _).setCell (p := ⟨g, k * 5 + 4, none⟩) hg _⟩
      case measure => simp [intOf]; omega
    · have hsz := hb.size
      go_wp2_with (at_builtin; refine wpList_app2 rfl _ _ rfl B _ n wr HO.out rfl seven eight _ rfl (by omega) (by omega) _ rfl ?_; intro v2 w2 hb2)
      go_end0
      exact ⟨rfl, hb.trans hb2⟩
set_option maxHeartbeats 2000000 in
set_option maxRecDepth 100000 in
theorem spoil_nil (w : World) :
    Calls Tryd.prog 16 #[.slice none 0 0] w fun e w' => e = .returned (.tuple #[]) ∧ Below w.heap.size w w' := by
  have h : Hid (OwnC w.heap.size (.slice none 0 0) 0 w) := ⟨[], World.ownsRow_nil w _ _ _⟩
  go_enter Tryd.func16, Tryd.ntmps16
  go_wp2
  go_loopw [2] (fun i wr => i = .int .i64 ((0 : Nat) : Int) ∧ w = wr) (fun i _ => 0)
  case atStart => exact ⟨rfl, rfl⟩
  case round =>
    obtain ⟨rfl, rfl⟩ := hrel
    go_wp2_with (at_builtin; refine wpList_app2 rfl _ _ rfl w.heap.size _ 0 w h.out rfl seven eight _ rfl (by omega) (Nat.le_refl _) _ rfl ?_; intro v2 w2 hb2)
    go_end0
    exact ⟨rfl, hb2⟩
theorem spoil_any (B : Nat) (v : Value) (l : List Tok) (w : World) (h : OwnT B v l w) (hB : B ≤ w.heap.size) (hn : l.length ≤ 1048576) :
    Calls Tryd.prog 16 #[v] w fun e w' => e = .returned (.tuple #[]) ∧ Below B w w' := by
  have h' : OwnC B v l.length w := ⟨_, h⟩
  rcases h.2 with ⟨rfl, h0⟩ | ⟨g, cap, cur, rfl, _⟩
  · exact (spoil_nil w).mono fun e w' ⟨h1, h2⟩ => ⟨h1, h2.mono hB⟩
  · exact spoil_some B g l.length cap w (Lib.hid h') hB hn
end Go.Proofs.YtjmgfhbadnechaaDoor.Lss
