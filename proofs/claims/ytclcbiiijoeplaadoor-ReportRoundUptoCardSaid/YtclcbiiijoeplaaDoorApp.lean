/- Laws for a []byte that the call itself has made: appending some bytes just built, turning it into a string. -/
import Derived.Test.YtclcbiiijoeplaaDoorProg
import Derived.Laws.AppendOwn
import Derived.Lib.UnsafeStr
import Derived.Lib.AppendStr
import Derived.Laws.IdiomStrings
import Derived.Laws.BytesArg
import Derived.WalkKit
import Derived.KernelRfl
import Derived.Below
set_option linter.unusedVariables false
namespace Go.Proofs.YtclcbiiijoeplaaDoor.App
open Go.RowKit

theorem infoByte : (Tryd.prog.info? 5).map (fun i => (i.zero, i.size, i.bytes)) = some (some (.int .u8 0), 1, 1) := by kernel_rfl

/-- v is a []byte of the call's own (in blocks from B on) that reads l. -/
def Own (B : Nat) (v : Value) (l : List UInt8) (w : World) : Prop := w.ownsRow B 5 1 v l.length (Lib.byteCells l)

theorem Own.nil (B : Nat) (w : World) : Own B (.slice none 0 0) [] w := World.ownsRow_nil w B _ 1
theorem Own.alloc {B : Nat} {v : Value} {l : List UInt8} {w : World} (h : Own B v l w) (o : Obj) : Own B v l (w.alloc o) := World.ownsRow.alloc h o
theorem Own.drew {B : Nat} {v : Value} {l : List UInt8} {w : World} (h : Own B v l w) : Own B v l w.drew := h
theorem Own.shape {B : Nat} {v : Value} {l : List UInt8} {w : World} (h : Own B v l w) : ∃ A c, v = .slice A l.length c := by
  rcases h.2 with ⟨hv, h0⟩ | ⟨g, cap, cur, hv, _⟩
  · exact ⟨none, 0, by rw [hv, h0]⟩
  · exact ⟨_, _, hv⟩
theorem Own.made (B : Nat) (l : List UInt8) (w : World) (cs : Array Value) (hcs : cs = (Lib.byteCells l).toArray) (hB : B ≤ w.heap.size) (hm : l.length ≤ maxLen) :
    Own B (.slice (some ⟨w.heap.size, 0, none⟩) l.length l.length) l (w.alloc (.cells cs 5)) := by
  subst hcs
  refine ⟨by simp [Lib.byteCells], .inr ⟨w.heap.size, l.length, (Lib.byteCells l).toArray, rfl, hB, ?_, Nat.le_refl _, hm, by simp [Lib.byteCells], by rw [Nat.mul_one, List.take_of_length_le (by simp [Lib.byteCells])]⟩⟩
  exact heap_alloc_new w _

theorem new_cells (w : World) (l : List UInt8) (cs : Array Value) (hcs : cs = (Lib.byteCells l).toArray) : ∀ j u, (Lib.byteCells l)[j]? = some u → (w.alloc (.cells cs 5)).cell? ((⟨w.heap.size, 0, none⟩ : Addr).add j) = some u := by
  intro j u hu
  subst hcs
  have ha : ((⟨w.heap.size, 0, none⟩ : Addr).add j) = ⟨w.heap.size, j, none⟩ := by unfold Addr.add; split <;> simp_all
  rw [ha, World.cell?_alloc_at _ _ _ _ rfl]
  simpa using hu
theorem one_cells (l : List UInt8) : ∀ u ∈ Lib.byteCells l, u.oneCell' = true := by
  intro u hu
  simp only [Lib.byteCells, List.mem_map] at hu
  obtain ⟨c, _, rfl⟩ := hu
  rfl

theorem wpList_app {ops : Array Oper} {rest : List Oper} {o : Oper} {a : Act} {Q : Exit → Act → World → Prop} (hgd : o.guard = none) (s x : Operand)
    (ho : o.op = .call { callee := .builtin .append, args := #[s, x], argTypes := #[55, 55] })
    (B : Nat) (v : Value) (l : List UInt8) (w : World) (hown : Own B v l w) (hs : a.eval s = v) (m : List UInt8) (cs : Array Value) (hcs : cs = (Lib.byteCells m).toArray) (n c : Nat) (hn : n = m.length)
    (hx : a.eval x = .slice (some ⟨w.heap.size, 0, none⟩) n c) (hlen : l.length + m.length ≤ 140737488355328) (hB : B ≤ w.heap.size)
    (h : ∀ v' w', Own B v' (l ++ m) w' → Below B w w' → wpList Tryd.prog ops Q rest (a.put o.dst v') w') :
    wpList Tryd.prog ops Q (o :: rest) a (w.alloc (.cells cs 5)) := by
  subst hn
  obtain ⟨i0, hi, hz0, hz1, hz2⟩ := info_parts infoByte
  refine wpList_append_own _ hgd s x 55 ho B 5 i0 (.int .u8 0) 1 1 Tryd.underlying55 hi hz0 hz1 hz2 rfl (by decide) v l.length _ hs (World.ownsRow.alloc hown _) ⟨w.heap.size, 0, none⟩ m.length c (Lib.byteCells m) hx (by simp [Lib.byteCells]) (new_cells w m cs hcs) (one_cells m) (by unfold maxLen; omega) (by omega) (by simp; omega) ?_
  intro v' w' hown' hg _
  refine h v' w' ?_ (((Below.refl B w).alloc hB _).grown hg (by simp; omega) (fun k hk => (World.ownsRow.lt hown k hk).1))
  unfold Own
  rw [Lib.byteCells_append, List.length_append]
  exact hown'

theorem run_string (B : Nat) (v : Value) (l : List UInt8) (w : World) (h : Own B v l w) : (convert 55 9 v).run Tryd.prog w = .ok (.string ⟨l.toArray⟩) w := by
  rcases h.2 with ⟨rfl, h0⟩ | ⟨g, cap, cur, rfl, _, hg, _, _, _, htk⟩
  · have : l = [] := List.length_eq_zero_iff.1 h0
    subst this
    exact run_convert_bytes_nil (P := Tryd.prog) w 55 5 Tryd.underlying55 Tryd.underlying5 0 0 9 Tryd.underlying9
  · exact run_convert_bytes_back w _ _ 5 ⟨g, 0, none⟩ cap l Tryd.underlying55 Tryd.underlying5 Tryd.underlying9 (fun j hj => World.ownsRow.cells h rfl j _ (by simp [Lib.byteCells, hj]))
end Go.Proofs.YtclcbiiijoeplaaDoor.App
