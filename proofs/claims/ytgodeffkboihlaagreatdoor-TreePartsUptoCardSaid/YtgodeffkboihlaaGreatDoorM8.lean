/- A part of the proof; several texts in one file. -/
import Derived.Test.YtgodeffkboihlaaGreatDoorProg
import Derived.Laws.AppendOwn
import Derived.Lib.UnsafeStr
import Derived.Lib.AppendStr
import Derived.Laws.IdiomStrings
import Derived.Laws.BytesArg
import Derived.WalkKit
import Derived.KernelRfl
import Derived.Below
import Derived.Deep.AppendSrc
import Derived.Deep.Upon
import Derived.Test.YtgodeffkboihlaaGreatDoorM1
/- Laws for a []byte that the call itself has made: appending some bytes just built, turning it into a string. -/
set_option linter.unusedVariables false
namespace Go.Proofs.YtgodeffkboihlaaGreatDoor.App
open Go.RowKit

theorem infoByte : (Tryz.prog.info? 5).map (fun i => (i.zero, i.size, i.bytes)) = some (some (.int .u8 0), 1, 1) := by kernel_rfl

/-- v is a []byte of the call's own (in blocks from B on) that reads l. -/
def Own (B : Nat) (v : Value) (l : List UInt8) (w : World) : Prop := w.ownsRow B 5 1 v l.length (Lib.byteCells l)

theorem Own.nil (B : Nat) (w : World) : Own B (.slice none 0 0) [] w := World.ownsRow_nil w B _ 1
theorem Own.alloc {B : Nat} {v : Value} {l : List UInt8} {w : World} (h : Own B v l w) (o : Obj) : Own B v l (w.alloc o) := World.ownsRow.alloc h o
theorem Own.drew {B : Nat} {v : Value} {l : List UInt8} {w : World} (h : Own B v l w) : Own B v l w.drew := h
theorem Own.shape {B : Nat} {v : Value} {l : List UInt8} {w : World} (h : Own B v l w) : ∃ A c, v = .slice A l.length c := by
  rcases h.2 with ⟨hv, h0⟩ | ⟨g, cap, cur, hv, _⟩
  · exact ⟨none, 0, by rw [hv, h0]⟩
  · exact ⟨_, _, hv⟩
theorem Own.made (B : Nat) (l : List UInt8) (w : World) (cs : Array Value) (hcs : cs = (Lib.byteCells l).toArray) (hB : B ≤ w.heap.size) (hm : l.length ≤ maxLen) :
    Own B (.slice (some ⟨w.heap.size, 0, none⟩) l.length l.length) l (w.alloc (.cells cs 5)) := by
  subst hcs
  refine ⟨by simp [Lib.byteCells], .inr ⟨w.heap.size, l.length, (Lib.byteCells l).toArray, rfl, hB, ?_, Nat.le_refl _, hm, by simp [Lib.byteCells], by rw [Nat.mul_one, List.take_of_length_le (by simp [Lib.byteCells])]⟩⟩
  exact heap_alloc_new w _

theorem new_cells (w : World) (l : List UInt8) (cs : Array Value) (hcs : cs = (Lib.byteCells l).toArray) : ∀ j u, (Lib.byteCells l)[j]? = some u → (w.alloc (.cells cs 5)).cell? ((⟨w.heap.size, 0, none⟩ : Addr).add j) = some u := by
  intro j u hu
  subst hcs
  have ha : ((⟨w.heap.size, 0, none⟩ : Addr).add j) = ⟨w.heap.size, j, none⟩ := by unfold Addr.add; split <;> simp_all
  rw [ha, World.cell?_alloc_at _ _ _ _ rfl]
  simpa using hu
theorem one_cells (l : List UInt8) : ∀ u ∈ Lib.byteCells l, u.oneCell' = true := by
  intro u hu
  simp only [Lib.byteCells, List.mem_map] at hu
  obtain ⟨c, _, rfl⟩ := hu
  rfl

theorem wpList_app {ops : Array Oper} {rest : List Oper} {o : Oper} {a : Act} {Q : Exit → Act → World → Prop} (hgd : o.guard = none) (s x : Operand)
    (ho : o.op = .call { callee := .builtin .append, args := #[s, x], argTypes := #[46, 46] })
    (B : Nat) (v : Value) (l : List UInt8) (w : World) (hown : Own B v l w) (hs : a.eval s = v) (m : List UInt8) (cs : Array Value) (hcs : cs = (Lib.byteCells m).toArray) (n c : Nat) (hn : n = m.length)
    (hx : a.eval x = .slice (some ⟨w.heap.size, 0, none⟩) n c) (hlen : l.length + m.length ≤ 140737488355328) (hB : B ≤ w.heap.size)
    (h : ∀ v' w', Own B v' (l ++ m) w' → Below B w w' → wpList Tryz.prog ops Q rest (a.put o.dst v') w') :
    wpList Tryz.prog ops Q (o :: rest) a (w.alloc (.cells cs 5)) := by
  subst hn
  obtain ⟨i0, hi, hz0, hz1, hz2⟩ := info_parts infoByte
  refine wpList_append_own _ hgd s x 46 ho B 5 i0 (.int .u8 0) 1 1 Tryz.underlying46 hi hz0 hz1 hz2 rfl (by decide) v l.length _ hs (World.ownsRow.alloc hown _) ⟨w.heap.size, 0, none⟩ m.length c (Lib.byteCells m) hx (by simp [Lib.byteCells]) (new_cells w m cs hcs) (one_cells m) (by unfold maxLen; omega) (by omega) (by simp; omega) ?_
  intro v' w' hown' hg _
  refine h v' w' ?_ (((Below.refl B w).alloc hB _).grown hg (by simp; omega) (fun k hk => (World.ownsRow.lt hown k hk).1))
  unfold Own
  rw [Lib.byteCells_append, List.length_append]
  exact hown'

theorem run_string (B : Nat) (v : Value) (l : List UInt8) (w : World) (h : Own B v l w) : (convert 46 9 v).run Tryz.prog w = .ok (.string ⟨l.toArray⟩) w := by
  rcases h.2 with ⟨rfl, h0⟩ | ⟨g, cap, cur, rfl, _, hg, _, _, _, htk⟩
  · have : l = [] := List.length_eq_zero_iff.1 h0
    subst this
    exact run_convert_bytes_nil (P := Tryz.prog) w 46 5 Tryz.underlying46 Tryz.underlying5 0 0 9 Tryz.underlying9
  · exact run_convert_bytes_back w _ _ 5 ⟨g, 0, none⟩ cap l Tryz.underlying46 Tryz.underlying5 Tryz.underlying9 (fun j hj => World.ownsRow.cells h rfl j _ (by simp [Lib.byteCells, hj]))
end Go.Proofs.YtgodeffkboihlaaGreatDoor.App

/- 'append' of whatever yields cells (a string's bytes, a slice, nothing) onto a row of the call's own; a string onto an own []byte. -/
set_option linter.unusedVariables false
namespace Go.Proofs.YtgodeffkboihlaaGreatDoor.Aps
open Go.RowKit App

section
variable {P : Program} (w : World)
theorem room_src (t tx ty e : TypeId) (i : TypeInfo) (ht : P.underlying t = some (.slice e)) (hi : P.info? e = some i)
    (g sLen sCap : Nat) (cur : Array Value) (hg : w.heap[g]? = some (.cells cur e (0, 0)))
    (x : Value) (m : Nat) (news : List Value) (hs : Src P i.size tx x m news w)
    (hroom : sLen + m ≤ sCap) (hfit : sLen * i.size + news.length ≤ cur.size) :
    (Builtin.append_ #[t, tx] ty #[.slice (some ⟨g, 0, none⟩) sLen sCap, x]).run P w =
      .ok (.slice (some ⟨g, 0, none⟩) (sLen + m) sCap) (w.setRow g (cur.toList.take (sLen * i.size) ++ news ++ cur.toList.drop (sLen * i.size + news.length)).toArray) := by
  have hst := run_storeCells_at P g (sLen * i.size) e news 0 cur w hg (by simpa using hfit) hs.one
  simp only [Nat.add_zero] at hst
  rcases hs.kind with ⟨e', hk⟩ | hk <;> simp [Builtin.append_, run_underlying ht, run_underlying hk, sizeOf, typeInfo, hi, hs.len, hroom, hs.cells, Addr.add_lit, hst]

theorem own_src (base : Nat) (t tx ty e : TypeId) (i : TypeInfo) (z : Value) (size bytes : Nat) (ht : P.underlying t = some (.slice e)) (hi : P.info? e = some i) (hz : i.zero = some z)
    (hsize : i.size = size) (hby : i.bytes = bytes) (hzs : z.cells.size = size) (hsz : 0 < size)
    (v : Value) (n : Nat) (xs : List Value) (hown : w.ownsRow base e size v n xs)
    (x : Value) (m : Nat) (news : List Value) (hs : Src P size tx x m news w)
    (h63 : n + m ≤ maxLen) (hbytes : (n + m) * bytes ≤ 140737488355328) (hbase : base ≤ w.heap.size) :
    ∃ v' w', (Builtin.append_ #[t, tx] ty #[v, x]).run P w = .ok v' w' ∧ w'.ownsRow base e size v' (n + m) (xs ++ news) ∧ w.grownBy w' v.ownBlock := by
  subst hsize
  subst hby
  have hl := hs.newsLen
  have hsmall : n + m ≤ 9223372036854775807 := by simp only [maxLen] at h63; omega
  have hlen : (xs ++ news).length = (n + m) * i.size := by rw [List.length_append, hown.1, hl, Nat.add_mul]
  have grown : ∀ (old : Nat), old < n + m → ∀ (row : Option Nat),
      (w.drew.alloc (.cells ((xs ++ news).toArray ++ Builtin.zeroCells z.cells (grownCap w (n + m) old e - (n + m))) e)).ownsRow base e i.size
        (.slice (some ⟨w.heap.size, 0, none⟩) (n + m) (grownCap w (n + m) old e)) (n + m) (xs ++ news) ∧
      w.grownBy (w.drew.alloc (.cells ((xs ++ news).toArray ++ Builtin.zeroCells z.cells (grownCap w (n + m) old e - (n + m))) e)) row := by
    intro old ho row
    have hge := grownCap_ge w (n + m) old e
    have hcm : grownCap w (n + m) old e ≤ maxLen := grownCap_le_maxLen w (n + m) old e h63
    refine ⟨⟨hlen, .inr ⟨w.heap.size, _, _, rfl, hbase, heap_alloc_new w.drew _, hge, hcm, ?_, ?_⟩⟩, ⟨rfl, rfl, rfl, by simp, fun k hk _ => by rw [heap_alloc_old w.drew _ (by simpa using hk)]; rfl⟩⟩
    · rw [Array.size_append, List.size_toArray, size_zeroCells, hzs, hlen, ← Nat.add_mul]
      congr 1
      omega
    · simp only [Array.toList_append]
      rw [← hlen]
      exact List.take_left
  rcases hown.2 with ⟨rfl, rfl⟩ | ⟨g, cap, cur, rfl, hbg, hg, hnc, hcm, hcs, htake⟩
  · have hx : xs = [] := List.eq_nil_of_length_eq_zero (by simpa using hown.1)
    subst hx
    by_cases hm : m = 0
    · subst hm
      have hn : news = [] := List.eq_nil_of_length_eq_zero (by simpa using hl)
      subst hn
      exact ⟨.slice none 0 0, w, run_append_nothing w t tx ty e i ht hi none 0 0 (Nat.le_refl _) x hs, World.ownsRow_nil w base e i.size, ⟨rfl, rfl, rfl, Nat.le_refl _, fun _ _ _ => rfl⟩⟩
    · have hr := run_append_grow_src (P := P) w t tx ty e i z ht hi hz none 0 0 [] (run_firstCells_none w.drew i.size 0 0 0) x m news hs (by omega) (by omega) (growslice_fits (by omega) (by simpa using hbytes))
      have hgr := grown 0 (by omega) (Value.ownBlock (.slice none 0 0))
      simp only [Nat.zero_add, List.nil_append] at hgr hr ⊢
      exact ⟨_, _, hr, hgr.1, hgr.2⟩
  · by_cases hroom : n + m ≤ cap
    · have hfit : n * i.size + news.length ≤ cur.size := by rw [hl, hcs, ← Nat.add_mul]; exact Nat.mul_le_mul_right _ hroom
      have hr := room_src (P := P) w t tx ty e i ht hi g n cap cur hg x m news hs hroom hfit
      refine ⟨_, _, hr, ⟨hlen, .inr ⟨g, cap, _, rfl, hbg, setRow_heap w g cur _ e _ hg, hroom, hcm, ?_, ?_⟩⟩, ⟨rfl, rfl, rfl, by simp, fun k _ hk => setRow_other w g k _ (fun e => hk (by simp [Value.ownBlock, e]))⟩⟩
      · simp only [List.size_toArray, List.length_append, List.length_take, List.length_drop, Array.length_toList]
        omega
      · rw [htake, ← hlen]
        exact List.take_left
    · have holds : ∀ j u, xs[j]? = some u → w.cell? ((⟨g, 0, none⟩ : Addr).add j) = some u := hown.cells (g := g) rfl
      have hr := run_append_grow_src (P := P) w t tx ty e i z ht hi hz (some ⟨g, 0, none⟩) n cap xs (run_firstCells_some w.drew i.size n ⟨g, 0, none⟩ n cap xs hown.1 (by simpa using holds)) x m news hs (by omega) (by omega) (growslice_fits (by omega) hbytes)
      have hgr := grown cap (by omega) (Value.ownBlock (.slice (some ⟨g, 0, none⟩) n cap))
      exact ⟨_, _, hr, hgr.1, hgr.2⟩
end

theorem wpList_app_src {P : Program} (w : World) {ops : Array Oper} {rest : List Oper} {o : Oper} {a : Act} {Q : Exit → Act → World → Prop} (hgd : o.guard = none) (s x : Operand) (t tx : TypeId)
    (ho : o.op = .call { callee := .builtin .append, args := #[s, x], argTypes := #[t, tx] })
    (base : Nat) (e : TypeId) (i : TypeInfo) (z : Value) (size bytes : Nat) (ht : P.underlying t = some (.slice e)) (hi : P.info? e = some i) (hz : i.zero = some z)
    (hsize : i.size = size) (hby : i.bytes = bytes) (hzs : z.cells.size = size) (hsz : 0 < size)
    (v : Value) (n : Nat) (xs : List Value) (hs : a.eval s = v) (hown : w.ownsRow base e size v n xs)
    (xv : Value) (m : Nat) (news : List Value) (hx : a.eval x = xv) (hsrc : Src P size tx xv m news w)
    (h63 : n + m ≤ maxLen) (hbytes : (n + m) * bytes ≤ 140737488355328) (hbase : base ≤ w.heap.size)
    (h : ∀ v' w', w'.ownsRow base e size v' (n + m) (xs ++ news) → w.grownBy w' v.ownBlock → wpList P ops Q rest (a.put o.dst v') w') : wpList P ops Q (o :: rest) a w := by
  refine wpList_plain hgd fun K hK' => ?_
  obtain ⟨v', w', hrun, h2, h3⟩ := own_src (P := P) w base t tx o.type e i z size bytes ht hi hz hsize hby hzs hsz v n xs hown xv m news hsrc h63 hbytes hbase
  unfold Oper.wp
  simp [execOp, ho, resolve, invoke, builtin, hs, hx, hrun, Result.andThen]
  exact hK' _ _ (h v' w' h2 h3)

theorem wpList_appS {ops : Array Oper} {rest : List Oper} {o : Oper} {a : Act} {Q : Exit → Act → World → Prop} (hgd : o.guard = none) (s x : Operand)
    (ho : o.op = .call { callee := .builtin .append, args := #[s, x], argTypes := #[46, 9] })
    (B : Nat) (v : Value) (l : List UInt8) (w : World) (hown : Own B v l w) (hs : a.eval s = v) (m : ByteArray)
    (hx : a.eval x = .string m) (hlen : l.length + m.size ≤ 140737488355328) (hB : B ≤ w.heap.size)
    (h : ∀ v' w', Own B v' (l ++ m.data.toList) w' → Below B w w' → wpList Tryz.prog ops Q rest (a.put o.dst v') w') :
    wpList Tryz.prog ops Q (o :: rest) a w := by
  obtain ⟨i0, hi, hz0, hz1, hz2⟩ := info_parts infoByte
  refine wpList_app_src _ hgd s x 46 9 ho B 5 i0 (.int .u8 0) 1 1 Tryz.underlying46 hi hz0 hz1 hz2 rfl (by decide) v l.length _ hs hown _ m.size (Go.byteCells m) hx (Src.ofString w Tryz.underlying9 m) (by unfold maxLen; omega) (by omega) hB ?_
  intro v' w' hown' hg
  refine h v' w' ?_ ((Below.refl B w).grown hg hB (fun k hk => (World.ownsRow.lt hown k hk).1))
  unfold Own
  rw [Lib.byteCells_append, List.length_append]
  exact hown'
end Go.Proofs.YtgodeffkboihlaaGreatDoor.Aps

/- A list of kids in memory as append's source; a row of such nodes is a tree's list of kids. -/
set_option linter.unusedVariables false
namespace Go.Proofs.YtgodeffkboihlaaGreatDoor.Tpb
open Go.RowKit Tra Trb Trf Rwo Trc

variable {w w' : World} {S : Nat → Prop}
/-- The nodes of a list of kids, as they stand in a row. -/
structure Src8 (w : World) (S : Nat → Prop) (ks : List Tr) (a : Option Addr) (zs : List Nv) : Prop where
  len : zs.length = ks.length
  each : ∀ j, j < ks.length → Lies w S (ks.getD j tr0) (zs.getD j nv0).val
  cells : ks = [] ∨ ∃ b o, a = some ⟨b, o, none⟩ ∧ b < w.heap.size ∧ ∀ j u, (zs.flatMap nE.f)[j]? = some u → w.cell? ((⟨b, o, none⟩ : Addr).add j) = some u
theorem Src8.of {d : Nd} {ks : List Tr} {a : Option Addr} {n c : Nat} (h : Lies w S (.mk d ks) (d.val a n c)) : ∃ zs, Src8 w S ks a zs := by
  obtain ⟨a', c', ds, xs, ns, cs, e, hcap, hat, hk⟩ : ∃ (a' : Option Addr) (c' : Nat) (ds : Nat → Nd) (xs : Nat → Option Addr) (ns cs : Nat → Nat), d.val a n c = d.val a' ks.length c' ∧ ks.length ≤ c' ∧ (ks = [] ∨ ∃ b o, a' = some ⟨b, o, none⟩ ∧ b < w.heap.size ∧ S b ∧ ∀ j, j < ks.length → ∀ i, i < 8 → w.cell? ⟨b, o + j * 8 + i, none⟩ = ((ds j).row (xs j) (ns j) (cs j))[i]?) ∧ ∀ j, j < ks.length → Lies w S (ks.getD j tr0) ((ds j).val (xs j) (ns j) (cs j)) := by
    generalize hv : d.val a n c = v at h
    cases h with
    | mk d ks a c ds xs ns cs hcap hat hk => exact ⟨a, c, ds, xs, ns, cs, rfl, hcap, hat, hk⟩
  have e1 : a = a' := by
    simp only [Value.agg.injEq] at e
    have := congrArg Array.toList e
    simp only [List.cons.injEq, Value.slice.injEq] at this
    exact this.2.2.2.2.2.2.2.1.1
  subst e1
  have hget : ∀ j, j < ks.length → ((List.range ks.length).map fun j => (⟨ds j, xs j, ns j, cs j⟩ : Nv)).getD j nv0 = ⟨ds j, xs j, ns j, cs j⟩ := fun j hj => by simp [List.getD_eq_getElem?_getD, hj]
  refine ⟨(List.range ks.length).map fun j => ⟨ds j, xs j, ns j, cs j⟩, by simp, fun j hj => by rw [hget j hj]; exact hk j hj, ?_⟩
  rcases hat with h | ⟨b, o, h1, h2, _, h4⟩
  · exact .inl h
  · refine .inr ⟨b, o, h1, h2, fun J u hJ => ?_⟩
    obtain ⟨hlt, _⟩ := List.getElem?_eq_some_iff.1 hJ
    rw [flat_length, List.length_map, List.length_range] at hlt
    have hlt : J < ks.length * 8 := hlt
    have hj : J / 8 < ks.length := by omega
    have hi : J % 8 < 8 := Nat.mod_lt _ (by decide)
    have hd : J = J / 8 * 8 + J % 8 := by omega
    have h5 := flat_at nE ((List.range ks.length).map fun j => (⟨ds j, xs j, ns j, cs j⟩ : Nv)) (J / 8) (J % 8) (by simpa using hj) hi
    have h6 : J / 8 * nE.z + J % 8 = J := by show J / 8 * 8 + J % 8 = J; omega
    rw [h6, hJ] at h5
    have h7 := h4 (J / 8) hj (J % 8) hi
    rw [show nE.d = nv0 from rfl, hget _ hj] at h5
    have h8 : o + J / 8 * 8 + J % 8 = o + J := by omega
    rw [h8] at h7
    rw [Addr.add_lit, h7]
    exact h5.symm
theorem Src8.kept {ks : List Tr} {a : Option Addr} {zs : List Nv} (h : Src8 w S ks a zs) (hb : Below w.heap.size w w') : Src8 w' S ks a zs :=
  ⟨h.len, fun j hj => (h.each j hj).kept hb, h.cells.imp id fun ⟨b, o, h1, h2, h3⟩ => ⟨b, o, h1, Nat.lt_of_lt_of_le h2 hb.size, fun j u hu => (World.cell?_of_block (a := (⟨b, o, none⟩ : Addr).add j) (by rw [Addr.add_lit]; exact hb.block b h2)).trans (h3 j u hu)⟩⟩
theorem Src8.src {ks : List Tr} {a : Option Addr} {zs : List Nv} {c : Nat} (h : Src8 w S ks a zs) : Src Tryz.prog 8 23 (.slice a ks.length c) ks.length (zs.flatMap nE.f) w := by
  have hl : (zs.flatMap nE.f).length = ks.length * 8 := by rw [flat_length, h.len]; rfl
  rcases h.cells with hk | ⟨b, o, rfl, _, h2⟩
  · subst hk
    obtain rfl : zs = [] := List.eq_nil_of_length_eq_zero h.len
    cases a with
    | none => exact Src.ofNil w Tryz.underlying23 c
    | some x => exact Src.ofSlice w Tryz.underlying23 x 0 c [] rfl (fun j u hu => by cases hu) (fun u hu => by cases hu)
  · exact Src.ofSlice w Tryz.underlying23 _ _ c _ hl h2 (flat_one nE _)
/-- Behind an append the row lies where it lay, or in a new block. -/
theorem own_src2 {P : Program} (w : World) (base : Nat) (t tx ty e : TypeId) (i : TypeInfo) (z : Value) (size bytes : Nat) (ht : P.underlying t = some (.slice e)) (hi : P.info? e = some i) (hz : i.zero = some z)
    (hsize : i.size = size) (hby : i.bytes = bytes) (hzs : z.cells.size = size) (hsz : 0 < size)
    (v : Value) (n : Nat) (xs : List Value) (hown : w.ownsRow base e size v n xs)
    (x : Value) (m : Nat) (news : List Value) (hs : Src P size tx x m news w)
    (h63 : n + m ≤ maxLen) (hbytes : (n + m) * bytes ≤ 140737488355328) (hbase : base ≤ w.heap.size) :
    ∃ v' w', (Builtin.append_ #[t, tx] ty #[v, x]).run P w = .ok v' w' ∧ w'.ownsRow base e size v' (n + m) (xs ++ news) ∧ w.grownBy w' v.ownBlock ∧ (∀ g, v'.ownBlock = some g → v.ownBlock = some g ∨ w.heap.size ≤ g) := by
  obtain ⟨v', w', h1, h2, h3⟩ := Aps.own_src (P := P) w base t tx ty e i z size bytes ht hi hz hsize hby hzs hsz v n xs hown x m news hs h63 hbytes hbase
  have hl := hs.newsLen
  have hsmall : n + m ≤ 9223372036854775807 := by simp only [maxLen] at h63; omega
  refine ⟨v', w', h1, h2, h3, fun g hg => ?_⟩
  subst hsize
  subst hby
  rcases hown.2 with ⟨rfl, rfl⟩ | ⟨g0, cap, cur, rfl, hbg, hg0, hnc, hcm, hcs, htake⟩
  · have hx : xs = [] := List.eq_nil_of_length_eq_zero (by simpa using hown.1)
    subst hx
    by_cases hm : m = 0
    · subst hm
      have hn : news = [] := List.eq_nil_of_length_eq_zero (by simpa using hl)
      subst hn
      have := run_append_nothing w t tx ty e i ht hi none 0 0 (Nat.le_refl _) x hs
      rw [h1] at this
      simp only [Result.ok.injEq] at this
      rw [this.1] at hg; cases hg
    · have hr := run_append_grow_src (P := P) w t tx ty e i z ht hi hz none 0 0 [] (run_firstCells_none w.drew i.size 0 0 0) x m news hs (by omega) (by omega) (growslice_fits (by omega) (by simpa using hbytes))
      simp only [Nat.zero_add, List.nil_append] at hr
      rw [h1] at hr
      simp only [Result.ok.injEq] at hr
      rw [hr.1] at hg
      simp only [Value.ownBlock, Option.some.injEq] at hg
      exact .inr (by omega)
  · by_cases hroom : n + m ≤ cap
    · have hfit : n * i.size + news.length ≤ cur.size := by rw [hl, hcs, ← Nat.add_mul]; exact Nat.mul_le_mul_right _ hroom
      have hr := Aps.room_src (P := P) w t tx ty e i ht hi g0 n cap cur hg0 x m news hs hroom hfit
      rw [h1] at hr
      simp only [Result.ok.injEq] at hr
      rw [hr.1] at hg
      exact .inl hg
    · have holds : ∀ j u, xs[j]? = some u → w.cell? ((⟨g0, 0, none⟩ : Addr).add j) = some u := hown.cells (g := g0) rfl
      have hr := run_append_grow_src (P := P) w t tx ty e i z ht hi hz (some ⟨g0, 0, none⟩) n cap xs (run_firstCells_some w.drew i.size n ⟨g0, 0, none⟩ n cap xs hown.1 (by simpa using holds)) x m news hs (by omega) (by omega) (growslice_fits (by omega) hbytes)
      rw [h1] at hr
      simp only [Result.ok.injEq] at hr
      rw [hr.1] at hg
      simp only [Value.ownBlock, Option.some.injEq] at hg
      exact .inr (by omega)
/-- One step: append of a source onto an own row. -/
theorem step_app_src {P : Program} (w : World) {ops : Array Oper} {o : Oper} {a : Act} {K : Act → World → Prop} {Q : Exit → Act → World → Prop} {X : Prop} (hgd : o.guard = none) (s x : Operand) (t tx : TypeId)
    (ho : o.op = .call { callee := .builtin .append, args := #[s, x], argTypes := #[t, tx] })
    (base : Nat) (e : TypeId) (i : TypeInfo) (z : Value) (size bytes : Nat) (ht : P.underlying t = some (.slice e)) (hi : P.info? e = some i) (hz : i.zero = some z)
    (hsize : i.size = size) (hby : i.bytes = bytes) (hzs : z.cells.size = size) (hsz : 0 < size)
    (v : Value) (n : Nat) (xs : List Value) (hs : a.eval s = v) (hown : w.ownsRow base e size v n xs)
    (xv : Value) (m : Nat) (news : List Value) (hx : a.eval x = xv) (hsrc : Src P size tx xv m news w)
    (h63 : n + m ≤ maxLen) (hbytes : (n + m) * bytes ≤ 140737488355328) (hbase : base ≤ w.heap.size)
    (h : ∀ v' w', w'.ownsRow base e size v' (n + m) (xs ++ news) → w.grownBy w' v.ownBlock → (∀ g, v'.ownBlock = some g → v.ownBlock = some g ∨ w.heap.size ≤ g) → K (a.put o.dst v') w') : if Region.wanted o (yielded ops a.tmps) = true then Oper.wp P o a w K Q else X := by
  have hw : Region.wanted o (yielded ops a.tmps) = true := by simp [Region.wanted, hgd]
  rw [if_pos hw]
  obtain ⟨v', w', hrun, h2, h3, h4⟩ := own_src2 (P := P) w base t tx o.type e i z size bytes ht hi hz hsize hby hzs hsz v n xs hown xv m news hsrc h63 hbytes hbase
  unfold Oper.wp
  simp [execOp, ho, resolve, invoke, builtin, hs, hx, hrun, Result.andThen]
  exact h v' w' h2 h3 h4
theorem infoNd8 : (Tryz.prog.info? 25).map (fun i => (i.zero, i.size, i.bytes)) = some (some (.agg #[.int .i64 0, .string .empty, .int .i64 0, .string .empty, .int .i64 0, .int .i64 0, .int .i64 0, .slice none 0 0]), 8, 96) := by kernel_rfl
/-- The state while a node with a list of kids is being made: the list so far; w3: the world ahead of it. -/
structure RowS (w3 : World) (v : Value) (l : List Nv) (w : World) : Prop where
  own : Own nE 25 w3.heap.size v l w
  below : Below w3.heap.size w3 w
abbrev zrow : Array Value := #[.int .i64 0, .string ⟨#[]⟩, .int .i64 0, .string ⟨#[]⟩, .int .i64 0, .int .i64 0, .int .i64 0, .slice none 0 0]
/-- The node's own block, apart from the list. -/
structure BoxS (g : Nat) (v : Value) (w : World) : Prop where
  blk : w.heap[g]? = some (.cells zrow 25 (0, 0))
  ne : v.ownBlock ≠ some g
theorem RowS.base {w3 : World} {v : Value} {l : List Nv} (h : RowS w3 v l w) : w3.heap.size ≤ w.heap.size := h.below.size
theorem RowS.box {w3 : World} {v : Value} {l : List Nv} (h : RowS w3 v l w) : RowS w3 v l (w.alloc (.cells zrow 25)) ∧ BoxS w.heap.size v (w.alloc (.cells zrow 25)) :=
  ⟨⟨h.own.alloc _, h.below.alloc h.below.size _⟩, heap_alloc_new _ _, fun e => by have := (h.own.lt e).2; omega⟩
theorem RowS.start {w3 : World} (h : Below w3.heap.size w3 w) : RowS w3 (.slice (some ⟨w.heap.size, 0, none⟩) 0 0) [] (w.alloc (.cells #[] 25)) :=
  ⟨⟨rfl, .inr ⟨w.heap.size, 0, #[], rfl, h.size, heap_alloc_new _ _, Nat.le_refl _, Nat.zero_le _, rfl, rfl⟩⟩, h.alloc h.size _⟩
theorem BoxS.start {w3 : World} (h : Below w3.heap.size w3 w) : RowS w3 (.slice (some ⟨w.heap.size + 1, 0, none⟩) 0 0) [] ((w.alloc (.cells zrow 25)).alloc (.cells #[] 25)) ∧ BoxS w.heap.size (.slice (some ⟨w.heap.size + 1, 0, none⟩) 0 0) ((w.alloc (.cells zrow 25)).alloc (.cells #[] 25)) := by
  have h1 := RowS.start (h.alloc h.size (.cells zrow 25))
  rw [show (w.alloc (.cells zrow 25)).heap.size = w.heap.size + 1 by simp] at h1
  refine ⟨h1, (heap_alloc_old _ _ (by simp)).trans (heap_alloc_new _ _), fun e => ?_⟩
  simp only [Value.ownBlock, Option.some.injEq] at e
  omega
/-- A list of kids goes behind an own row. -/
theorem step_app8 {ops : Array Oper} {o : Oper} {a : Act} {K : Act → World → Prop} {Q : Exit → Act → World → Prop} {X : Prop} (hgd : o.guard = none) (s x : Operand)
    (ho : o.op = .call { callee := .builtin .append, args := #[s, x], argTypes := #[23, 23] })
    (w3 : World) (v : Value) (l : List Nv) (w : World) (hown : RowS w3 v l w) (hs : a.eval s = v) {S : Nat → Prop} (ks : List Tr) (p : Option Addr) (zs : List Nv) (c : Nat)
    (hx : a.eval x = .slice p ks.length c) (hsrc : Src8 w3 S ks p zs) (hlen : l.length + ks.length ≤ 1048576)
    (h : ∀ x' n' c' w', RowS w3 (.slice x' n' c') (l ++ zs) w' → (∀ g, BoxS g v w → BoxS g (.slice x' n' c') w') → K (a.put o.dst (.slice x' n' c')) w') : if Region.wanted o (yielded ops a.tmps) = true then Oper.wp Tryz.prog o a w K Q else X := by
  obtain ⟨i0, hi, hz0, hz1, hz2⟩ := info_parts infoNd8
  have hsrc := hsrc.kept hown.below
  refine step_app_src w hgd s x 23 23 ho w3.heap.size 25 i0 _ 8 96 Tryz.underlying23 hi hz0 hz1 hz2 rfl (by decide) v l.length _ hs hown.own _ ks.length (zs.flatMap nE.f) hx hsrc.src (by unfold maxLen; omega) (by omega) hown.base ?_
  intro v' w' hown' hg hat
  have ho2 : Own nE 25 w3.heap.size v' (l ++ zs) w' := by
    unfold Own
    rw [List.flatMap_append, List.length_append, hsrc.len]
    exact hown'
  obtain ⟨x', c', rfl⟩ := ho2.shape
  refine h _ _ _ w' ⟨ho2, hown.below.trans ((Below.refl w3.heap.size w).grown hg hown.base (fun k hk => (hown.own.lt hk).1))⟩ fun g hb => ⟨?_, fun e => ?_⟩
  · have hlt : g < w.heap.size := (Array.getElem?_eq_some_iff.1 hb.blk).1
    rw [hg.block g hlt (fun e => hb.ne e.symm)]; exact hb.blk
  · have hlt : g < w.heap.size := (Array.getElem?_eq_some_iff.1 hb.blk).1
    rcases hat g e with h1 | h1
    · exact hb.ne h1
    · omega
/-- An empty list's own row. -/
theorem own_empty (w : World) : Own nE 25 w.heap.size (.slice (some ⟨w.heap.size, 0, none⟩) 0 0) [] (w.alloc (.cells #[] 25)) :=
  ⟨rfl, .inr ⟨w.heap.size, 0, #[], rfl, Nat.le_refl _, heap_alloc_new _ _, Nat.le_refl _, Nat.zero_le _, rfl, rfl⟩⟩
/-- A row of one's own of nodes that lie. -/
theorem lies_of_row {T : TypeId} {B : Nat} {a : Option Addr} {n c : Nat} {ks : List Tr} {zs : List Nv} (ho : Own nE T B (.slice a n c) zs w) (hl : zs.length = ks.length) {S : Nat → Prop} (hS : ∀ b, (Value.slice a n c).ownBlock = some b → S b) (hk : ∀ j, j < ks.length → Lies w S (ks.getD j tr0) (zs.getD j nv0).val) (d : Nd) :
    Lies w S (.mk d ks) (d.val a n c) := by
  obtain ⟨A, c', e⟩ := ho.shape
  simp only [Value.slice.injEq] at e
  obtain ⟨rfl, rfl, rfl⟩ := e
  rw [hl]
  refine .mk d ks a c (fun j => (zs.getD j nv0).d) (fun j => (zs.getD j nv0).a) (fun j => (zs.getD j nv0).n) (fun j => (zs.getD j nv0).c) (by
    by_cases hx : zs = []
    · rw [← hl, hx]; exact Nat.zero_le _
    · obtain ⟨g, cap, cur, e2, _, _, _, h3⟩ := ho.some hx
      simp only [Value.slice.injEq] at e2
      obtain ⟨_, _, rfl⟩ := e2
      rw [← hl]; exact h3) ?_ hk
  by_cases hks : ks = []
  · exact .inl hks
  · right
    have hx : zs ≠ [] := fun e => hks (by rw [e] at hl; exact List.length_eq_zero_iff.1 hl.symm)
    obtain ⟨g, cap, cur, e2, h0, h1, h2, h3⟩ := ho.some hx
    simp only [Value.slice.injEq] at e2
    obtain ⟨rfl, -, rfl⟩ := e2
    refine ⟨g, 0, rfl, h2, hS g rfl, fun j hj i hi => ?_⟩
    have := Own.cell ho j i (by rw [hl]; exact hj) hi
    have e : 0 + j * 8 + i = j * nE.z + i := by show 0 + j * 8 + i = j * 8 + i; omega
    rw [e]; exact this
end Go.Proofs.YtgodeffkboihlaaGreatDoor.Tpb
