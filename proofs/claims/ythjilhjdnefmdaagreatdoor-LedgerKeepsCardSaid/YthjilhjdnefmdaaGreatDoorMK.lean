/- Joined texts: Maps whose keys are pointers to files: what was told. Conditions: none. The files of a store, each once: what the iterator does. Conditions: none. The power goes: what files gives, what a round does. Conditions: none. Regions that draw their order, in a round of a range over a function. Conditions: none. The power goes: what Fail does. Conditions: none. The power goes: what Fail does. Conditions: none. -/
import Derived.Test.YthjilhjdnefmdaaGreatDoorMB
import Derived.LaidEqlPtr
import Derived.RangeFuncNested
import Derived.RangeFuncBound
import Derived.RangeFuncCalls
import Derived.RangeFuncLeaves
import Derived.Shelf.Abstract
import Derived.Shelf.RegionOpen
import Derived.WalkKit
import Derived.OwnWalkIn
import Derived.TacticsInMore
import Derived.LoopNIn
import Derived.LoopIn
import Derived.Sort.QuietIn
import Derived.Test.YthjilhjdnefmdaaGreatDoorMD
import Derived.RangeFuncFrom
import Derived.BigRegion
import Derived.StillTailTactics
import Derived.Deep.Draws
/- Maps whose keys are pointers to files: what was told. Conditions: none. -/
namespace Go.Proofs.YthjilhjdnefmdaaGreatDoor
open Go.RowKit
open Go.ChangeMaps (setBlock)
/-- Block k holds cells, none of them marked. -/
def CellsZ (w : World) (k : Nat) : Prop := ∃ cs t, w.heap[k]? = some (Obj.cells cs t (0, 0))
/-- Block m is a map whose keys are pointers to the blocks xs, each to true. -/
def ToldAt (w : World) (m : Nat) (xs : List Nat) : Prop := ∃ es clk, w.heap[m]? = some (.map es clk) ∧ es.toList.map (fun e => (e.key, e.val)) = xs.map (fun b => (ptr b, Value.bool true))
theorem ToldAt.same {w w' : World} {m : Nat} {xs : List Nat} (h : ToldAt w m xs) (e : w'.heap[m]? = w.heap[m]?) : ToldAt w' m xs := by
  obtain ⟨es, clk, h1, h2⟩ := h
  exact ⟨es, clk, e.trans h1, h2⟩
theorem equal_ptr (w : World) {a b : Nat} (ha : CellsZ w a) (hb : CellsZ w b) : (Op.equal 78 (ptr a) (ptr b)).run Tryz.prog w = .ok (decide (a = b)) w := by
  obtain ⟨ca, ta, ha⟩ := ha
  obtain ⟨cb, tb, hb⟩ := hb
  have hp : Tryz.prog.underlying 78 = some (.pointer 82) := by kernel_rfl
  obtain ⟨j, hj, hsz⟩ : ∃ j, Tryz.prog.info? 82 = some j ∧ j.size ≠ 0 := by
    cases h : Tryz.prog.info? 82 with
    | none => exact absurd (show (Tryz.prog.info? 82).isSome = true by kernel_rfl) (by rw [h]; simp)
    | some j =>
      refine ⟨j, rfl, ?_⟩
      have h2 : (Tryz.prog.info? 82).map (·.size) = some 2 := by kernel_rfl
      rw [h] at h2; simp at h2; omega
  by_cases he : a = b
  · subst he
    have h : ∀ d : Nat, (Op.equalIn (d + 1) 78 (ptr a) (ptr a)).run Tryz.prog w = .ok true w := fun d => by
      simp [Op.equalIn, ptr, run_underlying hp, sizeOf, typeInfo, hj, run_sameAddr_same]
    simp [Op.equal, Op.maxDepth, h 9999]
  · have hne : (⟨a, 0, none⟩ : Addr) ≠ ⟨b, 0, none⟩ := by intro h; cases h; exact he rfl
    have h : ∀ d : Nat, (Op.equalIn (d + 1) 78 (ptr a) (ptr b)).run Tryz.prog w = .ok false w := fun d => by
      simp [Op.equalIn, ptr, run_underlying hp, sizeOf, typeInfo, hj, hsz, run_sameAddr_other w hne ha hb]
    simp [Op.equal, Op.maxDepth, h 9999, he]
theorem asking_ptr (w : World) {b : Nat} (hb : CellsZ w b) : ∀ (es : List MapEntry) (xs : List Nat) (i : Nat), es.map (fun e => (e.key, e.val)) = xs.map (fun b => (ptr b, Value.bool true)) → (∀ x ∈ xs, CellsZ w x) →
    (Instr.findAsking 78 (ptr b) es i).run Tryz.prog w = .ok (if b ∈ xs then some (i + xs.idxOf b, .bool true) else none) w
  | [], [], _, _, _ => by simp [Instr.findAsking]
  | [], _ :: _, _, h, _ => by simp at h
  | _ :: _, [], _, h, _ => by simp at h
  | e :: es, x :: xs, i, h, hc => by
    simp only [List.map_cons, List.cons.injEq, Prod.mk.injEq] at h
    obtain ⟨⟨hk, hv⟩, ht⟩ := h
    have heq := equal_ptr w hb (hc x (List.mem_cons_self ..))
    have ih := asking_ptr w hb es xs (i + 1) ht (fun y hy => hc y (List.mem_cons_of_mem _ hy))
    unfold Instr.findAsking
    rw [hk]
    simp only [Sem.run_bind, heq, Result.andThen]
    by_cases hbx : b = x
    · subst hbx
      simp [hv, List.idxOf_cons]
    · rw [if_neg (by simp [hbx])]
      rw [ih]
      have hxb : (x == b) = false := beq_eq_false_iff_ne.2 (Ne.symm hbx)
      by_cases hm : b ∈ xs
      · rw [if_pos hm, if_pos (List.mem_cons_of_mem _ hm), List.idxOf_cons, hxb]
        have e1 : i + 1 + xs.idxOf b = i + (xs.idxOf b + 1) := by omega
        rw [e1]
        rfl
      · rw [if_neg hm, if_neg (by simp [hbx, hm])]
theorem findKey_ptr (w : World) {b : Nat} (hb : CellsZ w b) (es : List MapEntry) (xs : List Nat) (h : es.map (fun e => (e.key, e.val)) = xs.map (fun b => (ptr b, Value.bool true))) (hc : ∀ x ∈ xs, CellsZ w x) :
    (Instr.findKey 78 (ptr b) es).run Tryz.prog w = .ok (if b ∈ xs then some (xs.idxOf b, .bool true) else none) w := by
  have hp : Tryz.prog.underlying 78 = some (.pointer 82) := by kernel_rfl
  have ha := asking_ptr w hb es xs 0 h hc
  rw [Nat.zero_add] at ha
  unfold Instr.findKey
  simp only [Sem.run_bind, run_underlying hp, Result.andThen]
  cases es with
  | nil =>
    cases xs with
    | nil => simp [Instr.findNow]
    | cons => simp at h
  | cons e es =>
    have hn : Instr.findNow (.pointer 82) (ptr b) (e :: es) 0 = none := by simp [Instr.findNow, Instr.sameNow]
    rw [hn]
    exact ha
theorem checkKey_ptr' (w : World) (b : Nat) (e : Bool) (n : Nat) : (Instr.checkKey e (n + 1) 78 (ptr b)).run Tryz.prog w = .ok () w := by
  have hp : Tryz.prog.underlying 78 = some (.pointer 82) := by kernel_rfl
  unfold Instr.checkKey
  simp only [Sem.run_bind, run_underlying hp, Result.andThen]
  simp [ptr]
theorem checkKey_ptr (w : World) (b : Nat) (e : Bool) : (Instr.checkKey e 10000 78 (ptr b)).run Tryz.prog w = .ok () w := checkKey_ptr' w b e 9999
theorem run_lookup_told {w : World} {m : Nat} {xs : List Nat} (h : ToldAt w m xs) {b : Nat} (hb : CellsZ w b) (hc : ∀ x ∈ xs, CellsZ w x) :
    (Instr.lookup 108 (.map (some m)) (ptr b) false).run Tryz.prog w = .ok (.bool (decide (b ∈ xs))) w := by
  obtain ⟨es, clk, h1, h2⟩ := h
  have hu : Tryz.prog.underlying 108 = some (.map 78 4) := by kernel_rfl
  have hz : ∀ w, (zeroValue 4).run Tryz.prog w = .ok (.bool false) w := fun w => by kernel_rfl
  have hf := findKey_ptr w hb es.toList xs h2 hc
  by_cases hm : b ∈ xs
  · rw [if_pos hm] at hf
    simp [Instr.lookup, run_underlying hu, MapKept.run_getObj_map h1, checkKey_ptr, hf, Result.andThen, hm]
  · rw [if_neg hm] at hf
    simp [Instr.lookup, run_underlying hu, MapKept.run_getObj_map h1, checkKey_ptr, hf, hz, Result.andThen, hm]
def toldPush (xs : List Nat) (b : Nat) : List Nat := if b ∈ xs then xs else xs ++ [b]
theorem run_update_told {w : World} {m : Nat} {xs : List Nat} (h : ToldAt w m xs) {b : Nat} (hb : CellsZ w b) (hc : ∀ x ∈ xs, CellsZ w x) :
    ∃ es clk, (Instr.mapUpdate 108 (.map (some m)) (ptr b) (.bool true)).run Tryz.prog w = .ok () (setBlock w m (.map es clk)) ∧ ToldAt (setBlock w m (.map es clk)) m (toldPush xs b) := by
  obtain ⟨es, clk, h1, h2⟩ := h
  have hu : Tryz.prog.underlying 108 = some (.map 78 4) := by kernel_rfl
  have hf := findKey_ptr w hb es.toList xs h2 hc
  by_cases hm : b ∈ xs
  · rw [if_pos hm] at hf
    have hi : xs.idxOf b < xs.length := List.idxOf_lt_length_iff.2 hm
    have hel : es.toList.length = xs.length := by have := congrArg List.length h2; simpa using this
    have hes : xs.idxOf b < es.size := by simpa using (by omega : xs.idxOf b < es.toList.length)
    have hget : xs[xs.idxOf b] = b := List.getElem_idxOf hi
    have hek : es[xs.idxOf b].key = ptr b ∧ es[xs.idxOf b].val = .bool true := by
      have := congrArg (fun l => l[xs.idxOf b]?) h2
      simp only [List.getElem?_map, Array.getElem?_toList, Array.getElem?_eq_getElem hes, List.getElem?_eq_getElem hi, Option.map_some, Option.some.injEq, Prod.mk.injEq] at this
      rw [hget] at this
      exact this
    have hst : ∀ w, (Instr.keyThatStays (ptr b) (ptr b)).run Tryz.prog w = .ok (ptr b) w := fun w => by
      have : Instr.sameBits 10000 (ptr b) (ptr b) = true := by unfold ptr Instr.sameBits; simp
      simp [Instr.keyThatStays, this]
    refine ⟨es.modify (xs.idxOf b) fun e => { e with key := ptr b, val := .bool true }, clk, ?_, _, _, hp_blk_same h1, ?_⟩
    · simp [Instr.mapUpdate, run_underlying hu, MapKept.run_getObj_map h1, checkKey_ptr, hf, Array.getElem?_eq_getElem hes, hek.1, hst, MapKept.run_setObj_map _ h1, Result.andThen, setBlock]
    · unfold toldPush
      rw [if_pos hm, ← h2]
      apply List.ext_getElem?
      intro i
      simp only [List.getElem?_map, Array.getElem?_toList, Array.getElem?_modify]
      split
      · rename_i hii
        subst hii
        rw [Array.getElem?_eq_getElem hes]
        simp [hek.1, hek.2]
      · rfl
  · rw [if_neg hm] at hf
    refine ⟨es.push { key := ptr b, val := .bool true, born := clk }, clk + 1, ?_, _, _, hp_blk_same h1, ?_⟩
    · simp [Instr.mapUpdate, run_underlying hu, MapKept.run_getObj_map h1, checkKey_ptr, hf, MapKept.run_setObj_map _ h1, Result.andThen, setBlock]
    · unfold toldPush
      rw [if_neg hm]
      simp [h2]
end Go.Proofs.YthjilhjdnefmdaaGreatDoor
/- The files of a store, each once: what the iterator does. Conditions: none. -/
namespace Go.Proofs.YthjilhjdnefmdaaGreatDoor
open Go.RowKit Go.Shelf
open Go.ChangeMaps (setBlock)
attribute [local go_sem] Oper.semAt_some
/-- How many entries have not come. -/
def leftCnt (w : World) (r m : Nat) : Nat := match w.heap[r]?, w.heap[m]? with
  | some (.mapIter _ _ seen _), some (.map es _) => (leftOf es seen).size
  | _, _ => 0
theorem leftCnt_eq {w : World} {r m : Nat} {d left : Dr} (h : IterAt w r m d left) : leftCnt w r m = left.length := by
  obtain ⟨es, clk, c0, seen, h1, h2, -, -, -, h6⟩ := h
  unfold leftCnt
  rw [h2, h1]
  have := congrArg List.length h6
  simpa using this
theorem IterAt.keep {w w' : World} {r m : Nat} {d left : Dr} (h : IterAt w r m d left) (h1 : ∀ k o, w.heap[k]? = some o → o.isWalk = true → k = r ∨ k = m → w'.heap[k]? = some o) : IterAt w' r m d left := by
  obtain ⟨es, clk, c0, seen, q1, q2, q3⟩ := h
  exact ⟨es, clk, c0, seen, h1 m _ q1 rfl (.inr rfl), h1 r _ q2 rfl (.inl rfl), q3⟩
theorem DirAt.keep {w w' : World} {m : Nat} {d : Dr} (h : DirAt w m d) (h1 : ∀ o, w.heap[m]? = some o → o.isWalk = true → w'.heap[m]? = some o) : DirAt w' m d := by
  obtain ⟨es, clk, q1, q2⟩ := h
  exact ⟨es, clk, h1 _ q1 rfl, q2⟩
theorem ToldAt.keep {w w' : World} {m : Nat} {xs : List Nat} (h : ToldAt w m xs) (h1 : ∀ o, w.heap[m]? = some o → o.isWalk = true → w'.heap[m]? = some o) : ToldAt w' m xs := by
  obtain ⟨es, clk, q1, q2⟩ := h
  exact ⟨es, clk, h1 _ q1 rfl, q2⟩
/-- What a round keeps for the iterator. -/
def KpF (W W' : World) : Prop := KeepsWalks W W' ∧ ∀ k, CellsZ W k → CellsZ W' k
def FilesAll (d1 d2 : Dr) (xs : List Nat) : Prop := xs.Nodup ∧ ∀ b, b ∈ xs ↔ ∃ q ∈ d1 ++ d2, q.2 = b
/-- What stands between two steps of the iterator. -/
structure FI (mn ms m0 : Nat) (d1 d2 : Dr) (J : List Nat → World → Prop) (xs : List Nat) (w : World) : Prop where
  told : ToldAt w m0 xs
  j : J xs w
  n1 : DirAt w mn d1
  n2 : DirAt w ms d2
  cz : ∀ q ∈ d1 ++ d2, CellsZ w q.2
  nd : xs.Nodup
  sub : ∀ b ∈ xs, ∃ q ∈ d1 ++ d2, q.2 = b
section
variable {mn ms m0 B0 : Nat} {d1 d2 : Dr} {J : List Nat → World → Prop} {xs : List Nat} {w w' : World}
theorem FI.told_cz (h : FI mn ms m0 d1 d2 J xs w) : ∀ x ∈ xs, CellsZ w x := fun x hx => by
  obtain ⟨q, hq, rfl⟩ := h.sub x hx
  exact h.cz q hq
/-- A step that turns at most one walk's object, not the maps. -/
theorem FI.grown (h : FI mn ms m0 d1 d2 J xs w) (hJ : AbidesFrom B0 J) {row : Option Nat} (hg : w.grownBy w' row) (hr : ∀ r, row = some r → B0 ≤ r ∧ (∃ o : Obj, w.heap[r]? = some o ∧ o.isWalk = true) ∧ r ≠ mn ∧ r ≠ ms ∧ r ≠ m0) : FI mn ms m0 d1 d2 J xs w' := by
  have hk : ∀ k o, w.heap[k]? = some o → (∀ r, row = some r → r ≠ k) → w'.heap[k]? = some o := fun k o ho hn => (hg.block k (hp_lt ho) (fun e => hn k e.symm rfl)).trans ho
  refine ⟨h.told.keep (fun o ho _ => hk _ o ho (fun r e => (hr r e).2.2.2.2)), hJ _ _ _ _ h.j hg (fun r e => ⟨(hr r e).1, (hr r e).2.1⟩), h.n1.keep (fun o ho _ => hk _ o ho (fun r e => (hr r e).2.2.1)), h.n2.keep (fun o ho _ => hk _ o ho (fun r e => (hr r e).2.2.2.1)), fun q hq => ?_, h.nd, h.sub⟩
  obtain ⟨cs, t, hc⟩ := h.cz q hq
  exact ⟨cs, t, hk _ _ hc (fun r e hre => by
    obtain ⟨o, ho, hw⟩ := (hr r e).2.1
    rw [hre, hc] at ho; cases ho; simp [Obj.isWalk] at hw)⟩
theorem setBlock_grown (w : World) (m : Nat) (o : Obj) : w.grownBy (setBlock w m o) (some m) := ⟨rfl, rfl, rfl, by simp [setBlock], fun k _ hk => by
  show (w.heap.setIfInBounds m o)[k]? = _
  rw [Array.getElem?_setIfInBounds, if_neg (fun e => hk (by rw [e]))]⟩
theorem drew_grown (w : World) : w.grownBy w.drew none := ⟨rfl, rfl, rfl, Nat.le_refl _, fun _ _ _ => rfl⟩
/-- A yield that goes on. -/
theorem FI.yielded (h : FI mn ms m0 d1 d2 J xs w) {b : Nat} (hb : ∃ q ∈ d1 ++ d2, q.2 = b) (hn : b ∉ xs) (hj : J (xs ++ [b]) w') (hk : KpF w w') :
    ToldAt w' m0 xs ∧ J (xs ++ [b]) w' ∧ DirAt w' mn d1 ∧ DirAt w' ms d2 ∧ (∀ q ∈ d1 ++ d2, CellsZ w' q.2) ∧ (xs ++ [b]).Nodup ∧ (∀ x ∈ xs ++ [b], ∃ q ∈ d1 ++ d2, q.2 = x) := by
  refine ⟨h.told.keep (fun o ho hw => hk.1.same _ o ho hw), hj, h.n1.keep (fun o ho hw => hk.1.same _ o ho hw), h.n2.keep (fun o ho hw => hk.1.same _ o ho hw), fun q hq => hk.2 _ (h.cz q hq), ?_, fun x hx => ?_⟩
  · rw [List.nodup_append]
    exact ⟨h.nd, by simp, fun a ha c hc => by simp at hc; subst hc; rintro rfl; exact hn ha⟩
  · rcases List.mem_append.1 hx with hx | hx
    · exact h.sub x hx
    · simp at hx; subst hx; exact hb
end
theorem idx109_0 (w : World) (x y : Option Nat) : (Instr.index 109 (.agg #[.map x, .map y]) (.int .i64 0)).run Tryz.prog w = .ok (.map x) w := by kernel_rfl
theorem idx109_1 (w : World) (x y : Option Nat) : (Instr.index 109 (.agg #[.map x, .map y]) (.int .i64 1)).run Tryz.prog w = .ok (.map y) w := by kernel_rfl
attribute [local go_sem] idx109_0 idx109_1
/-- What stands between two steps of a walk over the directory d in block m, by the iterator r; e: the directory that came before. -/
structure FIn (mn ms m0 r m : Nat) (d1 d2 d e : Dr) (J : List Nat → World → Prop) (c : Nat) (left : Dr) (xs : List Nat) (w : World) : Prop where
  fi : FI mn ms m0 d1 d2 J xs w
  it : IterAt w r m d left
  sub : ∀ q ∈ left, q ∈ d
  cov : ∀ q ∈ d, q ∈ left ∨ q.2 ∈ xs
  more : ∀ q ∈ e, q.2 ∈ xs
  len : xs.length + left.length ≤ c
/-- .. between two directories. -/
structure FOut (mn ms m0 : Nat) (d1 d2 : Dr) (J : List Nat → World → Prop) (k : Nat) (xs : List Nat) (w : World) : Prop where
  fi : FI mn ms m0 d1 d2 J xs w
  m0 : m0 < w.heap.size
  a1 : 1 ≤ k → ∀ q ∈ d1, q.2 ∈ xs
  a2 : 2 ≤ k → ∀ q ∈ d2, q.2 ∈ xs
  l0 : k = 0 → xs.length ≤ 0
  l1 : k = 1 → xs.length ≤ d1.length
theorem mem_erase_or {α : Type} {q x : α} : ∀ (l : List α) (i : Nat), l[i]? = some x → q ∈ l → q ∈ l.eraseIdx i ∨ q = x
  | [], _, h, _ => by simp at h
  | y :: l, 0, h, hq => by
    simp at h; subst h
    rcases List.mem_cons.1 hq with rfl | hq
    · exact .inr rfl
    · exact .inl hq
  | y :: l, i + 1, h, hq => by
    rcases List.mem_cons.1 hq with rfl | hq
    · exact .inl (List.mem_cons_self ..)
    · exact (mem_erase_or l i (by simpa using h) hq).imp (List.mem_cons_of_mem _) id
section
variable {mn ms m0 B0 r m c i b : Nat} {d1 d2 d e left : Dr} {J : List Nat → World → Prop} {xs : List Nat} {w w1 w2 w3 : World} {nm : Nm} {o : Obj}
/-- The iterator goes one entry on. -/
theorem FIn.next (h : FIn mn ms m0 r m d1 d2 d e J c left xs w) (hJ : AbidesFrom B0 J) (hB : B0 ≤ r) (hr : r ≠ mn ∧ r ≠ ms ∧ r ≠ m0) (hw : w1 = w ∨ w1 = w.drew) : FI mn ms m0 d1 d2 J xs (setBlock w1 r o) := by
  have hwk : ∃ o : Obj, w.heap[r]? = some o ∧ o.isWalk = true := by
    obtain ⟨es, clk, c0, seen, -, q2, -⟩ := h.it
    exact ⟨_, q2, rfl⟩
  have hg : w.grownBy (setBlock w1 r o) (some r) := by
    rcases hw with rfl | rfl
    · exact setBlock_grown _ _ _
    · exact ⟨rfl, rfl, rfl, by simp [setBlock], fun k _ hk => by
        show (w.drew.heap.setIfInBounds r o)[k]? = _
        rw [Array.getElem?_setIfInBounds, if_neg (fun e => hk (by rw [e]))]; rfl⟩
  exact h.fi.grown hJ hg (fun r' h' => by cases h'; exact ⟨hB, hwk, hr⟩)
/-- .. and the file is marked as told: it was, or it just has been. -/
theorem FIn.marked (h : FIn mn ms m0 r m d1 d2 d e J c left xs w) (hJ : AbidesFrom B0 J) (hB : B0 ≤ m0) (hr : r ≠ m0 ∧ mn ≠ m0 ∧ ms ≠ m0) (hm : m = mn ∨ m = ms) (hi : left[i]? = some (nm, b)) {ys : List Nat}
    (f1 : J ys w2) (f2 : DirAt w2 mn d1) (f3 : DirAt w2 ms d2) (f4 : ∀ q ∈ d1 ++ d2, CellsZ w2 q.2) (f5 : ys.Nodup) (f6 : ∀ x ∈ ys, ∃ q ∈ d1 ++ d2, q.2 = x) (ft : ToldAt w2 m0 xs) (fi : IterAt w2 r m d (left.eraseIdx i))
    (hy : ys = toldPush xs b) (ht : ToldAt (setBlock w2 m0 o) m0 (toldPush xs b)) : FIn mn ms m0 r m d1 d2 d e J c (left.eraseIdx i) ys (setBlock w2 m0 o) := by
  have hwk : ∃ o : Obj, w2.heap[m0]? = some o ∧ o.isWalk = true := by
    obtain ⟨es, clk, q2, -⟩ := ft
    exact ⟨_, q2, rfl⟩
  have hg := setBlock_grown w2 m0 o
  have hk : ∀ k o', w2.heap[k]? = some o' → k ≠ m0 → (setBlock w2 m0 o).heap[k]? = some o' := fun k o' hk hn => hp_blk_ne hk hn
  have hlen : (left.eraseIdx i).length + 1 = left.length := by
    have := (List.getElem?_eq_some_iff.1 hi).1
    rw [List.length_eraseIdx, if_pos this]; omega
  have hsub : ∀ x ∈ xs, x ∈ ys := fun x hx => by rw [hy]; unfold toldPush; split <;> simp [hx]
  have hb : b ∈ ys := by rw [hy]; unfold toldPush; split <;> simp_all
  have hl2 : ys.length ≤ xs.length + 1 := by rw [hy]; unfold toldPush; split <;> simp
  refine ⟨⟨by rw [hy]; exact ht, hJ _ _ _ _ f1 hg (fun r' h' => by cases h'; exact ⟨hB, hwk⟩), f2.keep (fun o' ho _ => hk _ _ ho hr.2.1), f3.keep (fun o' ho _ => hk _ _ ho hr.2.2), fun q hq => ?_, f5, f6⟩, fi.keep (fun k o' ho _ hk' => hk _ _ ho ?_), fun q hq => h.sub q (List.mem_of_mem_eraseIdx hq), fun q hq => ?_, fun q hq => hsub _ (h.more q hq), by have := h.len; omega⟩
  · obtain ⟨cs, t, hc⟩ := f4 q hq
    refine ⟨cs, t, hk _ _ hc (fun he => ?_)⟩
    obtain ⟨o', ho', hw'⟩ := hwk
    rw [← he, hc] at ho'; cases ho'; simp [Obj.isWalk] at hw'
  · rcases hk' with rfl | rfl
    · exact hr.1
    · rcases hm with rfl | rfl
      · exact hr.2.1
      · exact hr.2.2
  · rcases h.cov q hq with hq' | hq'
    · rcases mem_erase_or left i hi hq' with h2 | h2
      · exact .inl h2
      · right; rw [h2]; exact hb
    · exact .inr (hsub _ hq')
end
set_option maxRecDepth 100000 in
set_option maxHeartbeats 4000000 in
theorem files1_in (n : Nat) (hn : 1 ≤ n) (l bx p mn ms N : Nat) (d1 d2 : Dr) (J Jx : List Nat → World → Prop) (hN : d1.length + d2.length ≤ N) (hms : mn ≠ ms)
    (W : World) (hJ : AbidesFrom W.heap.size J)
    (hY : ∀ pre x W1, (∃ q ∈ d1 ++ d2, q.2 = x) → J pre W1 → pre.length < N → YieldAt Fence.wide (n - 1) Tryz.prog l #[ptr x] W1 fun e W' => (e = .returned (.bool true) ∧ J (pre ++ [x]) W' ∧ KpF W1 W') ∨ (e = .returned (.bool false) ∧ Jx (pre ++ [x]) W'))
    (hbx : W.cell? ⟨bx, 0, none⟩ = some (.pointer (some ⟨p, 0, none⟩))) (h1 : W.cell? ⟨p, 1, none⟩ = some (.map (some mn))) (h2 : W.cell? ⟨p, 2, none⟩ = some (.map (some ms)))
    (hd1 : DirAt W mn d1) (hd2 : DirAt W ms d2) (hcz : ∀ q ∈ d1 ++ d2, CellsZ W q.2) (h0 : J [] W) :
    CallsIn Fence.wide n Tryz.prog 85 #[.func (.yield l) #[] #[], .pointer (some ⟨bx, 0, none⟩)] W fun e W' => (∃ v, e = .returned v) ∧ ((∃ xs, FilesAll d1 d2 xs ∧ J xs W') ∨ (∃ pre, True ∧ Jx pre W')) := by
  have hmm := @run_makeMap Tryz.prog
  have hba : Below W.heap.size W (W.alloc (.map #[] 0)) := (Below.refl _ W).alloc (Nat.le_refl _) _
  have e1 : (W.alloc (.map #[] 0)).cell? ⟨bx, 0, none⟩ = some (.pointer (some ⟨p, 0, none⟩)) := (hba.cell (p := ⟨bx, 0, none⟩) (World.block_lt_of_cell? W _ hbx)).trans hbx
  have e2 : (W.alloc (.map #[] 0)).cell? ⟨p, 1, none⟩ = some (.map (some mn)) := (hba.cell (p := ⟨p, 1, none⟩) (World.block_lt_of_cell? W _ h1)).trans h1
  have e3 : (W.alloc (.map #[] 0)).cell? ⟨p, 2, none⟩ = some (.map (some ms)) := (hba.cell (p := ⟨p, 2, none⟩) (World.block_lt_of_cell? W _ h2)).trans h2
  refine callsIn_of_wp Tryz.func85 rfl trivial ?_ rfl
  simp only [Tryz.ntmps85, List.size_toArray, List.length_cons, List.length_nil, Nat.reduceAdd, Nat.reduceSub, Array.replicate_succ, Array.replicate_zero, List.push_toArray, List.append_toArray, List.nil_append, List.cons_append]
  gi_wp2
  gi_quiet (fail)
  have hgr : W.grownBy ((W.alloc (.map #[] 0)).drewN nq) none := ⟨rfl, rfl, rfl, hba.size, fun k hk _ => hba.block k hk⟩
  have HO0 : Hid (FOut mn ms W.heap.size d1 d2 J 0 [] ((W.alloc (.map #[] 0)).drewN nq)) := Lib.hid ⟨⟨⟨#[], 0, hp_new W _, rfl⟩, hJ _ _ _ _ h0 hgr (fun r h => by cases h), hd1.same (hba.block _ hd1.lt), hd2.same (hba.block _ hd2.lt), fun q hq => by
    obtain ⟨cs, t, hc⟩ := hcz q hq
    exact ⟨cs, t, (hba.block _ (hp_lt hc)).trans hc⟩, by simp, by simp⟩, by show W.heap.size < (W.alloc _).heap.size; simp, by omega, by omega, by simp, by simp⟩
  have HLM := Lib.hid hd1.lt; have HLS := Lib.hid hd2.lt
  clear hgr hba e1 e2 e3 hbx h1 h2 hd1 hd2 hcz h0 hmm
  gi_wp2
  generalize (W.alloc (.map #[] 0)).drewN nq = W0 at *
  gi_loopw [18] (fun i wr => ∃ (k : Nat) (xs : List Nat), k ≤ 2 ∧ i = .int .i64 k ∧ Hid (FOut mn ms W.heap.size d1 d2 J k xs wr)) (fun i _ => 2 - (intOf i).toNat)
  case atStart => exact ⟨0, [], by omega, rfl, HO0⟩
  case round =>
    obtain ⟨k, xs, hk, rfl, HO⟩ := hrel
    have hk3 : k = 0 ∨ k = 1 ∨ k = 2 := by omega
    rcases hk3 with rfl | rfl | rfl
    · have hd : DirAt wr mn d1 := HO.out.fi.n1
      obtain ⟨o, ho, hit, hno⟩ := run_range_dir hd
      unfold ptr at ho
      have hga : wr.grownBy (wr.alloc o) none := World.grownBy_alloc wr o none
      obtain ⟨r, hr⟩ : ∃ r, wr.heap.size = r := ⟨_, rfl⟩
      have hsz : (wr.alloc o).heap.size = r + 1 := by rw [← hr]; simp
      have hm0 := HO.out.m0
      rw [hr] at ho hit hm0
      have HI0 : Hid (FIn mn ms W.heap.size r mn d1 d2 d1 [] J (d1.length) d1 xs (wr.alloc o)) := Lib.hid ⟨HO.out.fi.grown hJ hga (fun r h => by cases h), hit, fun q hq => hq, fun q hq => .inl hq, fun q hq => by simp at hq, by have := HO.out.l0 rfl; omega⟩
      have HM0 : Hid (W.heap.size < r ∧ mn < W.heap.size ∧ ms < W.heap.size) := Lib.hid ⟨hm0, HLM.out, HLS.out⟩
      have HSZ0 : Hid (r < (wr.alloc o).heap.size) := Lib.hid (by omega)
      clear hit hno hga hd hsz hr hm0
      gi_wp2
      generalize wr.alloc o = w2 at *
      gi_loopw [7] (fun _ wi => ∃ (left : Dr) (ys : List Nat), Hid (FIn mn ms W.heap.size r mn d1 d2 d1 [] J (d1.length) left ys wi) ∧ Hid (r < wi.heap.size)) (fun _ wi => leftCnt wi r mn)
      case atStart => exact ⟨d1, xs, HI0, HSZ0⟩
      case round =>
        clear HI0 HSZ0
        obtain ⟨left, ys, HF, HSZ⟩ := hrel
        rcases run_next_dir HF.out.it 0 with ⟨hl, hn⟩ | ⟨i, nm, b, w1', o', hi, hw, hn, hit', hent, hno'⟩
        · unfold ptr at hn
          have HL := Lib.hid hl
          clear hl
          gi_wp2
          exact ⟨⟨1, ys, by omega, rfl, Lib.hid ⟨HF.out.fi, Nat.lt_trans HM0.out.1 HSZ.out, fun _ q hq => (HF.out.cov q hq).resolve_left (by rw [HL.out]; simp), fun h => by omega, fun h => by omega, fun _ => by have := HF.out.len; omega⟩⟩, by simp [intOf]⟩
        · have hcnt := leftCnt_eq HF.out.it
          have hll : (left.eraseIdx i).length + 1 = left.length := by
            have := (List.getElem?_eq_some_iff.1 hi).1
            rw [List.length_eraseIdx, if_pos this]; omega
          have hFI : FI mn ms W.heap.size d1 d2 J ys (setBlock w1' r o') := HF.out.next hJ (by have := HM0.out; omega) (by have := HM0.out; omega) hw
          have hbq : ∃ q ∈ d1 ++ d2, q.2 = b := ⟨(nm, b), List.mem_append_left _ (HF.out.sub _ (List.mem_of_getElem? hi)), rfl⟩
          have hcb : CellsZ (setBlock w1' r o') b := by
            obtain ⟨q, hq, rfl⟩ := hbq
            exact hFI.cz q hq
          have hlk := run_lookup_told hFI.told hcb hFI.told_cz
          have hlen : ys.length < N := by have := HF.out.len; omega
          have hsz2 : (setBlock w1' r o').heap.size = wr.heap.size := by
            rcases hw with h | h
            · rw [h]; show (wr.heap.setIfInBounds r o').size = _
              exact Array.size_setIfInBounds
            · rw [h]; show (wr.heap.setIfInBounds r o').size = _
              exact Array.size_setIfInBounds
          have HCNT := Lib.hid hcnt; have HLL := Lib.hid hll; have HFI := Lib.hid hFI; have HIT := Lib.hid hit'; have HI := Lib.hid hi; have HBQ := Lib.hid hbq; have HCB := Lib.hid hcb
          have HSZ2 : Hid (r < (setBlock w1' r o').heap.size) := Lib.hid (by have := HSZ.out; omega)
          clear hcnt hll hFI hit' hi hbq hcb hno' hsz2 hw
          by_cases hm : b ∈ ys
          · rw [decide_eq_true hm] at hlk
            have htp : ys = toldPush ys b := by unfold toldPush; rw [if_pos hm]
            obtain ⟨es, clk, hup, htd⟩ := run_update_told HFI.out.told HCB.out HFI.out.told_cz
            unfold ptr at hn hent hlk hup
            have HTP := Lib.hid htp; have HTD := Lib.hid htd
            clear hm htp htd
            gi_wp2
            refine ⟨fun _ h => (by cases h), ?_⟩
            gi_wp2
            have hfin := HF.out.marked (o := .map es clk) hJ (Nat.le_refl _) (by have := HM0.out; omega) (.inl rfl) HI.out HFI.out.j HFI.out.n1 HFI.out.n2 HFI.out.cz HFI.out.nd HFI.out.sub HFI.out.told HIT.out HTP.out HTD.out
            have hc2 := leftCnt_eq hfin.it
            go_roundw
            case rel => (repeat apply Exists.intro); refine ⟨⟨_, ys, Lib.hid hfin, Lib.hid (by have := HSZ2.out; simpa [setBlock] using this)⟩, rfl⟩
            case measure => rw [hc2, HCNT.out]; have := HLL.out; omega
          · rw [decide_eq_false hm] at hlk
            have htp : ys ++ [b] = toldPush ys b := by unfold toldPush; rw [if_neg hm]
            obtain ⟨fn, tmps, assign, body, hy, hR⟩ := hY ys b (setBlock w1' r o') HBQ.out HFI.out.j hlen
            unfold ptr at hn hent hlk hy
            have HTP := Lib.hid htp; have HM := Lib.hid hm
            clear hm htp
            gi_wp2
            refine hR.mono ?_
            rintro e W3 (⟨rfl, hJ3, hk3⟩ | ⟨rfl, hJx3⟩)
            · obtain ⟨f0, f1, f2, f3, f4, f5, f6⟩ := HFI.out.yielded HBQ.out HM.out hJ3 hk3
              have hcb3 : CellsZ W3 b := hk3.2 _ HCB.out
              have htc : ∀ x ∈ ys, CellsZ W3 x := fun x hx => hk3.2 _ (HFI.out.told_cz x hx)
              obtain ⟨es, clk, hup, htd⟩ := run_update_told f0 hcb3 htc
              unfold ptr at hup
              have hit3 : IterAt W3 r mn d1 (left.eraseIdx i) := HIT.out.keep (fun k o ho hwk _ => hk3.1.same _ o ho hwk)
              have hfin := HF.out.marked (o := .map es clk) hJ (Nat.le_refl _) (by have := HM0.out; omega) (.inl rfl) HI.out f1 f2 f3 f4 f5 f6 f0 hit3 HTP.out htd
              have HFIN := Lib.hid hfin
              have HS3 : Hid (r < W3.heap.size) := Lib.hid (Nat.lt_of_lt_of_le HSZ2.out hk3.1.size)
              clear f0 f1 f2 f3 f4 f5 f6 hcb3 htc htd hit3 hfin hJ3 hk3
              gi_wp2
              have hc2 := leftCnt_eq HFIN.out.it
              go_roundw
              case rel => (repeat apply Exists.intro); refine ⟨⟨_, ys ++ [b], HFIN, Lib.hid (by have := HS3.out; simpa [setBlock] using this)⟩, rfl⟩
              case measure => rw [hc2, HCNT.out]; have := HLL.out; omega
            · gi_wp2
              refine bodyPost_ret (results_none rfl _ _ _) rfl ?_
              exact ⟨⟨_, rfl⟩, .inr ⟨_, trivial, hJx3⟩⟩
    · have hd : DirAt wr ms d2 := HO.out.fi.n2
      obtain ⟨o, ho, hit, hno⟩ := run_range_dir hd
      unfold ptr at ho
      have hga : wr.grownBy (wr.alloc o) none := World.grownBy_alloc wr o none
      obtain ⟨r, hr⟩ : ∃ r, wr.heap.size = r := ⟨_, rfl⟩
      have hsz : (wr.alloc o).heap.size = r + 1 := by rw [← hr]; simp
      have hm0 := HO.out.m0
      rw [hr] at ho hit hm0
      have HI0 : Hid (FIn mn ms W.heap.size r ms d1 d2 d2 d1 J (d1.length + d2.length) d2 xs (wr.alloc o)) := Lib.hid ⟨HO.out.fi.grown hJ hga (fun r h => by cases h), hit, fun q hq => hq, fun q hq => .inl hq, fun q hq => HO.out.a1 (by omega) q hq, by have := HO.out.l1 rfl; omega⟩
      have HM0 : Hid (W.heap.size < r ∧ mn < W.heap.size ∧ ms < W.heap.size) := Lib.hid ⟨hm0, HLM.out, HLS.out⟩
      have HSZ0 : Hid (r < (wr.alloc o).heap.size) := Lib.hid (by omega)
      clear hit hno hga hd hsz hr hm0
      gi_wp2
      generalize wr.alloc o = w2 at *
      gi_loopw [7] (fun _ wi => ∃ (left : Dr) (ys : List Nat), Hid (FIn mn ms W.heap.size r ms d1 d2 d2 d1 J (d1.length + d2.length) left ys wi) ∧ Hid (r < wi.heap.size)) (fun _ wi => leftCnt wi r ms)
      case atStart => exact ⟨d2, xs, HI0, HSZ0⟩
      case round =>
        clear HI0 HSZ0
        obtain ⟨left, ys, HF, HSZ⟩ := hrel
        rcases run_next_dir HF.out.it 0 with ⟨hl, hn⟩ | ⟨i, nm, b, w1', o', hi, hw, hn, hit', hent, hno'⟩
        · unfold ptr at hn
          have HL := Lib.hid hl
          clear hl
          gi_wp2
          exact ⟨⟨2, ys, by omega, rfl, Lib.hid ⟨HF.out.fi, Nat.lt_trans HM0.out.1 HSZ.out, fun _ q hq => HF.out.more q hq, fun _ q hq => (HF.out.cov q hq).resolve_left (by rw [HL.out]; simp), fun h => by omega, fun h => by omega⟩⟩, by simp [intOf]⟩
        · have hcnt := leftCnt_eq HF.out.it
          have hll : (left.eraseIdx i).length + 1 = left.length := by
            have := (List.getElem?_eq_some_iff.1 hi).1
            rw [List.length_eraseIdx, if_pos this]; omega
          have hFI : FI mn ms W.heap.size d1 d2 J ys (setBlock w1' r o') := HF.out.next hJ (by have := HM0.out; omega) (by have := HM0.out; omega) hw
          have hbq : ∃ q ∈ d1 ++ d2, q.2 = b := ⟨(nm, b), List.mem_append_right _ (HF.out.sub _ (List.mem_of_getElem? hi)), rfl⟩
          have hcb : CellsZ (setBlock w1' r o') b := by
            obtain ⟨q, hq, rfl⟩ := hbq
            exact hFI.cz q hq
          have hlk := run_lookup_told hFI.told hcb hFI.told_cz
          have hlen : ys.length < N := by have := HF.out.len; omega
          have hsz2 : (setBlock w1' r o').heap.size = wr.heap.size := by
            rcases hw with h | h
            · rw [h]; show (wr.heap.setIfInBounds r o').size = _
              exact Array.size_setIfInBounds
            · rw [h]; show (wr.heap.setIfInBounds r o').size = _
              exact Array.size_setIfInBounds
          have HCNT := Lib.hid hcnt; have HLL := Lib.hid hll; have HFI := Lib.hid hFI; have HIT := Lib.hid hit'; have HI := Lib.hid hi; have HBQ := Lib.hid hbq; have HCB := Lib.hid hcb
          have HSZ2 : Hid (r < (setBlock w1' r o').heap.size) := Lib.hid (by have := HSZ.out; omega)
          clear hcnt hll hFI hit' hi hbq hcb hno' hsz2 hw
          by_cases hm : b ∈ ys
          · rw [decide_eq_true hm] at hlk
            have htp : ys = toldPush ys b := by unfold toldPush; rw [if_pos hm]
            obtain ⟨es, clk, hup, htd⟩ := run_update_told HFI.out.told HCB.out HFI.out.told_cz
            unfold ptr at hn hent hlk hup
            have HTP := Lib.hid htp; have HTD := Lib.hid htd
            clear hm htp htd
            gi_wp2
            refine ⟨fun _ h => (by cases h), ?_⟩
            gi_wp2
            have hfin := HF.out.marked (o := .map es clk) hJ (Nat.le_refl _) (by have := HM0.out; omega) (.inr rfl) HI.out HFI.out.j HFI.out.n1 HFI.out.n2 HFI.out.cz HFI.out.nd HFI.out.sub HFI.out.told HIT.out HTP.out HTD.out
            have hc2 := leftCnt_eq hfin.it
            go_roundw
            case rel => (repeat apply Exists.intro); refine ⟨⟨_, ys, Lib.hid hfin, Lib.hid (by have := HSZ2.out; simpa [setBlock] using this)⟩, rfl⟩
            case measure => rw [hc2, HCNT.out]; have := HLL.out; omega
          · rw [decide_eq_false hm] at hlk
            have htp : ys ++ [b] = toldPush ys b := by unfold toldPush; rw [if_neg hm]
            obtain ⟨fn, tmps, assign, body, hy, hR⟩ := hY ys b (setBlock w1' r o') HBQ.out HFI.out.j hlen
            unfold ptr at hn hent hlk hy
            have HTP := Lib.hid htp; have HM := Lib.hid hm
            clear hm htp
            gi_wp2
            refine hR.mono ?_
            rintro e W3 (⟨rfl, hJ3, hk3⟩ | ⟨rfl, hJx3⟩)
            · obtain ⟨f0, f1, f2, f3, f4, f5, f6⟩ := HFI.out.yielded HBQ.out HM.out hJ3 hk3
              have hcb3 : CellsZ W3 b := hk3.2 _ HCB.out
              have htc : ∀ x ∈ ys, CellsZ W3 x := fun x hx => hk3.2 _ (HFI.out.told_cz x hx)
              obtain ⟨es, clk, hup, htd⟩ := run_update_told f0 hcb3 htc
              unfold ptr at hup
              have hit3 : IterAt W3 r ms d2 (left.eraseIdx i) := HIT.out.keep (fun k o ho hwk _ => hk3.1.same _ o ho hwk)
              have hfin := HF.out.marked (o := .map es clk) hJ (Nat.le_refl _) (by have := HM0.out; omega) (.inr rfl) HI.out f1 f2 f3 f4 f5 f6 f0 hit3 HTP.out htd
              have HFIN := Lib.hid hfin
              have HS3 : Hid (r < W3.heap.size) := Lib.hid (Nat.lt_of_lt_of_le HSZ2.out hk3.1.size)
              clear f0 f1 f2 f3 f4 f5 f6 hcb3 htc htd hit3 hfin hJ3 hk3
              gi_wp2
              have hc2 := leftCnt_eq HFIN.out.it
              go_roundw
              case rel => (repeat apply Exists.intro); refine ⟨⟨_, ys ++ [b], HFIN, Lib.hid (by have := HS3.out; simpa [setBlock] using this)⟩, rfl⟩
              case measure => rw [hc2, HCNT.out]; have := HLL.out; omega
            · gi_wp2
              refine bodyPost_ret (results_none rfl _ _ _) rfl ?_
              exact ⟨⟨_, rfl⟩, .inr ⟨_, trivial, hJx3⟩⟩
    · gi_wp2
      go_end0
      refine ⟨⟨_, rfl⟩, .inl ⟨xs, ⟨HO.out.fi.nd, fun b => ⟨HO.out.fi.sub b, ?_⟩⟩, HO.out.fi.j⟩⟩
      rintro ⟨q, hq, rfl⟩
      rcases List.mem_append.1 hq with hq | hq
      · exact HO.out.a1 (by omega) q hq
      · exact HO.out.a2 (by omega) q hq
end Go.Proofs.YthjilhjdnefmdaaGreatDoor
/- The power goes: what files gives, what a round does. Conditions: none. -/
namespace Go.Proofs.YthjilhjdnefmdaaGreatDoor
open Go.RowKit Go.Shelf
open Go.ChangeMaps (setBlock)
attribute [local go_sem] Oper.semAt_some
theorem KpF.trans {A B C : World} (h : KpF A B) (g : KpF B C) : KpF A C := ⟨walksK_t h.1 g.1, fun k hk => g.2 k (h.2 k hk)⟩
theorem KpF.put {w : World} (W : World) (l : Nat) (o o' : Obj) (hl : w.heap.size ≤ l) (h : W.heap[l]? = some o) (hc : o.isCells = false) (hw : o.isWalk = false) : KpF W (W.putObj l o') := by
  refine ⟨walksK_b (w := w) W l o o' hl h hc hw, fun k hk => ?_⟩
  obtain ⟨cs, t, hk⟩ := hk
  refine ⟨cs, t, (World.putObj_heap_other (fun e => ?_)).trans hk⟩
  subst e
  rw [hk] at h
  cases h; simp [Obj.isCells] at hc
abbrev FileOf (d1 d2 : Dr) : Type := { b : Nat // ∃ q ∈ d1 ++ d2, q.2 = b }
theorem files_stops (n : Nat) (hn : 1 ≤ n) (bx p mn ms : Nat) (d1 d2 : Dr) (hms : mn ≠ ms) (w : World)
    (hbx : w.cell? ⟨bx, 0, none⟩ = some (.pointer (some ⟨p, 0, none⟩))) (h1 : w.cell? ⟨p, 1, none⟩ = some (.map (some mn))) (h2 : w.cell? ⟨p, 2, none⟩ = some (.map (some ms)))
    (hd1 : DirAt w mn d1) (hd2 : DirAt w ms d2) (hcz : ∀ q ∈ d1 ++ d2, CellsZ w q.2) :
    SeqStopsK (α := FileOf d1 d2) Fence.wide n Tryz.prog 85 #[.pointer (some ⟨bx, 0, none⟩)] (fun x => #[ptr x.1]) KpF (fun xs => FilesAll d1 d2 (xs.map (·.1))) (fun _ => True) (d1.length + d2.length) w := by
  intro l J Jx W hW hJ hJx hY h0
  have hlt : ∀ {b i : Nat} {v : Value}, w.cell? ⟨b, i, none⟩ = some v → b < w.heap.size := fun h => World.block_lt_of_cell? w _ h
  refine (files1_in n hn l bx p mn ms (d1.length + d2.length) d1 d2 (fun xs W => ∃ ys : List (FileOf d1 d2), ys.map (·.1) = xs ∧ J ys W) (fun xs W => ∃ ys : List (FileOf d1 d2), ys.map (·.1) = xs ∧ Jx ys W) (Nat.le_refl _) hms W ?_ ?_
    ((hW.cell (p := ⟨bx, 0, none⟩) (hlt hbx)).trans hbx) ((hW.cell (p := ⟨p, 1, none⟩) (hlt h1)).trans h1) ((hW.cell (p := ⟨p, 2, none⟩) (hlt h2)).trans h2) (hd1.same (hW.block _ hd1.lt)) (hd2.same (hW.block _ hd2.lt)) (fun q hq => ?_) ⟨[], rfl, h0⟩).mono ?_
  · rintro xs A B row ⟨ys, rfl, hj⟩ hg hr
    exact ⟨ys, rfl, hJ _ _ _ _ hj hg hr⟩
  · rintro pre x W1 hx ⟨ys, rfl, hj⟩ hlen
    refine (hY ys ⟨x, hx⟩ W1 hj (by simpa using hlen)).mono ?_
    rintro e W' (⟨rfl, h3, h4⟩ | ⟨rfl, h3⟩)
    · exact .inl ⟨rfl, ⟨ys ++ [⟨x, hx⟩], by simp, h3⟩, h4⟩
    · exact .inr ⟨rfl, ⟨ys ++ [⟨x, hx⟩], by simp, h3⟩⟩
  · obtain ⟨cs, t, hc⟩ := hcz q hq
    exact ⟨cs, t, (hW.block _ (hp_lt hc)).trans hc⟩
  · rintro e W' ⟨he, ⟨xs, hf, ys, rfl, hj⟩ | ⟨pre, -, ys, -, hj⟩⟩
    · exact ⟨he, .inl ⟨ys, hf, hj⟩⟩
    · exact ⟨he, .inr ⟨ys, trivial, hj⟩⟩
section
variable {B : Nat} {w w' : World} {p mn ms : Nat} {bl : List Nat} {st : St}
/-- The files of the blocks xs have lost what was not sure. -/
def partF (bl : List Nat) (k : Int) (st : St) (xs : List Nat) : St := { st with files := st.files.mapIdx fun i f => if bl.getD i 0 ∈ xs then afterFail k f else f }
theorem partF_nil (bl : List Nat) (k : Int) (st : St) : partF bl k st [] = st := by
  have : (st.files.mapIdx fun i f => if bl.getD i 0 ∈ ([] : List Nat) then afterFail k f else f) = st.files := by
    apply List.ext_getElem?
    intro j
    simp
  unfold partF
  rw [this]
theorem afterFail_idem (k : Int) (f : Fl) : afterFail k (afterFail k f) = afterFail k f := by
  have h : ∀ s : List UInt8, afterFail k ⟨s, s⟩ = ⟨s, s⟩ := fun s => by
    have : (min (max k 0) ((s.length : Int) - s.length)).toNat = 0 := by omega
    simp only [afterFail, this]
    simp
  exact h _
theorem getD_inj {bl : List Nat} (h : bl.Nodup) {i j : Nat} (hi : i < bl.length) (hj : j < bl.length) (e : bl.getD i 0 = bl.getD j 0) : i = j := by
  simp only [List.getD, List.getElem?_eq_getElem hi, List.getElem?_eq_getElem hj, Option.getD_some] at e
  exact nodup_inj h hi hj e
theorem partF_snoc (k : Int) (st : St) (xs : List Nat) (h : bl.Nodup) (hl : bl.length = st.files.length) {i : Nat} (hi : i < bl.length) :
    setFl (partF bl k st xs) i (afterFail k (fl (partF bl k st xs) i)) = partF bl k st (xs ++ [bl.getD i 0]) := by
  have : (partF bl k st xs).files.set i (afterFail k (fl (partF bl k st xs) i)) = (partF bl k st (xs ++ [bl.getD i 0])).files := by
    apply List.ext_getElem?
    intro j
    simp only [List.getElem?_set, partF, fl, List.getElem?_mapIdx, List.length_mapIdx]
    by_cases hij : i = j
    · subst hij
      rw [if_pos rfl, if_pos (by omega)]
      have hj : i < st.files.length := by omega
      simp only [List.getD, List.getElem?_mapIdx, List.getElem?_eq_getElem hj, List.getElem?_eq_getElem hi, Option.map_some, Option.getD_some, List.mem_append, List.mem_singleton, or_true, if_true]
      split
      · rw [afterFail_idem]
      · rfl
    · rw [if_neg hij]
      by_cases hj : j < st.files.length
      · have hne : bl.getD j 0 ≠ bl.getD i 0 := fun e => hij (getD_inj h hi (by omega) e.symm)
        simp only [List.getElem?_eq_getElem hj, Option.map_some, List.mem_append, List.mem_singleton, hne, or_false]
      · simp [List.getElem?_eq_none (by omega : st.files.length ≤ j)]
  unfold setFl
  rw [this]
  rfl
theorem reach_iff (hnd : bl.Nodup) (hl : bl.length = st.files.length) (hx : ∀ q ∈ st.now ++ st.sure, q.2 < st.files.length) {i : Nat} (hi : i < bl.length) :
    (∃ q ∈ toB bl st.now ++ toB bl st.sure, q.2 = bl.getD i 0) ↔ reach st i = true := by
  unfold reach
  rw [List.any_eq_true]
  unfold toB
  rw [← List.map_append]
  constructor
  · rintro ⟨q, hq, he⟩
    obtain ⟨q', hq', rfl⟩ := List.mem_map.1 hq
    have := getD_inj hnd (by have := hx q' hq'; omega) hi he
    exact ⟨q', hq', by rw [this]; simp⟩
  · rintro ⟨q, hq, he⟩
    exact ⟨_, List.mem_map_of_mem hq, by simp at he; simp [he]⟩
theorem partF_all (k : Int) (st : St) (xs : List Nat) (h : bl.Nodup) (hl : bl.length = st.files.length) (hx : ∀ q ∈ st.now ++ st.sure, q.2 < st.files.length)
    (hf : FilesAll (toB bl st.now) (toB bl st.sure) xs) (hd : st.dark = false) : { partF bl k st xs with now := st.sure, dark := true } = failA st k := by
  have : (partF bl k st xs).files = st.files.mapIdx fun i f => if reach st i then afterFail k f else f := by
    apply List.ext_getElem?
    intro j
    simp only [partF, List.getElem?_mapIdx]
    by_cases hj : j < st.files.length
    · rw [List.getElem?_eq_getElem hj]
      simp only [Option.map_some, Option.some.injEq]
      have := (hf.2 (bl.getD j 0)).trans (reach_iff h hl hx (i := j) (by omega))
      by_cases hr : reach st j = true
      · rw [if_pos (this.2 hr), if_pos hr]
      · rw [if_neg (fun hm => hr (this.1 hm)), if_neg hr]
    · rw [List.getElem?_eq_none (by omega)]; rfl
  unfold failA
  rw [hd, ← this]
  rfl
/-- Blocks that hold no cells turn, none of them the store's. -/
theorem RepC.grown2 {row : Option Nat} (h : RepC B w p mn ms bl st) (hg : w.grownBy w' row) (hr : ∀ r, row = some r → B ≤ r ∧ r ≠ mn ∧ r ≠ ms ∧ ∃ o : Obj, w.heap[r]? = some o ∧ o.isCells = false) :
    RepC B w' p mn ms bl st ∧ Stp [] B w w' := by
  have hs : Stp [] B w w' := (Stp.refl [] B w).grown hg h.le (fun k hk => ⟨(hr k hk).1, fun cs e fr hc => by
    obtain ⟨_, _, _, o, ho, hn⟩ := hr k hk
    rw [hc] at ho; cases ho; simp [Obj.isCells] at hn⟩)
  have hk : ∀ k o, w.heap[k]? = some o → (o.isCells = true ∨ k = mn ∨ k = ms) → w'.heap[k]? = some o := fun k o ho hc => (hg.block k (hp_lt ho) (fun e => by
    obtain ⟨_, h1, h1', o', h2, h3⟩ := hr k e.symm
    rcases hc with hc | hc | hc
    · rw [ho] at h2; cases h2; rw [hc] at h3; cases h3
    · exact h1 hc
    · exact h1' hc)).trans ho
  refine ⟨⟨hk _ _ h.blk (.inl rfl), ?_, ?_, h.ne, h.lp, h.lmn, h.lms, h.lbl, h.nd, h.len, fun i hi f hf => ?_, h.inv⟩, hs⟩
  · obtain ⟨es, clk, q1, q2⟩ := h.now
    exact ⟨es, clk, hk _ _ q1 (.inr (.inl rfl)), q2⟩
  · obtain ⟨es, clk, q1, q2⟩ := h.sure
    exact ⟨es, clk, hk _ _ q1 (.inr (.inr rfl)), q2⟩
  · obtain ⟨vn, vs, q1, q2, q3⟩ := h.file i hi f hf
    exact ⟨vn, vs, hk _ _ q1 (.inl rfl), q2.stp hs, q3.stp hs⟩
theorem RepC.grown {B0 : Nat} {row : Option Nat} (h : RepC B w p mn ms bl st) (hg : w.grownBy w' row) (hr : ∀ r, row = some r → B0 ≤ r ∧ ∃ o : Obj, w.heap[r]? = some o ∧ o.isCells = false) (hB : B ≤ B0) (h1 : mn < B0) (h2 : ms < B0) :
    RepC B w' p mn ms bl st ∧ Stp [] B w w' :=
  h.grown2 hg (fun r e => ⟨by have := (hr r e).1; omega, by have := (hr r e).1; omega, by have := (hr r e).1; omega, (hr r e).2⟩)
/-- The last line: the directory is what is sure, the power off. -/
theorem RepC.darkened (h : RepC B w p mn ms bl st) {m2 : Nat} (hd : DirAt w m2 (toB bl st.sure)) (hm : B ≤ m2) (hne : m2 ≠ ms) {w2 : World} (he : w2 = (w.setCell ⟨p, 1, none⟩ (.map (some m2))).setCell ⟨p, 3, none⟩ (.bool true)) :
    RepC B w2 p m2 ms bl { st with now := st.sure, dark := true } ∧ Stp [] B w w2 := by
  have h1 : Stp [] B w w2 := by
    rw [he]
    have hk : ∀ cs e fr, w.heap[p]? = some (.cells cs e fr) → e = 64 ∨ e = 82 ∨ (e ≠ 5 ∧ p ∈ ([] : List Nat)) := fun cs e fr hc => by
      rw [h.blk] at hc; simp only [storeObj, Option.some.injEq, Obj.cells.injEq] at hc; exact .inl hc.2.1.symm
    exact ((Stp.refl [] B w).setCell (p := ⟨p, 1, none⟩) h.lp _ hk).setCell (p := ⟨p, 3, none⟩) h.lp _ hk
  have np : ∀ {m : Nat} {d : Dr}, DirAt w m d → m ≠ p := fun hd => by rintro rfl; exact hd.nocells _ _ _ h.blk
  have hk : ∀ k o, w.heap[k]? = some o → k ≠ p → w2.heap[k]? = some o := fun k o ho hn => by rw [he]; exact hp_set_ne (hp_set_ne ho hn) hn
  have kd : ∀ {m : Nat} {d : Dr}, DirAt w m d → DirAt w2 m d := fun hd => by
    have := np hd
    obtain ⟨es, clk, q1, q2⟩ := hd
    exact ⟨es, clk, hk _ _ q1 this, q2⟩
  refine ⟨⟨?_, kd hd, kd h.sure, hne, h.lp, hm, h.lms, h.lbl, h.nd, h.len, fun i hi f hf => ?_, ⟨h.inv.room, h.inv.suren, h.inv.suren, h.inv.big, fun q hq => h.inv.idx q (List.mem_append_right _ (by rcases List.mem_append.1 hq with hq | hq <;> exact hq))⟩⟩, h1⟩
  · rw [he]
    have e1 := hp_set h.blk 1 (.map (some m2))
    have e2 := hp_set e1 3 (.bool true)
    rw [e2]; rfl
  · obtain ⟨vn, vs, q1, q2, q3⟩ := h.file i hi f hf
    have : bl[i] ≠ p := by intro e; rw [e] at q1; rw [h.blk] at q1; simp [storeObj] at q1
    exact ⟨vn, vs, hk _ _ q1 this, q2.stp h1, q3.stp h1⟩
theorem toB_file (h : RepC B w p mn ms bl st) {b : Nat} (hb : ∃ q ∈ toB bl st.now ++ toB bl st.sure, q.2 = b) : ∃ i, i < bl.length ∧ bl.getD i 0 = b := by
  obtain ⟨q, hq, rfl⟩ := hb
  unfold toB at hq
  rw [← List.map_append] at hq
  obtain ⟨q', hq', rfl⟩ := List.mem_map.1 hq
  exact ⟨q'.2, by rw [h.len]; exact h.inv.idx q' hq', rfl⟩
theorem toB_cz (h : RepC B w p mn ms bl st) : ∀ q ∈ toB bl st.now ++ toB bl st.sure, CellsZ w q.2 := fun q hq => by
  obtain ⟨i, hi, he⟩ := toB_file h ⟨q, hq, rfl⟩
  obtain ⟨vn, vs, q1, -⟩ := h.fileAt (i := i) (by have := h.len; omega)
  rw [he] at q1
  exact ⟨_, _, q1⟩
/-- A store into a cell keeps what the iterator reads. -/
theorem KpF.setCell (W : World) (b i : Nat) (v : Value) : KpF W (W.setCell ⟨b, i, none⟩ v) := by
  refine ⟨(KeepsOthers.setCell W _ v).walks, fun k hk => ?_⟩
  obtain ⟨cs, t, hk⟩ := hk
  by_cases e : k = b
  · subst e
    exact ⟨_, _, hp_set hk i v⟩
  · exact ⟨cs, t, hp_set_ne hk e⟩
theorem KpF.refl (W : World) : KpF W W := ⟨KeepsWalks.refl W, fun _ h => h⟩
theorem KpF.drew {A B : World} (h : KpF A B) : KpF A B.drew := h.trans ⟨(KeepsOthers.drew B).walks, fun _ hk => hk⟩
end
end Go.Proofs.YthjilhjdnefmdaaGreatDoor
/- Regions that draw their order, in a round of a range over a function. Conditions: none. -/
namespace Go.Proofs.YthjilhjdnefmdaaGreatDoor
open Go
section
variable {P : Program} {n l : Nat} {ops : Array Oper} {md : Region.Mode} {Q : Exit → Act → World → Prop}
def noDefer (ops : Array Oper) : Bool := ops.all fun o => match o.op with | .defer _ => false | _ => true
theorem noDefer_spec (h : noDefer ops = true) {i : Nat} {o : Oper} (hi : ops[i]? = some o) : ∀ c, o.op ≠ .defer c := by
  intro c hc
  obtain ⟨hl, rfl⟩ := Array.getElem?_eq_some_iff.1 hi
  have := Array.all_eq_true.1 h i hl
  rw [hc] at this
  cases this
theorem wpOpIn_round {F : Fence} (hro : F.round = none) (hd : noDefer ops = true) {i : Nat} {K K' : Act → World → Prop} (hk : ∀ a w, K a w → K' a w) {a : Act} {w : World} (h : wpOpIn F n P ops Q i K a w) : wpOpIn (F.inRound l) n P ops Q i K' a w := by
  have h := wpOpIn_mono hk h
  unfold wpOpIn at *
  split
  · simpa [*] using h
  · rename_i o ho
    simp only [ho] at h
    split
    · rename_i hw
      simp only [hw, if_true] at h
      unfold Oper.wpIn at *
      refine ⟨h.1, ?_⟩
      have h := h.2
      rw [hro, Oper.semAt_none] at h
      rw [Fence.inRound_round, Oper.semAt_some l _ _ (noDefer_spec hd ho)]
      exact h
    · rename_i hw; simp only [hw] at h; exact h
theorem wpAnyIn_round {F : Fence} (hro : F.round = none) (hd : noDefer ops = true) : ∀ (fuel : Nat) (listed : Array Bool) (a : Act) (w : World), wpAnyIn F n P md ops Q fuel listed a w → wpAnyIn (F.inRound l) n P md ops Q fuel listed a w
  | 0, _, _, _, h => h
  | fuel + 1, listed, _, _, h => ⟨h.1, fun i hi => wpOpIn_round hro hd (fun a w h => wpAnyIn_round hro hd fuel _ a w h) (h.2 i hi)⟩
theorem rowsIn_of {row : String} {args : Array Value} {w : World} {R : Value → World → Prop} (h : Go.Rows P row args w R) : RowsIn Fence.wide n P row args w R :=
  fun c cs _ => let ⟨v, w', r, s⟩ := h c cs; ⟨v, w', r, stepsIn_wide.2 s⟩
theorem Oper.wpIn_of {o : Oper} {a : Act} {w : World} {K : Act → World → Prop} (h : o.wp P a w K Q) : o.wpIn Fence.wide n P a w K Q := by
  unfold Oper.wpIn
  refine ⟨fun _ _ => trivial, ?_⟩
  unfold Oper.wp at h
  show Oper.uponIn _ _ _ _ _ _ _ ((execOp a.eval o).run P w)
  generalize (execOp a.eval o).run P w = r at *
  cases r with
  | ok x w' =>
    cases x <;> simp only [Oper.upon, Oper.uponIn] at h ⊢ <;>
      first
        | exact h
        | exact ⟨fun hh => (by cases hh), callsIn_wide.2 h⟩
        | exact ⟨fun hh => (by cases hh), rowsIn_of h⟩
        | exact h.elim
  | halt x w' => cases x <;> simp only [Oper.upon, Oper.uponIn] at h ⊢ <;> exact h
theorem wpAnyIn_of (hq : ¬ LetsOut Q) : ∀ (fuel : Nat) (listed : Array Bool) (a : Act) (w : World), wpAny P md ops Q fuel listed a w → wpAnyIn Fence.wide n P md ops Q fuel listed a w
  | 0, _, _, _, h => h
  | fuel + 1, listed, a, w, h => ⟨h.1, fun i hi => by
    have h := wpOp_mono (fun a w h => wpAnyIn_of hq fuel _ a w h) (h.2 i hi)
    unfold wpOp at h
    unfold wpOpIn
    split
    · simpa [*] using h
    · rename_i o ho
      simp only [ho] at h
      split
      · rename_i hw
        simp only [hw, if_true] at h
        rcases h with h | h
        · exact Oper.wpIn_of h
        · exact absurd h.2 hq
      · rename_i hw; simp only [hw] at h; exact ⟨fun _ _ => trivial, h⟩⟩
/-- A region that draws its order and only reads, in a round. -/
theorem wpIn_region_quiet_round {F : Fence} {id : Nat} {a : Act} {w : World} {ls : List Oper} (hro : F.round = none) (hm : P.follows .mixedOrders = true) (hB : Region.lexB .any ls.toArray = true) (hd : noDefer ls.toArray = true)
    (h : wpQuietIn F n P ls.toArray (fun w' => ∃ n, w' = w.drewN n) (fun a' => ∀ w', (∃ n, w' = w.drewN n) → Q .normal a' w') ls a) : (Code.region id ls.toArray true).wpIn (F.inRound l) n P Q a w := by
  simp only [Region.lexB, Bool.and_eq_true] at hB
  refine wpIn_region_any hm (wpAnyIn_round hro hd _ _ _ _ (wpAnyIn_of_quiet (C := fun w' => ∃ n, w' = w.drewN n) (Q := fun a' => ∀ w', (∃ n, w' = w.drewN n) → Q .normal a' w') hro (fun _ w' hw' h => h w' hw') _ _ _ _ ⟨1, rfl⟩ ?_))
  have := wpAnyQIn_lex (F := F) (n := n) (C := fun w' => ∃ n, w' = w.drewN n) (md := .any) hB.1 ls.toArray.toList 0 (Array.replicate ls.toArray.size false) a (by simp) (by simpa using hB.2) (by simpa using h)
  simpa using this
/-- A region that draws its order, whose operations only read but for the last ones, in a round. -/
theorem wpIn_region_tail_round {id : Nat} {a : Act} {w : World} {ls : List Oper} (k : Nat) (hm : P.follows .mixedOrders = true) (hB : Region.lexTailB .any ls.toArray k = true) (hd : noDefer ls.toArray = true) (hq : ¬ LetsOut Q)
    (h : wpStill P ls.toArray w.drew (fun a' => wpList P ls.toArray Q (ls.drop k) a' w.drew) (ls.take k) a) : (Code.region id ls.toArray true).wpIn (Fence.wide.inRound l) n P Q a w := by
  simp only [Region.lexTailB, Bool.and_eq_true, decide_eq_true_eq] at hB
  obtain ⟨⟨⟨⟨hsel, hn⟩, hs⟩, hc⟩, hlex⟩ := hB
  have hn' : k < ls.length := by simpa using hn
  have htl : (ls.take k).length = k := by simp; omega
  have hdl : (ls.drop k).length = ls.toArray.size - k := by simp
  have inv0 : HeadInv .any ls.toArray k (Array.replicate ls.toArray.size false) :=
    ⟨by simp, fun j oj _ hl => (by rw [getD_replicate_false] at hl; cases hl), fun t _ ht => getD_in (by simpa using ht) (getD_replicate_false _ _)⟩
  have H := wpAnyL_lex (md := .any) (g := ls.toArray.size - k) hsel hs hc hn (ls.take k) 0 _ a (fun j hj => by
    have hj' : j < k := by rw [htl] at hj; exact hj
    simp [hj']) (by simpa using htl) inv0 (by rw [htl]; exact hlex) h
  refine wpIn_region_any hm (wpAnyIn_round rfl hd _ _ _ _ (wpAnyIn_of hq _ _ _ _ ?_))
  have := wpAny_of_head (Q' := Q) (g := ls.toArray.size - k) (fun listed a' hL => by
    have := wpAny_of_seq (md := .any) (Q' := Q) (ls.drop k) k listed a' w.drew (fun j => by simp [List.getElem?_drop]) (by rw [hdl]; exact hL.1) hL.2
    rwa [hdl] at this) _ _ _ H
  rw [htl, show k + (ls.toArray.size - k) = ls.toArray.size by omega] at this
  exact this
end
end Go.Proofs.YthjilhjdnefmdaaGreatDoor
/- The power goes: what Fail does. Conditions: none. -/
namespace Go.Proofs.YthjilhjdnefmdaaGreatDoor
open Go.RowKit
open Go.ChangeMaps (setBlock)
theorem below_of_drew {w wr : World} (h : ∃ m, wr = w.drewN m) : Below w.heap.size w wr := by
  obtain ⟨m, rfl⟩ := h
  exact ⟨rfl, rfl, rfl, Nat.le_refl _, fun _ _ => rfl⟩
theorem drew_drew {w wr : World} (h : ∃ m, wr = w.drewN m) (k : Nat) : ∃ m, wr.drewN k = w.drewN m := by
  obtain ⟨m, rfl⟩ := h
  exact ⟨_, World.drewN_drewN ..⟩
set_option maxRecDepth 100000 in
set_option maxHeartbeats 400000 in
theorem equal2_t {B : Nat} {w : World} {v1 v2 : Value} {l1 l2 : List UInt8} (h1 : BS B w v1 l1) (h2 : BS B w v2 l2) (hB : B ≤ w.heap.size) :
    Calls Tryz.prog 64 #[v1, v2] w fun e w' => e = .returned (.bool (decide (l1 = l2))) ∧ ∃ m, w' = w.drewN m := by
  obtain ⟨a1, c1, rfl, g1, k1, -⟩ := id h1
  obtain ⟨a2, c2, rfl, g2, k2, -⟩ := id h2
  have q1 := fun wr (hb : ∃ m, wr = w.drewN m) => (RS.below h1 (below_of_drew hb) hB).at.2.2.2
  have q2 := fun wr (hb : ∃ m, wr = w.drewN m) => (RS.below h2 (below_of_drew hb) hB).at.2.2.2
  clear h1 h2
  simp only [List.length_map, List.getElem_map] at *
  unfold maxLen at k1 k2
  have Q1 := Lib.hid q1; have Q2 := Lib.hid q2; clear q1 q2
  by_cases hl : l1.length = l2.length
  · have HL := Lib.hid hl
    have hb : ((l1.length : Int) != (l2.length : Int)) = false := by rw [hl]; exact bne_self_eq_false' _
    rw [← hl] at hb ⊢
    have hb' : ((l1.length : Int) != (l1.length : Int)) = false := bne_self_eq_false' _
    clear hb hl
    go_enter Tryz.func64, Tryz.ntmps64
    go_wp2
    go_loopw [13] (fun i wr => ∃ k : Nat, k ≤ l1.length ∧ i = .int .i64 k ∧ (∀ j, j < k → l1[j]? = l2[j]?) ∧ ∃ m, wr = w.drewN m) (fun i _ => l1.length - (intOf i).toNat)
    case atStart => exact ⟨0, Nat.zero_le _, rfl, fun _ h => by omega, 0, rfl⟩
    case round =>
      obtain ⟨k, hk, rfl, hg, hbw⟩ := hrel
      have HG := Lib.hid hg; clear hg
      by_cases hlt : k < l1.length
      · obtain ⟨b1, o1, rfl, e1⟩ := Q1.out wr hbw k hlt
        obtain ⟨b2, o2, rfl, e2⟩ := Q2.out wr hbw k (by rw [← HL.out]; exact hlt)
        unfold bv at e1 e2
        have hn : Hid (l1[k] = l2[k]'(by rw [← HL.out]; exact hlt) → ∀ j, j < k + 1 → l1[j]? = l2[j]?) := Lib.hid (fun he j hj => by
          rcases Nat.lt_or_ge j k with h' | h'
          · exact HG.out j h'
          · have : j = k := by omega
            subst this
            rw [List.getElem?_eq_getElem hlt, List.getElem?_eq_getElem (by rw [← HL.out]; exact hlt), he])
        have hf : Hid (l1[k] ≠ l2[k]'(by rw [← HL.out]; exact hlt) → decide (l1 = l2) = false) := Lib.hid (fun he => decide_eq_false (fun h => he (by subst h; rfl)))
        have hne := bv_inj (a := l1[k]) (b := l2[k]'(by rw [← HL.out]; exact hlt))
        have hlt2 : k < l2.length := by have := HL.out; omega
        generalize l1[k] = x1 at *
        generalize l2[k]'_ = x2 at *
        by_cases hx : x1 = x2
        · subst hx
          have hb : ((x1.toNat : Int) != (x1.toNat : Int)) = false := bne_self_eq_false' _
          have hn' := Lib.hid (hn.out rfl)
          clear hne hn hf
          go_wp2
          go_quiet (fail)
          go_wp2
          go_roundw
          case rel => exact ⟨k + 1, by omega, by go_num, hn'.out, drew_drew hbw _⟩
          case measure => simp [intOf]; omega
        · have hb := hne.2 hx
          have HX := Lib.hid (hf.out hx)
          clear hne hx hn hf
          go_wp2
          go_quiet (fail)
          go_wp2
          go_ret
          rw [HX.out]
          exact ⟨rfl, drew_drew hbw _⟩
      · have hk' : k = l1.length := by omega
        subst hk'
        have hd : decide (l1 = l2) = true := decide_eq_true (List.ext_getElem? (fun j => by
          rcases Nat.lt_or_ge j l1.length with h' | h'
          · exact HG.out j h'
          · rw [List.getElem?_eq_none h', List.getElem?_eq_none (by rw [← HL.out]; exact h')]))
        have HD := Lib.hid hd; clear hd
        go_wp2
        go_ret
        rw [HD.out]
        exact ⟨rfl, hbw⟩
  · have hb : ((l1.length : Int) != (l2.length : Int)) = true := bne_iff_ne.2 (by omega)
    have hd : decide (l1 = l2) = false := decide_eq_false (fun h => hl (by rw [h]))
    have HD := Lib.hid hd
    clear hd hl
    go_enter Tryz.func64, Tryz.ntmps64
    go_wp2
    go_ret
    rw [HD.out]
    exact ⟨rfl, 0, rfl⟩
end Go.Proofs.YthjilhjdnefmdaaGreatDoor
/- The power goes: what Fail does. Conditions: none. -/
namespace Go.Proofs.YthjilhjdnefmdaaGreatDoor
open Go.RowKit Go.Shelf
open Go.ChangeMaps (setBlock)
attribute [local go_sem] Oper.semAt_some
set_option maxRecDepth 100000 in
set_option maxHeartbeats 1000000 in
theorem files_in (n : Nat) (hn : 1 ≤ n) (p : Nat) (w : World) : CallsIn Fence.wide n Tryz.prog 63 #[.pointer (some ⟨p, 0, none⟩)] w fun e w' => e = .returned (.func (.func 85) #[] #[.pointer (some ⟨w.heap.size, 0, none⟩)]) ∧ w' = w.alloc (.cells #[.pointer (some ⟨p, 0, none⟩)] 24) := by
  refine callsIn_of_wp Tryz.func63 rfl trivial ?_ rfl
  simp only [Tryz.ntmps63, List.size_toArray, List.length_cons, List.length_nil, Nat.reduceAdd, Nat.reduceSub, Array.replicate_succ, Array.replicate_zero, List.push_toArray, List.append_toArray, List.nil_append, List.cons_append]
  gi_wp2
  refine bodyPost_ret (results_tmp rfl _ _ _) rfl ?_
  exact ⟨rfl, rfl⟩
section
variable {B : Nat} {W : World} {p mn ms : Nat} {bl : List Nat} {st1 : St} {i x : Nat}
theorem fail_one (h : RepC B W p mn ms bl st1) (hif : i < st1.files.length) (he : bl.getD i 0 = x) {v0 v1 : Value} {l : List UInt8} (hf : W.heap[x]? = some (.cells #[v0, v1] 82 (0, 0))) (hv : BS B W v1 l) (hl : l.length ≤ 1073741824) :
    RepC B (W.setCell ⟨x, 0, none⟩ v1) p mn ms bl (setFl st1 i ⟨l, l⟩) ∧ Stp [] B W (W.setCell ⟨x, 0, none⟩ v1) := by
  subst he
  exact h.setFile hif 0 v1 ⟨l, l⟩ v0 v1 hf ⟨_, _, rfl, hv, hv⟩ ⟨hl, hl⟩
theorem fail_two (h : RepC B W p mn ms bl st1) (hif : i < st1.files.length) (he : bl.getD i 0 = x) {v0 v1 v : Value} {l l2 : List UInt8} (hf : W.heap[x]? = some (.cells #[v0, v1] 82 (0, 0))) (hv0 : BS B W v0 l2) (hv : BS B W v l) (hl : l.length ≤ 1073741824) (hl2 : l2.length ≤ 1073741824) :
    RepC B ((W.setCell ⟨x, 1, none⟩ v).setCell ⟨x, 0, none⟩ v) p mn ms bl (setFl st1 i ⟨l, l⟩) ∧ Stp [] B W ((W.setCell ⟨x, 1, none⟩ v).setCell ⟨x, 0, none⟩ v) := by
  subst he
  obtain ⟨h1, s1⟩ := h.setFile hif 1 v ⟨l2, l⟩ v0 v1 hf ⟨_, _, rfl, hv0, hv⟩ ⟨hl2, hl⟩
  obtain ⟨h2, s2⟩ := fail_one h1 (i := i) (by simpa [setFl] using hif) rfl (hp_set hf 1 v) (hv.stp s1) hl
  refine ⟨?_, s1.tr s2⟩
  have : setFl (setFl st1 i ⟨l2, l⟩) i ⟨l, l⟩ = setFl st1 i ⟨l, l⟩ := by simp [setFl, List.set_set]
  rw [← this]
  exact h2
end
theorem afterFail_cut {k : Int} {nw sr : List UInt8} (h : nw.take sr.length = sr) {t : Nat} (ht : (t : Int) = sr.length + min (max k 0) ((nw.length : Int) - sr.length)) (hle : sr.length ≤ nw.length) : afterFail k ⟨nw, sr⟩ = ⟨nw.take t, nw.take t⟩ := by
  have e : sr.length + (min (max k 0) ((nw.length : Int) - sr.length)).toNat = t := by omega
  simp only [afterFail]
  rw [if_pos h, e]
theorem afterFail_not {k : Int} {nw sr : List UInt8} (h : ¬ nw.take sr.length = sr) : afterFail k ⟨nw, sr⟩ = ⟨sr, sr⟩ := by
  simp only [afterFail]
  rw [if_neg h]
theorem skip_same {F : Fence} {n : Nat} {P : Program} {ops : Array Oper} {C : World → Prop} {Q : Act → Prop} {a : Act} {o : Oper} {rest : List Oper} (ha : o.askedIn F P a C) (hw : Region.wanted o (yielded ops a.tmps) = false) (hp : a.put o.dst undef = a) (h : wpQuietIn F n P ops C Q rest a) : wpQuietIn F n P ops C Q (o :: rest) a :=
  BigFrame.wpQuietIn_skip ha hw (by rw [hp]; exact h)
/-- What stands between two rounds. -/
def FailI (B : Nat) (w : World) (p mn ms : Nat) (bl : List Nat) (k : Int) (st : St) (xs : List Nat) (W : World) : Prop :=
  RepC B W p mn ms bl (partF bl k st xs) ∧ Stp [] B w W ∧ W.heap[w.heap.size]? = some (.cells #[.int .i64 k] 3 (0, 0))
set_option maxRecDepth 100000 in
set_option maxHeartbeats 1000000 in
theorem fail_t : FailSaid := by
  intro B w p mn ms bl st k h
  have hb0 : Below w.heap.size w (w.alloc (.cells #[.int .i64 k] 3)) := (Below.refl _ w).alloc (Nat.le_refl _) _
  have h1 := h.below hb0
  have s1 : Stp [] B w (w.alloc (.cells #[.int .i64 k] 3)) := Stp.of_below hb0 h.le
  have y1 := hp_new w (.cells #[.int .i64 k] 3)
  have hon := on_t h1
  have HL := Lib.hid (show B ≤ w.heap.size ∧ mn < w.heap.size ∧ ms < w.heap.size from ⟨h.le, h.now.lt, h.sure.lt⟩)
  cases hd : st.dark with
  | true =>
    have hf : failA st k = st := by unfold failA; rw [hd]; rfl
    have HF := Lib.hid hf; have H1 := Lib.hid h1; have S1 := Lib.hid s1
    rw [hd] at hon
    clear hf h1 s1 h hd hb0
    refine (callsIn_wide (n := 5)).1 ?_
    refine callsIn_of_wp_marks Tryz.func26 rfl trivial ?_ rfl
    simp only [Tryz.ntmps26, List.size_toArray, List.length_cons, List.length_nil, Nat.reduceAdd, Nat.reduceSub, Array.replicate_succ, Array.replicate_zero, List.push_toArray, List.append_toArray, List.nil_append, List.cons_append]
    gi_wp2_with (refine ⟨trivial, ?_⟩; gi_at_call 25; refine (callsIn_wide.2 hon).mono ?_; rintro e w' ⟨rfl, rfl⟩)
    exact ⟨_, results_none rfl _ _ _, by rw [HF.out]; exact ⟨rfl, ⟨_, _, _, H1.out⟩, S1.out⟩⟩
  | false =>
    have H1 := Lib.hid h1; have S1 := Lib.hid s1; have HD := Lib.hid hd
    rw [hd] at hon
    clear h1 s1 h hd hb0
    refine (callsIn_wide (n := 5)).1 ?_
    refine callsIn_of_wp_marks Tryz.func26 rfl trivial ?_ rfl
    simp only [Tryz.ntmps26, List.size_toArray, List.length_cons, List.length_nil, Nat.reduceAdd, Nat.reduceSub, Array.replicate_succ, Array.replicate_zero, List.push_toArray, List.append_toArray, List.nil_append, List.cons_append]
    gi_wp2_with (refine ⟨trivial, ?_⟩; gi_at_call 25; refine (callsIn_wide.2 hon).mono ?_; rintro e w' ⟨rfl, rfl⟩)
    generalize hw1 : w.alloc (.cells #[.int .i64 k] 3) = w1 at *
    gi_wp2_with (refine ⟨trivial, ?_⟩; gi_at_call 63; refine (files_in _ (by decide) p _).mono ?_; rintro e w' ⟨rfl, rfl⟩)
    have Y1 := Lib.hid y1
    have HSZ : Hid (w1.heap.size = w.heap.size + 1) := Lib.hid (by rw [← hw1]; simp)
    clear hon hw1 y1
    have hb1 : Below w1.heap.size w1 (w1.alloc (.cells #[.pointer (some ⟨p, 0, none⟩)] 24)) := (Below.refl _ w1).alloc (Nat.le_refl _) _
    have h2 := H1.out.below hb1
    have hbx : (w1.alloc (.cells #[.pointer (some ⟨p, 0, none⟩)] 24)).cell? ⟨w1.heap.size, 0, none⟩ = some (.pointer (some ⟨p, 0, none⟩)) := cell_of (hp_new w1 _) 0
    have hlt2 : (w1.alloc (.cells #[.pointer (some ⟨p, 0, none⟩)] 24)).heap.size = w1.heap.size + 1 := by simp
    refine wpIn_rangeFunc_ownF (α := FileOf (toB bl st.now) (toB bl st.sure)) rfl (by decide) (gf := 85) (lb := #[.pointer (some ⟨w1.heap.size, 0, none⟩)]) rfl trivial (enters_of Tryz.func85 (by kernel_rfl) rfl)
      (files_stops 4 (by decide) w1.heap.size p mn ms _ _ h2.ne _ hbx (cell_of h2.blk 1) (cell_of h2.blk 2) h2.now h2.sure (toB_cz h2)) KpF.trans KpF.put (Below.refl _ _) (fun _ => rfl)
      (fun pre W => FailI B w p mn ms bl k st (pre.map (·.1)) W) (fun _ _ _ => False) ?hI (fun _ _ _ _ _ hs _ _ => hs) ?h0
      (fun x => { tmps := #[.pointer (some ⟨p, 0, none⟩), .int .i64 k, undef, .pointer (some ⟨w.heap.size, 0, none⟩), .pointer (some ⟨x.1, 0, none⟩), undef, .pointer (some ⟨p, 0, none⟩), .bool true, .bool false, .pointer (some ⟨p, 0, none⟩), .func (.func 85) #[] #[.pointer (some ⟨w1.heap.size, 0, none⟩)], .pointer (some ⟨x.1, 0, none⟩), undef, undef, undef, undef, undef, undef, undef, undef, undef, undef, undef, undef, undef, undef, undef, undef, undef, undef, undef, undef, undef, undef, undef, undef, undef, undef, undef, undef, undef, undef, undef, undef, undef, undef, undef, undef, undef, undef, undef, undef, undef, undef, undef, undef, undef, undef, undef, undef, undef, undef, undef, undef, undef, undef, undef, undef, undef, undef, undef, undef, undef, undef, undef], defers := [] }) ?assign ?body ?done ?stop
    case hI =>
      rintro s W W' row ⟨q1, q2, q3⟩ hg hr
      have hr' : ∀ r, row = some r → w1.heap.size ≤ r ∧ ∃ o : Obj, W.heap[r]? = some o ∧ o.isCells = false := fun r e => ⟨by have := (hr r e).1; have := HSZ.out; omega, (hr r e).2⟩
      obtain ⟨t1, t2⟩ := q1.grown hg hr' (by have := HL.out; have := HSZ.out; omega) (by have := HL.out; have := HSZ.out; omega) (by have := HL.out; have := HSZ.out; omega)
      exact ⟨t1, q2.tr t2, t2.fix _ _ _ _ q3 (by decide) (by decide) (by simp)⟩
    case h0 =>
      refine ⟨by rw [List.map_nil, partF_nil]; exact h2, S1.out.tr (Stp.of_below hb1 H1.out.le), (hb1.block _ (hp_lt Y1.out)).trans Y1.out⟩
    case assign =>
      intro l x W K hK
      gi_wp2
      exact hK
    case body =>
      rintro l pre x W ⟨q1, q2, q3⟩ -
      clear hlt2 hbx h2 hb1
      obtain ⟨x, hx⟩ := x
      have HLE := Lib.hid hx
      obtain ⟨i, hi, he⟩ := toB_file q1 hx
      have hif : i < (partF bl k st (pre.map (·.1))).files.length := by rw [← q1.len]; exact hi
      have hlen : bl.length = st.files.length := by have := q1.len; simpa [partF] using this
      have hsn := partF_snoc k st (pre.map (·.1)) q1.nd hlen hi
      obtain ⟨vn, vs, f1, f2, f3⟩ := q1.fileAt hif
      have hbig := fl_big q1.inv i
      rw [he] at f1 hsn
      have hmap : List.map (fun y : FileOf (toB bl st.now) (toB bl st.sure) => y.1) (pre ++ [⟨x, hx⟩]) = List.map (fun y : FileOf (toB bl st.now) (toB bl st.sure) => y.1) pre ++ [x] := by rw [List.map_append]; rfl
      have HMAP := Lib.hid hmap
      clear hmap hlen
      generalize hxs : pre.map (·.1) = xs at *
      generalize hst : partF bl k st xs = st1 at *
      obtain ⟨⟨nw, sr⟩, hfl⟩ : ∃ f, fl st1 i = f := ⟨_, rfl⟩
      rw [hfl] at f2 f3 hbig hsn
      dsimp only at f2 f3 hbig
      obtain ⟨a, c, rfl, g3, g4⟩ := f2.form
      obtain ⟨a2, c2, rfl, g5, g6⟩ := f3.form
      have c0 : W.cell? ⟨x, 0, none⟩ = some (.slice a nw.length c) := cell_of f1 0
      have c1 : W.cell? ⟨x, 1, none⟩ = some (.slice a2 sr.length c2) := cell_of f1 1
      have ck : W.cell? ⟨w.heap.size, 0, none⟩ = some (.int .i64 k) := cell_of q3 0
      have fr0 : W.frozen? ⟨x, 0, none⟩ = false := free_of f1 0
      have fr1 : W.frozen? ⟨x, 1, none⟩ = false := free_of f1 1
      have HF1 := Lib.hid f1; have HF2 := Lib.hid f2; have HF3 := Lib.hid f3; have HB := Lib.hid hbig; have HE := Lib.hid he; have HSN := Lib.hid hsn; have Q1 := Lib.hid q1; have Q2 := Lib.hid q2; have Q3 := Lib.hid q3; have HIF := Lib.hid hif; have G3 := Lib.hid g3; have HLE := Lib.hid q1.le
      clear f1 f2 f3 hbig he hsn q1 q2 q3 hif g3 g4 g5 g6 hi hfl hst hxs
      by_cases hle : sr.length ≤ nw.length
      · have hd : decide (sr.length ≤ nw.length) = true := decide_eq_true hle
        have hsl := fun w => slice_to w a nw.length c sr.length (Nat.le_trans hle G3.out)
        have HEQ : Hid (∀ m, Calls Tryz.prog 64 #[.slice a sr.length c, .slice a2 sr.length c2] (W.drewN m) fun e w' => e = .returned (.bool (decide (nw.take sr.length = sr))) ∧ ∃ j, w' = (W.drewN m).drewN j) := Lib.hid (fun m => equal2_t ((HF2.out.take _ hle).below (below_of_drew ⟨m, rfl⟩) HLE.out) (HF3.out.below (below_of_drew ⟨m, rfl⟩) HLE.out) HLE.out)
        have HLE2 := Lib.hid hle
        clear hle
        by_cases heq : nw.take sr.length = sr
        · have hde : decide (nw.take sr.length = sr) = true := decide_eq_true heq
          have HEQ2 := Lib.hid heq; clear heq
          obtain ⟨kk, hkk⟩ : ∃ kk : Int, (if k < 0 then (0 : Int) else k) = kk := ⟨_, rfl⟩
          obtain ⟨dd, hdd⟩ : ∃ dd : Int, (nw.length : Int) - sr.length = dd := ⟨_, rfl⟩
          obtain ⟨mm, hmm⟩ : ∃ mm : Int, (if dd < kk then dd else kk) = mm := ⟨_, rfl⟩
          have hkk2 : kk = max k 0 := by rw [← hkk]; split <;> omega
          have hmm2 : mm = min (max k 0) ((nw.length : Int) - sr.length) := by rw [← hmm, hkk2, ← hdd]; split <;> omega
          obtain ⟨t, ht⟩ : ∃ t : Nat, (t : Int) = sr.length + mm := ⟨(sr.length + mm).toNat, by have := HLE2.out; omega⟩
          have htn : t ≤ nw.length := by have := HLE2.out; omega
          have HAF : Hid (afterFail k ⟨nw, sr⟩ = ⟨nw.take t, nw.take t⟩) := Lib.hid (afterFail_cut HEQ2.out (by rw [ht, hmm2]) HLE2.out)
          have ed : IntKind.i64.wrap ((nw.length : Int) - sr.length) = dd := by rw [IntWalk.i64_in _ (by have := HB.out; omega)]; exact hdd
          have et : IntKind.i64.wrap ((sr.length : Int) + mm) = (t : Int) := by rw [← ht]; exact IntWalk.i64_in _ (by have := HB.out; omega)
          have hs2 := fun w => slice_to w a nw.length c t (Nat.le_trans htn G3.out)
          have HTN := Lib.hid htn
          clear hdd hkk2 hmm2 ht htn
          gi_wp2
          refine wpIn_region_quiet_round (F := Fence.wide) rfl (by kernel_rfl) (by kernel_rfl) (by kernel_rfl) ?_
          repeat (gi_big_quiet_step (fail))
          refine BigFrame.wpQuietIn_want (fun _ _ _ _ => trivial) rfl ?_
          intro K hK
          gi_big_quiet_op
          gi_big_quiet_call ((gi_at_call 64; exact (callsIn_wide.2 (HEQ.out _)).mono (fun _ _ ⟨he, m, hm⟩ => ⟨he, _, hm.trans (World.drewN_drewN ..)⟩)))
          repeat (gi_big_quiet_step (fail))
          refine wpQuietIn_nil ?_
          intro _ hw'
          obtain ⟨nq, hw''⟩ := hw'
          subst hw''
          gi_wp2
          refine wpIn_region_tail_round 18 (by kernel_rfl) (by kernel_rfl) (by kernel_rfl) ?hq ?_
          case hq =>
            rintro ⟨a, w, h⟩
            exact h
          have hbd : ∃ m, (W.drewN nq).drew = W.drewN m := ⟨nq + 1, rfl⟩
          have HX : Hid (Stp [] B W (W.drewN nq).drew ∧ KeepsOthers W (W.drewN nq).drew ∧ KpF W (W.drewN nq).drew) := Lib.hid ⟨Stp.of_below (below_of_drew hbd) HLE.out, ⟨Nat.le_refl _, fun _ _ h _ => h⟩, ⟨⟨Nat.le_refl _, fun _ _ h _ => h⟩, fun _ h => h⟩⟩
          have Q1' := Lib.hid (Q1.out.below (below_of_drew hbd))
          have HF2' : Hid (BS B (W.drewN nq).drew (.slice a nw.length c) nw) := Lib.hid (HF2.out.below (below_of_drew hbd) HLE.out)
          have HF1' : Hid ((W.drewN nq).drew.heap[x]? = some (.cells #[.slice a nw.length c, .slice a2 sr.length c2] 82 (0, 0))) := HF1
          clear hbd
          have d0 : (W.drewN nq).drew.cell? ⟨x, 0, none⟩ = some (.slice a nw.length c) := c0
          have d1 : (W.drewN nq).drew.cell? ⟨x, 1, none⟩ = some (.slice a2 sr.length c2) := c1
          have dk : (W.drewN nq).drew.cell? ⟨w.heap.size, 0, none⟩ = some (.int .i64 k) := ck
          have gr0 : (W.drewN nq).drew.frozen? ⟨x, 0, none⟩ = false := fr0
          have gr1 : (W.drewN nq).drew.frozen? ⟨x, 1, none⟩ = false := fr1
          generalize (W.drewN nq).drew = Wd at *
          simp only [List.take_succ_cons, List.take_zero, List.drop_succ_cons, List.drop_zero]
          repeat still_step
          refine wpStill_nil ?_
          have HFIN := Lib.hid (fail_two Q1'.out HIF.out HE.out HF1'.out HF2'.out (HF2'.out.take t HTN.out) (by rw [List.length_take]; have := HB.out; omega) HB.out.1)
          have e1 : (Wd.setCell ⟨x, 1, none⟩ (.slice a t c)).cell? ⟨x, 1, none⟩ = some (.slice a t c) := cell_of (hp_set HF1'.out 1 _) 1
          have e2 : (Wd.setCell ⟨x, 1, none⟩ (.slice a t c)).frozen? ⟨x, 0, none⟩ = false := free_of (hp_set HF1'.out 1 _) 0
          have HK2 : Hid (KeepsOthers Wd ((Wd.setCell ⟨x, 1, none⟩ (.slice a t c)).setCell ⟨x, 0, none⟩ (.slice a t c)) ∧ KpF Wd ((Wd.setCell ⟨x, 1, none⟩ (.slice a t c)).setCell ⟨x, 0, none⟩ (.slice a t c))) := Lib.hid ⟨(KeepsOthers.setCell ..).trans (KeepsOthers.setCell ..), (KpF.setCell ..).trans (KpF.setCell ..)⟩
          go_wp2
          gi_wp2
          refine ⟨HX.out.2.1.trans HK2.out.1, HX.out.2.2.trans HK2.out.2, ?_⟩
          show FailI B w p mn ms bl k st _ _
          rw [HMAP.out]
          refine ⟨by rw [← HSN.out, HAF.out]; exact HFIN.out.1, Q2.out.tr (HX.out.1.tr HFIN.out.2), (HX.out.1.tr HFIN.out.2).fix _ _ _ _ Q3.out (by decide) (by decide) (by simp)⟩
        · have hde : decide (nw.take sr.length = sr) = false := decide_eq_false heq
          have HAF : Hid (afterFail k ⟨nw, sr⟩ = ⟨sr, sr⟩) := Lib.hid (afterFail_not heq)
          clear heq
          gi_wp2
          refine wpIn_region_quiet_round (F := Fence.wide) rfl (by kernel_rfl) (by kernel_rfl) (by kernel_rfl) ?_
          repeat (gi_big_quiet_step (fail))
          refine BigFrame.wpQuietIn_want (fun _ _ _ _ => trivial) rfl ?_
          intro K hK
          gi_big_quiet_op
          gi_big_quiet_call ((gi_at_call 64; exact (callsIn_wide.2 (HEQ.out _)).mono (fun _ _ ⟨he, m, hm⟩ => ⟨he, _, hm.trans (World.drewN_drewN ..)⟩)))
          repeat (gi_big_quiet_step (fail))
          refine wpQuietIn_nil ?_
          intro _ hw'
          obtain ⟨nq, hw''⟩ := hw'
          subst hw''
          gi_wp2
          have hbd : ∃ m, W.drewN nq = W.drewN m := ⟨nq, rfl⟩
          have HX : Hid (Stp [] B W (W.drewN nq) ∧ KeepsOthers W (W.drewN nq) ∧ KpF W (W.drewN nq)) := Lib.hid ⟨Stp.of_below (below_of_drew hbd) HLE.out, ⟨Nat.le_refl _, fun _ _ h _ => h⟩, ⟨⟨Nat.le_refl _, fun _ _ h _ => h⟩, fun _ h => h⟩⟩
          have HFIN := Lib.hid (fail_one (Q1.out.below (below_of_drew hbd)) HIF.out HE.out (show (W.drewN nq).heap[x]? = _ from HF1.out) (HF3.out.below (below_of_drew hbd) HLE.out) HB.out.2)
          refine ⟨HX.out.2.1.trans (KeepsOthers.setCell ..), HX.out.2.2.trans (KpF.setCell ..), ?_⟩
          show FailI B w p mn ms bl k st _ _
          rw [HMAP.out]
          refine ⟨by rw [← HSN.out, HAF.out]; exact HFIN.out.1, Q2.out.tr (HX.out.1.tr HFIN.out.2), (HX.out.1.tr HFIN.out.2).fix _ _ _ _ Q3.out (by decide) (by decide) (by simp)⟩
      · have hd : decide (sr.length ≤ nw.length) = false := decide_eq_false hle
        have HAF : Hid (afterFail k ⟨nw, sr⟩ = ⟨sr, sr⟩) := Lib.hid (afterFail_not (fun h => hle (by have := congrArg List.length h; rw [List.length_take] at this; omega)))
        clear hle
        gi_wp2
        refine wpIn_region_quiet_round (F := Fence.wide) rfl (by kernel_rfl) (by kernel_rfl) (by kernel_rfl) ?_
        repeat (gi_big_quiet_step (fail))
        refine skip_same (fun _ _ _ _ => trivial) rfl rfl ?_
        repeat (gi_big_quiet_step (fail))
        refine wpQuietIn_nil ?_
        intro _ hw'
        obtain ⟨nq, hw''⟩ := hw'
        subst hw''
        gi_wp2
        have hbd : ∃ m, W.drewN nq = W.drewN m := ⟨nq, rfl⟩
        have HX : Hid (Stp [] B W (W.drewN nq) ∧ KeepsOthers W (W.drewN nq) ∧ KpF W (W.drewN nq)) := Lib.hid ⟨Stp.of_below (below_of_drew hbd) HLE.out, ⟨Nat.le_refl _, fun _ _ h _ => h⟩, ⟨⟨Nat.le_refl _, fun _ _ h _ => h⟩, fun _ h => h⟩⟩
        have HFIN := Lib.hid (fail_one (Q1.out.below (below_of_drew hbd)) HIF.out HE.out (show (W.drewN nq).heap[x]? = _ from HF1.out) (HF3.out.below (below_of_drew hbd) HLE.out) HB.out.2)
        refine ⟨HX.out.2.1.trans (KeepsOthers.setCell ..), HX.out.2.2.trans (KpF.setCell ..), ?_⟩
        show FailI B w p mn ms bl k st _ _
        rw [HMAP.out]
        refine ⟨by rw [← HSN.out, HAF.out]; exact HFIN.out.1, Q2.out.tr (HX.out.1.tr HFIN.out.2), (HX.out.1.tr HFIN.out.2).fix _ _ _ _ Q3.out (by decide) (by decide) (by simp)⟩
    case done =>
      rintro D xs W hD hS ⟨q1, q2, q3⟩ hK
      have hlen : bl.length = st.files.length := by have := q1.len; simpa [partF] using this
      have hall := partF_all k st _ q1.nd hlen H1.out.inv.idx hS HD.out
      have hcl := clone_map q1.sure
      have hne : D ≠ W.heap.size ∧ D ≠ ms ∧ B ≤ D := by
        have h1 := hp_lt hK
        have h3 := HSZ.out; have h4 := HL.out
        omega
      have HCL : Calls Tryz.prog 65 #[.map (some ms)] W fun e w4 => e = .returned (.map (some W.heap.size)) ∧ w4.frozen? ⟨p, 1, none⟩ = false ∧ w4.frozen? ⟨p, 3, none⟩ = false ∧ w4.cell? ⟨p, 1, none⟩ = some (.map (some mn)) ∧ w4.cell? ⟨p, 3, none⟩ = some (.bool st.dark) ∧ Hid (RepC B w4 p mn ms bl (partF bl k st (xs.map (·.1))) ∧ Stp [] B W w4 ∧ w4.heap[D]? = some (.deferred (some [])) ∧ DirAt w4 W.heap.size (toB bl st.sure)) := by
        refine hcl.mono ?_
        rintro e w4 ⟨rfl, hb, -, hd4⟩
        have q4 := q1.below hb
        exact ⟨rfl, q4.free 1, q4.free 3, cell_of q4.blk 1, cell_of q4.blk 3, Lib.hid ⟨q4, Stp.of_below hb q1.le, (hb.block _ (hp_lt hK)).trans hK, hd4⟩⟩
      have c2 : W.cell? ⟨p, 2, none⟩ = some (.map (some ms)) := cell_of q1.blk 2
      have HALL := Lib.hid hall; have HNE := Lib.hid hne; have Q2 := Lib.hid q2; have HMS := Lib.hid (show W.heap.size ≠ ms ∧ B ≤ W.heap.size from ⟨by have := q1.sure.lt; omega, q1.le⟩)
      clear hlen hall hcl hne hS q1 q2 q3 hK hlt2 hbx h2 hb1
      gi_wp2_with (refine ⟨trivial, ?_⟩; gi_at_call 65; refine (callsIn_wide.2 HCL).mono ?_; rintro e w4 ⟨rfl, g1, g3, k1, k3, H4⟩)
      obtain ⟨q4, s4, k4, d4⟩ := H4.out
      obtain ⟨q5, s5⟩ := q4.darkened d4 HMS.out.2 HMS.out.1 rfl
      have hDp : D ≠ p := by
        rintro rfl
        have := q4.blk
        rw [k4] at this; cases this
      have k5 : ((w4.setCell ⟨p, 1, none⟩ (.map (some W.heap.size))).setCell ⟨p, 3, none⟩ (.bool true)).heap[D]? = some (.deferred (some [])) := hp_set_ne (hp_set_ne k4 hDp) hDp
      refine ⟨by simp, .inl ⟨_, _, rfl, run_takeDeferred k5, ?_⟩⟩
      obtain ⟨q6, s6⟩ := q5.grown2 (grownBy_putObj' _ D (.deferred none)) (fun r e => by cases e; exact ⟨HNE.out.2.2, HNE.out.1, HNE.out.2.1, _, k5, rfl⟩)
      exact ⟨_, results_none rfl _ _ _, rfl, ⟨_, _, _, by rw [← HALL.out]; exact q6⟩, Q2.out.tr (s4.tr (s5.tr s6))⟩
    case stop =>
      rintro D c pre W _ _ h _
      exact h.elim
end Go.Proofs.YthjilhjdnefmdaaGreatDoor
