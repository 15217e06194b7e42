/- Joined texts: The store's closures on files. Conditions: none. The store's closures that make bytes. Conditions: none. The store's closure of Write. Conditions: none. The store's closures on directories. Conditions: none. The store's calls. Conditions: none. The store's calls on files. Conditions: none. The store's calls: Cut, Move, Commit. Conditions: none. The store's calls: Move. Conditions: none. The store's calls: Read, Plan, Power, New. Conditions: none. -/
import Derived.Test.YthjilhjdnefmdaaGreatDoorMA
import Derived.Deep.RegionWith
import Derived.Shelf.SlMaps.Clone
import Derived.RegionTactic
import Derived.Deep.RegionLaw
import Derived.Deep.QuietTactic
import Derived.BigQuiet
/- The store's closures on files. Conditions: none. -/
namespace Go.Proofs.YthjilhjdnefmdaaGreatDoor
open Go.RowKit
open Go.ChangeMaps (setBlock)
section
variable {B : Nat} {w : World} {p mn ms : Nat} {bl : List Nat} {st : St}
theorem nodup_inj {l : List Nat} (h : l.Nodup) {i j : Nat} (hi : i < l.length) (hj : j < l.length) (e : l[i] = l[j]) : i = j := by
  have h' := List.pairwise_iff_getElem.1 h
  rcases Nat.lt_trichotomy i j with hlt | rfl | hlt
  · exact absurd e (h' i j hi hj hlt)
  · rfl
  · exact absurd e.symm (h' j i hj hi hlt)
theorem BS.form {v : Value} {l : List UInt8} (h : BS B w v l) : ∃ a c, v = .slice a l.length c ∧ l.length ≤ c ∧ c ≤ maxLen := by
  obtain ⟨a, c, h1, h2, h3, -⟩ := h
  rw [List.length_map] at h1 h2
  exact ⟨a, c, h1, h2, h3⟩
theorem fl_set (st : St) (i j : Nat) (f : Fl) (hi : i < st.files.length) : (setFl st i f).files[j]? = if i = j then some f else st.files[j]? := by
  simp only [setFl, List.getElem?_set]
  split
  · subst_vars; simp
  · rfl
theorem Inv.setFl (h : Inv st) (i : Nat) (f : Fl) (hf : f.now.length ≤ 1073741824 ∧ f.sure.length ≤ 1073741824) : Inv (setFl st i f) :=
  ⟨h.room, h.nown, h.suren, fun g hg => by
    rcases List.mem_or_eq_of_mem_set hg with hg | rfl
    · exact h.big g hg
    · exact hf, fun q hq => by
    show q.2 < (st.files.set i f).length
    rw [List.length_set]; exact h.idx q hq⟩

theorem RepC.setFile (h : RepC B w p mn ms bl st) {i : Nat} (hi : i < st.files.length) (j : Nat) (v : Value) (f : Fl) (vn vs : Value)
    (hb : w.heap[bl.getD i 0]? = some (.cells #[vn, vs] 82 (0, 0)))
    (hv : ∃ vn' vs', (#[vn, vs] : Array Value).setIfInBounds j v = #[vn', vs'] ∧ BS B w vn' f.now ∧ BS B w vs' f.sure) (hl : f.now.length ≤ 1073741824 ∧ f.sure.length ≤ 1073741824) :
    RepC B (w.setCell ⟨bl.getD i 0, j, none⟩ v) p mn ms bl (setFl st i f) ∧ Stp [] B w (w.setCell ⟨bl.getD i 0, j, none⟩ v) := by
  have hi' : i < bl.length := by rw [h.len]; exact hi
  have hbl : bl.getD i 0 = bl[i] := by simp [List.getD, hi']
  rw [hbl] at hb ⊢
  have hlb : B ≤ bl[i] := h.lbl _ (List.getElem_mem hi')
  have hs : Stp [] B w (w.setCell ⟨bl[i], j, none⟩ v) := (Stp.refl [] B w).setCell (p := ⟨bl[i], j, none⟩) hlb v (fun cs e fr hc => by
    have hc' : w.heap[bl[i]]? = some (.cells cs e fr) := hc
    rw [hb] at hc'; simp only [Option.some.injEq, Obj.cells.injEq] at hc'; exact .inr (.inl hc'.2.1.symm))
  obtain ⟨vn', vs', hset, hb1, hb2⟩ := hv
  have np : p ≠ bl[i] := by intro e; have := h.blk; rw [e, hb] at this; simp [storeObj] at this
  have nn : mn ≠ bl[i] := by intro e; exact h.now.nocells _ _ _ (e ▸ hb)
  have ns : ms ≠ bl[i] := by intro e; exact h.sure.nocells _ _ _ (e ▸ hb)
  refine ⟨⟨hp_set_ne h.blk np, ?_, ?_, h.ne, h.lp, h.lmn, h.lms, h.lbl, h.nd, by simp [Go.Proofs.YthjilhjdnefmdaaGreatDoor.setFl, h.len], fun k hk g hg => ?_, h.inv.setFl i f hl⟩, hs⟩
  · obtain ⟨es, clk, h1, h2⟩ := h.now; exact ⟨es, clk, hp_set_ne h1 nn, h2⟩
  · obtain ⟨es, clk, h1, h2⟩ := h.sure; exact ⟨es, clk, hp_set_ne h1 ns, h2⟩
  · rw [fl_set st i k f hi] at hg
    by_cases hik : i = k
    · subst hik
      simp at hg; subst hg
      refine ⟨vn', vs', ?_, BS.stp hb1 hs, BS.stp hb2 hs⟩
      rw [hp_set hb j v, hset]
    · rw [if_neg hik] at hg
      obtain ⟨a, b, q1, q2, q3⟩ := h.file k hk g hg
      have hne : bl[k] ≠ bl[i] := by
        intro e
        exact hik (nodup_inj h.nd hk hi' e).symm
      exact ⟨a, b, hp_set_ne q1 hne, BS.stp q2 hs, BS.stp q3 hs⟩

theorem Ended.of {f : Nat} {caps : Array Value} {st2 : St} (h : Calls Tryz.prog f caps w fun e w2 => e = .returned (.tuple #[]) ∧ (Rep B w2 p st2 ∧ Stp [] B w w2)) : Ended f caps B p w st2 := h

set_option maxRecDepth 100000 in
set_option maxHeartbeats 400000 in
theorem sync1_t (h : RepC B w p mn ms bl st) {i : Nat} (hi : i < st.files.length) (b1 : Nat) (hb1 : w.heap[b1]? = some (.cells #[.pointer (some ⟨bl.getD i 0, 0, none⟩)] 78 (0, 0))) :
    Ended 73 #[.pointer (some ⟨b1, 0, none⟩)] B p w (setFl st i ⟨(fl st i).now, (fl st i).now⟩) := by
  obtain ⟨vn, vs, hf, g1, g2⟩ := h.fileAt hi
  have hbig := (fl_big h.inv i)
  obtain ⟨h1, s1⟩ := h.setFile hi 1 vn ⟨(fl st i).now, (fl st i).now⟩ vn vs hf ⟨vn, vn, rfl, g1, g1⟩ ⟨hbig.1, hbig.1⟩
  have H1 : Hid (Rep B (w.setCell ⟨bl.getD i 0, 1, none⟩ vn).drew p (setFl st i ⟨(fl st i).now, (fl st i).now⟩) ∧ Stp [] B w (w.setCell ⟨bl.getD i 0, 1, none⟩ vn).drew) :=
    Lib.hid ⟨⟨_, _, _, h1.below (Below.refl _ _).drew⟩, s1.drew⟩
  clear h1 s1
  obtain ⟨b, hb⟩ : ∃ b, bl.getD i 0 = b := ⟨_, rfl⟩
  rw [hb] at hf hb1 H1
  have c0 : w.cell? ⟨b1, 0, none⟩ = some (.pointer (some ⟨b, 0, none⟩)) := cell_of hb1 0
  have c1 : w.cell? ⟨b, 0, none⟩ = some vn := cell_of hf 0
  have c2 : w.cell? ⟨b, 1, none⟩ = some vs := cell_of hf 1
  have f2 : w.frozen? ⟨b, 1, none⟩ = false := free_of hf 1
  obtain ⟨a, c, rfl, -, -⟩ := g1.form
  clear h hf hb1 g2 hb hbig
  apply Ended.of
  go_enter Tryz.func73, Tryz.ntmps73
  go_wp2_with fail
  go_region
  all_goals go_end0
  all_goals exact ⟨rfl, H1.out⟩
end
end Go.Proofs.YthjilhjdnefmdaaGreatDoor
/- The store's closures that make bytes. Conditions: none. -/
namespace Go.Proofs.YthjilhjdnefmdaaGreatDoor
open Go.RowKit
open Go.ChangeMaps (setBlock)
section
variable {B : Nat} {w : World} {p mn ms : Nat} {bl : List Nat} {st : St}
theorem other_cell {w : World} {b b' i j : Nat} {x : Value} (h : b' ≠ b) (hc : w.cell? ⟨b', i, none⟩ = some x) (v : Value) : (w.setCell ⟨b, j, none⟩ v).cell? ⟨b', i, none⟩ = some x := by
  rw [World.cell?_setCell_other _ _ _ _ (by intro e; cases e; exact h rfl)]; exact hc
/-- What is known behind a callee that makes bytes. -/
def Made (B : Nat) (w w' : World) (v : Value) (l : List UInt8) : Prop := BS B w' v l ∧ Below w.heap.size w w'

theorem RS.take {e : TypeId} {B : Nat} {w : World} {a : Option Addr} {n c : Nat} {xs : List Value} (h : RS e B w (.slice a n c) xs) (k : Nat) (hk : k ≤ xs.length) : RS e B w (.slice a k c) (xs.take k) := by
  obtain ⟨a', c', he, h1, h2, h3⟩ := h
  cases he
  have hl : (xs.take k).length = k := by rw [List.length_take]; omega
  refine ⟨a, c, by rw [hl], by rw [hl]; omega, h2, ?_⟩
  rcases h3 with h3 | ⟨b, o, rfl, h4, h5⟩
  · exact .inl (by rw [h3]; simp)
  · exact .inr ⟨b, o, rfl, h4, fun i x hx => h5 i x (by rw [List.getElem?_take] at hx; split at hx; exact hx; cases hx)⟩
theorem BS.take {B : Nat} {w : World} {a : Option Addr} {n c : Nat} {l : List UInt8} (h : BS B w (.slice a n c) l) (k : Nat) (hk : k ≤ l.length) : BS B w (.slice a k c) (l.take k) := by
  have := RS.take h k (by simpa using hk)
  rw [← List.map_take] at this; exact this

theorem slice_to (w : World) (a : Option Addr) (n c k : Nat) (hk : k ≤ c) : (Instr.slice 27 (.slice a n c) none (some (.int .i64 (k : Int))) none).run Tryz.prog w = .ok (.slice a k c) w := by
  have hu : Tryz.prog.underlying 27 = some (.slice 5) := by kernel_rfl
  obtain ⟨i, hi, hz, hs, hb⟩ := slT27.hi
  have h1 : (k : Int) ≤ (c : Int) := by omega
  simp [Instr.slice, run_underlying hu, Instr.sliceBounds, Instr.sliceBound, asIntOf, sizeOf, typeInfo, hi, Result.andThen, Addr.add, hk]

set_option maxRecDepth 100000 in
set_option maxHeartbeats 1000000 in
theorem cut1_t (h : RepC B w p mn ms bl st) {i : Nat} (hi : i < st.files.length) (b1 b2 k : Nat) (hb1 : w.heap[b1]? = some (.cells #[.pointer (some ⟨bl.getD i 0, 0, none⟩)] 78 (0, 0)))
    (hb2 : w.heap[b2]? = some (.cells #[.int .i64 (k : Int)] 3 (0, 0))) (hk : k ≤ (fl st i).now.length) :
    Ended 50 #[.pointer (some ⟨b1, 0, none⟩), .pointer (some ⟨b2, 0, none⟩)] B p w (setFl st i ⟨(fl st i).now.take k, (fl st i).sure⟩) := by
  obtain ⟨vn, vs, hf, g1, g2⟩ := h.fileAt hi
  have hbig := (fl_big h.inv i)
  obtain ⟨a, c, rfl, g3, -⟩ := g1.form
  have gt := g1.take k hk
  have hcl := clone_t (w := w.drew) (RS.below gt (Below.refl _ _).drew h.le) (by rw [List.length_take]; omega) h.le
  have HCL : Calls Tryz.prog 39 #[.slice a k c] w.drew fun e w' => ∃ a' n' c', e = .returned (.slice a' n' c') ∧ w'.cell? ⟨b1, 0, none⟩ = some (.pointer (some ⟨bl.getD i 0, 0, none⟩)) ∧ w'.cell? ⟨bl.getD i 0, 0, none⟩ = some (.slice a (fl st i).now.length c) ∧ w'.cell? ⟨b2, 0, none⟩ = some (.int .i64 (k : Int)) ∧ w'.frozen? ⟨bl.getD i 0, 0, none⟩ = false ∧ Hid (Rep B (w'.setCell ⟨bl.getD i 0, 0, none⟩ (.slice a' n' c')) p (setFl st i ⟨(fl st i).now.take k, (fl st i).sure⟩) ∧ Stp [] B w (w'.setCell ⟨bl.getD i 0, 0, none⟩ (.slice a' n' c'))) := by
    refine hcl.mono ?_
    rintro e w' ⟨v', rfl, hv', hb'⟩
    have hbw : Below w.heap.size w w' := ((Below.refl w.heap.size w).drew).trans hb'
    obtain ⟨a', c', rfl, -⟩ := hv'.form
    have h' := h.below hbw
    have hf' := (hbw.block _ (hp_lt hf)).trans hf
    have g2' := RS.below g2 hbw h.le
    obtain ⟨h1, s1⟩ := h'.setFile hi 0 (.slice a' ((fl st i).now.take k).length c') ⟨(fl st i).now.take k, (fl st i).sure⟩ _ vs hf' ⟨_, vs, rfl, hv', g2'⟩ ⟨by rw [List.length_take]; omega, hbig.2⟩
    exact ⟨a', _, c', rfl, cell_of ((hbw.block _ (hp_lt hb1)).trans hb1) 0, cell_of hf' 0, cell_of ((hbw.block _ (hp_lt hb2)).trans hb2) 0, free_of hf' 0, Lib.hid ⟨⟨_, _, _, h1⟩, (Stp.of_below hbw h.le).tr s1⟩⟩
  obtain ⟨b, hb⟩ : ∃ b, bl.getD i 0 = b := ⟨_, rfl⟩
  rw [hb] at hf hb1 HCL
  have c0 : w.cell? ⟨b1, 0, none⟩ = some (.pointer (some ⟨b, 0, none⟩)) := cell_of hb1 0
  have c1 : w.cell? ⟨b, 0, none⟩ = some (.slice a (fl st i).now.length c) := cell_of hf 0
  have c2 : w.cell? ⟨b2, 0, none⟩ = some (.int .i64 (k : Int)) := cell_of hb2 0
  have hkc : k ≤ c := by omega
  have hkc' : (k : Int) ≤ (c : Int) := by omega
  have HC := Lib.hid HCL
  clear h hf hb1 hb2 g1 g2 hb hbig hcl gt HCL hk g3
  apply Ended.of
  go_enter Tryz.func50, Tryz.ntmps50
  go_wp2_with fail
  go_region_with (go_at_call 39; refine HC.out.mono ?_; rintro e w' ⟨a', n', c', rfl, q0, q1, q2, q3, q4⟩)
  all_goals go_end0
  all_goals exact ⟨rfl, q4.out⟩
end
end Go.Proofs.YthjilhjdnefmdaaGreatDoor
/- The store's closure of Write. Conditions: none. -/
namespace Go.Proofs.YthjilhjdnefmdaaGreatDoor
open Go.RowKit
open Go.ChangeMaps (setBlock)
section
variable {B : Nat} {w : World} {p mn ms : Nat} {bl : List Nat} {st : St}
set_option maxRecDepth 100000 in
set_option maxHeartbeats 4000000 in
theorem write1_t (h : RepC B w p mn ms bl st) {i : Nat} (hi : i < st.files.length) (b1 b2 : Nat) (v : Value) (l : List UInt8) (hb1 : w.heap[b1]? = some (.cells #[.pointer (some ⟨bl.getD i 0, 0, none⟩)] 78 (0, 0)))
    (hb2 : w.heap[b2]? = some (.cells #[v] 27 (0, 0))) (hv : BS B w v l) (hl : (fl st i).now.length + l.length ≤ 1073741824) :
    Ended 79 #[.pointer (some ⟨b1, 0, none⟩), .pointer (some ⟨b2, 0, none⟩)] B p w (setFl st i ⟨(fl st i).now ++ l, (fl st i).sure⟩) := by
  obtain ⟨vn, vs, hf, g1, g2⟩ := h.fileAt hi
  have hbig := (fl_big h.inv i)
  obtain ⟨a, c, rfl, -, -⟩ := g1.form
  obtain ⟨a2, c2, rfl, -, -⟩ := hv.form
  have hbw0 : Below w.heap.size w (w.alloc (.cells #[.slice a (fl st i).now.length c, .slice a2 l.length c2] 27)).drew := ((Below.refl _ _).alloc (Nat.le_refl _) _).drew
  have hx : (w.alloc (.cells #[.slice a (fl st i).now.length c, .slice a2 l.length c2] 27)).drew.heap[w.heap.size]? = some (.cells #[.slice a (fl st i).now.length c, .slice a2 l.length c2] 27 (0, 0)) := hp_new w _
  have hrs : RS 27 B (w.alloc (.cells #[.slice a (fl st i).now.length c, .slice a2 l.length c2] 27)).drew (.slice (some ⟨w.heap.size, 0, none⟩) 2 2) [.slice a (fl st i).now.length c, .slice a2 l.length c2] := by
    refine ⟨_, 2, rfl, Nat.le_refl _, by decide, .inr ⟨w.heap.size, 0, rfl, .inr ⟨_, _, hx⟩, fun j x hj => ?_⟩⟩
    rw [cell_of hx, Nat.zero_add]
    simpa using hj
  have hcl := concat_t (w := (w.alloc (.cells #[.slice a (fl st i).now.length c, .slice a2 l.length c2] 27)).drew) (B := B) (ls := [(fl st i).now, l]) hrs rfl (fun j h1 h2 => by
    match j, h1 with
    | 0, _ => exact RS.below g1 hbw0 h.le
    | 1, _ => exact RS.below hv hbw0 h.le) (by simp; omega) (by simp) (Nat.le_trans h.le hbw0.size)
  have HCL : Calls Tryz.prog 80 #[.slice (some ⟨w.heap.size, 0, none⟩) 2 2] (w.alloc (.cells #[.slice a (fl st i).now.length c, .slice a2 l.length c2] 27)).drew fun e w' => ∃ a' n' c', e = .returned (.slice a' n' c') ∧ w'.cell? ⟨b1, 0, none⟩ = some (.pointer (some ⟨bl.getD i 0, 0, none⟩)) ∧ w'.cell? ⟨bl.getD i 0, 0, none⟩ = some (.slice a (fl st i).now.length c) ∧ w'.frozen? ⟨bl.getD i 0, 0, none⟩ = false ∧ Hid (Rep B (w'.setCell ⟨bl.getD i 0, 0, none⟩ (.slice a' n' c')) p (setFl st i ⟨(fl st i).now ++ l, (fl st i).sure⟩) ∧ Stp [] B w (w'.setCell ⟨bl.getD i 0, 0, none⟩ (.slice a' n' c'))) := by
    refine hcl.mono ?_
    rintro e w' ⟨v', rfl, hv', hb'⟩
    have hbw : Below w.heap.size w w' := hbw0.trans (hb'.mono hbw0.size)
    have hfl : [(fl st i).now, l].flatten = (fl st i).now ++ l := by simp
    rw [hfl] at hv'
    obtain ⟨a', c', rfl, -⟩ := hv'.form
    have h' := h.below hbw
    have hf' := (hbw.block _ (hp_lt hf)).trans hf
    have g2' := RS.below g2 hbw h.le
    obtain ⟨h1, s1⟩ := h'.setFile hi 0 (.slice a' ((fl st i).now ++ l).length c') ⟨(fl st i).now ++ l, (fl st i).sure⟩ _ vs hf' ⟨_, vs, rfl, hv', g2'⟩ ⟨by rw [List.length_append]; omega, hbig.2⟩
    exact ⟨a', _, c', rfl, cell_of ((hbw.block _ (hp_lt hb1)).trans hb1) 0, cell_of hf' 0, free_of hf' 0, Lib.hid ⟨⟨_, _, _, h1⟩, (Stp.of_below hbw h.le).tr s1⟩⟩
  obtain ⟨b, hb⟩ : ∃ b, bl.getD i 0 = b := ⟨_, rfl⟩
  rw [hb] at hf hb1 HCL
  have c0 : w.cell? ⟨b1, 0, none⟩ = some (.pointer (some ⟨b, 0, none⟩)) := cell_of hb1 0
  have c1 : w.cell? ⟨b, 0, none⟩ = some (.slice a (fl st i).now.length c) := cell_of hf 0
  have c2' : w.cell? ⟨b2, 0, none⟩ = some (.slice a2 l.length c2) := cell_of hb2 0
  have d0 : ∀ o, (w.alloc o).cell? ⟨b1, 0, none⟩ = some (.pointer (some ⟨b, 0, none⟩)) := fun o => cell_of (hp_old hb1) 0
  have d1 : ∀ o, (w.alloc o).cell? ⟨b, 0, none⟩ = some (.slice a (fl st i).now.length c) := fun o => cell_of (hp_old hf) 0
  have HC := Lib.hid HCL
  clear h hf hb1 hb2 g1 g2 hb hbig hcl HCL hv hx hrs hbw0
  apply Ended.of
  go_enter Tryz.func79, Tryz.ntmps79
  go_wp2_with fail
  go_region_with (go_at_call 80; refine HC.out.mono ?_; rintro e w' ⟨a', n', c', rfl, q0, q1, q2, q4⟩)
  all_goals go_end0
  all_goals exact ⟨rfl, q4.out⟩
end
end Go.Proofs.YthjilhjdnefmdaaGreatDoor
/- The store's closures on directories. Conditions: none. -/
namespace Go.Proofs.YthjilhjdnefmdaaGreatDoor
open Go.RowKit
open Go.ChangeMaps (setBlock)
section
variable {B : Nat} {w : World} {p mn ms : Nat} {bl : List Nat} {st : St}
def commitD (st : St) : St := { st with sure := st.now }
def dropD (nm : Nm) (st : St) : St := { st with now := ddel st.now nm }
def moveD (i : Nat) (a b : Nm) (st : St) : St := { st with now := dset (ddel st.now a) b i }

attribute [local go_sem] eql_map
theorem clone_map {m : Nat} {d : Dr} (h : DirAt w m d) :
    Calls Tryz.prog 65 #[.map (some m)] w fun e w' => e = .returned (.map (some w.heap.size)) ∧ Below w.heap.size w w' ∧ w'.heap.size = w.heap.size + 1 ∧ DirAt w' w.heap.size d := by
  obtain ⟨es, clk, h1, h2, h3⟩ := h
  have hu : Tryz.prog.underlying 62 = some (.map 9 78) := by kernel_rfl
  have hx : (callFunc 86 #[.iface 62 (.map (some m))]).run Tryz.prog w = .ok (.value (.iface 62 (.map (some w.heap.size)))) (w.alloc (.map es clk)) := by
    rw [run_callFunc_extern (fn := Tryz.f86) (e := Extern.MapsClone.clone) (by kernel_rfl) (by kernel_rfl) (by kernel_rfl) (by kernel_rfl) (by kernel_rfl), run_maps_clone_sl w 62 h1]
    rfl
  have hta := fun w => run_typeAssert_map_sl (P := Tryz.prog) w 62 20 9 78 (.map (some m)) hu
  have hta' := fun w v => run_typeAssert_map_sl (P := Tryz.prog) w 62 20 9 78 v hu
  have HD := Lib.hid (show DirAt (w.alloc (.map es clk)) w.heap.size d from ⟨es, clk, hp_new _ _, h2, h3⟩)
  clear h1 h2 h3 hta
  go_enter Tryz.func65, Tryz.ntmps65
  go_wp2
  go_ret
  exact ⟨rfl, (Below.refl _ _).alloc (Nat.le_refl _) _, by simp, HD.out⟩

theorem ddel_sub (d : Dr) (n : Nm) : (ddel d n).length ≤ d.length ∧ ∀ q ∈ ddel d n, q ∈ d :=
  ⟨List.length_filter_le _ _, fun _q hq => (List.mem_filter.1 hq).1⟩
theorem Inv.drop (h : Inv st) (nm : Nm) : Inv (dropD nm st) :=
  ⟨h.room, Nat.le_trans (ddel_sub st.now nm).1 h.nown, h.suren, h.big, fun q hq => by
    rcases List.mem_append.1 hq with hq | hq
    · exact h.idx q (List.mem_append_left _ ((ddel_sub st.now nm).2 q hq))
    · exact h.idx q (List.mem_append_right _ hq)⟩

set_option maxRecDepth 100000 in
theorem drop1_t (h : RepC B w p mn ms bl st) (nm : Nm) (b1 b2 : Nat) (hb1 : w.heap[b1]? = some (.cells #[.pointer (some ⟨p, 0, none⟩)] 24 (0, 0))) (hb2 : w.heap[b2]? = some (.cells #[.string nm] 9 (0, 0))) :
    Ended 83 #[.pointer (some ⟨b1, 0, none⟩), .pointer (some ⟨b2, 0, none⟩)] B p w (dropD nm st) := by
  obtain ⟨es, clk, hu, hd⟩ := run_delete_dir (w := w.drew) h.now nm 0
  rw [ddel_toB] at hd
  have h' := h.below (Below.refl _ w).drew
  obtain ⟨h4, s4⟩ := h'.dirTurn rfl hd (h.inv.drop nm)
  have p1 : w.cell? ⟨b1, 0, none⟩ = some (.pointer (some ⟨p, 0, none⟩)) := cell_of hb1 0
  have p2 : w.cell? ⟨b2, 0, none⟩ = some (.string nm) := cell_of hb2 0
  have p3 : w.cell? ⟨p, 1, none⟩ = some (.map (some mn)) := cell_of h.blk 1
  have H4 := Lib.hid h4; have S4 := Lib.hid (((Stp.refl [] B w).drew).tr s4)
  clear h4 s4 hd h h' hb1 hb2
  apply Ended.of
  go_enter Tryz.func83, Tryz.ntmps83
  go_wp2_with fail
  go_region
  all_goals go_end0
  all_goals exact ⟨rfl, ⟨_, _, _, H4.out⟩, S4.out⟩

theorem Inv.dset (h : Inv st) (nm : Nm) (i : Nat) (hi : i < st.files.length) (hn : st.now.length + 1 ≤ 67108864) : Inv { st with now := dset st.now nm i } :=
  ⟨h.room, by
    show (Go.Proofs.YthjilhjdnefmdaaGreatDoor.dset st.now nm i).length ≤ _
    unfold Go.Proofs.YthjilhjdnefmdaaGreatDoor.dset; split <;> simp <;> omega, h.suren, h.big, fun q hq => by
    show q.2 < st.files.length
    rcases List.mem_append.1 hq with hq | hq
    · rcases dset_mem (m := q.1) (j := q.2) hq with ⟨_, h2⟩ | h2
      · rw [h2]; exact hi
      · exact h.idx q (List.mem_append_left _ h2)
    · exact h.idx q (List.mem_append_right _ hq)⟩
theorem dset_len (d : Dr) (n : Nm) (i : Nat) : (dset d n i).length ≤ d.length + 1 := by
  unfold dset; split <;> simp
theorem ddel_lt {d : Dr} {n : Nm} {i : Nat} (h : dget d n = some i) : (ddel d n).length + 1 ≤ d.length := by
  have hm := dget_mem h
  unfold ddel
  have : (d.filter fun p => decide (p.1 ≠ n)).length ≠ d.length := by
    intro e
    have := List.length_filter_eq_length_iff.1 e (n, i) hm
    simp at this
  have := List.length_filter_le (fun p : Nm × Nat => decide (p.1 ≠ n)) d
  omega

set_option maxRecDepth 100000 in
set_option maxHeartbeats 1000000 in
theorem move1_t (h : RepC B w p mn ms bl st) (na nb : Nm) (i : Nat) (hi : dget st.now na = some i) (b1 b2 b3 b4 : Nat) (hb1 : w.heap[b1]? = some (.cells #[.pointer (some ⟨p, 0, none⟩)] 24 (0, 0))) (hb2 : w.heap[b2]? = some (.cells #[.string na] 9 (0, 0)))
    (hb3 : w.heap[b3]? = some (.cells #[.pointer (some ⟨bl.getD i 0, 0, none⟩)] 78 (0, 0))) (hb4 : w.heap[b4]? = some (.cells #[.string nb] 9 (0, 0))) :
    Ended 84 #[.pointer (some ⟨b1, 0, none⟩), .pointer (some ⟨b2, 0, none⟩), .pointer (some ⟨b3, 0, none⟩), .pointer (some ⟨b4, 0, none⟩)] B p w (moveD i na nb st) := by
  obtain ⟨es, clk, hu, hd⟩ := run_delete_dir (w := w.drew) h.now na 0
  rw [ddel_toB] at hd
  have hilt : i < st.files.length := h.inv.idx (na, i) (List.mem_append_left _ (dget_mem hi))
  have h' := h.below (Below.refl _ w).drew
  obtain ⟨h4, s4⟩ := h'.dirTurn rfl hd (h.inv.drop na)
  have s4' : Stp [] B w (setBlock w.drew mn (.map es clk)) := ((Stp.refl [] B w).drew).tr s4
  have k1 := s4'.fix _ _ _ _ hb1 (by decide) (by decide) (by simp)
  have k2 := s4'.fix _ _ _ _ hb2 (by decide) (by decide) (by simp)
  have k3 := s4'.fix _ _ _ _ hb3 (by decide) (by decide) (by simp)
  have k4 := s4'.fix _ _ _ _ hb4 (by decide) (by decide) (by simp)
  have p1 : w.cell? ⟨b1, 0, none⟩ = some (.pointer (some ⟨p, 0, none⟩)) := cell_of hb1 0
  have p2 : w.cell? ⟨b2, 0, none⟩ = some (.string na) := cell_of hb2 0
  have p3 : w.cell? ⟨p, 1, none⟩ = some (.map (some mn)) := cell_of h.blk 1
  have hlen : (dropD na st).now.length + 1 ≤ 67108864 := Nat.le_trans (ddel_lt hi) h.inv.nown
  apply Ended.of
  go_enter Tryz.func84, Tryz.ntmps84
  go_wp2_with fail
  go_region
  clear hu p1 p2 p3 hb1 hb2 hb3 hb4 hd s4 h h'
  generalize setBlock w.drew mn (.map es clk) = w1 at *
  obtain ⟨es2, clk2, hu2, hd2⟩ := run_update_dir (w := w1.drew) (h4.below (Below.refl _ w1).drew).now nb (bl.getD i 0)
  have hd2' : DirAt (setBlock w1.drew mn (.map es2 clk2)) mn (toB bl (dset (dropD na st).now nb i)) := by rw [← dset_toB]; exact hd2
  obtain ⟨h5, s5⟩ := (h4.below (Below.refl _ w1).drew).dirTurn rfl hd2' (h4.inv.dset nb i hilt hlen)
  have S5 := Lib.hid ((s4'.drew).tr s5)
  have H5 := Lib.hid h5
  unfold ptr at hu2
  have q1 : w1.cell? ⟨b1, 0, none⟩ = some (.pointer (some ⟨p, 0, none⟩)) := cell_of k1 0
  have q3 : w1.cell? ⟨b3, 0, none⟩ = some (.pointer (some ⟨bl.getD i 0, 0, none⟩)) := cell_of k3 0
  have q4 : w1.cell? ⟨b4, 0, none⟩ = some (.string nb) := cell_of k4 0
  have q2 : w1.cell? ⟨p, 1, none⟩ = some (.map (some mn)) := cell_of h4.blk 1
  obtain ⟨b, hb⟩ : ∃ b, bl.getD i 0 = b := ⟨_, rfl⟩
  rw [hb] at hu2 q3
  clear k1 k2 k3 k4 h4 hd2 hd2' h5 s5 s4' hb hi hilt hlen
  go_wp2
  go_region
  all_goals go_end0
  all_goals exact ⟨rfl, ⟨_, _, _, H5.out⟩, S5.out⟩

theorem RepC.commit (h : RepC B w p mn ms bl st) {m2 : Nat} (hd : DirAt w m2 (toB bl st.now)) (hm : B ≤ m2) (hne : mn ≠ m2) :
    RepC B (w.setCell ⟨p, 2, none⟩ (.map (some m2))) p mn m2 bl (commitD st) ∧ Stp [] B w (w.setCell ⟨p, 2, none⟩ (.map (some m2))) := by
  have hs := h.setStp 2 (.map (some m2))
  have nn : mn ≠ p := by rintro rfl; exact h.now.nocells _ _ _ h.blk
  have n2 : m2 ≠ p := by rintro rfl; exact hd.nocells _ _ _ h.blk
  refine ⟨⟨?_, ?_, ?_, hne, h.lp, h.lmn, hm, h.lbl, h.nd, h.len, fun i hi f hf => ?_, ⟨h.inv.room, h.inv.nown, h.inv.nown, h.inv.big, fun q hq => h.inv.idx q (List.mem_append_left _ (by rcases List.mem_append.1 hq with hq | hq <;> exact hq))⟩⟩, hs⟩
  · have := hp_set h.blk 2 (.map (some m2))
    rw [this]; rfl
  · obtain ⟨es, clk, h1, h2⟩ := h.now; exact ⟨es, clk, hp_set_ne h1 nn, h2⟩
  · obtain ⟨es, clk, h1, h2⟩ := hd; exact ⟨es, clk, hp_set_ne h1 n2, h2⟩
  · obtain ⟨vn, vs, h1, h2, h3⟩ := h.file i hi f hf
    have : bl[i] ≠ p := by intro e; rw [e] at h1; rw [h.blk] at h1; simp [storeObj] at h1
    exact ⟨vn, vs, hp_set_ne h1 this, BS.stp h2 hs, BS.stp h3 hs⟩

set_option maxRecDepth 100000 in
set_option maxHeartbeats 1000000 in
theorem commit1_t (h : RepC B w p mn ms bl st) (b1 : Nat) (hb1 : w.heap[b1]? = some (.cells #[.pointer (some ⟨p, 0, none⟩)] 24 (0, 0))) :
    Ended 76 #[.pointer (some ⟨b1, 0, none⟩)] B p w (commitD st) := by
  have hcl := clone_map (w := w.drew) h.now
  have HCL : Calls Tryz.prog 65 #[.map (some mn)] w.drew fun e w' => e = .returned (.map (some w.heap.size)) ∧ w'.cell? ⟨b1, 0, none⟩ = some (.pointer (some ⟨p, 0, none⟩)) ∧ w'.cell? ⟨p, 2, none⟩ = some (.map (some ms)) ∧ w'.frozen? ⟨p, 2, none⟩ = false ∧
      Hid (Rep B (w'.setCell ⟨p, 2, none⟩ (.map (some w.heap.size))) p (commitD st) ∧ Stp [] B w (w'.setCell ⟨p, 2, none⟩ (.map (some w.heap.size)))) := by
    refine hcl.mono ?_
    rintro e w' ⟨rfl, hb', -, hd⟩
    have hbw : Below w.heap.size w w' := ((Below.refl w.heap.size w).drew).trans hb'
    have h' := h.below hbw
    have hlt := h.now.lt
    obtain ⟨h2, s2⟩ := h'.commit hd (by have := h.le; exact this) (by have : mn < w.heap.size := hlt; have e : w.drew.heap.size = w.heap.size := rfl; omega)
    exact ⟨rfl, cell_of ((hbw.block _ (hp_lt hb1)).trans hb1) 0, cell_of h'.blk 2, h'.free 2, Lib.hid ⟨⟨_, _, _, h2⟩, (Stp.of_below hbw h.le).tr s2⟩⟩
  have p1 : w.cell? ⟨b1, 0, none⟩ = some (.pointer (some ⟨p, 0, none⟩)) := cell_of hb1 0
  have p3 : w.cell? ⟨p, 1, none⟩ = some (.map (some mn)) := cell_of h.blk 1
  have HC := Lib.hid HCL
  clear h hb1 hcl HCL
  apply Ended.of
  go_enter Tryz.func76, Tryz.ntmps76
  go_wp2_with fail
  go_region_with (go_at_call 65; refine HC.out.mono ?_; rintro e w' ⟨rfl, q0, q1, q2, q4⟩)
  all_goals go_end0
  all_goals exact ⟨rfl, q4.out⟩
end
end Go.Proofs.YthjilhjdnefmdaaGreatDoor
/- The store's calls. Conditions: none. -/
namespace Go.Proofs.YthjilhjdnefmdaaGreatDoor
open Go.RowKit
open Go.ChangeMaps (setBlock)
def kIdx (st : St) (nm : Nm) : Nat := (dget st.now nm).getD 0
def kErr (st : St) (nm : Nm) : Int := (knownA st nm).2
def syncD (i : Nat) (s : St) : St := setFl s i ⟨(fl s i).now, (fl s i).now⟩
def cutD (i k : Nat) (s : St) : St := setFl s i ⟨(fl s i).now.take k, (fl s i).sure⟩
def writeD (i : Nat) (l : List UInt8) (s : St) : St := setFl s i ⟨(fl s i).now ++ l, (fl s i).sure⟩
def dropA (st : St) (nm : Nm) : St × Int := if kErr st nm = 0 then countedA st (dropD nm) else (st, kErr st nm)
def syncA (st : St) (nm : Nm) : St × Int := if kErr st nm = 0 then countedA st (syncD (kIdx st nm)) else (st, kErr st nm)
def cutA (st : St) (nm : Nm) (k : Int) : St × Int :=
  if kErr st nm = 0 then (if k < 0 ∨ ((fl st (kIdx st nm)).now.length : Int) < k then (st, 2) else countedA st (cutD (kIdx st nm) k.toNat)) else (st, kErr st nm)
def writeA (st : St) (nm : Nm) (l : List UInt8) : St × Int :=
  if kErr st nm = 0 then (if freeA st < l.length then (st, 6) else countedA st (writeD (kIdx st nm) l)) else (st, kErr st nm)
def moveA (st : St) (na nb : Nm) : St × Int :=
  if kErr st na ≠ 1 ∧ kErr st na ≠ 9 ∧ goodN nb = false then (st, 2) else if kErr st na = 0 then countedA st (moveD (kIdx st na) na nb) else (st, kErr st na)
def commitA (st : St) : St × Int := if st.dark then (st, 9) else countedA st commitD
def planA (st : St) (n k : Int) : St × Int := if st.dark then (st, 9) else if n < 0 then (st, 2) else ({ st with left := n, keep := k }, 0)
def powerA (st : St) : St := { st with dark := false, left := 0 }
def readA (st : St) (nm : Nm) : List UInt8 := if kErr st nm = 0 then (fl st (kIdx st nm)).now else []

section
variable {B : Nat} {w : World} {p mn ms : Nat} {bl : List Nat} {st : St}
theorem known_zero {nm : Nm} (h : kErr st nm = 0) : knownA st nm = (some (kIdx st nm), 0) ∧ dget st.now nm = some (kIdx st nm) ∧ st.dark = false := by
  unfold kErr knownA at h
  unfold kIdx
  cases hd : st.dark with
  | true => rw [hd] at h; simp at h
  | false =>
    rw [hd] at h
    cases hg : goodN nm with
    | false => rw [hg] at h; simp at h
    | true =>
      rw [hg] at h
      cases hk : dget st.now nm with
      | none => rw [hk] at h; simp at h
      | some i => exact ⟨by simp [knownA, hd, hg, hk], by simp, rfl⟩
theorem known_one (st : St) (nm : Nm) : kErr st nm ≠ 1 := by
  unfold kErr knownA
  split
  · simp
  · split
    · simp
    · split <;> simp
theorem known_pair (st : St) (nm : Nm) (h : kErr st nm ≠ 0) : knownA st nm = (none, kErr st nm) := by
  unfold kErr knownA at *
  split
  · rfl
  · split
    · rfl
    · split
      · rfl
      · simp_all

set_option maxRecDepth 100000 in
set_option maxHeartbeats 400000 in
theorem drop_t (hF : 0 < st.left → FailSaid) (h : RepC B w p mn ms bl st) (nm : Nm) (hs : nm.size ≤ maxLen) : Calls Tryz.prog 54 #[.pointer (some ⟨p, 0, none⟩), .string nm] w (CountedPost B p w (dropA st nm)) := by
  have hb0 : Below w.heap.size w ((w.alloc (.cells #[.pointer (some ⟨p, 0, none⟩)] 24)).alloc (.cells #[.string nm] 9)) := ((Below.refl _ _).alloc (Nat.le_refl _) _).alloc (by simp) _
  have h0 := h.below hb0
  have x1 : ((w.alloc (.cells #[.pointer (some ⟨p, 0, none⟩)] 24)).alloc (.cells #[.string nm] 9)).heap[w.heap.size]? = some (.cells #[.pointer (some ⟨p, 0, none⟩)] 24 (0, 0)) := hp_old (hp_new _ _)
  have x2 : ((w.alloc (.cells #[.pointer (some ⟨p, 0, none⟩)] 24)).alloc (.cells #[.string nm] 9)).heap[w.heap.size + 1]? = some (.cells #[.string nm] 9 (0, 0)) := by
    have := hp_new (w.alloc (.cells #[.pointer (some ⟨p, 0, none⟩)] 24)) (.cells #[.string nm] 9)
    simpa using this
  have S0 : Stp [] B w ((w.alloc (.cells #[.pointer (some ⟨p, 0, none⟩)] 24)).alloc (.cells #[.string nm] 9)) := Stp.of_below hb0 h.le
  go_enter Tryz.func54, Tryz.ntmps54
  go_wp2_with fail
  generalize ((w.alloc (.cells #[.pointer (some ⟨p, 0, none⟩)] 24)).alloc (.cells #[.string nm] 9)) = w0 at *
  refine (known_t h0 nm hs).mono ?_
  rintro e w1 ⟨rfl, hb⟩
  have h1 := h0.below hb
  have y1 := (hb.block _ (hp_lt x1)).trans x1
  have y2 := (hb.block _ (hp_lt x2)).trans x2
  have z1 : w1.cell? ⟨w.heap.size, 0, none⟩ = some (.pointer (some ⟨p, 0, none⟩)) := cell_of y1 0
  have z2 : w1.cell? ⟨w.heap.size + 1, 0, none⟩ = some (.string nm) := cell_of y2 0
  have HS : Hid (Stp [] B w w1) := Lib.hid (S0.tr (Stp.of_below hb h0.le))
  clear x1 x2 h0 hb hb0 S0
  have H1 := Lib.hid h1; have Y1 := Lib.hid y1; have Y2 := Lib.hid y2
  clear h1 y1 y2 h
  by_cases hk : kErr st nm = 0
  · obtain ⟨q1, q2, q3⟩ := known_zero hk
    rw [q1]
    have hA : dropA st nm = countedA st (dropD nm) := by unfold dropA; rw [if_pos hk]
    have HA := Lib.hid hA
    clear hk q1 q2 q3 hA
    unfold errv ptrO ptr
    simp only []
    go_wp2_with fail
    refine (counted_t hF H1.out 83 _ (dropD nm) (fun w => by kernel_rfl) (fun w3 st3 h3 hl s3 => drop1_t h3 nm _ _ (s3.fix _ _ _ _ Y1.out (by decide) (by decide) (by simp)) (s3.fix _ _ _ _ Y2.out (by decide) (by decide) (by simp)))).mono ?_
    rintro e w4 ⟨rfl, hr4, hs4⟩
    have HR4 := Lib.hid hr4; clear hr4
    unfold errv
    go_wp2
    go_ret
    unfold CountedPost
    rw [HA.out]
    exact ⟨rfl, HR4.out, HS.out.tr hs4⟩
  · rw [known_pair st nm hk]
    have hA : dropA st nm = (st, kErr st nm) := by unfold dropA; rw [if_neg hk]
    have HA := Lib.hid hA
    have hb : (kErr st nm != 0) = true := bne_iff_ne.2 hk
    clear hA hk
    unfold errv ptrO
    simp only []
    go_wp2
    go_ret
    unfold CountedPost
    rw [HA.out]
    exact ⟨rfl, ⟨_, _, _, H1.out⟩, HS.out⟩
end
end Go.Proofs.YthjilhjdnefmdaaGreatDoor
/- The store's calls on files. Conditions: none. -/
namespace Go.Proofs.YthjilhjdnefmdaaGreatDoor
open Go.RowKit
open Go.ChangeMaps (setBlock)
section
variable {B : Nat} {w : World} {p mn ms : Nat} {bl : List Nat} {st : St}
theorem Like.fl {st st' : St} (h : Like st st') (i : Nat) : fl st' i = fl st i := by unfold Go.Proofs.YthjilhjdnefmdaaGreatDoor.fl; rw [h.files]

set_option maxRecDepth 100000 in
set_option maxHeartbeats 400000 in
theorem sync_t (hF : 0 < st.left → FailSaid) (h : RepC B w p mn ms bl st) (nm : Nm) (hs : nm.size ≤ maxLen) : Calls Tryz.prog 34 #[.pointer (some ⟨p, 0, none⟩), .string nm] w (CountedPost B p w (syncA st nm)) := by
  go_enter Tryz.func34, Tryz.ntmps34
  go_wp2_with fail
  refine (known_t h nm hs).mono ?_
  rintro e w1 ⟨rfl, hb⟩
  have h1 := h.below hb
  have HS : Hid (Stp [] B w w1) := Lib.hid (Stp.of_below hb h.le)
  have H1 := Lib.hid h1
  clear hb h1 h
  by_cases hk : kErr st nm = 0
  · obtain ⟨q1, q2, q3⟩ := known_zero hk
    rw [q1]
    have hA : syncA st nm = countedA st (syncD (kIdx st nm)) := by unfold syncA; rw [if_pos hk]
    have HA := Lib.hid hA
    have hi := H1.out.inv.idx _ (List.mem_append_left _ (dget_mem q2))
    clear hk q1 q2 q3 hA
    unfold errv ptrO ptr
    simp only []
    have hb2 : Below w1.heap.size w1 (w1.alloc (.cells #[.pointer (some ⟨bl.getD (kIdx st nm) 0, 0, none⟩)] 78)) := (Below.refl _ _).alloc (Nat.le_refl _) _
    have H2 := Lib.hid (H1.out.below hb2)
    have Y1 := Lib.hid (hp_new w1 (.cells #[.pointer (some ⟨bl.getD (kIdx st nm) 0, 0, none⟩)] 78))
    have HS2 := Lib.hid (HS.out.tr (Stp.of_below hb2 H1.out.le))
    clear hb2
    have HI := Lib.hid hi; clear hi
    obtain ⟨b, hb⟩ : ∃ b, bl.getD (kIdx st nm) 0 = b := ⟨_, rfl⟩
    rw [hb] at H2 Y1 HS2 ⊢
    have HB := Lib.hid hb; clear hb
    go_wp2_with fail
    refine (counted_t hF H2.out 73 _ (syncD (kIdx st nm)) (fun w => by kernel_rfl) (fun w3 st3 h3 hl s3 => sync1_t h3 (by rw [hl.files]; exact HI.out) _ (by rw [HB.out]; exact s3.fix _ _ _ _ Y1.out (by decide) (by decide) (by simp)))).mono ?_
    rintro e w4 ⟨rfl, hr4, hs4⟩
    have HR4 := Lib.hid hr4; clear hr4
    unfold errv
    go_wp2
    go_ret
    unfold CountedPost
    rw [HA.out]
    exact ⟨rfl, HR4.out, HS2.out.tr hs4⟩
  · rw [known_pair st nm hk]
    have hA : syncA st nm = (st, kErr st nm) := by unfold syncA; rw [if_neg hk]
    have HA := Lib.hid hA
    have hb : (kErr st nm != 0) = true := bne_iff_ne.2 hk
    have hb2 : Below w1.heap.size w1 (w1.alloc (.cells #[.pointer none] 78)) := (Below.refl _ _).alloc (Nat.le_refl _) _
    have H2 := Lib.hid (H1.out.below hb2)
    have HS2 := Lib.hid (HS.out.tr (Stp.of_below hb2 H1.out.le))
    clear hA hk hb2
    unfold errv ptrO
    simp only []
    go_wp2
    go_ret
    unfold CountedPost
    rw [HA.out]
    exact ⟨rfl, ⟨_, _, _, H2.out⟩, HS2.out⟩

theorem usedL_mem (st : St) : ∀ (l : Dr) (q : Nm × Nat), q ∈ l → 16 + ((fl st q.2).now.length : Int) ≤ usedL st l
  | [], _, h => by cases h
  | x :: l, q, h => by
    have hge : 0 ≤ usedL st l := by have := usedL_ge st l; omega
    have e : usedL st (x :: l) = 16 + ((fl st x.2).now.length : Int) + usedL st l := by simp [usedL]
    rw [e]
    rcases List.mem_cons.1 h with rfl | h
    · omega
    · have := usedL_mem st l q h; omega

set_option maxRecDepth 100000 in
set_option maxHeartbeats 400000 in
theorem write_t (hF : 0 < st.left → FailSaid) (h : RepC B w p mn ms bl st) (nm : Nm) (hs : nm.size ≤ maxLen) (v : Value) (l : List UInt8) (hv : BS B w v l) : Calls Tryz.prog 44 #[.pointer (some ⟨p, 0, none⟩), .string nm, v] w (CountedPost B p w (writeA st nm l)) := by
  have hb0 : Below w.heap.size w (w.alloc (.cells #[v] 27)) := (Below.refl _ _).alloc (Nat.le_refl _) _
  have h0 := h.below hb0
  have x1 := hp_new w (.cells #[v] 27)
  have S0 : Stp [] B w (w.alloc (.cells #[v] 27)) := Stp.of_below hb0 h.le
  have hv0 := RS.below hv hb0 h.le
  obtain ⟨a, c, rfl, hc1, hc2⟩ := hv.form
  unfold maxLen at hc2
  clear hv hb0 h
  go_enter Tryz.func44, Tryz.ntmps44
  go_wp2_with fail
  generalize (w.alloc (.cells #[.slice a l.length c] 27)) = w0 at *
  refine (known_t h0 nm hs).mono ?_
  rintro e w1 ⟨rfl, hb⟩
  have h1 := h0.below hb
  have y1 := (hb.block _ (hp_lt x1)).trans x1
  have hv1 := RS.below hv0 hb h0.le
  have HS : Hid (Stp [] B w w1) := Lib.hid (S0.tr (Stp.of_below hb h0.le))
  clear x1 h0 hb S0 hv0
  have H1 := Lib.hid h1; have Y1 := Lib.hid y1; have HV1 := Lib.hid hv1
  clear h1 y1 hv1
  by_cases hk : kErr st nm = 0
  · obtain ⟨q1, q2, q3⟩ := known_zero hk
    rw [q1]
    have hA : writeA st nm l = if freeA st < l.length then (st, 6) else countedA st (writeD (kIdx st nm) l) := by unfold writeA; rw [if_pos hk]
    have hmem := List.mem_append_left st.sure (dget_mem q2)
    have hi := H1.out.inv.idx _ hmem
    have husd := usedL_mem st st.now _ (dget_mem q2)
    have hrm := H1.out.inv.room
    have hfr : freeA st = st.room - usedL st st.now := rfl
    have hbig : ¬ freeA st < l.length → (fl st (kIdx st nm)).now.length + l.length ≤ 1073741824 := fun hf => by
      have : 16 + ((fl st (kIdx st nm)).now.length : Int) ≤ usedL st st.now := husd
      omega
    have HBG := Lib.hid hbig
    clear hk q1 q2 q3 hmem husd hrm hfr hbig
    unfold errv ptrO ptr
    simp only []
    have hb2 : Below w1.heap.size w1 (w1.alloc (.cells #[.pointer (some ⟨bl.getD (kIdx st nm) 0, 0, none⟩)] 78)) := (Below.refl _ _).alloc (Nat.le_refl _) _
    have H2 := Lib.hid (H1.out.below hb2)
    have Z1 := Lib.hid (hp_new w1 (.cells #[.pointer (some ⟨bl.getD (kIdx st nm) 0, 0, none⟩)] 78))
    have Y2 := Lib.hid ((hb2.block _ (hp_lt Y1.out)).trans Y1.out)
    have HS2 := Lib.hid (HS.out.tr (Stp.of_below hb2 H1.out.le))
    have HV2 := Lib.hid (RS.below HV1.out hb2 H1.out.le)
    clear hb2
    have HI := Lib.hid hi; clear hi
    obtain ⟨b, hb⟩ : ∃ b, bl.getD (kIdx st nm) 0 = b := ⟨_, rfl⟩
    rw [hb] at H2 Z1 Y2 HS2 HV2 ⊢
    have HB := Lib.hid hb; clear hb
    have HA := Lib.hid hA; clear hA
    have hsz := hp_lt Z1.out
    go_wp2_with fail
    generalize (w1.alloc (.cells #[.pointer (some ⟨b, 0, none⟩)] 78)) = w2 at *
    have y2 : w2.cell? ⟨w.heap.size, 0, none⟩ = some (.slice a l.length c) := cell_of Y2.out 0
    have HFR : Hid (Calls Tryz.prog 74 #[.pointer (some ⟨p, 0, none⟩)] w2.drew fun e w3 => e = .returned (.int .i64 (freeA st)) ∧ w3.cell? ⟨w.heap.size, 0, none⟩ = some (.slice a l.length c) ∧ Hid (Below w2.heap.size w2 w3)) := Lib.hid (by
      refine (free_t (H2.out.below (Below.refl _ w2).drew)).mono ?_
      rintro e w3 ⟨rfl, hb3⟩
      have hb4 : Below w2.heap.size w2 w3 := ((Below.refl w2.heap.size w2).drew).trans hb3
      exact ⟨rfl, cell_of ((hb4.block _ (hp_lt Y2.out)).trans Y2.out) 0, Lib.hid hb4⟩)
    clear hsz
    by_cases hf : freeA st < l.length
    · have hd : decide (freeA st < (l.length : Int)) = true := decide_eq_true hf
      have hA2 := HA.out
      rw [if_pos hf] at hA2
      have HA2 := Lib.hid hA2
      clear hA2 hf
      go_region_with (go_at_call 74; refine HFR.out.mono ?_; rintro e w3 ⟨rfl, c1, hb3⟩)
      all_goals
        have H3 := Lib.hid (H2.out.below hb3.out)
        have Y3 := Lib.hid ((hb3.out.block _ (hp_lt Y2.out)).trans Y2.out)
        have Z3 := Lib.hid ((hb3.out.block _ (hp_lt Z1.out)).trans Z1.out)
        have HS3 := Lib.hid (HS2.out.tr (Stp.of_below hb3.out H2.out.le))
        have HV3 := Lib.hid (RS.below HV2.out hb3.out H2.out.le)
        go_wp2
        go_ret
        unfold CountedPost
        rw [HA2.out]
        exact ⟨rfl, ⟨_, _, _, H3.out⟩, HS3.out⟩
    · have hd : decide (freeA st < (l.length : Int)) = false := decide_eq_false hf
      have hA2 := HA.out
      rw [if_neg hf] at hA2
      have HA2 := Lib.hid hA2
      have hbg := Lib.hid (HBG.out (by omega))
      clear hA2 hf HBG
      go_region_with (go_at_call 74; refine HFR.out.mono ?_; rintro e w3 ⟨rfl, c1, hb3⟩)
      all_goals
        have H3 := Lib.hid (H2.out.below hb3.out)
        have Y3 := Lib.hid ((hb3.out.block _ (hp_lt Y2.out)).trans Y2.out)
        have Z3 := Lib.hid ((hb3.out.block _ (hp_lt Z1.out)).trans Z1.out)
        have HS3 := Lib.hid (HS2.out.tr (Stp.of_below hb3.out H2.out.le))
        have HV3 := Lib.hid (RS.below HV2.out hb3.out H2.out.le)
        go_wp2_with fail
        refine (counted_t hF H3.out 79 _ (writeD (kIdx st nm) l) (fun w => by kernel_rfl) (fun w4 st4 h4 hl s4 => write1_t h4 (by rw [hl.files]; exact HI.out) _ _ _ l (by rw [HB.out]; exact s4.fix _ _ _ _ Z3.out (by decide) (by decide) (by simp)) (s4.fix _ _ _ _ Y3.out (by decide) (by decide) (by simp)) (BS.stp HV3.out s4) (by rw [hl.fl]; exact hbg.out))).mono ?_
        rintro e w4 ⟨rfl, hr4, hs4⟩
        have HR4 := Lib.hid hr4; clear hr4
        unfold errv
        go_wp2
        go_ret
        unfold CountedPost
        rw [HA2.out]
        exact ⟨rfl, HR4.out, HS3.out.tr hs4⟩
  · rw [known_pair st nm hk]
    have hA : writeA st nm l = (st, kErr st nm) := by unfold writeA; rw [if_neg hk]
    have HA := Lib.hid hA
    have hb : (kErr st nm != 0) = true := bne_iff_ne.2 hk
    have hb2 : Below w1.heap.size w1 (w1.alloc (.cells #[.pointer none] 78)) := (Below.refl _ _).alloc (Nat.le_refl _) _
    have H2 := Lib.hid (H1.out.below hb2)
    have HS2 := Lib.hid (HS.out.tr (Stp.of_below hb2 H1.out.le))
    clear hA hk hb2
    unfold errv ptrO
    simp only []
    go_wp2
    go_ret
    unfold CountedPost
    rw [HA.out]
    exact ⟨rfl, ⟨_, _, _, H2.out⟩, HS2.out⟩
end
end Go.Proofs.YthjilhjdnefmdaaGreatDoor
/- The store's calls: Cut, Move, Commit. Conditions: none. -/
namespace Go.Proofs.YthjilhjdnefmdaaGreatDoor
open Go.RowKit
open Go.ChangeMaps (setBlock)
section
variable {B : Nat} {w : World} {p mn ms : Nat} {bl : List Nat} {st : St}

set_option maxRecDepth 100000 in
set_option maxHeartbeats 400000 in
theorem commit_t (hF : 0 < st.left → FailSaid) (h : RepC B w p mn ms bl st) : Calls Tryz.prog 37 #[.pointer (some ⟨p, 0, none⟩)] w (CountedPost B p w (commitA st)) := by
  have hb0 : Below w.heap.size w (w.alloc (.cells #[.pointer (some ⟨p, 0, none⟩)] 24)) := (Below.refl _ _).alloc (Nat.le_refl _) _
  have h0 := h.below hb0
  have x1 := hp_new w (.cells #[.pointer (some ⟨p, 0, none⟩)] 24)
  have S0 : Stp [] B w (w.alloc (.cells #[.pointer (some ⟨p, 0, none⟩)] 24)) := Stp.of_below hb0 h.le
  clear hb0 h
  go_enter Tryz.func37, Tryz.ntmps37
  go_wp2_with fail
  generalize (w.alloc (.cells #[.pointer (some ⟨p, 0, none⟩)] 24)) = w1 at *
  have z1 : w1.cell? ⟨w.heap.size, 0, none⟩ = some (.pointer (some ⟨p, 0, none⟩)) := cell_of x1 0
  have H1 := Lib.hid h0; have X1 := Lib.hid x1; have HS := Lib.hid S0
  clear h0 x1 S0
  refine (power_t H1.out).mono ?_
  rintro e w' ⟨rfl, rfl⟩
  cases hd : st.dark with
  | true =>
    have hA : commitA st = (st, 9) := by simp [commitA, hd]
    have HA := Lib.hid hA
    clear hd hA
    unfold errv
    go_wp2
    go_ret
    unfold CountedPost
    rw [HA.out]
    exact ⟨rfl, ⟨_, _, _, H1.out⟩, HS.out⟩
  | false =>
    have hA : commitA st = countedA st commitD := by simp [commitA, hd]
    have HA := Lib.hid hA
    clear hd hA
    unfold errv
    go_wp2_with fail
    refine (counted_t hF H1.out 76 _ commitD (fun w => by kernel_rfl) (fun w3 st3 h3 hl s3 => commit1_t h3 _ (s3.fix _ _ _ _ X1.out (by decide) (by decide) (by simp)))).mono ?_
    rintro e w4 ⟨rfl, hr4, hs4⟩
    have HR4 := Lib.hid hr4; clear hr4
    unfold errv
    go_wp2
    go_ret
    unfold CountedPost
    rw [HA.out]
    exact ⟨rfl, HR4.out, HS.out.tr hs4⟩

set_option maxRecDepth 100000 in
set_option maxHeartbeats 400000 in
theorem cut_t (hF : 0 < st.left → FailSaid) (h : RepC B w p mn ms bl st) (nm : Nm) (hs : nm.size ≤ maxLen) (k : Int) : Calls Tryz.prog 14 #[.pointer (some ⟨p, 0, none⟩), .string nm, .int .i64 k] w (CountedPost B p w (cutA st nm k)) := by
  have hb0 : Below w.heap.size w (w.alloc (.cells #[.int .i64 k] 3)) := (Below.refl _ _).alloc (Nat.le_refl _) _
  have h0 := h.below hb0
  have x1 := hp_new w (.cells #[.int .i64 k] 3)
  have S0 : Stp [] B w (w.alloc (.cells #[.int .i64 k] 3)) := Stp.of_below hb0 h.le
  clear hb0 h
  go_enter Tryz.func14, Tryz.ntmps14
  go_wp2_with fail
  generalize (w.alloc (.cells #[.int .i64 k] 3)) = w0 at *
  refine (known_t h0 nm hs).mono ?_
  rintro e w1 ⟨rfl, hb⟩
  have h1 := h0.below hb
  have y1 := (hb.block _ (hp_lt x1)).trans x1
  have HS : Hid (Stp [] B w w1) := Lib.hid (S0.tr (Stp.of_below hb h0.le))
  clear x1 h0 hb S0
  have H1 := Lib.hid h1; have Y1 := Lib.hid y1
  clear h1 y1
  by_cases hk : kErr st nm = 0
  · obtain ⟨q1, q2, q3⟩ := known_zero hk
    rw [q1]
    have hA : cutA st nm k = if k < 0 ∨ ((fl st (kIdx st nm)).now.length : Int) < k then (st, 2) else countedA st (cutD (kIdx st nm) k.toNat) := by unfold cutA; rw [if_pos hk]
    have hmem := List.mem_append_left st.sure (dget_mem q2)
    have hi := H1.out.inv.idx _ hmem
    clear hk q1 q2 q3 hmem
    unfold errv ptrO ptr
    simp only []
    have hb2 : Below w1.heap.size w1 (w1.alloc (.cells #[.pointer (some ⟨bl.getD (kIdx st nm) 0, 0, none⟩)] 78)) := (Below.refl _ _).alloc (Nat.le_refl _) _
    have h2 := H1.out.below hb2
    obtain ⟨vn, vs, hf, g1, g2⟩ := h2.fileAt hi
    obtain ⟨a, c, rfl, -, -⟩ := g1.form
    have hbig := (fl_big h2.inv (kIdx st nm)).1
    have H2 := Lib.hid h2
    have z1 := hp_new w1 (.cells #[.pointer (some ⟨bl.getD (kIdx st nm) 0, 0, none⟩)] 78)
    have y2 := (hb2.block _ (hp_lt Y1.out)).trans Y1.out
    have HS2 := Lib.hid (HS.out.tr (Stp.of_below hb2 H1.out.le))
    clear hb2 h2
    have HI := Lib.hid hi; clear hi
    obtain ⟨b, hb⟩ : ∃ b, bl.getD (kIdx st nm) 0 = b := ⟨_, rfl⟩
    rw [hb] at H2 z1 y2 HS2 hf ⊢
    have HB := Lib.hid hb; clear hb
    have HA := Lib.hid hA; clear hA
    have c1 := cell_of z1 0
    have c2 := cell_of y2 0
    have c3 := cell_of hf 0
    simp only [List.getElem?_toArray, List.getElem?_cons_zero] at c1 c2 c3
    have Z1 := Lib.hid z1; have Y2 := Lib.hid y2
    clear z1 y2 hf g1 g2
    by_cases hk0 : k < 0
    · have hd : decide (k < 0) = true := decide_eq_true hk0
      have hA2 := HA.out
      rw [if_pos (.inl hk0)] at hA2
      have HA2 := Lib.hid hA2
      clear hA2 hk0
      go_wp2_with fail
      generalize (w1.alloc (.cells #[.pointer (some ⟨b, 0, none⟩)] 78)) = w2 at *
      go_quiet (fail)
      go_wp2
      go_ret
      unfold CountedPost
      rw [HA2.out]
      exact ⟨rfl, ⟨_, _, _, H2.out.below (below_drewN (Below.refl _ _) _)⟩, HS2.out.tr (Stp.of_below (below_drewN (Below.refl _ _) _) H2.out.le)⟩
    · have hd : decide (k < 0) = false := decide_eq_false hk0
      by_cases hk1 : ((fl st (kIdx st nm)).now.length : Int) < k
      · have hd1 : decide (((fl st (kIdx st nm)).now.length : Int) < k) = true := decide_eq_true hk1
        have hA2 := HA.out
        rw [if_pos (.inr hk1)] at hA2
        have HA2 := Lib.hid hA2
        clear hA2 hk0 hk1
        go_wp2_with fail
        generalize (w1.alloc (.cells #[.pointer (some ⟨b, 0, none⟩)] 78)) = w2 at *
        go_quiet (fail)
        go_wp2
        go_ret
        unfold CountedPost
        rw [HA2.out]
        exact ⟨rfl, ⟨_, _, _, H2.out.below (below_drewN (Below.refl _ _) _)⟩, HS2.out.tr (Stp.of_below (below_drewN (Below.refl _ _) _) H2.out.le)⟩
      · have hd1 : decide (((fl st (kIdx st nm)).now.length : Int) < k) = false := decide_eq_false hk1
        have hA2 := HA.out
        rw [if_neg (fun h => h.elim hk0 hk1)] at hA2
        have HA2 := Lib.hid hA2
        have hle : k.toNat ≤ (fl st (kIdx st nm)).now.length := by omega
        have hkk : (k.toNat : Int) = k := by omega
        have HLE := Lib.hid hle; have HKK := Lib.hid hkk
        clear hA2 hk0 hk1 hle hkk
        go_wp2_with fail
        generalize (w1.alloc (.cells #[.pointer (some ⟨b, 0, none⟩)] 78)) = w2 at *
        go_quiet (fail)
        go_wp2_with fail
        have hq : Below w2.heap.size w2 (w2.drewN nq) := below_drewN (Below.refl _ _) _
        refine (counted_t hF (H2.out.below hq) 50 _ (cutD (kIdx st nm) k.toNat) (fun w => by kernel_rfl) (fun w4 st4 h4 hl s4 => cut1_t h4 (by rw [hl.files]; exact HI.out) _ _ _ (by rw [HB.out]; exact s4.fix _ _ _ _ Z1.out (by decide) (by decide) (by simp)) (by rw [HKK.out]; exact s4.fix _ _ _ _ Y2.out (by decide) (by decide) (by simp)) (by rw [hl.fl]; exact HLE.out))).mono ?_
        rintro e w4 ⟨rfl, hr4, hs4⟩
        have HR4 := Lib.hid hr4; clear hr4
        unfold errv
        go_wp2
        go_ret
        unfold CountedPost
        rw [HA2.out]
        exact ⟨rfl, HR4.out, (HS2.out.tr (Stp.of_below hq H2.out.le)).tr hs4⟩
  · rw [known_pair st nm hk]
    have hA : cutA st nm k = (st, kErr st nm) := by unfold cutA; rw [if_neg hk]
    have HA := Lib.hid hA
    have hb : (kErr st nm != 0) = true := bne_iff_ne.2 hk
    have hb2 : Below w1.heap.size w1 (w1.alloc (.cells #[.pointer none] 78)) := (Below.refl _ _).alloc (Nat.le_refl _) _
    have H2 := Lib.hid (H1.out.below hb2)
    have HS2 := Lib.hid (HS.out.tr (Stp.of_below hb2 H1.out.le))
    clear hA hk hb2
    unfold errv ptrO
    simp only []
    go_wp2
    go_ret
    unfold CountedPost
    rw [HA.out]
    exact ⟨rfl, ⟨_, _, _, H2.out⟩, HS2.out⟩
end
end Go.Proofs.YthjilhjdnefmdaaGreatDoor
/- The store's calls: Move. Conditions: none. -/
namespace Go.Proofs.YthjilhjdnefmdaaGreatDoor
open Go.RowKit
open Go.ChangeMaps (setBlock)
section
variable {B : Nat} {w : World} {p mn ms : Nat} {bl : List Nat} {st : St}

theorem knownA_cases (st : St) (nm : Nm) : (knownA st nm = (some (kIdx st nm), 0) ∧ kErr st nm = 0 ∧ dget st.now nm = some (kIdx st nm)) ∨ (knownA st nm = (none, kErr st nm) ∧ kErr st nm ≠ 0) := by
  by_cases hk : kErr st nm = 0
  · obtain ⟨q1, q2, q3⟩ := known_zero hk; exact .inl ⟨q1, hk, q2⟩
  · exact .inr ⟨known_pair st nm hk, hk⟩

set_option maxRecDepth 100000 in
set_option maxHeartbeats 400000 in
theorem move_t (hF : 0 < st.left → FailSaid) (h : RepC B w p mn ms bl st) (na nb : Nm) (hs : na.size ≤ maxLen) (hs2 : nb.size ≤ maxLen) :
    Calls Tryz.prog 60 #[.pointer (some ⟨p, 0, none⟩), .string na, .string nb] w (CountedPost B p w (moveA st na nb)) := by
  have hb0 : Below w.heap.size w (((w.alloc (.cells #[.pointer (some ⟨p, 0, none⟩)] 24)).alloc (.cells #[.string na] 9)).alloc (.cells #[.string nb] 9)) := (((Below.refl _ _).alloc (Nat.le_refl _) _).alloc (by simp) _).alloc (by simp; omega) _
  have h0 := h.below hb0
  have x1 : (((w.alloc (.cells #[.pointer (some ⟨p, 0, none⟩)] 24)).alloc (.cells #[.string na] 9)).alloc (.cells #[.string nb] 9)).heap[w.heap.size]? = some (.cells #[.pointer (some ⟨p, 0, none⟩)] 24 (0, 0)) := hp_old (hp_old (hp_new _ _))
  have x2 : (((w.alloc (.cells #[.pointer (some ⟨p, 0, none⟩)] 24)).alloc (.cells #[.string na] 9)).alloc (.cells #[.string nb] 9)).heap[w.heap.size + 1]? = some (.cells #[.string na] 9 (0, 0)) := by
    have := hp_new (w.alloc (.cells #[.pointer (some ⟨p, 0, none⟩)] 24)) (.cells #[.string na] 9)
    rw [World.size_alloc] at this
    exact hp_old this
  have x3 : (((w.alloc (.cells #[.pointer (some ⟨p, 0, none⟩)] 24)).alloc (.cells #[.string na] 9)).alloc (.cells #[.string nb] 9)).heap[w.heap.size + 1 + 1]? = some (.cells #[.string nb] 9 (0, 0)) := by
    have := hp_new ((w.alloc (.cells #[.pointer (some ⟨p, 0, none⟩)] 24)).alloc (.cells #[.string na] 9)) (.cells #[.string nb] 9)
    rw [World.size_alloc, World.size_alloc] at this
    exact this
  have S0 : Stp [] B w (((w.alloc (.cells #[.pointer (some ⟨p, 0, none⟩)] 24)).alloc (.cells #[.string na] 9)).alloc (.cells #[.string nb] 9)) := Stp.of_below hb0 h.le
  clear hb0 h
  go_enter Tryz.func60, Tryz.ntmps60
  go_wp2_with fail
  generalize (((w.alloc (.cells #[.pointer (some ⟨p, 0, none⟩)] 24)).alloc (.cells #[.string na] 9)).alloc (.cells #[.string nb] 9)) = w0 at *
  refine (known_t h0 na hs).mono ?_
  rintro e w1 ⟨rfl, hb⟩
  have h1 := h0.below hb
  have y1 := (hb.block _ (hp_lt x1)).trans x1
  have y2 := (hb.block _ (hp_lt x2)).trans x2
  have y3 := (hb.block _ (hp_lt x3)).trans x3
  have HS : Hid (Stp [] B w w1) := Lib.hid (S0.tr (Stp.of_below hb h0.le))
  clear x1 x2 x3 h0 hb S0
  obtain ⟨b, hb⟩ : ∃ b, ptrO bl (knownA st na).1 = b := ⟨_, rfl⟩
  rw [hb]
  have hbf : b = .pointer none ∨ ∃ n, b = .pointer (some ⟨n, 0, none⟩) := by
    rw [← hb]; cases (knownA st na).1
    · exact .inl rfl
    · exact .inr ⟨_, rfl⟩
  have hb2 : Below w1.heap.size w1 (w1.alloc (.cells #[b] 78)) := (Below.refl _ _).alloc (Nat.le_refl _) _
  have h2 := h1.below hb2
  have z1 := (hb2.block _ (hp_lt y1)).trans y1
  have z2 := (hb2.block _ (hp_lt y2)).trans y2
  have z3 := (hb2.block _ (hp_lt y3)).trans y3
  have z4 := hp_new w1 (.cells #[b] 78)
  have HS2 := Lib.hid (HS.out.tr (Stp.of_below hb2 h1.le))
  have c1 : (w1.alloc (.cells #[b] 78)).cell? ⟨w.heap.size, 0, none⟩ = some (.pointer (some ⟨p, 0, none⟩)) := cell_of z1 0
  have c3 : (w1.alloc (.cells #[b] 78)).cell? ⟨w.heap.size + 1 + 1, 0, none⟩ = some (.string nb) := cell_of z3 0
  have he : (knownA st na).2 = kErr st na := rfl
  rw [he]
  have hK := knownA_cases st na
  have hk1 := known_one st na
  have hk1b : (kErr st na != 1) = true := bne_iff_ne.2 hk1
  have hA : moveA st na nb = if kErr st na ≠ 1 ∧ kErr st na ≠ 9 ∧ goodN nb = false then (st, 2) else if kErr st na = 0 then countedA st (moveD (kIdx st na) na nb) else (st, kErr st na) := rfl
  have H2 := Lib.hid h2; have Z1 := Lib.hid z1; have Z2 := Lib.hid z2; have Z3 := Lib.hid z3; have Z4 := Lib.hid z4
  have HK := Lib.hid hK; have HA := Lib.hid hA; have HB := Lib.hid hb
  clear h1 y1 y2 y3 hb2 h2 z1 z2 z3 z4 hK hA hb he HS
  unfold errv
  by_cases hk9 : kErr st na = 9
  · have hk9b : (kErr st na != 9) = false := by rw [hk9]; rfl
    have hk0b : (kErr st na != 0) = true := by rw [hk9]; rfl
    have hA2 := HA.out
    rw [if_neg (fun h => h.2.1 hk9), if_neg (by rw [hk9]; decide)] at hA2
    have HA2 := Lib.hid hA2
    clear hk9 hA2 hk1
    rcases hbf with rfl | ⟨n, rfl⟩
    all_goals
      go_wp2
      go_ret
      unfold CountedPost
      rw [HA2.out]
      exact ⟨rfl, ⟨_, _, _, H2.out⟩, HS2.out⟩
  · have hk9b : (kErr st na != 9) = true := bne_iff_ne.2 hk9
    rcases hbf with rfl | ⟨n, rfl⟩
    all_goals
      go_wp2_with fail
      first
      | generalize (w1.alloc (.cells #[.pointer (some ⟨n, 0, none⟩)] 78)) = w2 at *
      | generalize (w1.alloc (.cells #[.pointer none] 78)) = w2 at *
      refine (good_t nb w2 hs2).mono ?_
      rintro e w3 ⟨rfl, hb3⟩
      have H3 := Lib.hid (H2.out.below hb3)
      have c1' : w3.cell? ⟨w.heap.size, 0, none⟩ = some (.pointer (some ⟨p, 0, none⟩)) := cell_of ((hb3.block _ (hp_lt Z1.out)).trans Z1.out) 0
      have Y1 := Lib.hid ((hb3.block _ (hp_lt Z1.out)).trans Z1.out)
      have Y2 := Lib.hid ((hb3.block _ (hp_lt Z2.out)).trans Z2.out)
      have Y3 := Lib.hid ((hb3.block _ (hp_lt Z3.out)).trans Z3.out)
      have Y4 := Lib.hid ((hb3.block _ (hp_lt Z4.out)).trans Z4.out)
      have HS3 := Lib.hid (HS2.out.tr (Stp.of_below hb3 H2.out.le))
      clear hb3 c1 c3
      have hA3 := HA.out
      cases hg : goodN nb with
      | false =>
        rw [if_pos ⟨hk1, hk9, hg⟩] at hA3
        have HA3 := Lib.hid hA3
        clear hA3 hk1 hk9 hg
        go_wp2
        go_ret
        unfold CountedPost
        rw [HA3.out]
        exact ⟨rfl, ⟨_, _, _, H3.out⟩, HS3.out⟩
      | true =>
        rw [if_neg (fun h => by rw [hg] at h; exact absurd h.2.2 (by decide))] at hA3
        by_cases hk0 : kErr st na = 0
        · rw [if_pos hk0] at hA3
          have HA3 := Lib.hid hA3
          have hk0b : (kErr st na != 0) = false := by rw [hk0]; rfl
          have hget : dget st.now na = some (kIdx st na) := by
            rcases HK.out with ⟨_, _, h⟩ | ⟨_, h⟩
            · exact h
            · exact absurd hk0 h
          have hptr : ptrO bl (knownA st na).1 = .pointer (some ⟨bl.getD (kIdx st na) 0, 0, none⟩) := by
            rcases HK.out with ⟨h, _, _⟩ | ⟨_, h⟩
            · rw [h]; rfl
            · exact absurd hk0 h
          have HGT := Lib.hid hget
          have HP := Lib.hid (HB.out.symm.trans hptr)
          clear hA3 hk1 hk9 hg hk0 hget hptr
          go_wp2_with fail
          refine (counted_t hF H3.out 84 _ (moveD (kIdx st na) na nb) (fun w => by kernel_rfl) (fun w4 st4 h4 hl s4 => move1_t h4 na nb (kIdx st na) (by rw [hl.now]; exact HGT.out) _ _ _ _ (s4.fix _ _ _ _ Y1.out (by decide) (by decide) (by simp)) (s4.fix _ _ _ _ Y2.out (by decide) (by decide) (by simp)) (by rw [← HP.out]; exact s4.fix _ _ _ _ Y4.out (by decide) (by decide) (by simp)) (s4.fix _ _ _ _ Y3.out (by decide) (by decide) (by simp)))).mono ?_
          rintro e w4 ⟨rfl, hr4, hs4⟩
          have HR4 := Lib.hid hr4; clear hr4
          unfold errv
          go_wp2
          go_ret
          unfold CountedPost
          rw [HA3.out]
          exact ⟨rfl, HR4.out, HS3.out.tr hs4⟩
        · rw [if_neg hk0] at hA3
          have HA3 := Lib.hid hA3
          have hk0b : (kErr st na != 0) = true := bne_iff_ne.2 hk0
          clear hA3 hk1 hk9 hg hk0
          go_wp2
          go_ret
          unfold CountedPost
          rw [HA3.out]
          exact ⟨rfl, ⟨_, _, _, H3.out⟩, HS3.out⟩
end
end Go.Proofs.YthjilhjdnefmdaaGreatDoor
/- The store's calls: Read, Plan, Power, New. Conditions: none. -/
namespace Go.Proofs.YthjilhjdnefmdaaGreatDoor
open Go.RowKit
open Go.ChangeMaps (setBlock)
section
variable {B : Nat} {w : World} {p mn ms : Nat} {bl : List Nat} {st : St}
/-- What Read hands back. -/
def ReadPost (B : Nat) (w : World) (l : List UInt8) (k : Int) (e : Ending) (w' : World) : Prop := ∃ v, e = .returned (.tuple #[v, errv k]) ∧ BS B w' v l ∧ Below w.heap.size w w'

set_option maxRecDepth 100000 in
theorem read_nil (B : Nat) (w : World) (nm : Nm) : Calls Tryz.prog 15 #[.pointer none, .string nm] w (ReadPost B w [] 1) := by
  go_enter Tryz.func15, Tryz.ntmps15
  go_wp2_with fail
  refine (known_nil w nm).mono ?_
  rintro e w' ⟨rfl, rfl⟩
  unfold errv
  go_wp2
  go_ret2
  exact ⟨_, rfl, RS.nil _ _ _, Below.refl _ _⟩

set_option maxRecDepth 100000 in
set_option maxHeartbeats 400000 in
theorem read_t (h : RepC B w p mn ms bl st) (nm : Nm) (hs : nm.size ≤ maxLen) : Calls Tryz.prog 15 #[.pointer (some ⟨p, 0, none⟩), .string nm] w (ReadPost B w (readA st nm) (kErr st nm)) := by
  go_enter Tryz.func15, Tryz.ntmps15
  go_wp2_with fail
  refine (known_t h nm hs).mono ?_
  rintro e w1 ⟨rfl, hb⟩
  have h1 := h.below hb
  rcases knownA_cases st nm with ⟨q1, q2, q3⟩ | ⟨q1, q2⟩
  · rw [q1]
    have hi : kIdx st nm < st.files.length := h1.inv.idx _ (List.mem_append_left _ (dget_mem q3))
    have hA : readA st nm = (fl st (kIdx st nm)).now := by unfold readA; rw [if_pos q2]
    obtain ⟨vn, vs, hf, g1, g2⟩ := h1.fileAt hi
    have hbig := (fl_big h1.inv (kIdx st nm)).1
    have hcl := clone_t g1 (by omega) h1.le
    obtain ⟨a, c, rfl, -, -⟩ := g1.form
    have HA := Lib.hid hA; have H1 := Lib.hid h1; have HB := Lib.hid hb; have HC := Lib.hid hcl; have HK := Lib.hid q2
    obtain ⟨b, hbb⟩ : ∃ b, bl.getD (kIdx st nm) 0 = b := ⟨_, rfl⟩
    have c0 := cell_of hf 0
    simp only [List.getElem?_toArray, List.getElem?_cons_zero] at c0
    unfold errv ptrO ptr
    simp only []
    rw [hbb] at c0 ⊢
    clear hA h1 hb hcl q1 q2 q3 h hi hf g1 g2 hbig hbb
    go_wp2_with fail
    refine HC.out.mono ?_
    rintro e w2 ⟨v', rfl, hv', hb'⟩
    have HV := Lib.hid hv'; have HB2 := Lib.hid hb'; clear hv' hb'
    go_wp2
    go_ret2
    rw [HA.out, HK.out]
    exact ⟨_, rfl, HV.out, HB.out.trans (HB2.out.mono HB.out.size)⟩
  · rw [q1]
    have hA : readA st nm = [] := by unfold readA; rw [if_neg q2]
    have hk0b : (kErr st nm != 0) = true := bne_iff_ne.2 q2
    have HA := Lib.hid hA; have HB := Lib.hid hb
    clear hA hb q1 q2 h1 h
    unfold errv ptrO
    simp only []
    go_wp2
    go_ret2
    rw [HA.out]
    exact ⟨_, rfl, RS.nil _ _ _, HB.out⟩

set_option maxRecDepth 100000 in
set_option maxHeartbeats 400000 in
theorem plan_t (h : RepC B w p mn ms bl st) (n k : Int) : Calls Tryz.prog 24 #[.pointer (some ⟨p, 0, none⟩), .int .i64 n, .int .i64 k] w (CountedPost B p w (planA st n k)) := by
  have h1 : RepC B (w.setCell ⟨p, 5, none⟩ (.int .i64 n)) p mn ms bl { st with left := n } := h.set (st' := { st with left := n }) ⟨rfl, rfl, rfl, rfl, rfl⟩ 5 _ rfl
  have h2 : RepC B ((w.setCell ⟨p, 5, none⟩ (.int .i64 n)).setCell ⟨p, 6, none⟩ (.int .i64 k)) p mn ms bl { st with left := n, keep := k } := h1.set (st' := { st with left := n, keep := k }) ⟨rfl, rfl, rfl, rfl, rfl⟩ 6 _ rfl
  have s2 : Stp [] B w ((w.setCell ⟨p, 5, none⟩ (.int .i64 n)).setCell ⟨p, 6, none⟩ (.int .i64 k)) := (h.setStp 5 _).tr (h1.setStp 6 _)
  obtain ⟨c0, c1, c2, c3, c4, c5, c6⟩ := h.cells
  have f5 := h.free 5
  have f6 := h.free 6
  have H := Lib.hid h; have H2 := Lib.hid h2; have S2 := Lib.hid s2
  clear h h1 h2 s2
  go_enter Tryz.func24, Tryz.ntmps24
  go_wp2_with fail
  refine (power_t H.out).mono ?_
  rintro e w' ⟨rfl, rfl⟩
  cases hd : st.dark with
  | true =>
    have hA : planA st n k = (st, 9) := by simp [planA, hd]
    have HA := Lib.hid hA
    clear hd hA
    unfold errv
    go_wp2
    go_ret
    unfold CountedPost
    rw [HA.out]
    exact ⟨rfl, ⟨_, _, _, H.out⟩, Stp.refl _ _ _⟩
  | false =>
    have hd' := Lib.hid hd
    clear hd
    by_cases hn : n < 0
    · have hnb : decide (n < 0) = true := decide_eq_true hn
      have hA : planA st n k = (st, 2) := by simp [planA, hd'.out, hn]
      have HA := Lib.hid hA
      clear hA hn
      unfold errv
      go_wp2
      go_ret
      unfold CountedPost
      rw [HA.out]
      exact ⟨rfl, ⟨_, _, _, H.out⟩, Stp.refl _ _ _⟩
    · have hnb : decide (n < 0) = false := decide_eq_false hn
      have hA : planA st n k = ({ st with left := n, keep := k }, 0) := by simp [planA, hd'.out, hn]
      have HA := Lib.hid hA
      clear hA hn
      unfold errv
      go_wp2
      go_ret
      unfold CountedPost
      rw [HA.out]
      exact ⟨rfl, ⟨_, _, _, H2.out⟩, S2.out⟩

attribute [local go_sem] neq_map eql_map
set_option maxRecDepth 100000 in
set_option maxHeartbeats 400000 in
theorem powerOn_t (h : RepC B w p mn ms bl st) : Calls Tryz.prog 27 #[.pointer (some ⟨p, 0, none⟩)] w fun e w' => e = .returned (.tuple #[]) ∧ (Rep B w' p (powerA st) ∧ Stp [] B w w') := by
  have h1 : RepC B (w.setCell ⟨p, 3, none⟩ (.bool false)) p mn ms bl { st with dark := false } := by
    refine h.turn (st' := { st with dark := false }) ?_ (fun k x hk hx => hp_set_ne hx hk) rfl rfl rfl rfl rfl rfl (fun v' l hv => BS.stp hv (h.setStp 3 _))
    have := hp_set h.blk 3 (.bool false)
    rw [this]; rfl
  have h2 : RepC B ((w.setCell ⟨p, 3, none⟩ (.bool false)).setCell ⟨p, 5, none⟩ (.int .i64 0)) p mn ms bl (powerA st) := h1.set (st' := powerA st) ⟨rfl, rfl, rfl, rfl, rfl⟩ 5 _ rfl
  have s2 : Stp [] B w ((w.setCell ⟨p, 3, none⟩ (.bool false)).setCell ⟨p, 5, none⟩ (.int .i64 0)) := (h.setStp 3 _).tr (h1.setStp 5 _)
  obtain ⟨c0, c1, c2, c3, c4, c5, c6⟩ := h.cells
  have f3 := h.free 3
  have f5 := h.free 5
  have H2 := Lib.hid h2; have S2 := Lib.hid s2
  clear h h1 h2 s2
  go_enter Tryz.func27, Tryz.ntmps27
  go_wp2
  go_end0
  exact ⟨rfl, ⟨_, _, _, H2.out⟩, S2.out⟩

def newA (room : Int) : St := ⟨room, [], [], [], false, 0, 0, 0⟩
set_option maxRecDepth 100000 in
set_option maxHeartbeats 400000 in
theorem new_t (w : World) (room : Int) (h0 : 0 ≤ room) (h1 : room ≤ 1073741824) : Calls Tryz.prog 8 #[.int .i64 room] w fun e w' => ∃ q, e = .returned (.pointer (some ⟨q, 0, none⟩)) ∧ Rep w.heap.size w' q (newA room) ∧ Stp [] w.heap.size w w' := by
  have hmm := @run_makeMap Tryz.prog
  have hb : Below w.heap.size w (((w.alloc (.map #[] 0)).alloc (.map #[] 0)).alloc (.cells #[.int .i64 room, .map (some w.heap.size), .map (some (w.heap.size + 1)), .bool false, .int .i64 0, .int .i64 0, .int .i64 0] 64)) := (((Below.refl _ _).alloc (Nat.le_refl _) _).alloc (by simp) _).alloc (by simp; omega) _
  have e0 : (w.alloc (.map #[] 0)).heap.size = w.heap.size + 1 := by simp
  have e1 : ((w.alloc (.map #[] 0)).alloc (.map #[] 0)).heap.size = w.heap.size + 1 + 1 := by simp
  have y0 : (((w.alloc (.map #[] 0)).alloc (.map #[] 0)).alloc (.cells #[.int .i64 room, .map (some w.heap.size), .map (some (w.heap.size + 1)), .bool false, .int .i64 0, .int .i64 0, .int .i64 0] 64)).heap[w.heap.size]? = some (.map #[] 0) := hp_old (hp_old (hp_new _ _))
  have y1 : (((w.alloc (.map #[] 0)).alloc (.map #[] 0)).alloc (.cells #[.int .i64 room, .map (some w.heap.size), .map (some (w.heap.size + 1)), .bool false, .int .i64 0, .int .i64 0, .int .i64 0] 64)).heap[w.heap.size + 1]? = some (.map #[] 0) := by
    have := hp_new (w.alloc (.map #[] 0)) (.map #[] 0)
    rw [e0] at this; exact hp_old this
  have y2 : (((w.alloc (.map #[] 0)).alloc (.map #[] 0)).alloc (.cells #[.int .i64 room, .map (some w.heap.size), .map (some (w.heap.size + 1)), .bool false, .int .i64 0, .int .i64 0, .int .i64 0] 64)).heap[w.heap.size + 1 + 1]? = some (storeObj w.heap.size (w.heap.size + 1) (newA room)) := by
    have := hp_new ((w.alloc (.map #[] 0)).alloc (.map #[] 0)) (.cells #[.int .i64 room, .map (some w.heap.size), .map (some (w.heap.size + 1)), .bool false, .int .i64 0, .int .i64 0, .int .i64 0] 64)
    rw [e1] at this; exact this
  have hR : RepC w.heap.size (((w.alloc (.map #[] 0)).alloc (.map #[] 0)).alloc (.cells #[.int .i64 room, .map (some w.heap.size), .map (some (w.heap.size + 1)), .bool false, .int .i64 0, .int .i64 0, .int .i64 0] 64)) (w.heap.size + 1 + 1) w.heap.size (w.heap.size + 1) [] (newA room) :=
    ⟨y2, ⟨#[], 0, y0, MapKept.stamped_empty 0, rfl⟩, ⟨#[], 0, y1, MapKept.stamped_empty 0, rfl⟩, by omega, by omega, Nat.le_refl _, by omega, by simp, by simp, rfl, by simp, ⟨⟨h0, h1⟩, by simp [newA], by simp [newA], by simp [newA], by simp [newA]⟩⟩
  have HR := Lib.hid hR; have HB := Lib.hid hb
  clear hR hb y0 y1 y2 e0 e1
  have hd0 : decide (room < 0) = false := decide_eq_false (by omega)
  have hd1 : decide ((1073741824 : Int) < room) = false := decide_eq_false (by omega)
  go_enter Tryz.func8, Tryz.ntmps8
  go_wp2
  go_ret
  exact ⟨_, rfl, ⟨_, _, _, HR.out⟩, Stp.of_below HB.out (Nat.le_refl _)⟩
end
end Go.Proofs.YthjilhjdnefmdaaGreatDoor
