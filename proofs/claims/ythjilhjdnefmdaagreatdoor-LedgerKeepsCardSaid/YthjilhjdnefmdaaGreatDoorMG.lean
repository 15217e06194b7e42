/- Joined texts: A ledger in a world, its calls that look. Conditions: none. Add. Conditions: none. The next part. Conditions: none. The steps of Flush. Conditions: none. Flush. Conditions: none. Flush, walked. Conditions: none. Elder parts go. Conditions: none. The steps of Mark. Conditions: none. What Mark's steps do. Conditions: none. Mark. Conditions: none. Parts, and a ledger that no call made. Conditions: none. The very same bytes, the very same lists. Conditions: none. -/
import Derived.Test.YthjilhjdnefmdaaGreatDoorMF
import Derived.Deep.RegionLaw
import Derived.Deep.RegionHeld3
import Derived.Test.YthjilhjdnefmdaaGreatDoorMB
import Derived.Test.YthjilhjdnefmdaaGreatDoorMD
import Derived.Laws.IdiomStrings
/- A ledger in a world, its calls that look. Conditions: none. -/
namespace Go.Proofs.YthjilhjdnefmdaaGreatDoor
open Go.RowKit
open Go.ChangeMaps (setBlock)
structure LM where
  part : Int
  last : Int
  waits : List (List UInt8)
  dead : Bool
structure LRepC (B : Nat) (w : World) (pl p : Nat) (L : LM) (vw : Value) (vs : List Value) : Prop where
  blk : w.heap[pl]? = some (ledObj p L.part L.last vw L.dead)
  own : w.ownsRow B 27 1 vw L.waits.length vs
  rows : Rows B w vs L.waits
  lpl : B ≤ pl
  few : L.waits.length ≤ 1000
  big : ∀ l ∈ L.waits, l.length ≤ 1048512
  lst : 1 ≤ L.last ∧ L.last ≤ 999999999
  prt : 1 ≤ L.part ∧ L.part ≤ 1048576
def LRep (B : Nat) (w : World) (pl p : Nat) (L : LM) : Prop := ∃ vw vs, LRepC B w pl p L vw vs
section
variable {B : Nat} {w w' : World} {p mn ms pl : Nat} {bl : List Nat} {st : St} {L : LM} {vw : Value} {vs : List Value}
theorem LRepC.cells (h : LRepC B w pl p L vw vs) : w.cell? ⟨pl, 0, none⟩ = some (.pointer (some ⟨p, 0, none⟩)) ∧ w.cell? ⟨pl, 1, none⟩ = some (.int .i64 L.part) ∧ w.cell? ⟨pl, 2, none⟩ = some (.int .i64 L.last) ∧ w.cell? ⟨pl, 3, none⟩ = some vw ∧ w.cell? ⟨pl, 4, none⟩ = some (.bool L.dead) := by
  refine ⟨?_, ?_, ?_, ?_, ?_⟩ <;> rw [cell_of h.blk] <;> rfl
theorem LRepC.free (h : LRepC B w pl p L vw vs) (i : Nat) : w.frozen? ⟨pl, i, none⟩ = false := free_of h.blk i
theorem LRepC.below (h : LRepC B w pl p L vw vs) (hb : Below w.heap.size w w') : LRepC B w' pl p L vw vs :=
  ⟨(hb.block _ (hp_lt h.blk)).trans h.blk, own_below h.own hb, h.rows.stp (fun _v _l hv => RS.below hv hb (Nat.le_trans h.lpl (Nat.le_of_lt (hp_lt h.blk)))), h.lpl, h.few, h.big, h.lst, h.prt⟩
theorem LRepC.stp (h : LRepC B w pl p L vw vs) (s : Stp [] B w w') : LRepC B w' pl p L vw vs := by
  refine ⟨s.fix _ _ _ _ h.blk (by decide) (by decide) (by simp), ⟨h.own.1, h.own.2.imp id ?_⟩, h.rows.stp (fun v l hv => RS.stp hv s (by decide) (by decide) (fun _ h => absurd rfl h)), h.lpl, h.few, h.big, h.lst, h.prt⟩
  rintro ⟨g, cap, cur, h1, h2, h3, h4⟩
  exact ⟨g, cap, cur, h1, h2, s.fix _ _ _ _ h3 (by decide) (by decide) (by simp), h4⟩
def mayA (st : St) (L : LM) : Int := if L.dead || st.dark then 9 else 0
set_option maxRecDepth 100000 in
theorem may_t (h : RepC B w p mn ms bl st) (hl : LRepC B w pl p L vw vs) : Calls Tryz.prog 38 #[.pointer (some ⟨pl, 0, none⟩)] w fun e w' => e = .returned (errv (mayA st L)) ∧ w = w' := by
  obtain ⟨c0, c1, c2, c3, c4⟩ := hl.cells
  have HON := Lib.hid (on_t h)
  have hz : (L.last == 0) = false := beq_eq_false_iff_ne.2 (by have := hl.lst; omega)
  unfold mayA
  clear h hl
  cases hd : L.dead
  · rw [hd] at c4
    cases hk : st.dark
    all_goals
      rw [hk] at HON
      go_enter Tryz.func38, Tryz.ntmps38
      go_wp2_with fail
      refine HON.out.mono ?_
      rintro e w' ⟨rfl, rfl⟩
      go_wp2
      go_ret
      exact ⟨rfl, rfl⟩
  · rw [hd] at c4
    clear HON hd
    go_enter Tryz.func38, Tryz.ntmps38
    go_wp2
    go_ret
    exact ⟨rfl, rfl⟩
set_option maxRecDepth 100000 in
theorem may_nil (w : World) : Calls Tryz.prog 38 #[.pointer none] w fun e w' => e = .returned (errv 1) ∧ w = w' := by
  go_enter Tryz.func38, Tryz.ntmps38
  go_wp2
  go_ret
  exact ⟨rfl, rfl⟩
set_option maxRecDepth 100000 in
theorem may_zero (w : World) (c2 : w.cell? ⟨pl, 2, none⟩ = some (.int .i64 0)) : Calls Tryz.prog 38 #[.pointer (some ⟨pl, 0, none⟩)] w fun e w' => e = .returned (errv 1) ∧ w = w' := by
  go_enter Tryz.func38, Tryz.ntmps38
  go_wp2
  go_ret
  exact ⟨rfl, rfl⟩
set_option maxRecDepth 100000 in
theorem pending_t (hl : LRepC B w pl p L vw vs) : Calls Tryz.prog 22 #[.pointer (some ⟨pl, 0, none⟩)] w fun e w' => e = .returned (.int .i64 (L.waits.length : Int)) ∧ w = w' := by
  obtain ⟨c0, c1, c2, c3, c4⟩ := hl.cells
  obtain ⟨a, c, rfl⟩ := own_form hl.own
  have hf := hl.few
  clear hl
  go_enter Tryz.func22, Tryz.ntmps22
  go_wp2
  go_ret
  exact ⟨rfl, rfl⟩
set_option maxRecDepth 100000 in
theorem pending_nil (w : World) : Calls Tryz.prog 22 #[.pointer none] w fun e w' => e = .returned (.int .i64 0) ∧ w = w' := by
  go_enter Tryz.func22, Tryz.ntmps22
  go_wp2
  go_ret
  exact ⟨rfl, rfl⟩
def toldW (pl : Nat) (L : LM) (k : Int) (w : World) : World := w.setCell ⟨pl, 4, none⟩ (.bool (L.dead || k == 9))
set_option maxRecDepth 100000 in
theorem told_t (hl : LRepC B w pl p L vw vs) (k : Int) : Calls Tryz.prog 46 #[.pointer (some ⟨pl, 0, none⟩), .int .i64 k] w fun e w' => e = .returned (errv k) ∧ w' = toldW pl L k w := by
  obtain ⟨c0, c1, c2, c3, c4⟩ := hl.cells
  have f4 := hl.free 4
  unfold toldW
  clear hl
  cases hd : L.dead
  · rw [hd] at c4
    cases hk : (k == 9)
    all_goals
      go_enter Tryz.func46, Tryz.ntmps46
      go_wp2
      go_ret
      exact ⟨rfl, rfl⟩
  · rw [hd] at c4
    go_enter Tryz.func46, Tryz.ntmps46
    go_wp2
    go_ret
    exact ⟨rfl, by simp⟩
/-- The ledger's own cells turn; all else stands. -/
theorem LRepC.turn (h : LRepC B w pl p L vw vs) (i : Nat) (v : Value) {L' : LM} (hw : L'.waits = L.waits) (hl : 1 ≤ L'.last ∧ L'.last ≤ 999999999) (hp : L'.part = L.part)
    (ho : (#[.pointer (some ⟨p, 0, none⟩), .int .i64 L.part, .int .i64 L.last, vw, .bool L.dead] : Array Value).setIfInBounds i v = #[.pointer (some ⟨p, 0, none⟩), .int .i64 L'.part, .int .i64 L'.last, vw, .bool L'.dead]) : LRepC B (w.setCell ⟨pl, i, none⟩ v) pl p L' vw vs := by
  have s : Stp [pl] B w (w.setCell ⟨pl, i, none⟩ v) := (Stp.refl _ B w).setCell (p := ⟨pl, i, none⟩) h.lpl v (fun cs e fr hc => by
    have hc' : w.heap[pl]? = some (.cells cs e fr) := hc
    rw [h.blk] at hc'; cases hc'; exact .inr (.inr ⟨by decide, by simp⟩))
  refine ⟨?_, ⟨by rw [hw]; exact h.own.1, ?_⟩, ?_, h.lpl, by rw [hw]; exact h.few, by rw [hw]; exact h.big, hl, by rw [hp]; exact h.prt⟩
  · have := hp_set h.blk i v
    rw [this, ho]; rfl
  · rw [hw]
    refine h.own.2.imp id ?_
    rintro ⟨g, cap, cur, h1, h2, h3, h4⟩
    refine ⟨g, cap, cur, h1, h2, ?_, h4⟩
    exact hp_set_ne h3 (by rintro rfl; rw [h.blk] at h3; cases h3)
  · rw [hw]; exact h.rows.stp (fun v l hv => RS.stp hv s (by decide) (by decide) (fun _ h => absurd rfl h))
theorem LRepC.setStp (h : LRepC B w pl p L vw vs) (i : Nat) (v : Value) : Stp [pl] B w (w.setCell ⟨pl, i, none⟩ v) :=
  (Stp.refl _ B w).setCell (p := ⟨pl, i, none⟩) h.lpl v (fun cs e fr hc => by
    have hc' : w.heap[pl]? = some (.cells cs e fr) := hc
    rw [h.blk] at hc'; cases hc'; exact .inr (.inr ⟨by decide, by simp⟩))
/-- What turns in a block that is no Store, no directory and no file does not touch the files. -/
theorem RepC.off (h : RepC B w p mn ms bl st) {k0 : Nat} {cs : Array Value} {e : TypeId} {fr : Nat × Nat} (hk : w.heap[k0]? = some (.cells cs e fr)) (h64 : e ≠ 64) (h82 : e ≠ 82) (hne : ∀ k x, k ≠ k0 → w.heap[k]? = some x → w'.heap[k]? = some x)
    (hle : ∀ v l, BS B w v l → BS B w' v l) : RepC B w' p mn ms bl st := by
  have e1 : p ≠ k0 := by rintro rfl; rw [h.blk] at hk; cases hk; exact h64 rfl
  have e2 : mn ≠ k0 := by rintro rfl; exact h.now.nocells _ _ _ hk
  have e3 : ms ≠ k0 := by rintro rfl; exact h.sure.nocells _ _ _ hk
  refine ⟨hne _ _ e1 h.blk, ?_, ?_, h.ne, h.lp, h.lmn, h.lms, h.lbl, h.nd, h.len, fun i hi f hfi => ?_, h.inv⟩
  · obtain ⟨es, clk, h1, h2⟩ := h.now
    exact ⟨es, clk, hne _ _ e2 h1, h2⟩
  · obtain ⟨es, clk, h1, h2⟩ := h.sure
    exact ⟨es, clk, hne _ _ e3 h1, h2⟩
  · obtain ⟨vn, vs', h1, h2, h3⟩ := h.file i hi f hfi
    have : bl[i] ≠ k0 := by rintro hb; rw [hb] at h1; rw [h1] at hk; cases hk; exact h82 rfl
    exact ⟨vn, vs', hne _ _ this h1, hle _ _ h2, hle _ _ h3⟩
theorem RepC.led (h : RepC B w p mn ms bl st) (hl : LRepC B w pl p L vw vs) (i : Nat) (v : Value) : RepC B (w.setCell ⟨pl, i, none⟩ v) p mn ms bl st :=
  h.off hl.blk (by decide) (by decide) (fun k x hk hx => hp_set_ne hx hk) (fun v' l hv => RS.stp hv (hl.setStp i v) (by decide) (by decide) (fun _ h => absurd rfl h))
end
end Go.Proofs.YthjilhjdnefmdaaGreatDoor
/- Add. Conditions: none. -/
namespace Go.Proofs.YthjilhjdnefmdaaGreatDoor
open Go.RowKit
open Go.ChangeMaps (setBlock)
def addA (st : St) (L : LM) (b : List UInt8) : LM × Int :=
  if mayA st L ≠ 0 then (L, mayA st L) else if 1048512 < b.length ∨ 1000 ≤ L.waits.length then (L, 5) else ({ L with waits := L.waits ++ [b] }, 0)
section
variable {B : Nat} {w w' : World} {p mn ms pl : Nat} {bl : List Nat} {st : St} {L : LM} {vw : Value} {vs : List Value}
def AddPost (B p pl mn ms : Nat) (bl : List Nat) (st : St) (vw : Value) (w : World) (R : LM × Int) (e : Ending) (w' : World) : Prop :=
  e = .returned (errv R.2) ∧ RepC B w' p mn ms bl st ∧ (∃ vw' vs', LRepC B w' pl p R.1 vw' vs' ∧ ∀ k, vw'.ownBlock = some k → vw.ownBlock = some k ∨ w.heap.size ≤ k) ∧ Stp (pl :: vw.ownBlock.toList) B w w'
/-- The block of what append hands back is the old one or new. -/
theorem append_blk {t e : TypeId} {z : Value} {bytes : Nat} (T : SlT t e z bytes) (w : World) (base B : Nat) (ty : TypeId) (v : Value) (n : Nat) (xs : List Value) (hown : w.ownsRow base e 1 v n xs)
    (src : Value) (ys : List Value) {e' : TypeId} (hsrc : RS e' B w src ys) (h1 : ∀ u ∈ ys, u.oneCell' = true) (hm : n + ys.length ≤ maxLen) (hbytes : (n + ys.length) * bytes ≤ 140737488355328) {v' : Value} {w' : World}
    (hr : (Builtin.append_ #[t, t] ty #[v, src]).run Tryz.prog w = .ok v' w') : ∀ k, v'.ownBlock = some k → v.ownBlock = some k ∨ w.heap.size ≤ k := by
  obtain ⟨i, hi, hz, hs, hb⟩ := T.hi
  obtain ⟨a, c, rfl, hc, -, hx⟩ := hsrc
  cases a with
  | some ad =>
    have hnews : ∀ j u, ys[j]? = some u → w.cell? (ad.add j) = some u := fun j u hu => by
      rcases hx with hx | ⟨b, o, hab, _, hcell⟩
      · rw [hx] at hu; simp at hu
      · cases hab
        have := hcell j u hu
        have hadd : (⟨b, o, none⟩ : Addr).add j = ⟨b, o + j, none⟩ := by unfold Addr.add; split <;> simp_all
        rw [hadd]; exact this
    rcases hown.2 with ⟨rfl, rfl⟩ | ⟨g, cap, cur, rfl, hbg, hg, hnc, hcm, hcs, htake⟩
    · obtain ⟨v2, w2, g1, g2, -⟩ := run_append_own (P := Tryz.prog) w w.heap.size t ty e i z 1 bytes T.ht hi hz hs hb T.hz (by decide) (.slice none 0 0) 0 [] (World.ownsRow_nil _ _ _ _) ad ys.length c ys (by simp) hnews h1 hm hbytes (Nat.le_refl _)
      rw [g1] at hr
      cases hr
      exact fun k hk => .inr (g2.lt k hk).1
    · by_cases hroom : n + ys.length ≤ cap
      · have hr2 := run_append_room (P := Tryz.prog) w t ty e i T.ht hi g n cap cur hg ad ys.length c ys (by rw [hs]; simp) hnews h1 hroom (by rw [hs, hcs]; omega)
        rw [hr2] at hr
        cases hr
        exact fun k hk => .inl hk
      · have hr2 := run_append_grow (P := Tryz.prog) w t ty e i z T.ht hi hz ⟨g, 0, none⟩ n cap xs (by rw [hs]; simpa using hown.1) (hown.cells (g := g) rfl) ad ys.length c ys (by rw [hs]; simp) hnews (by omega) (by unfold maxLen at hm; omega) (growslice_fits (by omega) (by rw [hb]; exact hbytes))
        rw [hr2] at hr
        cases hr
        intro k hk
        simp [Value.ownBlock] at hk
        exact .inr (by omega)
  | none =>
    have hy : ys = [] := by
      rcases hx with hx | ⟨b, o, hab, _⟩
      · exact hx
      · cases hab
    subst hy
    have hr2 : (Builtin.append_ #[t, t] ty #[v, .slice none ([] : List Value).length c]).run Tryz.prog w = .ok v w := by
      rcases hown.2 with ⟨rfl, rfl⟩ | ⟨g, cap, cur, rfl, _, hg, hnc, _, _, _⟩
      · simp [Builtin.append_, run_underlying T.ht, sizeOf, typeInfo, hi, Builtin.lenOf, Builtin.firstCells]
      · simp [Builtin.append_, run_underlying T.ht, sizeOf, typeInfo, hi, Builtin.lenOf, Builtin.firstCells, hnc, storeCells]
    rw [hr2] at hr
    cases hr
    exact fun k hk => .inl hk
theorem wp_append_rs2 {t e : TypeId} {z : Value} {bytes : Nat} (T : SlT t e z bytes) {o : Oper} {a : Act} {K : Act → World → Prop} {Q : Exit → Act → World → Prop} {w : World} (s x : Operand)
    (ho : o.op = .call { callee := .builtin .append, args := #[s, x], argTypes := #[t, t] })
    (base B : Nat) (v : Value) (n : Nat) (xs : List Value) (hs : a.eval s = v) (hown : w.ownsRow base e 1 v n xs)
    (src : Value) (hx : a.eval x = src) (ys : List Value) {e' : TypeId} (hsrc : RS e' B w src ys) (h1 : ∀ u ∈ ys, u.oneCell' = true) (hm : n + ys.length ≤ maxLen) (hbytes : (n + ys.length) * bytes ≤ 140737488355328) (hbase : base ≤ w.heap.size)
    (h : ∀ v' w', w'.ownsRow base e 1 v' (n + ys.length) (xs ++ ys) → w.grownBy w' v.ownBlock → (∀ k, v'.ownBlock = some k → v.ownBlock = some k ∨ w.heap.size ≤ k) → K (a.put o.dst v') w') : o.wp Tryz.prog a w K Q := by
  obtain ⟨v', w', hr, h2, h3⟩ := run_append_rs T w base B o.type v n xs hown src ys hsrc h1 hm hbytes hbase
  have h4 := append_blk T w base B o.type v n xs hown src ys hsrc h1 hm hbytes hr
  unfold Oper.wp execOp
  simp only [ho, resolve, invoke, builtin, Sem.run_bind, Sem.run_pure, Result.andThen_ok, List.map_toArray, List.map_cons, List.map_nil, hs, hx, hr]
  exact h v' w' h2 h3 h4
theorem step_append_rs2 {t e : TypeId} {z : Value} {bytes : Nat} (T : SlT t e z bytes) {ops : Array Oper} {o : Oper} {a : Act} {K : Act → World → Prop} {Q : Exit → Act → World → Prop} {w : World} {E : Prop} (hgd : o.guard = none) (s x : Operand)
    (ho : o.op = .call { callee := .builtin .append, args := #[s, x], argTypes := #[t, t] })
    (base B : Nat) (v : Value) (n : Nat) (xs : List Value) (hs : a.eval s = v) (hown : w.ownsRow base e 1 v n xs)
    (src : Value) (hx : a.eval x = src) (ys : List Value) {e' : TypeId} (hsrc : RS e' B w src ys) (h1 : ∀ u ∈ ys, u.oneCell' = true) (hm : n + ys.length ≤ maxLen) (hbytes : (n + ys.length) * bytes ≤ 140737488355328) (hbase : base ≤ w.heap.size)
    (h : ∀ v' w', w'.ownsRow base e 1 v' (n + ys.length) (xs ++ ys) → w.grownBy w' v.ownBlock → (∀ k, v'.ownBlock = some k → v.ownBlock = some k ∨ w.heap.size ≤ k) → K (a.put o.dst v') w') : if Region.wanted o (yielded ops a.tmps) = true then Oper.wp Tryz.prog o a w K Q else E := by
  rw [if_pos (by simp [Region.wanted, hgd])]
  exact wp_append_rs2 T s x ho base B v n xs hs hown src hx ys hsrc h1 hm hbytes hbase h
theorem step_append_rs {t e : TypeId} {z : Value} {bytes : Nat} (T : SlT t e z bytes) {ops : Array Oper} {o : Oper} {a : Act} {K : Act → World → Prop} {Q : Exit → Act → World → Prop} {w : World} {E : Prop} (hgd : o.guard = none) (s x : Operand)
    (ho : o.op = .call { callee := .builtin .append, args := #[s, x], argTypes := #[t, t] })
    (base B : Nat) (v : Value) (n : Nat) (xs : List Value) (hs : a.eval s = v) (hown : w.ownsRow base e 1 v n xs)
    (src : Value) (hx : a.eval x = src) (ys : List Value) {e' : TypeId} (hsrc : RS e' B w src ys) (h1 : ∀ u ∈ ys, u.oneCell' = true) (hm : n + ys.length ≤ maxLen) (hbytes : (n + ys.length) * bytes ≤ 140737488355328) (hbase : base ≤ w.heap.size)
    (h : ∀ v' w', w'.ownsRow base e 1 v' (n + ys.length) (xs ++ ys) → w.grownBy w' v.ownBlock → K (a.put o.dst v') w') : if Region.wanted o (yielded ops a.tmps) = true then Oper.wp Tryz.prog o a w K Q else E := by
  rw [if_pos (by simp [Region.wanted, hgd])]
  exact wp_append_rs T s x ho base B v n xs hs hown src hx ys hsrc h1 hm hbytes hbase h

theorem add_end {w1 : World} {vc : Value} {c : List UInt8} (h : RepC B w1 p mn ms bl st) (hl : LRepC B w1 pl p L vw vs) (hc : BS B w1 vc c) (hcl : c.length ≤ 1048512) (hfew : L.waits.length < 1000)
    {v2 : Value} {w2 : World} (hown : w2.ownsRow B 27 1 v2 (L.waits.length + 1) (vs ++ [vc])) (hg : (w1.alloc (.cells #[vc] 27)).grownBy w2 vw.ownBlock) {N0 : Nat} (hblk : ∀ k, v2.ownBlock = some k → vw.ownBlock = some k ∨ N0 ≤ k) :
    ∃ a2 c2, v2 = .slice a2 (L.waits.length + 1) c2 ∧ w2.cell? ⟨pl, 3, none⟩ = some vw ∧ w2.frozen? ⟨pl, 3, none⟩ = false ∧
      Hid (RepC B (w2.setCell ⟨pl, 3, none⟩ v2) p mn ms bl st ∧ (∃ vw' vs', LRepC B (w2.setCell ⟨pl, 3, none⟩ v2) pl p { L with waits := L.waits ++ [c] } vw' vs' ∧ ∀ k, vw'.ownBlock = some k → vw.ownBlock = some k ∨ N0 ≤ k) ∧ Stp (pl :: vw.ownBlock.toList) B w1 (w2.setCell ⟨pl, 3, none⟩ v2)) := by
  have hB : B ≤ w1.heap.size := h.le
  have bel : Below w1.heap.size w1 (w1.alloc (.cells #[vc] 27)) := (Below.refl _ w1).alloc (Nat.le_refl _) _
  have hkind : ∀ k, vw.ownBlock = some k → ∃ cur, w1.heap[k]? = some (.cells cur 27 (0, 0)) := by
    intro k hk
    rcases hl.own.2 with ⟨rfl, _⟩ | ⟨g, cap, cur, rfl, _, hgc, _⟩
    · simp [Value.ownBlock] at hk
    · simp [Value.ownBlock] at hk
      subst hk; exact ⟨cur, hgc⟩
  have hne : some pl ≠ vw.ownBlock := fun he => by
    obtain ⟨cur, hc⟩ := hkind pl he.symm
    rw [hl.blk] at hc; cases hc
  have kb : w2.heap[pl]? = some (ledObj p L.part L.last vw L.dead) := (hg.block pl (hp_lt (hp_old hl.blk)) hne).trans (hp_old hl.blk)
  have s1 : Stp (pl :: vw.ownBlock.toList) B w1 w2 := (Stp.of_below (M := _) bel hB).grown hg (by simp; omega) (fun k hk => ⟨(hl.own.lt k hk).1, fun cs e fr hcs => by
    obtain ⟨cur, hc⟩ := hkind k hk
    rw [hc] at hcs; cases hcs
    exact ⟨by decide, by rw [hk]; simp⟩⟩)
  have s2 : Stp (pl :: vw.ownBlock.toList) B w1 (w2.setCell ⟨pl, 3, none⟩ v2) := s1.setCell (p := ⟨pl, 3, none⟩) hl.lpl v2 (fun cs e fr hcs => .inr (.inr (by
    have hcs' : w1.heap[pl]? = some (.cells cs e fr) := hcs
    rw [hl.blk] at hcs'; cases hcs'; exact ⟨by decide, by simp⟩)))
  have hbs : ∀ v l, BS B w1 v l → BS B (w2.setCell ⟨pl, 3, none⟩ v2) v l := fun v l hv => RS.stp hv s2 (by decide) (by decide) (fun _ h => absurd rfl h)
  obtain ⟨a2, c2, hv2⟩ := own_form hown
  have hblk2 : (w2.setCell ⟨pl, 3, none⟩ v2).heap[pl]? = some (ledObj p L.part L.last v2 L.dead) := hp_set kb 3 v2
  refine ⟨a2, c2, hv2, cell_of kb 3, free_of kb 3, Lib.hid ⟨?_, ⟨v2, vs ++ [vc], ⟨hblk2, ?_, ?_, hl.lpl, by simp; omega, ?_, hl.lst, hl.prt⟩, hblk⟩, s2⟩⟩
  · -- the files
    have h2 : RepC B w2 p mn ms bl st := by
      cases hob : vw.ownBlock with
      | none =>
        rw [hob] at hg
        have : Below w1.heap.size w1 w2 := bel.grown hg (by simp) (fun k hk => by cases hk)
        exact h.below this
      | some g =>
        obtain ⟨cur, hcur⟩ := hkind g hob
        rw [hob] at hg
        exact h.off hcur (by decide) (by decide) (fun k x hk hx => (hg.block k (hp_lt (hp_old hx)) (by simpa using hk)).trans (hp_old hx)) (fun v l hv => RS.stp hv s1 (by decide) (by decide) (fun _ h => absurd rfl h))
    refine h2.off kb (by decide) (by decide) (fun k x hk hx => hp_set_ne hx hk) (fun v l hv => ?_)
    have s3 : Stp [pl] B w2 (w2.setCell ⟨pl, 3, none⟩ v2) := (Stp.refl _ B w2).setCell (p := ⟨pl, 3, none⟩) hl.lpl v2 (fun cs e fr hc => by
      have hc' : w2.heap[pl]? = some (.cells cs e fr) := hc
      rw [kb] at hc'; cases hc'; exact .inr (.inr ⟨by decide, by simp⟩))
    exact RS.stp hv s3 (by decide) (by decide) (fun _ h => absurd rfl h)
  · rw [List.length_append]
    refine ⟨hown.1, hown.2.imp id ?_⟩
    rintro ⟨g, cap, cur, h1, h2, h3, h4⟩
    exact ⟨g, cap, cur, h1, h2, hp_set_ne h3 (by rintro rfl; rw [kb] at h3; cases h3), h4⟩
  · exact (hl.rows.stp hbs).snoc (hbs _ _ hc)
  · intro l hl'
    rcases List.mem_append.1 hl' with h' | h'
    · exact hl.big l h'
    · simp at h'; rw [h']; exact hcl

set_option maxRecDepth 100000 in
set_option maxHeartbeats 1000000 in
theorem add_t (h : RepC B w p mn ms bl st) (hl : LRepC B w pl p L vw vs) {vb : Value} {lb : List UInt8} (hb : BS B w vb lb) :
    Calls Tryz.prog 11 #[.pointer (some ⟨pl, 0, none⟩), vb] w (AddPost B p pl mn ms bl st vw w (addA st L lb)) := by
  have HM := Lib.hid (may_t h hl)
  have HH := Lib.hid h; have HL := Lib.hid hl; have HB := Lib.hid hb
  obtain ⟨c0, c1, c2, c3, c4⟩ := hl.cells
  obtain ⟨aw, cw, hvw⟩ := own_form hl.own
  obtain ⟨ab, cb, rfl, g1, g2⟩ := hb.form
  unfold maxLen at g2
  have hf := hl.few
  obtain ⟨k, hk⟩ : ∃ k, mayA st L = k := ⟨_, rfl⟩
  rw [hk] at HM
  by_cases h0 : k = 0
  · have t0 : (k != 0) = false := by rw [h0]; rfl
    by_cases h1 : 1048512 < lb.length ∨ 1000 ≤ L.waits.length
    · have hA : Hid (addA st L lb = (L, 5)) := Lib.hid (by unfold addA; rw [hk, if_neg (by simp [h0]), if_pos h1])
      have hc : decide ((1048512 : Int) < lb.length) = true ∨ (decide ((1048512 : Int) < lb.length) = false ∧ decide ((1000 : Int) ≤ L.waits.length) = true) := by
        by_cases q : 1048512 < lb.length
        · left; exact decide_eq_true (by omega)
        · right; exact ⟨decide_eq_false (by omega), decide_eq_true (by omega)⟩
      subst hvw
      clear h hl hb h1 h0 hk g2
      rcases hc with t1 | ⟨t1, t2⟩
      all_goals
        go_enter Tryz.func11, Tryz.ntmps11
        go_wp2_with fail
        refine HM.out.mono ?_
        rintro e w1 ⟨rfl, rfl⟩
        unfold errv
        go_wp2
        go_ret
        unfold AddPost
        rw [hA.out]
        exact ⟨rfl, HH.out, ⟨_, _, HL.out, fun k hk => .inl hk⟩, Stp.refl _ _ _⟩
    · have hA : Hid (addA st L lb = ({ L with waits := L.waits ++ [lb] }, 0)) := Lib.hid (by unfold addA; rw [hk, if_neg (by simp [h0]), if_neg h1])
      have t1 : decide ((1048512 : Int) < lb.length) = false := decide_eq_false (by omega)
      have t2 : decide ((1000 : Int) ≤ L.waits.length) = false := decide_eq_false (by omega)
      have hcl : Calls Tryz.prog 39 #[.slice ab lb.length cb] w.drew fun e w1 => ∃ a' c', e = .returned (.slice a' lb.length c') ∧ w1.cell? ⟨pl, 3, none⟩ = some vw ∧ (w1.alloc (.cells #[.slice a' lb.length c'] 27)).cell? ⟨pl, 3, none⟩ = some vw ∧
          Hid ((w1.alloc (.cells #[.slice a' lb.length c'] 27)).ownsRow B 27 1 vw L.waits.length vs) ∧ Hid (B ≤ (w1.alloc (.cells #[.slice a' lb.length c'] 27)).heap.size) ∧ Hid (w.heap.size ≤ (w1.alloc (.cells #[.slice a' lb.length c'] 27)).heap.size) ∧
          Hid (∀ v2 w2, w2.ownsRow B 27 1 v2 (L.waits.length + 1) (vs ++ [.slice a' lb.length c']) → (w1.alloc (.cells #[.slice a' lb.length c'] 27)).grownBy w2 vw.ownBlock → (∀ k, v2.ownBlock = some k → vw.ownBlock = some k ∨ w.heap.size ≤ k) →
            ∃ a2 c2, v2 = .slice a2 (L.waits.length + 1) c2 ∧ w2.cell? ⟨pl, 3, none⟩ = some vw ∧ w2.frozen? ⟨pl, 3, none⟩ = false ∧
            Hid (RepC B (w2.setCell ⟨pl, 3, none⟩ v2) p mn ms bl st ∧ (∃ vw' vs', LRepC B (w2.setCell ⟨pl, 3, none⟩ v2) pl p { L with waits := L.waits ++ [lb] } vw' vs' ∧ ∀ k, vw'.ownBlock = some k → vw.ownBlock = some k ∨ w.heap.size ≤ k) ∧ Stp (pl :: vw.ownBlock.toList) B w (w2.setCell ⟨pl, 3, none⟩ v2))) := by
        have hdb := drew_below w
        refine (clone_t (RS.below hb hdb h.le) (by omega) h.le).mono ?_
        rintro e w1 ⟨v', rfl, hv', hb1⟩
        obtain ⟨a', c', rfl, -, -⟩ := hv'.form
        have hbw : Below w.heap.size w w1 := hdb.trans hb1
        have hl1 := hl.below hbw
        refine ⟨a', c', rfl, cell_of hl1.blk 3, cell_of (hp_old hl1.blk) 3, Lib.hid ?_, Lib.hid (by have := h.le; have := hbw.size; simp; omega), Lib.hid (by have := hbw.size; simp; omega), Lib.hid ?_⟩
        · exact own_below hl1.own ((Below.refl _ w1).alloc (Nat.le_refl _) _)
        · intro v2 w2 hown hg hk2
          obtain ⟨a2, c2, e1, e2, e3, e4⟩ := add_end (h.below hbw) hl1 hv' (by omega) (by omega) hown hg hk2
          exact ⟨a2, c2, e1, e2, e3, Lib.hid ⟨e4.out.1, e4.out.2.1, (Stp.of_below hbw h.le).tr e4.out.2.2⟩⟩
      have HCL := Lib.hid hcl
      have hfw : L.waits.length < 1000 := by omega
      subst hvw
      clear h hl hb h1 h0 hk g2 hcl
      go_enter Tryz.func11, Tryz.ntmps11
      go_wp2_with fail
      refine HM.out.mono ?_
      rintro e w1 ⟨rfl, rfl⟩
      unfold errv
      go_wp2_with fail
      go_region_law (first
        | (refine step_append_rs2 slT22 rfl (.tmp 26) (.tmp 29) rfl B B _ L.waits.length vs (by simp [Act.eval]) q3.out _ (by simp [Act.eval]) [.slice a' lb.length c'] (rs_new _ 27 _ _) (by simp [Value.oneCell']) (by simp only [List.length_singleton]; unfold maxLen; omega) (by simp only [List.length_singleton]; omega) q4.out ?_; intro v2 w3 hown hg hbk; obtain ⟨a2, c2, rfl, r1, r2, r3⟩ := q5.out v2 w3 hown hg (fun k hk => (hbk k hk).imp id (Nat.le_trans qs.out)); clear hown hg hbk)
        | (go_simp; go_at_call 39; refine HCL.out.mono ?_; rintro e w2 ⟨a', c', rfl, q1, q2, q3, q4, qs, q5⟩))
      all_goals go_wp2
      all_goals go_ret
      all_goals unfold AddPost
      all_goals rw [hA.out]
      all_goals exact ⟨rfl, r3.out.1, r3.out.2.1, r3.out.2.2⟩
  · have t0 : (k != 0) = true := bne_iff_ne.2 h0
    have hA : Hid (addA st L lb = (L, k)) := Lib.hid (by unfold addA; rw [hk, if_pos h0])
    clear h hl hb h0 hk g2
    go_enter Tryz.func11, Tryz.ntmps11
    go_wp2_with fail
    refine HM.out.mono ?_
    rintro e w1 ⟨rfl, rfl⟩
    unfold errv
    go_wp2
    go_ret
    unfold AddPost
    rw [hA.out]
    exact ⟨rfl, HH.out, ⟨_, _, HL.out, fun k hk => .inl hk⟩, Stp.refl _ _ _⟩
end
end Go.Proofs.YthjilhjdnefmdaaGreatDoor
/- The next part. Conditions: none. -/
namespace Go.Proofs.YthjilhjdnefmdaaGreatDoor
open Go.RowKit
open Go.ChangeMaps (setBlock)
def toldM (L : LM) (k : Int) : LM := { L with dead := L.dead || k == 9 }
def turnA (st : St) (L : LM) : St × LM × Int :=
  if (makeA st (nameA (L.last + 1))).2 = 9 then ((makeA st (nameA (L.last + 1))).1, toldM L 9, 9)
  else if (makeA st (nameA (L.last + 1))).2 ≠ 0 then ((makeA st (nameA (L.last + 1))).1, L, 0)
  else if (commitA (makeA st (nameA (L.last + 1))).1).2 ≠ 0 then ((commitA (makeA st (nameA (L.last + 1))).1).1, toldM L (commitA (makeA st (nameA (L.last + 1))).1).2, (commitA (makeA st (nameA (L.last + 1))).1).2)
  else ((commitA (makeA st (nameA (L.last + 1))).1).1, { L with last := L.last + 1 }, 0)
/-- A ledger whose own block is the one that was, or none. -/
def LRepO (B : Nat) (w : World) (pl p : Nat) (L : LM) (vw : Value) : Prop := ∃ vw' vs', LRepC B w pl p L vw' vs' ∧ ∀ k, vw'.ownBlock = some k → vw.ownBlock = some k
theorem LRepO.trans {B : Nat} {w : World} {pl p : Nat} {L : LM} {v1 v2 : Value} (h : LRepO B w pl p L v1) (g : ∀ k, v1.ownBlock = some k → v2.ownBlock = some k) : LRepO B w pl p L v2 := by
  obtain ⟨vw', vs', h1, h2⟩ := h
  exact ⟨vw', vs', h1, fun k hk => g k (h2 k hk)⟩
theorem own_none : ∀ k, (Value.slice none 0 0).ownBlock = some k → ∀ {v : Value}, v.ownBlock = some k := fun k h => by simp [Value.ownBlock] at h
def LPost (B p pl : Nat) (vw : Value) (w : World) (R : St × LM × Int) (e : Ending) (w' : World) : Prop :=
  e = .returned (errv R.2.2) ∧ Rep B w' p R.1 ∧ LRepO B w' pl p R.2.1 vw ∧ Stp [pl] B w w'
section
variable {B : Nat} {w w' : World} {p mn ms pl : Nat} {bl : List Nat} {st : St} {L : LM} {vw : Value} {vs : List Value}
theorem LRepC.told (h : LRepC B w pl p L vw vs) (k : Int) : LRepC B (toldW pl L k w) pl p (toldM L k) vw vs :=
  h.turn 4 _ rfl h.lst rfl rfl
theorem Rep.led (h : Rep B w p st) (hl : LRepC B w pl p L vw vs) (i : Nat) (v : Value) : Rep B (w.setCell ⟨pl, i, none⟩ v) p st := by
  obtain ⟨mn, ms, bl, h⟩ := h
  exact ⟨_, _, _, h.led hl i v⟩
set_option maxRecDepth 100000 in
set_option maxHeartbeats 300000 in
theorem turn_t (hF : 0 < st.left → FailSaid) (hE : Env w) (h : RepC B w p mn ms bl st) (hB : 6 ≤ B) (hl : LRepC B w pl p L vw vs) (hlt : L.last < 999999999) :
    Calls Tryz.prog 47 #[.pointer (some ⟨pl, 0, none⟩)] w (LPost B p pl vw w (turnA st L)) := by
  obtain ⟨part, last, waits, dead⟩ := L
  obtain ⟨l0, l1⟩ := hl.lst
  simp only at l0 l1 hlt ⊢
  have hwr : IntKind.i64.wrap (last + 1) = last + 1 := IntWalk.i64_in _ (by omega)
  have hNM : Calls Tryz.prog 17 #[.int .i64 (last + 1)] w.drew fun e w' => e = .returned (.string (nameA (last + 1))) ∧ w'.cell? ⟨pl, 0, none⟩ = some (.pointer (some ⟨p, 0, none⟩)) ∧ w'.cell? ⟨pl, 2, none⟩ = some (.int .i64 last) ∧
      Hid (Calls Tryz.prog 36 #[.pointer (some ⟨p, 0, none⟩), .string (nameA (last + 1))] w' (fun e w2 => CountedPost B p w (makeA st (nameA (last + 1))) e w2 ∧ w2.cell? ⟨pl, 0, none⟩ = some (.pointer (some ⟨p, 0, none⟩)) ∧ w2.cell? ⟨pl, 2, none⟩ = some (.int .i64 last))) := by
    refine (name_t (hE.below (drew_below w) (Nat.le_trans hB h.le)) _ (by omega) (by omega)).mono ?_
    rintro e w' ⟨rfl, hb⟩
    have hb' : Below w.heap.size w w' := (drew_below w).trans hb
    obtain ⟨c0, c1, c2, c3, c4⟩ := (hl.below hb').cells
    refine ⟨rfl, c0, c2, Lib.hid ?_⟩
    exact (make_t hF (h.below hb') _ (Nat.le_trans (nameA_size _) (by decide))).mono fun e w2 h3 => ⟨h3.of hb' h.le, (hl.stp (h3.of hb' h.le).2.2).cells.1, (hl.stp (h3.of hb' h.le).2.2).cells.2.2.1⟩
  obtain ⟨c0, c1, c2, c3, c4⟩ := hl.cells
  have HN := Lib.hid hNM; have HL := Lib.hid hl; have HF := Lib.hid hF
  have HT : Hid (turnA st ⟨part, last, waits, dead⟩ = turnA st ⟨part, last, waits, dead⟩) := Lib.hid rfl
  have hta : turnA st ⟨part, last, waits, dead⟩ = if (makeA st (nameA (last + 1))).2 = 9 then ((makeA st (nameA (last + 1))).1, toldM ⟨part, last, waits, dead⟩ 9, 9)
    else if (makeA st (nameA (last + 1))).2 ≠ 0 then ((makeA st (nameA (last + 1))).1, ⟨part, last, waits, dead⟩, 0)
    else if (commitA (makeA st (nameA (last + 1))).1).2 ≠ 0 then ((commitA (makeA st (nameA (last + 1))).1).1, toldM ⟨part, last, waits, dead⟩ (commitA (makeA st (nameA (last + 1))).1).2, (commitA (makeA st (nameA (last + 1))).1).2)
    else ((commitA (makeA st (nameA (last + 1))).1).1, ⟨part, last + 1, waits, dead⟩, 0) := rfl
  have hml := makeA_left st (nameA (last + 1))
  obtain ⟨T, hT⟩ : ∃ T, makeA st (nameA (last + 1)) = T := ⟨_, rfl⟩
  rw [hT] at HN hta hml
  have HTA := Lib.hid hta; have HML := Lib.hid hml
  obtain ⟨s1, k1⟩ := T
  clear hNM h hl hT hta hml hF hE
  go_enter Tryz.func47, Tryz.ntmps47
  go_wp2_with fail
  go_region_held3 (fun w' => w'.cell? ⟨pl, 0, none⟩ = some (.pointer (some ⟨p, 0, none⟩)) ∧ w'.cell? ⟨pl, 2, none⟩ = some (.int .i64 last)) (go_keep) (first | (go_at_call 17; (try rw [IntWalk.i64_in (last + 1) (by omega)]); (refine HN.out.mono ?_); rintro e w1 ⟨rfl, q0, q1, q3⟩) | (go_at_call 36; refine q3.out.mono ?_; rintro e w2 ⟨⟨rfl, q4, q5⟩, q6, q7⟩; have Q4 := Lib.hid q4; have Q5 := Lib.hid q5; clear q4 q5; unfold errv))
  all_goals
    have hl2 := HL.out.stp Q5.out
    have HL2 := Lib.hid hl2
    obtain ⟨d0, d1, d2, d3, d4⟩ := hl2.cells
    have e2 := hl2.free 2
    clear hl2
    by_cases h9 : k1 = 9
    · have t1 : (k1 == 0) = false := by rw [h9]; rfl
      have t2 : (k1 == 9) = true := by rw [h9]; rfl
      have hA := HTA.out
      rw [if_pos h9] at hA
      have HA := Lib.hid hA
      have HTO := Lib.hid (told_t HL2.out k1)
      have H9 := Lib.hid h9
      clear hA h9
      go_wp2_with fail
      refine HTO.out.mono ?_
      rintro e w3 ⟨rfl, rfl⟩
      unfold errv
      go_wp2
      go_ret
      unfold LPost
      rw [HA.out]
      refine ⟨by rw [H9.out]; rfl, Rep.led Q4.out HL2.out 4 _, ⟨vw, vs, ?_, fun _ h => h⟩, ?_⟩
      · have := HL2.out.told k1; rw [H9.out] at this ⊢; exact this
      · exact (Q5.out.wide (by simp)).tr (HL2.out.setStp 4 _)
    · by_cases h0 : k1 = 0
      · have t1 : (k1 == 0) = true := by rw [h0]; rfl
        obtain ⟨mn', ms', bl', hr⟩ := Q4.out
        have HCM := Lib.hid (commit_t (fun hl => HF.out (HML.out hl)) hr)
        have hA := HTA.out
        rw [if_neg h9, if_neg (by simp [h0])] at hA
        obtain ⟨T2, hT2⟩ : ∃ T2, commitA s1 = T2 := ⟨_, rfl⟩
        rw [hT2] at HCM hA
        obtain ⟨s2, k2⟩ := T2
        have HA := Lib.hid hA
        clear hr hA hT2
        go_wp2_with fail
        refine HCM.out.mono ?_
        rintro e w3 ⟨rfl, q6, q7⟩
        unfold errv
        have Q6 := Lib.hid q6; have Q7 := Lib.hid (Q5.out.tr q7)
        have hl3 := HL2.out.stp q7
        have HL3 := Lib.hid hl3
        obtain ⟨z0, z1, z2, z3, z4⟩ := hl3.cells
        have y2 := hl3.free 2
        clear q6 q7 hl3
        by_cases hk2 : k2 = 0
        · have t3 : (k2 != 0) = false := by rw [hk2]; rfl
          have hA := HA.out
          rw [if_neg (by simp [hk2])] at hA
          have HA2 := Lib.hid hA
          clear hA hk2
          go_wp2
          go_ret
          unfold LPost
          rw [HA2.out]
          have hww : (last + 1) = last + 1 := rfl
          refine ⟨rfl, Rep.led Q6.out HL3.out 2 _, ⟨_, _, HL3.out.turn 2 _ rfl (by simp only; omega) rfl rfl, fun _ h => h⟩, (Q7.out.wide (by simp)).tr (HL3.out.setStp 2 _)⟩
        · have t3 : (k2 != 0) = true := bne_iff_ne.2 hk2
          have hA := HA.out
          rw [if_pos hk2] at hA
          have HA2 := Lib.hid hA
          have HTO := Lib.hid (told_t HL3.out k2)
          clear hA hk2
          go_wp2_with fail
          refine HTO.out.mono ?_
          rintro e w4 ⟨rfl, rfl⟩
          unfold errv
          go_wp2
          go_ret
          unfold LPost
          rw [HA2.out]
          exact ⟨rfl, Rep.led Q6.out HL3.out 4 _, ⟨_, _, HL3.out.told k2, fun _ h => h⟩, (Q7.out.wide (by simp)).tr (HL3.out.setStp 4 _)⟩
      · have t1 : (k1 == 0) = false := beq_eq_false_iff_ne.2 h0
        have t2 : (k1 == 9) = false := beq_eq_false_iff_ne.2 h9
        have hA := HTA.out
        rw [if_neg h9, if_pos h0] at hA
        have HA := Lib.hid hA
        clear hA h9 h0
        go_wp2
        go_ret
        unfold LPost
        rw [HA.out]
        exact ⟨rfl, Q4.out, ⟨_, _, HL2.out, fun _ h => h⟩, Q5.out.wide (by simp)⟩
end
end Go.Proofs.YthjilhjdnefmdaaGreatDoor
/- The steps of Flush. Conditions: none. -/
namespace Go.Proofs.YthjilhjdnefmdaaGreatDoor
open Go.RowKit
open Go.ChangeMaps (setBlock)
section
variable {B : Nat} {w w' : World} {p mn ms pl : Nat} {bl : List Nat} {st : St} {L : LM} {vw : Value} {vs : List Value}
theorem Stp.one {M : List Nat} {b : Nat} {x : Value} {t : TypeId} (s : Stp M B w w') (h : w.heap[b]? = some (.cells #[x] t (0, 0))) (h64 : t ≠ 64) (h82 : t ≠ 82) (hm : t ≠ 5 → b ∉ M) : w'.cell? ⟨b, 0, none⟩ = some x :=
  cell_of (s.fix _ _ _ _ h h64 h82 hm) 0
set_option maxRecDepth 100000 in
set_option maxHeartbeats 1000000 in
theorem flush1_t (hF : 0 < st.left → FailSaid) (h : RepC B w p mn ms bl st) (hl : LRepC B w pl p L vw vs) {b0 b1 b2 : Nat} {nm : Nm} {vb : Value} {lb : List UInt8} (hs : nm.size ≤ maxLen)
    (h0 : w.heap[b0]? = some (.cells #[.pointer (some ⟨pl, 0, none⟩)] 26 (0, 0))) (h1 : w.heap[b1]? = some (.cells #[.string nm] 9 (0, 0))) (h2 : w.heap[b2]? = some (.cells #[vb] 27 (0, 0))) (hv : BS B w vb lb) :
    Calls Tryz.prog 43 #[.pointer (some ⟨b0, 0, none⟩), .pointer (some ⟨b1, 0, none⟩), .pointer (some ⟨b2, 0, none⟩)] w (CountedPost B p w (writeA st nm lb)) := by
  have hdb := drew_below w
  have hW : Calls Tryz.prog 44 #[.pointer (some ⟨p, 0, none⟩), .string nm, vb] w.drew fun e w2 => CountedPost B p w (writeA st nm lb) e w2 ∧ w2.cell? ⟨pl, 0, none⟩ = some (.pointer (some ⟨p, 0, none⟩)) ∧ w2.cell? ⟨b0, 0, none⟩ = some (.pointer (some ⟨pl, 0, none⟩)) ∧ w2.cell? ⟨b1, 0, none⟩ = some (.string nm) ∧ w2.cell? ⟨b2, 0, none⟩ = some vb := by
    refine (write_t hF (h.below hdb) nm hs vb lb (RS.below hv hdb h.le)).mono ?_
    intro e w2 h3
    have h4 := h3.of hdb h.le
    have s := h4.2.2
    exact ⟨h4, (hl.stp s).cells.1, s.one h0 (by decide) (by decide) (by simp), s.one h1 (by decide) (by decide) (by simp), s.one h2 (by decide) (by decide) (by simp)⟩
  have cp := hl.cells.1
  have c0 : w.cell? ⟨b0, 0, none⟩ = some (.pointer (some ⟨pl, 0, none⟩)) := cell_of h0 0
  have c1 : w.cell? ⟨b1, 0, none⟩ = some (.string nm) := cell_of h1 0
  have c2 : w.cell? ⟨b2, 0, none⟩ = some vb := cell_of h2 0
  have HW := Lib.hid hW
  clear hW h hl h0 h1 h2 hdb
  obtain ⟨ab, cb, rfl, -, -⟩ := hv.form
  clear hv
  go_enter Tryz.func43, Tryz.ntmps43
  go_wp2_with fail
  go_region_held3 (fun w' => w'.cell? ⟨pl, 0, none⟩ = some (.pointer (some ⟨p, 0, none⟩)) ∧ w'.cell? ⟨b0, 0, none⟩ = some (.pointer (some ⟨pl, 0, none⟩)) ∧ w'.cell? ⟨b1, 0, none⟩ = some (.string nm) ∧ w'.cell? ⟨b2, 0, none⟩ = some (.slice ab lb.length cb)) (go_keep) (first | (go_at_call 44; refine HW.out.mono ?_; rintro e w2 ⟨⟨rfl, q4, q5⟩, q6, q7, q8, q9⟩; have Q4 := Lib.hid q4; have Q5 := Lib.hid q5; clear q4 q5; unfold errv))
  all_goals go_wp2
  all_goals go_ret
  all_goals exact ⟨rfl, Q4.out, Q5.out⟩
set_option maxRecDepth 100000 in
set_option maxHeartbeats 1000000 in
theorem flush2_t (hF : 0 < st.left → FailSaid) (h : RepC B w p mn ms bl st) (hl : LRepC B w pl p L vw vs) {b0 b1 : Nat} {nm : Nm} (hs : nm.size ≤ maxLen)
    (h0 : w.heap[b0]? = some (.cells #[.pointer (some ⟨pl, 0, none⟩)] 26 (0, 0))) (h1 : w.heap[b1]? = some (.cells #[.string nm] 9 (0, 0))) :
    Calls Tryz.prog 45 #[.pointer (some ⟨b0, 0, none⟩), .pointer (some ⟨b1, 0, none⟩)] w (CountedPost B p w (syncA st nm)) := by
  have hdb := drew_below w
  have hW : Calls Tryz.prog 34 #[.pointer (some ⟨p, 0, none⟩), .string nm] w.drew fun e w2 => CountedPost B p w (syncA st nm) e w2 ∧ w2.cell? ⟨pl, 0, none⟩ = some (.pointer (some ⟨p, 0, none⟩)) ∧ w2.cell? ⟨b0, 0, none⟩ = some (.pointer (some ⟨pl, 0, none⟩)) ∧ w2.cell? ⟨b1, 0, none⟩ = some (.string nm) := by
    refine (sync_t hF (h.below hdb) nm hs).mono ?_
    intro e w2 h3
    have h4 := h3.of hdb h.le
    have s := h4.2.2
    exact ⟨h4, (hl.stp s).cells.1, s.one h0 (by decide) (by decide) (by simp), s.one h1 (by decide) (by decide) (by simp)⟩
  have cp := hl.cells.1
  have c0 : w.cell? ⟨b0, 0, none⟩ = some (.pointer (some ⟨pl, 0, none⟩)) := cell_of h0 0
  have c1 : w.cell? ⟨b1, 0, none⟩ = some (.string nm) := cell_of h1 0
  have HW := Lib.hid hW
  clear hW h hl h0 h1 hdb
  go_enter Tryz.func45, Tryz.ntmps45
  go_wp2_with fail
  go_region_held3 (fun w' => w'.cell? ⟨pl, 0, none⟩ = some (.pointer (some ⟨p, 0, none⟩)) ∧ w'.cell? ⟨b0, 0, none⟩ = some (.pointer (some ⟨pl, 0, none⟩)) ∧ w'.cell? ⟨b1, 0, none⟩ = some (.string nm)) (go_keep) (first | (go_at_call 34; refine HW.out.mono ?_; rintro e w2 ⟨⟨rfl, q4, q5⟩, q6, q7, q8⟩; have Q4 := Lib.hid q4; have Q5 := Lib.hid q5; clear q4 q5; unfold errv))
  all_goals go_wp2
  all_goals go_ret
  all_goals exact ⟨rfl, Q4.out, Q5.out⟩
end
end Go.Proofs.YthjilhjdnefmdaaGreatDoor
/- Flush. Conditions: none. -/
namespace Go.Proofs.YthjilhjdnefmdaaGreatDoor
open Go.RowKit
open Go.ChangeMaps (setBlock)
def sealsL (ws : List (List UInt8)) : List UInt8 := (ws.map sealL).flatten
def flushE (st : St) (L : LM) : St × Int := eachA [fun s => writeA s (nameA L.last) (sealsL L.waits), fun s => syncA s (nameA L.last)] st
def flushT (s1 : St) (L : LM) : St × LM × Int :=
  if ((readA s1 (nameA L.last)).length : Int) ≤ L.part ∨ 999999999 ≤ L.last then (s1, { L with waits := [] }, 0) else turnA s1 { L with waits := [] }
def flushA (st : St) (L : LM) : St × LM × Int :=
  if mayA st L ≠ 0 then (st, L, mayA st L) else if L.waits = [] then (st, L, 0)
  else if (flushE st L).2 ≠ 0 then ((flushE st L).1, toldM L (flushE st L).2, (flushE st L).2) else flushT (flushE st L).1 L
theorem sealsL_len (ws : List (List UInt8)) (h : ∀ l ∈ ws, l.length ≤ 1048512) : (sealsL ws).length ≤ 1048520 * ws.length := by
  unfold sealsL
  induction ws with
  | nil => simp
  | cons x r ih =>
    have h1 := h x (List.mem_cons_self ..)
    have h2 := ih (fun l hl => h l (List.mem_cons_of_mem _ hl))
    simp only [List.map_cons, List.flatten_cons, List.length_append, List.length_cons, sealL_len]
    omega
theorem sealsL_snoc (ws : List (List UInt8)) (k : Nat) (hk : k < ws.length) : sealsL (ws.take (k + 1)) = sealsL (ws.take k) ++ sealL ws[k] := by
  unfold sealsL
  rw [List.take_succ_eq_append_getElem hk, List.map_append, List.flatten_append]
  simp
section
variable {B : Nat} {w w' : World} {p mn ms pl : Nat} {bl : List Nat} {st : St} {L : LM} {vw : Value} {vs : List Value}
def FInv (w1 : World) (ws : List (List UInt8)) (i : Value) (wr : World) : Prop :=
  ∃ (k : Nat) (d : Value), k ≤ ws.length ∧ i = .int .i64 k ∧ wr.heap[w1.heap.size]? = some (.cells #[d] 27 (0, 0)) ∧ wr.ownsRow (w1.heap.size + 1) 5 1 d (sealsL (ws.take k)).length ((sealsL (ws.take k)).map bv) ∧ Below w1.heap.size w1 wr
theorem finv_push {w1 wr w2 w3 : World} {ws : List (List UInt8)} {k : Nat} {d v3 : Value} {x : List UInt8} (hk : k < ws.length) (hx : sealsL (ws.take (k + 1)) = sealsL (ws.take k) ++ x) (hc : wr.heap[w1.heap.size]? = some (.cells #[d] 27 (0, 0))) (ho : wr.ownsRow (w1.heap.size + 1) 5 1 d (sealsL (ws.take k)).length ((sealsL (ws.take k)).map bv)) (hb : Below w1.heap.size w1 wr) (hb2 : Below wr.heap.size wr w2)
    (hown : w3.ownsRow (w1.heap.size + 1) 5 1 v3 ((sealsL (ws.take k)).length + (x.map bv).length) ((sealsL (ws.take k)).map bv ++ x.map bv)) (hg : w2.grownBy w3 d.ownBlock) :
    w3.cell? ⟨w1.heap.size, 0, none⟩ = some d ∧ w3.frozen? ⟨w1.heap.size, 0, none⟩ = false ∧ Hid (FInv w1 ws (.int .i64 ((k : Int) + 1)) (w3.setCell ⟨w1.heap.size, 0, none⟩ v3)) := by
  have hlt := hp_lt hc
  have hne : some w1.heap.size ≠ d.ownBlock := fun he => by have := (ho.lt _ he.symm).1; omega
  have k3 : w3.heap[w1.heap.size]? = some (.cells #[d] 27 (0, 0)) := (hg.block _ (hp_lt ((hb2.block _ hlt).trans hc)) hne).trans ((hb2.block _ hlt).trans hc)
  refine ⟨cell_of k3 0, free_of k3 0, Lib.hid ⟨k + 1, v3, hk, by rfl, hp_set k3 0 v3, ?_, ?_⟩⟩
  · rw [hx]
    rw [List.length_map] at hown
    rw [List.length_append, List.map_append]
    exact ownsRow_setCell_below hown (a := ⟨w1.heap.size, 0, none⟩) (by show w1.heap.size < _; omega) _
  · have hsz := hb.size
    exact ((hb.trans (hb2.mono hb.size)).grown hg (Nat.le_trans hsz hb2.size) (fun j hj => by have := (ho.lt j hj).1; omega)).setCell (Nat.le_refl _) _
def FlushK (B p : Nat) (w : World) (T : St × Int) (k : Int) (w' : World) : Prop := k = T.2 ∧ Rep B w' p T.1 ∧ Stp [] B w w'
theorem flush_spec {w1 : World} (hF : 0 < st.left → FailSaid) (h : RepC B w1 p mn ms bl st) (hl : LRepC B w1 pl p L vw vs) {b0 b1 b2 : Nat} {nm : Nm} {vb : Value} {lb : List UInt8} (hs : nm.size ≤ maxLen)
    (h0 : w1.heap[b0]? = some (.cells #[.pointer (some ⟨pl, 0, none⟩)] 26 (0, 0))) (h1 : w1.heap[b1]? = some (.cells #[.string nm] 9 (0, 0))) (h2 : w1.heap[b2]? = some (.cells #[vb] 27 (0, 0))) (hv : BS B w1 vb lb) :
    EachSpec B [.func (.func 43) #[] #[.pointer (some ⟨b0, 0, none⟩), .pointer (some ⟨b1, 0, none⟩), .pointer (some ⟨b2, 0, none⟩)], .func (.func 45) #[] #[.pointer (some ⟨b0, 0, none⟩), .pointer (some ⟨b1, 0, none⟩)]] w1 (FlushK B p w1 (eachA [fun s => writeA s nm lb, fun s => syncA s nm] st)) := by
  refine eachSpec_cons (.inl rfl) (fun w => by kernel_rfl) (flush1_t hF h hl hs h0 h1 h2 hv) (fun hne w' hr hs' => ?_) (fun hz w' hr hs' => ?_)
  · unfold eachA; rw [if_neg hne]; exact ⟨rfl, hr, hs'⟩
  · obtain ⟨mn', ms', bl', hr⟩ := hr
    refine eachSpec_cons (.inl rfl) (fun w => by kernel_rfl) (flush2_t (fun hl => hF (writeA_left st _ _ hl)) hr (hl.stp hs') hs (hs'.fix _ _ _ _ h0 (by decide) (by decide) (by simp)) (hs'.fix _ _ _ _ h1 (by decide) (by decide) (by simp))) (fun hne w2 hr2 hs2 => ?_) (fun hz2 w2 hr2 hs2 => ?_)
    · unfold eachA; rw [if_pos hz]; unfold eachA; rw [if_neg hne]; exact ⟨rfl, hr2, hs'.tr hs2⟩
    · show FlushK _ _ _ _ _ _
      unfold eachA; rw [if_pos hz]; unfold eachA; rw [if_pos hz2]; unfold eachA; exact ⟨rfl, hr2, hs'.tr hs2⟩
end
end Go.Proofs.YthjilhjdnefmdaaGreatDoor
/- Flush, walked. Conditions: none. -/
namespace Go.Proofs.YthjilhjdnefmdaaGreatDoor
open Go.RowKit
open Go.ChangeMaps (setBlock)
section
variable {B : Nat} {w w' : World} {p mn ms pl : Nat} {bl : List Nat} {st : St} {L : LM} {vw : Value} {vs : List Value}
theorem flushE_left (st : St) (L : LM) : LeftLe st (flushE st L).1 := by
  unfold flushE eachA
  split
  · unfold eachA
    split
    · unfold eachA
      exact fun h => writeA_left st _ _ (syncA_left _ _ h)
    · exact fun h => writeA_left st _ _ (syncA_left _ _ h)
  · exact writeA_left st _ _
theorem LRepC.clear (h : LRepC B w pl p L vw vs) : LRepC B (w.setCell ⟨pl, 3, none⟩ (.slice none 0 0)) pl p { L with waits := [] } (.slice none 0 0) [] :=
  ⟨hp_set h.blk 3 _, World.ownsRow_nil _ _ _ _, ⟨rfl, fun i h => by simp at h⟩, h.lpl, by simp, by simp, h.lst, h.prt⟩
set_option maxRecDepth 100000 in
set_option maxHeartbeats 2000000 in
theorem flush_t (hF : 0 < st.left → FailSaid) (hE : Env w) (h : RepC B w p mn ms bl st) (hB : 6 ≤ B) (hl : LRepC B w pl p L vw vs) :
    Calls Tryz.prog 13 #[.pointer (some ⟨pl, 0, none⟩)] w (LPost B p pl vw w (flushA st L)) := by
  have HF := Lib.hid hF; have HE := Lib.hid hE; have HH := Lib.hid h; have HL := Lib.hid hl
  have HBB := Lib.hid h.le
  have hbw : 6 ≤ w.heap.size := Nat.le_trans hB h.le
  have h1 := Held.new (Below.refl w.heap.size w) (.pointer (some ⟨pl, 0, none⟩)) 26
  have H1 := Lib.hid h1
  have HM := Lib.hid (may_t (h.below h1.below) (hl.below h1.below))
  have HL1 := Lib.hid (hl.below h1.below)
  obtain ⟨aw, cw, hvw⟩ := own_form hl.own
  obtain ⟨k, hk⟩ : ∃ k, mayA st L = k := ⟨_, rfl⟩
  rw [hk] at HM
  have c0 := h1.at
  obtain ⟨d0, d1, d2, d3, d4⟩ := HL1.out.cells
  rw [hvw] at d3
  have hfew := hl.few
  clear hF hE h hl h1
  by_cases h0 : k = 0
  · have t0 : (k != 0) = false := by rw [h0]; rfl
    by_cases hw0 : L.waits = []
    · have hA : Hid (flushA st L = (st, L, 0)) := Lib.hid (by unfold flushA; rw [hk, if_neg (by simp [h0]), if_pos hw0])
      have hlen : (L.waits.length : Int) = 0 := by rw [hw0]; rfl
      have t1 : ((L.waits.length : Int) == 0) = true := by rw [hlen]; rfl
      subst h0
      go_enter Tryz.func13, Tryz.ntmps13
      go_wp2_with fail
      generalize w.alloc (.cells #[.pointer (some ⟨pl, 0, none⟩)] 26) = w1 at *
      refine HM.out.mono ?_
      rintro e w2 ⟨rfl, rfl⟩
      unfold errv
      go_wp2
      go_ret
      unfold LPost
      rw [hA.out]
      exact ⟨rfl, ⟨_, _, _, HH.out.below H1.out.below⟩, ⟨_, _, HL1.out, fun _ h => h⟩, Stp.of_below H1.out.below HBB.out⟩
    · have t1 : ((L.waits.length : Int) == 0) = false := beq_eq_false_iff_ne.2 (by have := List.length_pos_iff.2 hw0; omega)
      have hA : flushA st L = if (flushE st L).2 ≠ 0 then ((flushE st L).1, toldM L (flushE st L).2, (flushE st L).2) else flushT (flushE st L).1 L := by
        unfold flushA; rw [hk, if_neg (by simp [h0]), if_neg hw0]
      have HA := Lib.hid hA
      subst h0
      clear hA hk
      go_enter Tryz.func13, Tryz.ntmps13
      go_wp2_with fail
      generalize w.alloc (.cells #[.pointer (some ⟨pl, 0, none⟩)] 26) = w1 at *
      refine HM.out.mono ?_
      rintro e w2 ⟨rfl, rfl⟩
      unfold errv
      have H2 := Lib.hid (Held.new (Below.refl w1.heap.size w1) (.slice none 0 0) 27)
      have e0 := (H1.out.step H2.out.below).at
      obtain ⟨f0, f1, f2, f3, f4⟩ := (HL1.out.below H2.out.below).cells
      rw [hvw] at f3
      have HE1 := Lib.hid (HE.out.below H1.out.below hbw)
      have hB1 : B ≤ w1.heap.size := Nat.le_trans HBB.out H1.out.below.size
      have hRV : RS 27 B w1 vw vs := RS.of_owns HL1.out.own
      have hvl : vs.length = L.waits.length := HL1.out.rows.1
      rw [hvw] at hRV
      have HQ : Hid (∀ wr, Below w1.heap.size w1 wr → ∀ k (hk : k < vs.length), ∃ b o, aw = some ⟨b, o, none⟩ ∧ wr.cell? ⟨b, o + k, none⟩ = some vs[k]) := Lib.hid (fun wr hb k hk => (RS.below hRV hb hB1).at.2.2.2 k hk)
      have HRW := Lib.hid (fun wr (hb : Below w1.heap.size w1 wr) => (HL1.out.rows.stp (fun v l hv => RS.below hv hb hB1)).2)
      have HBG := Lib.hid HL1.out.big
      clear hRV
      go_wp2_with fail
      go_loopw [29] (fun i wr => FInv w1 L.waits i wr) (fun i _ => L.waits.length - (intOf i).toNat)
      case atStart =>
        refine ⟨0, .slice none 0 0, Nat.zero_le _, rfl, H2.out.cell, ?_, H2.out.below⟩
        exact World.ownsRow_nil _ _ _ _
      case round =>
        obtain ⟨j, d, hj, rfl, hcd, hown, hb⟩ := hrel
        have HCD := Lib.hid hcd; have HO := Lib.hid hown; have HB := Lib.hid hb
        have cb4 : wr.cell? ⟨w1.heap.size, 0, none⟩ = some d := cell_of hcd 0
        clear hcd hown hb
        by_cases hlt : j < L.waits.length
        · obtain ⟨bb, oo, rfl, e1⟩ := HQ.out wr HB.out j (by omega)
          have hx := HRW.out wr HB.out j (by omega) hlt
          have hxl := HBG.out L.waits[j] (List.getElem_mem hlt)
          have hsn := sealsL_snoc L.waits j hlt
          have hsl := sealsL_len (L.waits.take j) (fun l hl => HBG.out l (List.mem_of_mem_take hl))
          rw [List.length_take] at hsl
          have hdb := drew_below wr
          obtain ⟨ax, cx, hvx, -, -⟩ := hx.form
          generalize L.waits[j] = x at *
          have hseal : Calls Tryz.prog 42 #[.slice ax x.length cx] wr.drew fun e w2 => ∃ v', e = .returned v' ∧ w2.cell? ⟨w1.heap.size, 0, none⟩ = some d ∧ Hid (w2.ownsRow (w1.heap.size + 1) 5 1 d (sealsL (L.waits.take j)).length ((sealsL (L.waits.take j)).map bv)) ∧ Hid (BS B w2 v' (sealL x)) ∧ Hid (w1.heap.size + 1 ≤ w2.heap.size) ∧
              Hid (∀ v3 w3, w3.ownsRow (w1.heap.size + 1) 5 1 v3 ((sealsL (L.waits.take j)).length + ((sealL x).map bv).length) ((sealsL (L.waits.take j)).map bv ++ (sealL x).map bv) → w2.grownBy w3 d.ownBlock →
                ∃ N a3 c3, v3 = .slice a3 N c3 ∧ w3.cell? ⟨w1.heap.size, 0, none⟩ = some d ∧ w3.frozen? ⟨w1.heap.size, 0, none⟩ = false ∧ Hid (FInv w1 L.waits (.int .i64 ((j : Int) + 1)) (w3.setCell ⟨w1.heap.size, 0, none⟩ v3))) := by
            rw [hvx] at hx
            refine (seal_t (HE1.out.e0.below (HB.out.trans (hdb.mono HB.out.size)) (by omega)) (RS.below hx hdb (Nat.le_trans hB1 HB.out.size)) (by omega) (Nat.le_trans hB1 HB.out.size) (by have := HB.out.size; show 0 < wr.heap.size; omega)).mono ?_
            rintro e w2 ⟨v', rfl, hv', hb2⟩
            have hbw2 : Below wr.heap.size wr w2 := hdb.trans hb2
            have hlt2 := hp_lt HCD.out
            refine ⟨v', rfl, cell_of ((hbw2.block _ hlt2).trans HCD.out) 0, Lib.hid (own_below HO.out hbw2), Lib.hid hv', Lib.hid (by have := hbw2.size; omega), Lib.hid ?_⟩
            intro v3 w3 ho3 hg3
            obtain ⟨a3, c3, e3⟩ := own_form ho3
            obtain ⟨z1, z2, z3⟩ := finv_push hlt hsn HCD.out HO.out HB.out hbw2 ho3 hg3
            exact ⟨_, a3, c3, e3, z1, z2, z3⟩
          have HSEAL := Lib.hid hseal
          obtain ⟨ad, cd, rfl⟩ := own_form HO.out
          rw [hvx] at e1
          clear hseal hx hdb hvx hsn
          have hxs := sealL_len x
          go_wp2_with fail
          go_region_law (first
            | (refine step_append_rs slT27 rfl (.tmp 33) (.tmp 35) rfl (w1.heap.size + 1) B _ (sealsL (L.waits.take j)).length _ (by simp [Act.eval]) q2.out _ (by simp [Act.eval]) ((sealL x).map bv) q3.out (bv_one _) (by rw [List.length_map]; unfold maxLen; omega) (by rw [List.length_map]; omega) q4.out ?_; intro v3 w3 hown hg; obtain ⟨N3, a3, c3, rfl, r1, r2, r3⟩ := q5.out v3 w3 hown hg; clear hown hg)
            | (go_simp; go_at_call 42; refine HSEAL.out.mono ?_; rintro e w2 ⟨v', rfl, q1, q2, q3, q4, q5⟩))
          all_goals go_wp2_with fail
          all_goals exact ⟨r3.out, by simp [intOf]; omega⟩
        · have hj' : j = L.waits.length := by omega
          subst hj'
          rw [List.take_length] at HO
          have hlst := HL1.out.lst
          have hprt := HL1.out.prt
          have g0 := (H1.out.step HB.out).at
          obtain ⟨y0, y1, y2, y3, y4⟩ := (HL1.out.below HB.out).cells
          have HNM := Lib.hid (name_t (HE1.out.below HB.out (by omega)) L.last (by omega) (by omega))
          clear cb4
          go_wp2_with fail
          refine HNM.out.mono ?_
          rintro e w5 ⟨rfl, hb5⟩
          have hbw5 := HB.out.trans (hb5.mono HB.out.size)
          have k6 : (w5.alloc (.cells #[.string (nameA L.last)] 9)).heap[w5.heap.size]? = some (.cells #[.string (nameA L.last)] 9 (0, 0)) := hp_new _ _
          have kb7 : Below w5.heap.size w5 ((w5.alloc (.cells #[.string (nameA L.last)] 9)).alloc (.cells #[.func (.func 43) #[] #[.pointer (some ⟨w.heap.size, 0, none⟩), .pointer (some ⟨w5.heap.size, 0, none⟩), .pointer (some ⟨w1.heap.size, 0, none⟩)], .func (.func 45) #[] #[.pointer (some ⟨w.heap.size, 0, none⟩), .pointer (some ⟨w5.heap.size, 0, none⟩)]] 35)) := ((Below.refl w5.heap.size w5).alloc (Nat.le_refl _) _).alloc (by simp) _
          have hb7 := hbw5.trans (kb7.mono hbw5.size)
          have HB7 := Lib.hid (H1.out.below.trans (hb7.mono H1.out.below.size))
          have HL7 := Lib.hid (HL1.out.below hb7)
          have HR7 := Lib.hid (HH.out.below HB7.out)
          have HC0 := Lib.hid (H1.out.step hb7).cell
          have HC7 : Hid (((w5.alloc (.cells #[.string (nameA L.last)] 9)).alloc (.cells #[.func (.func 43) #[] #[.pointer (some ⟨w.heap.size, 0, none⟩), .pointer (some ⟨w5.heap.size, 0, none⟩), .pointer (some ⟨w1.heap.size, 0, none⟩)], .func (.func 45) #[] #[.pointer (some ⟨w.heap.size, 0, none⟩), .pointer (some ⟨w5.heap.size, 0, none⟩)]] 35)).heap[w5.heap.size]? = some (.cells #[.string (nameA L.last)] 9 (0, 0))) := Lib.hid (hp_old k6)
          have hcd5 := (hb5.block _ (hp_lt HCD.out)).trans HCD.out
          have HC4 := Lib.hid ((kb7.block _ (hp_lt hcd5)).trans hcd5)
          have HO7 : Hid (BS B ((w5.alloc (.cells #[.string (nameA L.last)] 9)).alloc (.cells #[.func (.func 43) #[] #[.pointer (some ⟨w.heap.size, 0, none⟩), .pointer (some ⟨w5.heap.size, 0, none⟩), .pointer (some ⟨w1.heap.size, 0, none⟩)], .func (.func 45) #[] #[.pointer (some ⟨w.heap.size, 0, none⟩), .pointer (some ⟨w5.heap.size, 0, none⟩)]] 35)) d (sealsL L.waits)) := Lib.hid (RS.of_owns (own_below (own_below HO.out hb5) kb7))
          have HSP := Lib.hid (flush_spec HF.out HR7.out HL7.out (Nat.le_trans (nameA_size _) (by decide)) HC0.out HC7.out HC4.out HO7.out)
          have HRS : Hid (RS 35 B ((w5.alloc (.cells #[.string (nameA L.last)] 9)).alloc (.cells #[.func (.func 43) #[] #[.pointer (some ⟨w.heap.size, 0, none⟩), .pointer (some ⟨w5.heap.size, 0, none⟩), .pointer (some ⟨w1.heap.size, 0, none⟩)], .func (.func 45) #[] #[.pointer (some ⟨w.heap.size, 0, none⟩), .pointer (some ⟨w5.heap.size, 0, none⟩)]] 35)) (.slice (some ⟨w5.heap.size + 1, 0, none⟩) 2 2) (#[.func (.func 43) #[] #[.pointer (some ⟨w.heap.size, 0, none⟩), .pointer (some ⟨w5.heap.size, 0, none⟩), .pointer (some ⟨w1.heap.size, 0, none⟩)], .func (.func 45) #[] #[.pointer (some ⟨w.heap.size, 0, none⟩), .pointer (some ⟨w5.heap.size, 0, none⟩)]] : Array Value).toList) := Lib.hid (rs_new2 (by simp) 35 _ _)
          have g5 := (H1.out.step hbw5).at
          have g6 := (H1.out.step (hbw5.trans (((Below.refl w5.heap.size w5).alloc (Nat.le_refl _) (.cells #[.string (nameA L.last)] 9)).mono hbw5.size))).at
          have HW5 := Lib.hid hbw5.size
          clear hb5 hbw5 k6 kb7 hb7 hcd5 y0 y1 y2 y3 y4 g0
          go_wp2_with fail
          generalize ((w5.alloc (.cells #[.string (nameA L.last)] 9)).alloc (.cells #[.func (.func 43) #[] #[.pointer (some ⟨w.heap.size, 0, none⟩), .pointer (some ⟨w5.heap.size, 0, none⟩), .pointer (some ⟨w1.heap.size, 0, none⟩)], .func (.func 45) #[] #[.pointer (some ⟨w.heap.size, 0, none⟩), .pointer (some ⟨w5.heap.size, 0, none⟩)]] 35)) = w7 at *
          refine (each_t HRS.out (by simp) HSP.out).mono ?_
          rintro e w8 ⟨k8, rfl, rfl, hr8, hs8⟩
          unfold errv
          have HR8 := Lib.hid hr8; have HS8 := Lib.hid hs8
          have hl8 := HL7.out.stp hs8
          have HL8 := Lib.hid hl8
          have hA8 := HA.out
          have hc0 := hs8.one HC0.out (by decide) (by decide) (by simp)
          have hc7 := hs8.one HC7.out (by decide) (by decide) (by simp)
          change Rep B w8 p (flushE st L).1 at hr8
          have HT : Hid (flushE st L = eachA [fun s => writeA s (nameA L.last) (sealsL L.waits), fun s => syncA s (nameA L.last)] st) := Lib.hid rfl
          have hleft : LeftLe st (flushE st L).1 := flushE_left st L
          have HLF := Lib.hid hleft
          rw [← HT.out] at HR8
          rw [← HT.out]
          generalize flushE st L = T at *
          have f4' := hl8.free 3
          obtain ⟨y0, y1, y2, y3, y4⟩ := hl8.cells
          clear hr8 hs8 hl8 hleft HT
          by_cases h8 : T.2 = 0
          · have t8 : (T.2 != 0) = false := by rw [h8]; rfl
            rw [if_neg (by simp [h8])] at hA8
            have HA8 := Lib.hid hA8
            have hl9 := HL8.out.clear
            have HL9 := Lib.hid hl9
            have hst9 : Stp [pl] B w7 (w8.setCell ⟨pl, 3, none⟩ (.slice none 0 0)) := (HS8.out.wide (by simp)).tr (HL8.out.setStp 3 _)
            have HS9 := Lib.hid hst9
            have HR9 := Lib.hid (HR8.out.led HL8.out 3 (.slice none 0 0))
            clear hA8 h8
            have hpl : pl < w.heap.size := hp_lt HL.out.blk
            have n0 : w.heap.size ∉ [pl] := by simp; omega
            have n7 : w5.heap.size ∉ [pl] := by have := H1.out.below.size; have := HW5.out; simp; omega
            have x0 : (w8.setCell ⟨pl, 3, none⟩ (.slice none 0 0)).cell? ⟨w.heap.size, 0, none⟩ = some (.pointer (some ⟨pl, 0, none⟩)) := hst9.one HC0.out (by decide) (by decide) (fun _ => n0)
            have x7 : (w8.setCell ⟨pl, 3, none⟩ (.slice none 0 0)).cell? ⟨w5.heap.size, 0, none⟩ = some (.string (nameA L.last)) := hst9.one HC7.out (by decide) (by decide) (fun _ => n7)
            have X0 := Lib.hid x0; have X7 := Lib.hid x7
            obtain ⟨y0', y1', y2', y3', y4'⟩ := hl9.cells
            have HTL := Lib.hid (fun (hl : 0 < T.1.left) => HF.out (HLF.out hl))
            have HCB := Lib.hid (hp_lt HC0.out); have HC7B := Lib.hid (hp_lt HC7.out)
            clear n0 n7 hst9 hl9
            go_wp2_with fail
            generalize w8.setCell ⟨pl, 3, none⟩ (.slice none 0 0) = w9 at *
            obtain ⟨mn9, ms9, bl9, hr9⟩ := HR9.out
            have hsz9 := HS9.out.size
            have hcb := HCB.out; have hc7b := HC7B.out
            have hdb := drew_below w9
            have hB9 : B ≤ w9.heap.size := hr9.le
            have hrd : Calls Tryz.prog 15 #[.pointer (some ⟨p, 0, none⟩), .string (nameA L.last)] w9.drew fun e w2 => ∃ a c ke, e = .returned (.tuple #[.slice a (readA T.1 (nameA L.last)).length c, .int .i64 ke]) ∧ w2.cell? ⟨pl, 0, none⟩ = some (.pointer (some ⟨p, 0, none⟩)) ∧ w2.cell? ⟨w.heap.size, 0, none⟩ = some (.pointer (some ⟨pl, 0, none⟩)) ∧ w2.cell? ⟨w5.heap.size, 0, none⟩ = some (.string (nameA L.last)) ∧ w2.cell? ⟨pl, 1, none⟩ = some (.int .i64 L.part) ∧ w2.cell? ⟨pl, 2, none⟩ = some (.int .i64 L.last) ∧ Hid (Below w9.heap.size w9 w2) := by
              refine (read_t (hr9.below hdb) (nameA L.last) (Nat.le_trans (nameA_size _) (by decide))).mono ?_
              rintro e w2 ⟨v, rfl, hv, hb⟩
              obtain ⟨a, c, rfl, -, -⟩ := hv.form
              have hbw : Below w9.heap.size w9 w2 := hdb.trans hb
              have hh := (HL9.out.below hbw).cells
              exact ⟨a, c, _, rfl, hh.1, (hbw.cell (p := ⟨w.heap.size, 0, none⟩) (by show w.heap.size < _; omega)).trans X0.out, (hbw.cell (p := ⟨w5.heap.size, 0, none⟩) (by show w5.heap.size < _; omega)).trans X7.out, hh.2.1, hh.2.2.1, Lib.hid hbw⟩
            have hbig := readA_big hr9.inv (nameA L.last)
            have hft : flushT T.1 L = if ((readA T.1 (nameA L.last)).length : Int) ≤ L.part ∨ 999999999 ≤ L.last then (T.1, { L with waits := [] }, 0) else turnA T.1 { L with waits := [] } := rfl
            generalize readA T.1 (nameA L.last) = X at *
            have HRD := Lib.hid hrd; have HFT := Lib.hid hft; have HR9C := Lib.hid hr9
            clear hrd hft hr9 hdb hsz9 hcb hc7b
            go_region_held3 (fun w' => w'.cell? ⟨pl, 0, none⟩ = some (.pointer (some ⟨p, 0, none⟩)) ∧ w'.cell? ⟨w.heap.size, 0, none⟩ = some (.pointer (some ⟨pl, 0, none⟩)) ∧ w'.cell? ⟨w5.heap.size, 0, none⟩ = some (.string (nameA L.last))) (go_keep) (first | (go_at_call 15; refine HRD.out.mono ?_; rintro e w2 ⟨ar, cr, ke, rfl, q0, q1, q2, q3, q4, q5⟩))
            all_goals
              by_cases z1 : (X.length : Int) ≤ L.part
              · have t9 : decide ((X.length : Int) ≤ L.part) = true := decide_eq_true z1
                have hA9 := HA8.out
                rw [HFT.out, if_pos (.inl z1)] at hA9
                have HA9 := Lib.hid hA9
                clear hA9 z1
                go_wp2
                go_ret
                unfold LPost
                rw [HA9.out]
                exact ⟨rfl, ⟨_, _, _, HR9C.out.below q5.out⟩, ⟨_, _, HL9.out.below q5.out, fun k h => own_none k h⟩, (((Stp.of_below HB7.out HBB.out).tr HS9.out)).tr (Stp.of_below q5.out hB9)⟩
              · have t9 : decide ((X.length : Int) ≤ L.part) = false := decide_eq_false z1
                by_cases z2 : 999999999 ≤ L.last
                · have t10 : decide (999999999 ≤ L.last) = true := decide_eq_true z2
                  have hA9 := HA8.out
                  rw [HFT.out, if_pos (.inr z2)] at hA9
                  have HA9 := Lib.hid hA9
                  clear hA9 z1 z2
                  go_wp2
                  go_ret
                  unfold LPost
                  rw [HA9.out]
                  exact ⟨rfl, ⟨_, _, _, HR9C.out.below q5.out⟩, ⟨_, _, HL9.out.below q5.out, fun k h => own_none k h⟩, (((Stp.of_below HB7.out HBB.out).tr HS9.out)).tr (Stp.of_below q5.out hB9)⟩
                · have t10 : decide (999999999 ≤ L.last) = false := decide_eq_false z2
                  have hA9 := HA8.out
                  rw [HFT.out, if_neg (by omega)] at hA9
                  have HA9 := Lib.hid hA9
                  have hs10 : Stp [pl] B w w2 := (((Stp.of_below HB7.out HBB.out).tr HS9.out)).tr (Stp.of_below q5.out hB9)
                  have HS10 := Lib.hid hs10
                  have HTT := Lib.hid (turn_t HTL.out (HE.out.below hs10.below hB) (HR9C.out.below q5.out) hB (HL9.out.below q5.out) (by show L.last < _; omega))
                  clear hA9 z1 z2 hs10
                  go_wp2_with fail
                  refine HTT.out.mono ?_
                  rintro e w11 ⟨rfl, u1, u2, u3⟩
                  have U1 := Lib.hid u1; have U2 := Lib.hid u2; have U3 := Lib.hid u3
                  clear u1 u2 u3
                  unfold errv
                  go_wp2
                  go_ret
                  unfold LPost
                  rw [HA9.out]
                  exact ⟨rfl, U1.out, U2.out.trans (fun k h => own_none k h), HS10.out.tr U3.out⟩
          · have t8 : (T.2 != 0) = true := bne_iff_ne.2 h8
            rw [if_pos h8] at hA8
            have HA8 := Lib.hid hA8
            have HTO := Lib.hid (told_t HL8.out T.2)
            clear hA8 h8
            go_wp2_with fail
            refine HTO.out.mono ?_
            rintro e w9 ⟨rfl, rfl⟩
            unfold errv
            go_wp2
            go_ret
            unfold LPost
            rw [HA8.out]
            exact ⟨rfl, Rep.led HR8.out HL8.out 4 _, ⟨_, _, HL8.out.told T.2, fun _ h => h⟩, (((Stp.of_below HB7.out HBB.out).tr HS8.out).wide (by simp)).tr (HL8.out.setStp 4 _)⟩
  · have t0 : (k != 0) = true := bne_iff_ne.2 h0
    have hA : Hid (flushA st L = (st, L, k)) := Lib.hid (by unfold flushA; rw [hk, if_pos h0])
    clear hk h0
    go_enter Tryz.func13, Tryz.ntmps13
    go_wp2_with fail
    generalize w.alloc (.cells #[.pointer (some ⟨pl, 0, none⟩)] 26) = w1 at *
    refine HM.out.mono ?_
    rintro e w2 ⟨rfl, rfl⟩
    unfold errv
    go_wp2
    go_ret
    unfold LPost
    rw [hA.out]
    exact ⟨rfl, ⟨_, _, _, HH.out.below H1.out.below⟩, ⟨_, _, HL1.out, fun _ h => h⟩, Stp.of_below H1.out.below HBB.out⟩
end
end Go.Proofs.YthjilhjdnefmdaaGreatDoor
/- Elder parts go. Conditions: none. -/
namespace Go.Proofs.YthjilhjdnefmdaaGreatDoor
open Go.RowKit
open Go.ChangeMaps (setBlock)
def cleanF (last : Int) : List Int → St → St × Int
  | [], st => commitA st
  | n :: r, st => if n = last then cleanF last r st else if (dropA st (nameA n)).2 ≠ 0 then dropA st (nameA n) else cleanF last r (dropA st (nameA n)).1
def cleanA (st : St) (last : Int) : St × Int := cleanF last (partsA st 1) st
def CInv (B p : Nat) (w1 : World) (last : Int) (all : List Int) (st : St) (i : Value) (wr : World) : Prop :=
  ∃ (k : Nat) (s' : St), k ≤ all.length ∧ i = .int .i64 k ∧ Rep B wr p s' ∧ Stp [] B w1 wr ∧ cleanF last all st = cleanF last (all.drop k) s' ∧ LeftLe st s'
section
variable {B : Nat} {w w' : World} {p mn ms pl : Nat} {bl : List Nat} {st : St} {L : LM} {vw : Value} {vs : List Value}
set_option maxRecDepth 100000 in
set_option maxHeartbeats 1000000 in
theorem clean_t (hF : 0 < st.left → FailSaid) (hE : Env w) (h : RepC B w p mn ms bl st) (hB : 6 ≤ B) (hl : LRepC B w pl p L vw vs) (hs : ∀ q ∈ st.now, q.1.size ≤ 30) :
    Calls Tryz.prog 61 #[.pointer (some ⟨pl, 0, none⟩)] w (CountedPost B p w (cleanA st L.last)) := by
  have HP := Lib.hid (parts_t hE h hB hs 1 (by omega))
  have HF := Lib.hid hF; have HE := Lib.hid hE; have HH := Lib.hid h; have HL := Lib.hid hl
  have HBB := Lib.hid h.le
  obtain ⟨c0, c1, c2, c3, c4⟩ := hl.cells
  have hrg := partsA_rng st 1
  have hln := partsA_len h.inv 1
  have hca : cleanA st L.last = cleanF L.last (partsA st 1) st := rfl
  generalize partsA st 1 = all at *
  have HCA := Lib.hid hca; have HRG := Lib.hid hrg
  obtain ⟨part, last, waits, dead⟩ := L
  simp only at c1 c2 c4
  clear hF hE h hl hca hrg
  go_enter Tryz.func61, Tryz.ntmps61
  go_wp2_with fail
  refine HP.out.mono ?_
  rintro e w1 ⟨va, rfl, hva, hb1⟩
  obtain ⟨av, cv, rfl, gv1⟩ : ∃ av cv, va = .slice av all.length cv ∧ all.length ≤ cv := by
    obtain ⟨a', c', h1, h2, h3, -⟩ := hva
    rw [List.length_map] at h1 h2
    exact ⟨a', c', h1, h2⟩
  have hB1 : B ≤ w1.heap.size := Nat.le_trans HBB.out hb1.size
  have HQ : Hid (∀ wr, Stp [] B w1 wr → ∀ k (hk : k < all.length), ∃ b o, av = some ⟨b, o, none⟩ ∧ wr.cell? ⟨b, o + k, none⟩ = some (.int .i64 all[k])) := Lib.hid (fun wr hs k hk => by
    have := (RS.stp hva hs (by decide) (by decide) (fun _ _ _ => List.not_mem_nil)).at.2.2.2 k (by rw [List.length_map]; exact hk)
    obtain ⟨b, o, e1, e2⟩ := this
    refine ⟨b, o, e1, ?_⟩
    rw [e2, List.getElem_map])
  have HB1 := Lib.hid hb1
  have HL1 := Lib.hid (HL.out.below hb1)
  have HI : Hid (Rep B w1 p st) := Lib.hid ⟨_, _, _, HH.out.below hb1⟩
  clear hva hb1
  go_wp2_with fail
  go_loopw [12] (fun i wr => CInv B p w1 last all st i wr) (fun i _ => all.length - (intOf i).toNat)
  case atStart => exact ⟨0, st, Nat.zero_le _, rfl, HI.out, Stp.refl _ _ _, rfl, fun h => h⟩
  case round =>
    obtain ⟨k, s', hk, rfl, hr, hst, hcf, hlf⟩ := hrel
    obtain ⟨mn', ms', bl', hr⟩ := hr
    have HR := Lib.hid hr; have HST := Lib.hid hst; have HCF := Lib.hid hcf; have HLF := Lib.hid hlf
    have hlr := HL1.out.stp hst
    have HLR := Lib.hid hlr
    obtain ⟨d0, d1, d2, d3, d4⟩ := hlr.cells
    simp only at d1 d2 d4
    have hswr : Stp [] B w wr := (Stp.of_below HB1.out HBB.out).tr hst
    have HSW := Lib.hid hswr
    clear hr hst hcf hlf hlr hswr
    by_cases hlt : k < all.length
    · obtain ⟨bb, oo, rfl, e1⟩ := HQ.out wr HST.out k hlt
      have hn := HRG.out all[k] (List.getElem_mem hlt)
      have hdr : all.drop k = all[k] :: all.drop (k + 1) := List.drop_eq_getElem_cons hlt
      generalize all[k] = n at *
      have HDR := Lib.hid hdr
      obtain ⟨n0, n1, n2⟩ := hn
      clear hdr
      by_cases hnl : n = last
      · have t1 : (n == last) = true := by rw [hnl]; exact beq_self_eq_true _
        have hcf2 : cleanF last all st = cleanF last (all.drop (k + 1)) s' := by rw [HCF.out, HDR.out, cleanF, if_pos hnl]
        have HCF2 := Lib.hid hcf2
        clear hcf2 hnl
        go_wp2_with fail
        exact ⟨⟨k + 1, s', hlt, rfl, ⟨_, _, _, HR.out⟩, HST.out, HCF2.out, HLF.out⟩, by simp [intOf]; omega⟩
      · have t1 : (n == last) = false := beq_eq_false_iff_ne.2 hnl
        have hNM : Calls Tryz.prog 17 #[.int .i64 n] wr.drew fun e w' => e = .returned (.string (nameA n)) ∧ w'.cell? ⟨pl, 0, none⟩ = some (.pointer (some ⟨p, 0, none⟩)) ∧
            Hid (Calls Tryz.prog 54 #[.pointer (some ⟨p, 0, none⟩), .string (nameA n)] w' (fun e w2 => CountedPost B p wr (dropA s' (nameA n)) e w2 ∧ w2.cell? ⟨pl, 0, none⟩ = some (.pointer (some ⟨p, 0, none⟩)))) := by
          refine (name_t ((HE.out.below HSW.out.below hB).below (drew_below wr) (Nat.le_trans hB HR.out.le)) n (by omega) (by omega)).mono ?_
          rintro e w' ⟨rfl, hb⟩
          have hb' : Below wr.heap.size wr w' := (drew_below wr).trans hb
          refine ⟨rfl, (HLR.out.below hb').cells.1, Lib.hid ?_⟩
          exact (drop_t (fun hl => HF.out (HLF.out hl)) (HR.out.below hb') _ (Nat.le_trans (nameA_size _) (by decide))).mono fun e w2 h3 => ⟨h3.of hb' HR.out.le, (HLR.out.stp (h3.of hb' HR.out.le).2.2).cells.1⟩
        have HN := Lib.hid hNM
        have hdl := dropA_left s' (nameA n)
        have hcf2 : cleanF last all st = if (dropA s' (nameA n)).2 ≠ 0 then dropA s' (nameA n) else cleanF last (all.drop (k + 1)) (dropA s' (nameA n)).1 := by rw [HCF.out, HDR.out, cleanF, if_neg hnl]
        generalize dropA s' (nameA n) = T at *
        have HCF2 := Lib.hid hcf2; have HDL := Lib.hid hdl
        clear hNM hcf2 hnl hdl
        go_wp2_with fail
        go_region_held3 (fun w' => w'.cell? ⟨pl, 0, none⟩ = some (.pointer (some ⟨p, 0, none⟩))) (go_keep) (first | (go_at_call 17; refine HN.out.mono ?_; rintro e w1 ⟨rfl, q0, q3⟩) | (go_at_call 54; refine q3.out.mono ?_; rintro e w2 ⟨⟨rfl, q4, q5⟩, q6⟩; have Q4 := Lib.hid q4; have Q5 := Lib.hid q5; clear q4 q5; unfold errv))
        all_goals
          by_cases hT : T.2 = 0
          · have t2 : (T.2 != 0) = false := by rw [hT]; rfl
            have hc3 := HCF2.out
            rw [if_neg (by simp [hT])] at hc3
            have HC3 := Lib.hid hc3
            clear hc3 hT
            go_wp2_with fail
            exact ⟨⟨k + 1, T.1, hlt, rfl, Q4.out, HST.out.tr Q5.out, HC3.out, fun h => HLF.out (HDL.out h)⟩, by simp [intOf]; omega⟩
          · have t2 : (T.2 != 0) = true := bne_iff_ne.2 hT
            have hc3 := HCF2.out
            rw [if_pos hT] at hc3
            have HC3 := Lib.hid hc3
            clear hc3 hT
            go_wp2
            go_ret
            unfold CountedPost
            rw [HCA.out, HC3.out]
            exact ⟨rfl, Q4.out, HSW.out.tr Q5.out⟩
    · have hk' : k = all.length := by omega
      subst hk'
      have HCM := Lib.hid (commit_t (fun hl => HF.out (HLF.out hl)) HR.out)
      have hfin : cleanF last all st = commitA s' := by rw [HCF.out, List.drop_length, cleanF]
      have HFN := Lib.hid hfin
      generalize commitA s' = T at *
      clear hfin
      go_wp2_with fail
      refine HCM.out.mono ?_
      rintro e w2 ⟨rfl, q1, q2⟩
      have Q1 := Lib.hid q1; have Q2 := Lib.hid q2
      clear q1 q2
      unfold errv
      go_wp2
      go_ret
      unfold CountedPost
      rw [HCA.out, HFN.out]
      exact ⟨rfl, Q1.out, HSW.out.tr Q2.out⟩
end
end Go.Proofs.YthjilhjdnefmdaaGreatDoor
/- The steps of Mark. Conditions: none. -/
namespace Go.Proofs.YthjilhjdnefmdaaGreatDoor
open Go.RowKit
open Go.ChangeMaps (setBlock)
def kNew : Nm := ⟨#[99, 104, 101, 99, 107, 46, 110, 101, 119]⟩
def mark1A (st : St) : St × Int := if kErr st kNew ≠ 0 then (st, 0) else dropA st kNew
def markE (st : St) (next : Int) (b : List UInt8) : St × Int :=
  eachA [mark1A, fun s => makeA s kNew, fun s => writeA s kNew b, fun s => syncA s kNew, fun s => makeA s (nameA next), fun s => moveA s kNew kCheck, commitA] st
theorem mark1A_left (st : St) : LeftLe st (mark1A st).1 := by
  unfold mark1A; split
  · exact fun h => h
  · exact dropA_left _ _
section
variable {B : Nat} {w w' : World} {p mn ms pl : Nat} {bl : List Nat} {st : St} {L : LM} {vw : Value} {vs : List Value}
set_option maxRecDepth 100000 in
set_option maxHeartbeats 1000000 in
theorem mark1_t (hF : 0 < st.left → FailSaid) (h : RepC B w p mn ms bl st) (hl : LRepC B w pl p L vw vs) {b0 : Nat} (h0 : w.heap[b0]? = some (.cells #[.pointer (some ⟨pl, 0, none⟩)] 26 (0, 0))) :
    Calls Tryz.prog 53 #[.pointer (some ⟨b0, 0, none⟩)] w (CountedPost B p w (mark1A st)) := by
  have HRD := Lib.hid (read_t h kNew (by decide))
  have cp := hl.cells.1
  have c0 : w.cell? ⟨b0, 0, none⟩ = some (.pointer (some ⟨pl, 0, none⟩)) := cell_of h0 0
  have HH := Lib.hid h; have HL := Lib.hid hl; have H0 := Lib.hid h0; have HF := Lib.hid hF
  have hm : mark1A st = if kErr st kNew ≠ 0 then (st, 0) else dropA st kNew := rfl
  generalize kErr st kNew = ke at *
  have HM := Lib.hid hm
  clear h hl h0 hF hm
  go_enter Tryz.func53, Tryz.ntmps53
  go_wp2_with fail
  refine HRD.out.mono ?_
  rintro e w1 ⟨v, rfl, hv, hb⟩
  unfold errv
  have HB := Lib.hid hb
  have dp := (HL.out.below hb).cells.1
  have d0 : w1.cell? ⟨b0, 0, none⟩ = some (.pointer (some ⟨pl, 0, none⟩)) := cell_of ((hb.block _ (hp_lt H0.out)).trans H0.out) 0
  have HD := Lib.hid (drop_t HF.out (HH.out.below hb) kNew (by decide))
  clear hv hb cp c0
  by_cases hk : ke = 0
  · have t : (ke != 0) = false := by rw [hk]; rfl
    have hm := HM.out
    rw [if_neg (by simp [hk])] at hm
    rw [← hm] at HD
    clear hm hk
    generalize mark1A st = T at *
    go_wp2_with fail
    refine HD.out.mono ?_
    rintro e w2 ⟨rfl, q1, q2⟩
    unfold errv
    have Q1 := Lib.hid q1; have Q2 := Lib.hid q2
    clear q1 q2
    go_wp2
    go_ret
    exact ⟨rfl, Q1.out, (Stp.of_below HB.out HH.out.le).tr Q2.out⟩
  · have t : (ke != 0) = true := bne_iff_ne.2 hk
    have hm := HM.out
    rw [if_pos hk] at hm
    have HM2 := Lib.hid hm
    clear hm hk
    go_wp2
    go_ret
    unfold CountedPost
    rw [HM2.out]
    exact ⟨rfl, ⟨_, _, _, HH.out.below HB.out⟩, Stp.of_below HB.out HH.out.le⟩
set_option maxRecDepth 100000 in
set_option maxHeartbeats 1000000 in
theorem mark2_t (hF : 0 < st.left → FailSaid) (h : RepC B w p mn ms bl st) (hl : LRepC B w pl p L vw vs) {b0 : Nat} (h0 : w.heap[b0]? = some (.cells #[.pointer (some ⟨pl, 0, none⟩)] 26 (0, 0))) :
    Calls Tryz.prog 55 #[.pointer (some ⟨b0, 0, none⟩)] w (CountedPost B p w (makeA st kNew)) := by
  have HD := Lib.hid (make_t hF h kNew (by decide))
  have cp := hl.cells.1
  have c0 : w.cell? ⟨b0, 0, none⟩ = some (.pointer (some ⟨pl, 0, none⟩)) := cell_of h0 0
  generalize makeA st kNew = T at *
  clear h hl h0 hF
  go_enter Tryz.func55, Tryz.ntmps55
  go_wp2_with fail
  refine HD.out.mono ?_
  rintro e w2 ⟨rfl, q1, q2⟩
  unfold errv
  have Q1 := Lib.hid q1; have Q2 := Lib.hid q2
  clear q1 q2
  go_wp2
  go_ret
  exact ⟨rfl, Q1.out, Q2.out⟩
set_option maxRecDepth 100000 in
set_option maxHeartbeats 1000000 in
theorem mark3_t (hF : 0 < st.left → FailSaid) (h : RepC B w p mn ms bl st) (hl : LRepC B w pl p L vw vs) {b0 b2 : Nat} {vb : Value} {lb : List UInt8}
    (h0 : w.heap[b0]? = some (.cells #[.pointer (some ⟨pl, 0, none⟩)] 26 (0, 0))) (h2 : w.heap[b2]? = some (.cells #[vb] 27 (0, 0))) (hv : BS B w vb lb) :
    Calls Tryz.prog 56 #[.pointer (some ⟨b0, 0, none⟩), .pointer (some ⟨b2, 0, none⟩)] w (CountedPost B p w (writeA st kNew lb)) := by
  have hdb := drew_below w
  have hW : Calls Tryz.prog 44 #[.pointer (some ⟨p, 0, none⟩), .string kNew, vb] w.drew fun e w2 => CountedPost B p w (writeA st kNew lb) e w2 ∧ w2.cell? ⟨pl, 0, none⟩ = some (.pointer (some ⟨p, 0, none⟩)) ∧ w2.cell? ⟨b0, 0, none⟩ = some (.pointer (some ⟨pl, 0, none⟩)) ∧ w2.cell? ⟨b2, 0, none⟩ = some vb := by
    refine (write_t hF (h.below hdb) kNew (by decide) vb lb (RS.below hv hdb h.le)).mono ?_
    intro e w2 h3
    have h4 := h3.of hdb h.le
    have s := h4.2.2
    exact ⟨h4, (hl.stp s).cells.1, s.one h0 (by decide) (by decide) (by simp), s.one h2 (by decide) (by decide) (by simp)⟩
  have cp := hl.cells.1
  have c0 : w.cell? ⟨b0, 0, none⟩ = some (.pointer (some ⟨pl, 0, none⟩)) := cell_of h0 0
  have c2 : w.cell? ⟨b2, 0, none⟩ = some vb := cell_of h2 0
  have HW := Lib.hid hW
  clear hW h hl h0 h2 hdb
  obtain ⟨ab, cb, rfl, -, -⟩ := hv.form
  clear hv
  generalize writeA st kNew lb = T at *
  go_enter Tryz.func56, Tryz.ntmps56
  go_wp2_with fail
  go_region_held3 (fun w' => w'.cell? ⟨pl, 0, none⟩ = some (.pointer (some ⟨p, 0, none⟩)) ∧ w'.cell? ⟨b0, 0, none⟩ = some (.pointer (some ⟨pl, 0, none⟩)) ∧ w'.cell? ⟨b2, 0, none⟩ = some (.slice ab lb.length cb)) (go_keep) (first | (go_at_call 44; refine HW.out.mono ?_; rintro e w2 ⟨⟨rfl, q4, q5⟩, q6, q7, q9⟩; have Q4 := Lib.hid q4; have Q5 := Lib.hid q5; clear q4 q5; unfold errv))
  all_goals go_wp2
  all_goals go_ret
  all_goals exact ⟨rfl, Q4.out, Q5.out⟩
set_option maxRecDepth 100000 in
set_option maxHeartbeats 1000000 in
theorem mark5_t (hF : 0 < st.left → FailSaid) (hE : Env w) (h : RepC B w p mn ms bl st) (hB : 6 ≤ B) (hl : LRepC B w pl p L vw vs) {b0 b1 : Nat} {n : Int}
    (h0 : w.heap[b0]? = some (.cells #[.pointer (some ⟨pl, 0, none⟩)] 26 (0, 0))) (h1 : w.heap[b1]? = some (.cells #[.int .i64 n] 3 (0, 0))) (hn : 0 ≤ n ∧ n ≤ 1000000000) :
    Calls Tryz.prog 58 #[.pointer (some ⟨b0, 0, none⟩), .pointer (some ⟨b1, 0, none⟩)] w (CountedPost B p w (makeA st (nameA n))) := by
  have hNM : Calls Tryz.prog 17 #[.int .i64 n] w.drew fun e w' => e = .returned (.string (nameA n)) ∧ w'.cell? ⟨pl, 0, none⟩ = some (.pointer (some ⟨p, 0, none⟩)) ∧ w'.cell? ⟨b0, 0, none⟩ = some (.pointer (some ⟨pl, 0, none⟩)) ∧ w'.cell? ⟨b1, 0, none⟩ = some (.int .i64 n) ∧
      Hid (Calls Tryz.prog 36 #[.pointer (some ⟨p, 0, none⟩), .string (nameA n)] w' (fun e w2 => CountedPost B p w (makeA st (nameA n)) e w2 ∧ w2.cell? ⟨pl, 0, none⟩ = some (.pointer (some ⟨p, 0, none⟩)) ∧ w2.cell? ⟨b0, 0, none⟩ = some (.pointer (some ⟨pl, 0, none⟩)) ∧ w2.cell? ⟨b1, 0, none⟩ = some (.int .i64 n))) := by
    refine (name_t (hE.below (drew_below w) (Nat.le_trans hB h.le)) _ (by omega) (by omega)).mono ?_
    rintro e w' ⟨rfl, hb⟩
    have hb' : Below w.heap.size w w' := (drew_below w).trans hb
    have s' : Stp [] B w w' := Stp.of_below hb' h.le
    refine ⟨rfl, (hl.below hb').cells.1, s'.one h0 (by decide) (by decide) (by simp), s'.one h1 (by decide) (by decide) (by simp), Lib.hid ?_⟩
    refine (make_t hF (h.below hb') _ (Nat.le_trans (nameA_size _) (by decide))).mono fun e w2 h3 => ?_
    have h4 := h3.of hb' h.le
    have s := h4.2.2
    exact ⟨h4, (hl.stp s).cells.1, s.one h0 (by decide) (by decide) (by simp), s.one h1 (by decide) (by decide) (by simp)⟩
  have cp := hl.cells.1
  have c0 : w.cell? ⟨b0, 0, none⟩ = some (.pointer (some ⟨pl, 0, none⟩)) := cell_of h0 0
  have c1 : w.cell? ⟨b1, 0, none⟩ = some (.int .i64 n) := cell_of h1 0
  have HN := Lib.hid hNM
  clear hNM h hl h0 h1
  generalize makeA st (nameA n) = T at *
  go_enter Tryz.func58, Tryz.ntmps58
  go_wp2_with fail
  go_region_held3 (fun w' => w'.cell? ⟨pl, 0, none⟩ = some (.pointer (some ⟨p, 0, none⟩)) ∧ w'.cell? ⟨b0, 0, none⟩ = some (.pointer (some ⟨pl, 0, none⟩)) ∧ w'.cell? ⟨b1, 0, none⟩ = some (.int .i64 n)) (go_keep) (first | (go_at_call 17; refine HN.out.mono ?_; rintro e w1 ⟨rfl, q0, q1, q2, q3⟩) | (go_at_call 36; refine q3.out.mono ?_; rintro e w2 ⟨⟨rfl, q4, q5⟩, q6, q7, q8⟩; have Q4 := Lib.hid q4; have Q5 := Lib.hid q5; clear q4 q5; unfold errv))
  all_goals go_wp2
  all_goals go_ret
  all_goals exact ⟨rfl, Q4.out, Q5.out⟩
set_option maxRecDepth 100000 in
set_option maxHeartbeats 1000000 in
theorem mark4_t (hF : 0 < st.left → FailSaid) (h : RepC B w p mn ms bl st) (hl : LRepC B w pl p L vw vs) {b0 : Nat} (h0 : w.heap[b0]? = some (.cells #[.pointer (some ⟨pl, 0, none⟩)] 26 (0, 0))) :
    Calls Tryz.prog 57 #[.pointer (some ⟨b0, 0, none⟩)] w (CountedPost B p w (syncA st kNew)) := by
  have HD := Lib.hid (sync_t hF h kNew (by decide))
  have cp := hl.cells.1
  have c0 : w.cell? ⟨b0, 0, none⟩ = some (.pointer (some ⟨pl, 0, none⟩)) := cell_of h0 0
  generalize syncA st kNew = T at *
  clear h hl h0 hF
  go_enter Tryz.func57, Tryz.ntmps57
  go_wp2_with fail
  refine HD.out.mono ?_
  rintro e w2 ⟨rfl, q1, q2⟩
  unfold errv
  have Q1 := Lib.hid q1; have Q2 := Lib.hid q2
  clear q1 q2
  go_wp2
  go_ret
  exact ⟨rfl, Q1.out, Q2.out⟩
set_option maxRecDepth 100000 in
set_option maxHeartbeats 1000000 in
theorem mark6_t (hF : 0 < st.left → FailSaid) (h : RepC B w p mn ms bl st) (hl : LRepC B w pl p L vw vs) {b0 : Nat} (h0 : w.heap[b0]? = some (.cells #[.pointer (some ⟨pl, 0, none⟩)] 26 (0, 0))) :
    Calls Tryz.prog 59 #[.pointer (some ⟨b0, 0, none⟩)] w (CountedPost B p w (moveA st kNew kCheck)) := by
  have HD := Lib.hid (move_t hF h kNew kCheck (by decide) (by decide))
  have cp := hl.cells.1
  have c0 : w.cell? ⟨b0, 0, none⟩ = some (.pointer (some ⟨pl, 0, none⟩)) := cell_of h0 0
  generalize moveA st kNew kCheck = T at *
  clear h hl h0 hF
  go_enter Tryz.func59, Tryz.ntmps59
  go_wp2_with fail
  refine HD.out.mono ?_
  rintro e w2 ⟨rfl, q1, q2⟩
  unfold errv
  have Q1 := Lib.hid q1; have Q2 := Lib.hid q2
  clear q1 q2
  go_wp2
  go_ret
  exact ⟨rfl, Q1.out, Q2.out⟩
end
end Go.Proofs.YthjilhjdnefmdaaGreatDoor
/- What Mark's steps do. Conditions: none. -/
namespace Go.Proofs.YthjilhjdnefmdaaGreatDoor
open Go.RowKit
open Go.ChangeMaps (setBlock)
section
variable {B : Nat} {w w' : World} {p mn ms pl : Nat} {bl : List Nat} {st : St} {L : LM} {vw : Value} {vs : List Value}
theorem eachSpec_one {w0 : World} {f : Nat} {args : Array Value} {v : Value} {r : List Value} {g : St → St × Int} {steps : List (St → St × Int)} (hw : Stp [] B w0 w) (hv : v = .func (.func f) #[] args ∨ ∃ x, args = #[x] ∧ v = .func (.func f) #[x] #[])
    (hcf : ∀ w, (callFunc f args).run Tryz.prog w = .ok (.enter f args) w) (hcall : Calls Tryz.prog f args w (CountedPost B p w (g st)))
    (hrest : (g st).2 = 0 → ∀ w' mn ms bl, RepC B w' p mn ms bl (g st).1 → Stp [] B w0 w' → EachSpec B r w' (FlushK B p w0 (eachA steps (g st).1))) : EachSpec B (v :: r) w (FlushK B p w0 (eachA (g :: steps) st)) := by
  refine eachSpec_cons hv hcf hcall (fun hne w' hr hs => ?_) (fun hz w' hr hs => ?_)
  · unfold eachA; rw [if_neg hne]; exact ⟨rfl, hr, hw.tr hs⟩
  · unfold eachA; rw [if_pos hz]
    obtain ⟨mn, ms, bl, hr⟩ := hr
    exact hrest hz w' mn ms bl hr (hw.tr hs)
theorem mark_spec {w1 : World} (hF : 0 < st.left → FailSaid) (hE : Env w1) (h : RepC B w1 p mn ms bl st) (hB : 6 ≤ B) (hl : LRepC B w1 pl p L vw vs) {b0 b1 b2 : Nat} {n : Int} {vb : Value} {lb : List UInt8} (hn : 0 ≤ n ∧ n ≤ 1000000000)
    (h0 : w1.heap[b0]? = some (.cells #[.pointer (some ⟨pl, 0, none⟩)] 26 (0, 0))) (h1 : w1.heap[b1]? = some (.cells #[.int .i64 n] 3 (0, 0))) (h2 : w1.heap[b2]? = some (.cells #[vb] 27 (0, 0))) (hv : BS B w1 vb lb) :
    EachSpec B [.func (.func 53) #[] #[.pointer (some ⟨b0, 0, none⟩)], .func (.func 55) #[] #[.pointer (some ⟨b0, 0, none⟩)], .func (.func 56) #[] #[.pointer (some ⟨b0, 0, none⟩), .pointer (some ⟨b2, 0, none⟩)], .func (.func 57) #[] #[.pointer (some ⟨b0, 0, none⟩)],
      .func (.func 58) #[] #[.pointer (some ⟨b0, 0, none⟩), .pointer (some ⟨b1, 0, none⟩)], .func (.func 59) #[] #[.pointer (some ⟨b0, 0, none⟩)], .func (.func 37) #[.pointer (some ⟨p, 0, none⟩)] #[]] w1 (FlushK B p w1 (markE st n lb)) := by
  have g0 : ∀ w', Stp [] B w1 w' → w'.heap[b0]? = some (.cells #[.pointer (some ⟨pl, 0, none⟩)] 26 (0, 0)) := fun w' s => s.fix _ _ _ _ h0 (by decide) (by decide) (by simp)
  have g1 : ∀ w', Stp [] B w1 w' → w'.heap[b1]? = some (.cells #[.int .i64 n] 3 (0, 0)) := fun w' s => s.fix _ _ _ _ h1 (by decide) (by decide) (by simp)
  have g2 : ∀ w', Stp [] B w1 w' → w'.heap[b2]? = some (.cells #[vb] 27 (0, 0)) := fun w' s => s.fix _ _ _ _ h2 (by decide) (by decide) (by simp)
  unfold markE
  refine eachSpec_one (Stp.refl _ _ _) (.inl rfl) (fun w => by kernel_rfl) (mark1_t hF h hl h0) (fun _ w2 mn2 ms2 bl2 r2 s2 => ?_)
  have f2 : 0 < (mark1A st).1.left → FailSaid := fun x => hF (mark1A_left st x)
  refine eachSpec_one s2 (.inl rfl) (fun w => by kernel_rfl) (mark2_t f2 r2 (hl.stp s2) (g0 _ s2)) (fun _ w3 mn3 ms3 bl3 r3 s3 => ?_)
  have f3 := fun x => f2 (makeA_left _ kNew x)
  refine eachSpec_one s3 (.inl rfl) (fun w => by kernel_rfl) (mark3_t f3 r3 (hl.stp s3) (g0 _ s3) (g2 _ s3) (RS.stp hv s3 (by decide) (by decide) (fun _ h => absurd rfl h))) (fun _ w4 mn4 ms4 bl4 r4 s4 => ?_)
  have f4 := fun x => f3 (writeA_left _ kNew lb x)
  refine eachSpec_one s4 (.inl rfl) (fun w => by kernel_rfl) (mark4_t f4 r4 (hl.stp s4) (g0 _ s4)) (fun _ w5 mn5 ms5 bl5 r5 s5 => ?_)
  have f5 := fun x => f4 (syncA_left _ kNew x)
  refine eachSpec_one s5 (.inl rfl) (fun w => by kernel_rfl) (mark5_t f5 (hE.below s5.below hB) r5 hB (hl.stp s5) (g0 _ s5) (g1 _ s5) hn) (fun _ w6 mn6 ms6 bl6 r6 s6 => ?_)
  have f6 := fun x => f5 (makeA_left _ (nameA n) x)
  refine eachSpec_one s6 (.inl rfl) (fun w => by kernel_rfl) (mark6_t f6 r6 (hl.stp s6) (g0 _ s6)) (fun _ w7 mn7 ms7 bl7 r7 s7 => ?_)
  have f7 := fun x => f6 (moveA_left _ kNew kCheck x)
  refine eachSpec_one s7 (.inr ⟨_, rfl, rfl⟩) (fun w => by kernel_rfl) (commit_t f7 r7) (fun _ w8 mn8 ms8 bl8 r8 s8 => ?_)
  exact ⟨rfl, ⟨_, _, _, r8⟩, s8⟩
end
end Go.Proofs.YthjilhjdnefmdaaGreatDoor
/- Mark. Conditions: none. -/
namespace Go.Proofs.YthjilhjdnefmdaaGreatDoor
open Go.RowKit
open Go.ChangeMaps (setBlock)
def markB (next : Int) (check : List UInt8) : List UInt8 := sealL (putB 8 next ++ check)
def markT (s1 : St) (L1 : LM) (next : Int) : St × LM × Int :=
  ((cleanA s1 next).1, toldM { L1 with last := next } (cleanA s1 next).2, (cleanA s1 next).2)
def markF (s1 : St) (L1 : LM) (check : List UInt8) : St × LM × Int :=
  if (markE s1 (L1.last + 1) (markB (L1.last + 1) check)).2 ≠ 0 then ((markE s1 (L1.last + 1) (markB (L1.last + 1) check)).1, toldM L1 (markE s1 (L1.last + 1) (markB (L1.last + 1) check)).2, (markE s1 (L1.last + 1) (markB (L1.last + 1) check)).2)
  else markT (markE s1 (L1.last + 1) (markB (L1.last + 1) check)).1 L1 (L1.last + 1)
def markA (st : St) (L : LM) (check : List UInt8) : St × LM × Int :=
  if mayA st L ≠ 0 then (st, L, mayA st L) else if 1048512 < check.length then (st, L, 5)
  else if (flushA st L).2.2 ≠ 0 then flushA st L
  else if 999999999 ≤ (flushA st L).2.1.last then ((flushA st L).1, (flushA st L).2.1, 11)
  else markF (flushA st L).1 (flushA st L).2.1 check
theorem turnA_left (st : St) (L : LM) : LeftLe st (turnA st L).1 := by
  unfold turnA
  split
  · exact makeA_left st _
  · split
    · exact makeA_left st _
    · split
      · exact fun h => makeA_left st _ (commitA_left _ h)
      · exact fun h => makeA_left st _ (commitA_left _ h)
theorem flushA_left (st : St) (L : LM) : LeftLe st (flushA st L).1 := by
  unfold flushA
  split
  · exact fun h => h
  · split
    · exact fun h => h
    · split
      · exact flushE_left st L
      · unfold flushT
        split
        · exact flushE_left st L
        · exact fun h => flushE_left st L (turnA_left _ _ h)
theorem eachA_left : ∀ (l : List (St → St × Int)) (st : St), (∀ f ∈ l, ∀ s, LeftLe s (f s).1) → LeftLe st (eachA l st).1 := by
  intro l
  induction l with
  | nil => intro st _ h; exact h
  | cons f r ih =>
    intro st hl
    unfold eachA
    split
    · exact fun h => hl f (List.mem_cons_self ..) st (ih _ (fun g hg => hl g (List.mem_cons_of_mem _ hg)) h)
    · exact hl f (List.mem_cons_self ..) st
theorem markE_left (st : St) (n : Int) (b : List UInt8) : LeftLe st (markE st n b).1 := by
  unfold markE
  apply eachA_left
  intro f hf s
  simp only [List.mem_cons, List.not_mem_nil, or_false] at hf
  rcases hf with rfl | rfl | rfl | rfl | rfl | rfl | rfl
  · exact mark1A_left s
  · exact makeA_left s _
  · exact writeA_left s _ _
  · exact syncA_left s _
  · exact makeA_left s _
  · exact moveA_left s _ _
  · exact commitA_left s
theorem rs_newL {B : Nat} {w1 : World} {n : Nat} (hn : w1.heap.size = n) (e : TypeId) (xs : List Value) (hx : xs.length ≤ 1000) : RS e B (w1.alloc (.cells xs.toArray e)) (.slice (some ⟨n, 0, none⟩) xs.length xs.length) xs := by
  subst hn
  refine ⟨_, _, rfl, Nat.le_refl _, by unfold maxLen; omega, .inr ⟨_, _, rfl, .inr ⟨_, _, hp_new _ _⟩, fun i z hz => ?_⟩⟩
  rw [Nat.zero_add, cell_of (hp_new _ _)]
  simpa using hz
section
variable {B : Nat} {w w' : World} {p mn ms pl : Nat} {bl : List Nat} {st : St} {L : LM} {vw : Value} {vs : List Value}
set_option maxRecDepth 100000 in
set_option maxHeartbeats 2000000 in
theorem mark_t (hF : 0 < st.left → FailSaid) (hE : Env w) (h : RepC B w p mn ms bl st) (hB : 6 ≤ B) (hl : LRepC B w pl p L vw vs) {vb : Value} {check : List UInt8} (hv : BS B w vb check)
    (hs : ∀ q ∈ (markE (flushA st L).1 ((flushA st L).2.1.last + 1) (markB ((flushA st L).2.1.last + 1) check)).1.now, q.1.size ≤ 30) :
    Calls Tryz.prog 19 #[.pointer (some ⟨pl, 0, none⟩), vb] w (LPost B p pl vw w (markA st L check)) := by
  have HF := Lib.hid hF; have HE := Lib.hid hE; have HH := Lib.hid h; have HL := Lib.hid hl; have HS := Lib.hid hs
  have HBB := Lib.hid h.le
  have hbw : 6 ≤ w.heap.size := Nat.le_trans hB h.le
  have h1 := Held.new (Below.refl w.heap.size w) (.pointer (some ⟨pl, 0, none⟩)) 26
  have H1 := Lib.hid h1
  have HM := Lib.hid (may_t (h.below h1.below) (hl.below h1.below))
  have HFL := Lib.hid (flush_t hF (hE.below h1.below hbw) (h.below h1.below) hB (hl.below h1.below))
  have HV1 := Lib.hid (RS.below hv h1.below h.le)
  obtain ⟨ab, cb, rfl, g1, g2⟩ := hv.form
  unfold maxLen at g2
  obtain ⟨k, hk⟩ : ∃ k, mayA st L = k := ⟨_, rfl⟩
  have hma : markA st L check = if mayA st L ≠ 0 then (st, L, mayA st L) else if 1048512 < check.length then (st, L, 5)
    else if (flushA st L).2.2 ≠ 0 then flushA st L
    else if 999999999 ≤ (flushA st L).2.1.last then ((flushA st L).1, (flushA st L).2.1, 11)
    else markF (flushA st L).1 (flushA st L).2.1 check := rfl
  rw [hk] at HM hma
  have c0 := h1.at
  have hfl := flushA_left st L
  generalize flushA st L = F at *
  have HMA := Lib.hid hma; have HFLL := Lib.hid hfl
  clear hF hE h hl h1 hv hma hs hfl
  by_cases h0 : k = 0
  · have t0 : (k != 0) = false := by rw [h0]; rfl
    by_cases hbig : 1048512 < check.length
    · have t1 : decide ((1048512 : Int) < check.length) = true := decide_eq_true (by omega)
      have hA := HMA.out
      rw [if_neg (by simp [h0]), if_pos hbig] at hA
      have HA := Lib.hid hA
      clear hA hk h0 hbig g1 g2
      go_enter Tryz.func19, Tryz.ntmps19
      go_wp2_with fail
      generalize w.alloc (.cells #[.pointer (some ⟨pl, 0, none⟩)] 26) = w1 at *
      refine HM.out.mono ?_
      rintro e w2 ⟨rfl, rfl⟩
      unfold errv
      go_wp2
      go_ret
      unfold LPost
      rw [HA.out]
      exact ⟨rfl, ⟨_, _, _, HH.out.below H1.out.below⟩, ⟨_, _, HL.out.below H1.out.below, fun _ h => h⟩, Stp.of_below H1.out.below HBB.out⟩
    · have t1 : decide ((1048512 : Int) < check.length) = false := decide_eq_false (by omega)
      have hA := HMA.out
      rw [if_neg (by simp [h0]), if_neg hbig] at hA
      have HA := Lib.hid hA
      clear hA hk h0
      obtain ⟨s1, L1, k1⟩ := F
      simp only at HS HFLL
      go_enter Tryz.func19, Tryz.ntmps19
      go_wp2_with fail
      generalize w.alloc (.cells #[.pointer (some ⟨pl, 0, none⟩)] 26) = w1 at *
      refine HM.out.mono ?_
      rintro e w2 ⟨rfl, rfl⟩
      unfold errv
      go_wp2_with fail
      refine HFL.out.mono ?_
      rintro e w2 ⟨rfl, hr2, hl2, hs2⟩
      unfold errv
      obtain ⟨vw2, vs2, hl2, hvb⟩ := hl2
      have HVB := Lib.hid hvb; clear hvb
      obtain ⟨mn2, ms2, bl2, hr2⟩ := hr2
      have hpl : pl < w.heap.size := hp_lt HL.out.blk
      have n0 : w.heap.size ∉ [pl] := by simp; omega
      have HR2 := Lib.hid hr2; have HL2 := Lib.hid hl2; have HS2 := Lib.hid hs2
      have hc2 : w2.heap[w.heap.size]? = some (.cells #[.pointer (some ⟨pl, 0, none⟩)] 26 (0, 0)) := hs2.fix _ _ _ _ H1.out.cell (by decide) (by decide) (fun _ => n0)
      have HC2 := Lib.hid hc2
      have c0 : w2.cell? ⟨w.heap.size, 0, none⟩ = some (.pointer (some ⟨pl, 0, none⟩)) := cell_of hc2 0
      obtain ⟨d0, d1, d2, d3, d4⟩ := hl2.cells
      have hlst := hl2.lst
      have HSW2 := Lib.hid ((Stp.of_below (M := [pl]) H1.out.below HBB.out).tr hs2)
      have HV2 := Lib.hid (RS.stp HV1.out hs2 (by decide) (by decide) (fun _ h => absurd rfl h))
      clear hr2 hl2 hs2 hc2 n0 hpl
      change Hid (markA st L check = _) at HA
      by_cases hk1 : k1 = 0
      · have t2 : (k1 != 0) = false := by rw [hk1]; rfl
        by_cases hmost : 999999999 ≤ L1.last
        · have t3 : decide (999999999 ≤ L1.last) = true := decide_eq_true hmost
          have hA := HA.out
          rw [if_neg (by simp [hk1]), if_pos hmost] at hA
          have HA2 := Lib.hid hA
          clear hA hk1 hmost
          go_wp2
          go_ret
          unfold LPost
          rw [HA2.out]
          exact ⟨rfl, ⟨_, _, _, HR2.out⟩, ⟨_, _, HL2.out, HVB.out⟩, HSW2.out⟩
        · have t3 : decide (999999999 ≤ L1.last) = false := decide_eq_false hmost
          have hA := HA.out
          rw [if_neg (by simp [hk1]), if_neg hmost] at hA
          have HA2 := Lib.hid hA
          clear hA hk1
          obtain ⟨l0, l1⟩ : 1 ≤ L1.last ∧ L1.last ≤ 999999999 := hlst
          have h3 := Held.new (Below.refl w2.heap.size w2) (.int .i64 (L1.last + 1)) 3
          have H3 := Lib.hid h3
          have c7 := h3.at
          have hE3 := (HE.out.below HSW2.out.below hB).below h3.below (Nat.le_trans hB HR2.out.le)
          have hB3 : B ≤ (w2.alloc (.cells #[.int .i64 (L1.last + 1)] 3)).heap.size := Nat.le_trans HR2.out.le h3.below.size
          have HP := Lib.hid (put8_t (B := B) hE3.e0 (BS.nil B _) (by simp) hB3 (Nat.lt_of_lt_of_le (by omega : 0 < B) hB3) (L1.last + 1) (by omega) (by omega))
          have HE3 := Lib.hid hE3; have HB3 := Lib.hid hB3
          have HV3 := Lib.hid (RS.below HV2.out h3.below HR2.out.le)
          clear h3 hE3 hB3
          go_wp2_with fail
          generalize w2.alloc (.cells #[.int .i64 (L1.last + 1)] 3) = w3 at *
          refine HP.out.mono ?_
          rintro e w4 ⟨v4, rfl, ho4, hb4⟩
          have HO4 := Lib.hid ho4; have HB4 := Lib.hid hb4
          have HV4 := Lib.hid (RS.below HV3.out hb4 HB3.out)
          have hsz4 := hb4.size
          clear ho4 hb4
          go_wp2_with (at_builtin; refine wpList_append_rs slT27 rfl (.tmp 35) (.tmp 36) rfl w3.heap.size B _ _ _ rfl HO4.out _ rfl (check.map bv) HV4.out (bv_one check) (by rw [List.length_map]; unfold maxLen; simp only [List.length_nil]; omega) (by rw [List.length_map]; simp only [List.length_nil]; omega) hsz4 ?_; intro v5 w5 hown hg; have HO5 := Lib.hid hown; have HB5 := Lib.hid (below_grown HB4.out hg HO4.out (Nat.le_refl _)); clear hown hg)
          have hx5 : BS B w5 v5 (putB 8 (L1.last + 1) ++ check) := by
            have := RS.of_owns (B := B) HO5.out
            rw [List.nil_append, ← List.map_append] at this
            exact this
          have hB5 : B ≤ w5.heap.size := Nat.le_trans HB3.out HB5.out.size
          have HSE := Lib.hid (seal_t (B := B) ((HE3.out.below HB5.out (Nat.le_trans hB HB3.out)).e0) hx5 (by rw [List.length_append, putB_len]; omega) hB5 (Nat.lt_of_lt_of_le (by omega : 0 < B) hB5))
          have HE5 := Lib.hid (HE3.out.below HB5.out (Nat.le_trans hB HB3.out))
          have H5b := Lib.hid (H3.out.step HB5.out)
          clear hx5 hsz4
          go_wp2_with fail
          refine HSE.out.mono ?_
          rintro e w6 ⟨v6, rfl, hv6, hb6⟩
          change BS B w6 v6 (markB (L1.last + 1) check) at hv6
          obtain ⟨a6, c6, rfl, -, -⟩ := hv6.form
          have HV6 := Lib.hid hv6
          have h6b := H5b.out.step hb6
          have kb8 : Below w6.heap.size w6 ((w6.alloc (.cells #[.slice a6 (markB (L1.last + 1) check).length c6] 27)).alloc (.cells #[.func (.func 53) #[] #[.pointer (some ⟨w.heap.size, 0, none⟩)], .func (.func 55) #[] #[.pointer (some ⟨w.heap.size, 0, none⟩)], .func (.func 56) #[] #[.pointer (some ⟨w.heap.size, 0, none⟩), .pointer (some ⟨w6.heap.size, 0, none⟩)], .func (.func 57) #[] #[.pointer (some ⟨w.heap.size, 0, none⟩)], .func (.func 58) #[] #[.pointer (some ⟨w.heap.size, 0, none⟩), .pointer (some ⟨w2.heap.size, 0, none⟩)], .func (.func 59) #[] #[.pointer (some ⟨w.heap.size, 0, none⟩)], .func (.func 37) #[.pointer (some ⟨p, 0, none⟩)] #[]] 35)) := ((Below.refl w6.heap.size w6).alloc (Nat.le_refl _) _).alloc (by simp) _
          have h8 := h6b.step kb8
          have HB8 := Lib.hid h8.below
          have HLR8 := Lib.hid (HL2.out.below h8.below)
          have HRR8 := Lib.hid (HR2.out.below h8.below)
          have HC0 := Lib.hid ((h8.below.block _ (hp_lt HC2.out)).trans HC2.out)
          have HC7 := Lib.hid h8.cell
          have HC8 : Hid (((w6.alloc (.cells #[.slice a6 (markB (L1.last + 1) check).length c6] 27)).alloc (.cells #[.func (.func 53) #[] #[.pointer (some ⟨w.heap.size, 0, none⟩)], .func (.func 55) #[] #[.pointer (some ⟨w.heap.size, 0, none⟩)], .func (.func 56) #[] #[.pointer (some ⟨w.heap.size, 0, none⟩), .pointer (some ⟨w6.heap.size, 0, none⟩)], .func (.func 57) #[] #[.pointer (some ⟨w.heap.size, 0, none⟩)], .func (.func 58) #[] #[.pointer (some ⟨w.heap.size, 0, none⟩), .pointer (some ⟨w2.heap.size, 0, none⟩)], .func (.func 59) #[] #[.pointer (some ⟨w.heap.size, 0, none⟩)], .func (.func 37) #[.pointer (some ⟨p, 0, none⟩)] #[]] 35)).heap[w6.heap.size]? = some (.cells #[.slice a6 (markB (L1.last + 1) check).length c6] 27 (0, 0))) := Lib.hid (hp_old (hp_new _ _))
          have hB6 : B ≤ w6.heap.size := Nat.le_trans hB5 hb6.size
          have HSP := Lib.hid (mark_spec (fun x => HF.out (HFLL.out x)) ((HE5.out.below hb6 (Nat.le_trans hB hB5)).below kb8 (Nat.le_trans hB hB6)) HRR8.out hB HLR8.out (by omega : 0 ≤ L1.last + 1 ∧ L1.last + 1 ≤ 1000000000) HC0.out HC7.out HC8.out (RS.below HV6.out kb8 hB6))
          have HRS : Hid (RS 35 B ((w6.alloc (.cells #[.slice a6 (markB (L1.last + 1) check).length c6] 27)).alloc (.cells #[.func (.func 53) #[] #[.pointer (some ⟨w.heap.size, 0, none⟩)], .func (.func 55) #[] #[.pointer (some ⟨w.heap.size, 0, none⟩)], .func (.func 56) #[] #[.pointer (some ⟨w.heap.size, 0, none⟩), .pointer (some ⟨w6.heap.size, 0, none⟩)], .func (.func 57) #[] #[.pointer (some ⟨w.heap.size, 0, none⟩)], .func (.func 58) #[] #[.pointer (some ⟨w.heap.size, 0, none⟩), .pointer (some ⟨w2.heap.size, 0, none⟩)], .func (.func 59) #[] #[.pointer (some ⟨w.heap.size, 0, none⟩)], .func (.func 37) #[.pointer (some ⟨p, 0, none⟩)] #[]] 35)) (.slice (some ⟨w6.heap.size + 1, 0, none⟩) 7 7) [.func (.func 53) #[] #[.pointer (some ⟨w.heap.size, 0, none⟩)], .func (.func 55) #[] #[.pointer (some ⟨w.heap.size, 0, none⟩)], .func (.func 56) #[] #[.pointer (some ⟨w.heap.size, 0, none⟩), .pointer (some ⟨w6.heap.size, 0, none⟩)], .func (.func 57) #[] #[.pointer (some ⟨w.heap.size, 0, none⟩)], .func (.func 58) #[] #[.pointer (some ⟨w.heap.size, 0, none⟩), .pointer (some ⟨w2.heap.size, 0, none⟩)], .func (.func 59) #[] #[.pointer (some ⟨w.heap.size, 0, none⟩)], .func (.func 37) #[.pointer (some ⟨p, 0, none⟩)] #[]]) := Lib.hid (rs_newL (by simp) 35 _ (by simp))
          have kb7 := h6b.step ((Below.refl w6.heap.size w6).alloc (Nat.le_refl _) (.cells #[.slice a6 (markB (L1.last + 1) check).length c6] 27))
          have x0 : (w6.alloc (.cells #[.slice a6 (markB (L1.last + 1) check).length c6] 27)).cell? ⟨w.heap.size, 0, none⟩ = some (.pointer (some ⟨pl, 0, none⟩)) := cell_of ((kb7.below.block _ (hp_lt HC2.out)).trans HC2.out) 0
          have xp := (HL2.out.below kb7.below).cells.1
          have y0 : w6.cell? ⟨w.heap.size, 0, none⟩ = some (.pointer (some ⟨pl, 0, none⟩)) := cell_of ((h6b.below.block _ (hp_lt HC2.out)).trans HC2.out) 0
          clear hv6 hb6 h6b kb8 h8 kb7
          go_wp2_with fail
          generalize ((w6.alloc (.cells #[.slice a6 (markB (L1.last + 1) check).length c6] 27)).alloc (.cells #[.func (.func 53) #[] #[.pointer (some ⟨w.heap.size, 0, none⟩)], .func (.func 55) #[] #[.pointer (some ⟨w.heap.size, 0, none⟩)], .func (.func 56) #[] #[.pointer (some ⟨w.heap.size, 0, none⟩), .pointer (some ⟨w6.heap.size, 0, none⟩)], .func (.func 57) #[] #[.pointer (some ⟨w.heap.size, 0, none⟩)], .func (.func 58) #[] #[.pointer (some ⟨w.heap.size, 0, none⟩), .pointer (some ⟨w2.heap.size, 0, none⟩)], .func (.func 59) #[] #[.pointer (some ⟨w.heap.size, 0, none⟩)], .func (.func 37) #[.pointer (some ⟨p, 0, none⟩)] #[]] 35)) = w8 at *
          refine (each_t HRS.out (by simp) HSP.out).mono ?_
          rintro e w9 ⟨k9, rfl, rfl, hr9, hs9⟩
          unfold errv
          have hmf : markF s1 L1 check = if (markE s1 (L1.last + 1) (markB (L1.last + 1) check)).2 ≠ 0 then ((markE s1 (L1.last + 1) (markB (L1.last + 1) check)).1, toldM L1 (markE s1 (L1.last + 1) (markB (L1.last + 1) check)).2, (markE s1 (L1.last + 1) (markB (L1.last + 1) check)).2) else markT (markE s1 (L1.last + 1) (markB (L1.last + 1) check)).1 L1 (L1.last + 1) := rfl
          have hml := markE_left s1 (L1.last + 1) (markB (L1.last + 1) check)
          change ∀ q ∈ (markE s1 (L1.last + 1) (markB (L1.last + 1) check)).1.now, q.1.size ≤ 30 at HS
          have HS' := HS
          generalize markE s1 (L1.last + 1) (markB (L1.last + 1) check) = T at *
          have HMF := Lib.hid hmf; have HML := Lib.hid hml
          have HR9 := Lib.hid hr9; have HS9 := Lib.hid hs9
          have hl9 : LRepC B w9 pl p L1 vw2 vs2 := HLR8.out.stp hs9
          have HL9 := Lib.hid hl9
          have z0 := hs9.one HC0.out (by decide) (by decide) (by simp)
          have z7 := hs9.one HC7.out (by decide) (by decide) (by simp)
          obtain ⟨y0', y1', y2', y3', y4'⟩ := hl9.cells
          have f2 := hl9.free 2
          have hsw9 : Stp [pl] B w w9 := (HSW2.out.tr (Stp.of_below HB8.out HR2.out.le)).tr (HS9.out.wide (by simp))
          have HSW9 := Lib.hid hsw9
          have hpl : pl < w.heap.size := hp_lt HL.out.blk
          clear hmf hml hr9 hs9 hl9 hsw9 HS
          by_cases hT : T.2 = 0
          · have t9 : (T.2 != 0) = false := by rw [hT]; rfl
            have hA := HA2.out
            rw [HMF.out, if_neg (by simp [hT])] at hA
            have HA3 := Lib.hid hA
            clear hA hT
            have hl10 : LRepC B (w9.setCell ⟨pl, 2, none⟩ (.int .i64 (L1.last + 1))) pl p { L1 with last := L1.last + 1 } vw2 vs2 := HL9.out.turn 2 _ rfl (by simp only; omega) rfl rfl
            obtain ⟨mnT, msT, blT, hrT⟩ := HR9.out
            have hr10 := hrT.led HL9.out 2 (.int .i64 (L1.last + 1))
            have hsw10 := HSW9.out.tr (HL9.out.setStp 2 (.int .i64 (L1.last + 1)))
            have z0' : (w9.setCell ⟨pl, 2, none⟩ (.int .i64 (L1.last + 1))).cell? ⟨w.heap.size, 0, none⟩ = some (.pointer (some ⟨pl, 0, none⟩)) := other_cell (by omega) z0 _
            have HL10 := Lib.hid hl10; have HR10 := Lib.hid hr10; have HSW10 := Lib.hid hsw10
            have Z0 := Lib.hid z0'
            have zb : (w9.setCell ⟨pl, 2, none⟩ (.int .i64 (L1.last + 1))).heap[w.heap.size]? = some (.cells #[.pointer (some ⟨pl, 0, none⟩)] 26 (0, 0)) := hp_set_ne (HS9.out.fix _ _ _ _ HC0.out (by decide) (by decide) (by simp)) (by show w.heap.size ≠ pl; omega)
            have ZB := Lib.hid zb
            clear zb
            clear hl10 hr10 hsw10 hrT
            go_wp2_with fail
            generalize w9.setCell ⟨pl, 2, none⟩ (.int .i64 (L1.last + 1)) = w10 at *
            have hdb := drew_below w10
            have hsz10 := HSW10.out.size
            have hcl : Calls Tryz.prog 61 #[.pointer (some ⟨pl, 0, none⟩)] w10.drew fun e w11 => e = .returned (.int .i64 (cleanA T.1 (L1.last + 1)).2) ∧ w11.cell? ⟨w.heap.size, 0, none⟩ = some (.pointer (some ⟨pl, 0, none⟩)) ∧
                Hid (Calls Tryz.prog 46 #[.pointer (some ⟨pl, 0, none⟩), .int .i64 (cleanA T.1 (L1.last + 1)).2] w11 fun e w12 => e = .returned (.int .i64 (cleanA T.1 (L1.last + 1)).2) ∧ w12.cell? ⟨w.heap.size, 0, none⟩ = some (.pointer (some ⟨pl, 0, none⟩)) ∧
                  Hid (Rep B w12 p (cleanA T.1 (L1.last + 1)).1 ∧ LRepO B w12 pl p (toldM { L1 with last := L1.last + 1 } (cleanA T.1 (L1.last + 1)).2) vw ∧ Stp [pl] B w w12)) := by
              refine (clean_t (fun x => HF.out (HFLL.out (HML.out x))) ((HE.out.below HSW10.out.below hB).below hdb (Nat.le_trans hB HR10.out.le)) (HR10.out.below hdb) hB (HL10.out.below hdb) HS').mono ?_
              intro e w11 h3
              have h4 := h3.of hdb HR10.out.le
              have hl11 := HL10.out.stp h4.2.2
              have hb0 : w10.heap[w.heap.size]? = some (.cells #[.pointer (some ⟨pl, 0, none⟩)] 26 (0, 0)) := ZB.out
              have q0 := h4.2.2.one hb0 (by decide) (by decide) (by simp)
              refine ⟨h4.1, q0, Lib.hid ?_⟩
              refine (told_t hl11 _).mono ?_
              rintro e w12 ⟨rfl, rfl⟩
              exact ⟨rfl, other_cell (by omega) q0 _, Lib.hid ⟨Rep.led h4.2.1 hl11 4 _, ⟨_, _, hl11.told _, HVB.out⟩, (HSW10.out.tr (h4.2.2.wide (by simp))).tr (hl11.setStp 4 _)⟩⟩
            have hmt : markT T.1 L1 (L1.last + 1) = ((cleanA T.1 (L1.last + 1)).1, toldM { L1 with last := L1.last + 1 } (cleanA T.1 (L1.last + 1)).2, (cleanA T.1 (L1.last + 1)).2) := rfl
            generalize cleanA T.1 (L1.last + 1) = C at *
            have HCL := Lib.hid hcl; have HMT := Lib.hid hmt
            clear hcl hmt hdb
            have z10 := Z0.out
            go_region_held3 (fun w' => w'.cell? ⟨w.heap.size, 0, none⟩ = some (.pointer (some ⟨pl, 0, none⟩))) (go_keep) (first | (go_at_call 61; refine HCL.out.mono ?_; rintro e w11 ⟨rfl, q0, q1⟩) | (go_at_call 46; refine q1.out.mono ?_; rintro e w12 ⟨rfl, q2, q3⟩))
            all_goals go_wp2
            all_goals go_ret
            all_goals unfold LPost
            all_goals rw [HA3.out, HMT.out]
            all_goals exact ⟨rfl, q3.out.1, q3.out.2.1, q3.out.2.2⟩
          · have t9 : (T.2 != 0) = true := bne_iff_ne.2 hT
            have hA := HA2.out
            rw [HMF.out, if_pos hT] at hA
            have HA3 := Lib.hid hA
            have HTO := Lib.hid (told_t HL9.out T.2)
            clear hA hT
            go_wp2_with fail
            refine HTO.out.mono ?_
            rintro e w10 ⟨rfl, rfl⟩
            unfold errv
            go_wp2
            go_ret
            unfold LPost
            rw [HA3.out]
            exact ⟨rfl, Rep.led HR9.out HL9.out 4 _, ⟨_, _, HL9.out.told T.2, HVB.out⟩, HSW9.out.tr (HL9.out.setStp 4 _)⟩
      · have t2 : (k1 != 0) = true := bne_iff_ne.2 hk1
        have hA := HA.out
        rw [if_pos hk1] at hA
        have HA2 := Lib.hid hA
        clear hA hk1
        go_wp2
        go_ret
        unfold LPost
        rw [HA2.out]
        exact ⟨rfl, ⟨_, _, _, HR2.out⟩, ⟨_, _, HL2.out, HVB.out⟩, HSW2.out⟩
  · have t0 : (k != 0) = true := bne_iff_ne.2 h0
    have hA := HMA.out
    rw [if_pos h0] at hA
    have HA := Lib.hid hA
    clear hA hk h0 g1 g2
    go_enter Tryz.func19, Tryz.ntmps19
    go_wp2_with fail
    generalize w.alloc (.cells #[.pointer (some ⟨pl, 0, none⟩)] 26) = w1 at *
    refine HM.out.mono ?_
    rintro e w2 ⟨rfl, rfl⟩
    unfold errv
    go_wp2
    go_ret
    unfold LPost
    rw [HA.out]
    exact ⟨rfl, ⟨_, _, _, HH.out.below H1.out.below⟩, ⟨_, _, HL.out.below H1.out.below, fun _ h => h⟩, Stp.of_below H1.out.below HBB.out⟩
end
end Go.Proofs.YthjilhjdnefmdaaGreatDoor
/- Parts, and a ledger that no call made. Conditions: none. -/
namespace Go.Proofs.YthjilhjdnefmdaaGreatDoor
open Go.RowKit
open Go.ChangeMaps (setBlock)
section
variable {B : Nat} {w w' : World} {p mn ms pl : Nat} {bl : List Nat} {st : St} {L : LM} {vw : Value} {vs : List Value}
theorem partsA_dark (h : st.dark = true) (fr : Int) : partsA st fr = [] := by
  unfold partsA namesA; rw [if_pos h]; simp [partsOf]
set_option maxRecDepth 100000 in
set_option maxHeartbeats 1000000 in
theorem ledParts_t (hE : Env w) (h : RepC B w p mn ms bl st) (hB : 6 ≤ B) (hl : LRepC B w pl p L vw vs) (hs : ∀ q ∈ st.now, q.1.size ≤ 30) :
    Calls Tryz.prog 20 #[.pointer (some ⟨pl, 0, none⟩)] w (PartsPost B w (partsA st 1)) := by
  have HM := Lib.hid (may_t h hl)
  have HON := Lib.hid (on_t h)
  have HP := Lib.hid (parts_t hE h hB hs 1 (by omega))
  have HH := Lib.hid h
  obtain ⟨c0, c1, c2, c3, c4⟩ := hl.cells
  have hz : (L.last == 0) = false := beq_eq_false_iff_ne.2 (by have := hl.lst; omega)
  have hpd : st.dark = true → partsA st 1 = [] := fun h => partsA_dark h 1
  clear hE h hl
  unfold mayA at HM
  cases hk : st.dark
  · rw [hk] at HON HM
    generalize partsA st 1 = all at *
    clear hpd hk
    cases hd : L.dead
    all_goals
      rw [hd] at HM c4
      go_enter Tryz.func20, Tryz.ntmps20
      go_wp2_with fail
      refine HM.out.mono ?_
      rintro e w1 ⟨rfl, rfl⟩
      unfold errv
      go_wp2_with (first
        | (go_at_call 25; refine HON.out.mono ?_; rintro e w2 ⟨rfl, rfl⟩)
        | (go_at_call 29; refine HP.out.mono ?_; rintro e w2 ⟨v, rfl, q1, q2⟩; have Q1 := Lib.hid q1; have Q2 := Lib.hid q2; clear q1 q2))
      go_ret
      exact ⟨v, rfl, Q1.out, Q2.out⟩
  · have hpe := hpd hk
    rw [hk] at HON HM
    have HPE := Lib.hid hpe
    clear hpe hpd hk HP
    have hdd : (L.dead || true) = true := by simp
    rw [hdd] at HM
    clear hdd
    go_enter Tryz.func20, Tryz.ntmps20
    go_wp2_with fail
    refine HM.out.mono ?_
    rintro e w1 ⟨rfl, rfl⟩
    unfold errv
    go_wp2_with (go_at_call 25; refine HON.out.mono ?_; rintro e w2 ⟨rfl, rfl⟩)
    go_ret
    refine ⟨_, rfl, ?_, Below.refl _ _⟩
    rw [HPE.out]
    exact RS.nil _ _ _

/-- A ledger that no call made: nil, or with no last part. -/
def NoLed (w : World) (v : Value) : Prop := v = .pointer none ∨ ∃ b x1, v = .pointer (some ⟨b, 0, none⟩) ∧ w.heap[b]? = some (.cells #[.pointer none, x1, .int .i64 0, .slice none 0 0, .bool false] 47 (0, 0))
theorem NoLed.below {v : Value} (h : NoLed w v) (hb : Below w.heap.size w w') : NoLed w' v := by
  rcases h with h | ⟨b, x1, h1, h2⟩
  · exact .inl h
  · exact .inr ⟨b, x1, h1, (hb.block _ (hp_lt h2)).trans h2⟩
theorem nomay_t {v : Value} (h : NoLed w v) : Calls Tryz.prog 38 #[v] w fun e w' => e = .returned (errv 1) ∧ w = w' := by
  rcases h with rfl | ⟨b, x1, rfl, h2⟩
  · exact may_nil w
  · exact may_zero w (cell_of h2 2)
set_option maxRecDepth 100000 in
theorem noadd_t {v : Value} (h : NoLed w v) (vb : Value) : Calls Tryz.prog 11 #[v, vb] w fun e w' => e = .returned (errv 1) ∧ w = w' := by
  have HM := Lib.hid (nomay_t h)
  clear h
  go_enter Tryz.func11, Tryz.ntmps11
  go_wp2_with fail
  refine HM.out.mono ?_
  rintro e w1 ⟨rfl, rfl⟩
  unfold errv
  go_wp2
  go_ret
  exact ⟨rfl, rfl⟩
set_option maxRecDepth 100000 in
theorem nopending_t {v : Value} (h : NoLed w v) : Calls Tryz.prog 22 #[v] w fun e w' => e = .returned (.int .i64 0) ∧ w = w' := by
  rcases h with rfl | ⟨b, x1, rfl, h2⟩
  · exact pending_nil w
  · have c3 : w.cell? ⟨b, 3, none⟩ = some (.slice none 0 0) := cell_of h2 3
    clear h2
    go_enter Tryz.func22, Tryz.ntmps22
    go_wp2
    go_ret
    exact ⟨rfl, rfl⟩
set_option maxRecDepth 100000 in
theorem noflush_t {v : Value} (h : NoLed w v) : Calls Tryz.prog 13 #[v] w fun e w' => e = .returned (errv 1) ∧ Below w.heap.size w w' := by
  have hb : Below w.heap.size w (w.alloc (.cells #[v] 26)) := (Below.refl _ w).alloc (Nat.le_refl _) _
  have HM := Lib.hid (nomay_t (h.below hb))
  have HB := Lib.hid hb
  have c0 : (w.alloc (.cells #[v] 26)).cell? ⟨w.heap.size, 0, none⟩ = some v := cell_of (hp_new _ _) 0
  have hv : (∃ a, v = .pointer a) := by rcases h with h | ⟨b, x1, h, _⟩ <;> exact ⟨_, h⟩
  obtain ⟨a, rfl⟩ := hv
  clear h hb
  go_enter Tryz.func13, Tryz.ntmps13
  go_wp2_with fail
  generalize w.alloc (.cells #[.pointer a] 26) = w1 at *
  refine HM.out.mono ?_
  rintro e w2 ⟨rfl, rfl⟩
  unfold errv
  go_wp2
  go_ret
  exact ⟨rfl, HB.out⟩
set_option maxRecDepth 100000 in
theorem nomark_t {v : Value} (h : NoLed w v) (vb : Value) : Calls Tryz.prog 19 #[v, vb] w fun e w' => e = .returned (errv 1) ∧ Below w.heap.size w w' := by
  have hb : Below w.heap.size w (w.alloc (.cells #[v] 26)) := (Below.refl _ w).alloc (Nat.le_refl _) _
  have HM := Lib.hid (nomay_t (h.below hb))
  have HB := Lib.hid hb
  have c0 : (w.alloc (.cells #[v] 26)).cell? ⟨w.heap.size, 0, none⟩ = some v := cell_of (hp_new _ _) 0
  have hv : (∃ a, v = .pointer a) := by rcases h with h | ⟨b, x1, h, _⟩ <;> exact ⟨_, h⟩
  obtain ⟨a, rfl⟩ := hv
  clear h hb
  go_enter Tryz.func19, Tryz.ntmps19
  go_wp2_with fail
  generalize w.alloc (.cells #[.pointer a] 26) = w1 at *
  refine HM.out.mono ?_
  rintro e w2 ⟨rfl, rfl⟩
  unfold errv
  go_wp2
  go_ret
  exact ⟨rfl, HB.out⟩
set_option maxRecDepth 100000 in
theorem noparts_t {v : Value} (h : NoLed w v) : Calls Tryz.prog 20 #[v] w fun e w' => e = .returned (.slice none 0 0) ∧ w = w' := by
  have HM := Lib.hid (nomay_t h)
  rcases h with rfl | ⟨b, x1, rfl, h2⟩
  · go_enter Tryz.func20, Tryz.ntmps20
    go_wp2_with fail
    refine HM.out.mono ?_
    rintro e w1 ⟨rfl, rfl⟩
    unfold errv
    go_wp2
    go_ret
    exact ⟨rfl, rfl⟩
  · have c2 : w.cell? ⟨b, 2, none⟩ = some (.int .i64 0) := cell_of h2 2
    clear h2
    go_enter Tryz.func20, Tryz.ntmps20
    go_wp2_with fail
    refine HM.out.mono ?_
    rintro e w1 ⟨rfl, rfl⟩
    unfold errv
    go_wp2
    go_ret
    exact ⟨rfl, rfl⟩
set_option maxRecDepth 100000 in
theorem noopen_t (w : World) (n : Int) (_hn : -9223372036854775808 ≤ n ∧ n ≤ 9223372036854775807) : Calls Tryz.prog 9 #[.pointer none, .int .i64 n] w fun e w' => e = .returned (.tuple #[.pointer none, .slice none 0 0, .slice none 0 0, .int .i64 1]) ∧ Below w.heap.size w w' := by
  have hb : Below w.heap.size w (w.alloc (.cells #[.pointer none] 24)) := (Below.refl _ w).alloc (Nat.le_refl _) _
  have HR := Lib.hid (read_nil 0 (w.alloc (.cells #[.pointer none] 24)) kCheck)
  have HB := Lib.hid hb
  clear hb
  go_enter Tryz.func9, Tryz.ntmps9
  go_wp2_with fail
  generalize w.alloc (.cells #[.pointer none] 24) = w1 at *
  refine HR.out.mono ?_
  rintro e w2 ⟨v, rfl, -, hb2⟩
  unfold errv
  have HB2 := Lib.hid (HB.out.trans (hb2.mono HB.out.size))
  clear hb2
  go_wp2
  (try simp only [Exit.inBlock, Exit.then]); refine bodyPost_ret (results_tmp4 rfl _ _ _) rfl ?_
  exact ⟨rfl, HB2.out⟩
end
end Go.Proofs.YthjilhjdnefmdaaGreatDoor
/- The very same bytes, the very same lists. Conditions: none. -/
namespace Go.Proofs.YthjilhjdnefmdaaGreatDoor
open Go.RowKit
open Go.ChangeMaps (setBlock)
theorem conv_bs {B : Nat} {w : World} {v : Value} {l : List UInt8} (h : BS B w v l) : (convert 27 9 v).run Tryz.prog w = .ok (.string ⟨l.toArray⟩) w := by
  have h1 : Tryz.prog.underlying 27 = some (.slice 5) := by kernel_rfl
  have h2 : Tryz.prog.underlying 5 = some (.int .u8) := by kernel_rfl
  have h3 : Tryz.prog.underlying 9 = some .string := by kernel_rfl
  obtain ⟨a, c, rfl, -, -, hx⟩ := h
  rw [List.length_map]
  cases a with
  | none =>
    have hl : l = [] := by
      rcases hx with hx | ⟨b, o, hb, _⟩
      · simpa using hx
      · cases hb
    subst hl
    show (convert 27 9 (.slice none 0 c)).run Tryz.prog w = _
    rw [run_convert_bytes_string w 27 9 5 none 0 c h1 h2 h3]
    rfl
  | some ad =>
    refine run_convert_bytes_back w 27 9 5 ad c l h1 h2 h3 (fun j hj => ?_)
    rcases hx with hx | ⟨b, o, hb, _, hc⟩
    · simp at hx; rw [hx] at hj; simp at hj
    · cases hb
      have := hc j (bv l[j]) (by simp [List.getElem?_map, List.getElem?_eq_getElem hj])
      have hadd : (⟨b, o, none⟩ : Addr).add j = ⟨b, o + j, none⟩ := by unfold Addr.add; split <;> simp_all
      rw [hadd]; exact this
def BoolPost (r : Bool) (w : World) (e : Ending) (w' : World) : Prop := e = .returned (.bool r) ∧ Below w.heap.size w w'
section
variable {B : Nat} {w : World}
set_option maxRecDepth 100000 in
theorem same21_t {va vb : Value} {a b : List UInt8} (ha : BS B w va a) (hb : BS B w vb b) : Calls Tryz.prog 21 #[va, vb] w fun e w' => e = .returned (.bool (decide (a = b))) ∧ w = w' := by
  have h1 := conv_bs ha
  have h2 := conv_bs hb
  obtain ⟨aa, ca, rfl, -, -⟩ := ha.form
  obtain ⟨ab, cb, rfl, -, -⟩ := hb.form
  clear ha hb
  by_cases hab : a = b
  · have hd : decide (a = b) = true := decide_eq_true hab
    rw [hd]
    subst hab
    go_enter Tryz.func21, Tryz.ntmps21
    go_wp2
    go_ret
    exact ⟨rfl, rfl⟩
  · have hd : decide (a = b) = false := decide_eq_false hab
    rw [hd]
    have hne : (a == b) = false := beq_eq_false_iff_ne.2 hab
    clear hab hd
    go_enter Tryz.func21, Tryz.ntmps21
    go_wp2
    go_ret
    exact ⟨rfl, rfl⟩
set_option maxRecDepth 100000 in
set_option maxHeartbeats 1000000 in
theorem same16_t {va vb : Value} {a b : List (List UInt8)} (hB : B ≤ w.heap.size) (ha : LS B w va a) (hb : LS B w vb b) : Calls Tryz.prog 16 #[va, vb] w (BoolPost (decide (a = b)) w) := by
  obtain ⟨xs, hxs, hxr⟩ := ha
  obtain ⟨ys, hys, hyr⟩ := hb
  obtain ⟨aa, ca, rfl, g1, g2, -⟩ := id hxs
  obtain ⟨ab, cb, rfl, g3, g4, -⟩ := id hys
  have hl1 := hxr.1
  have hl2 := hyr.1
  by_cases hlen : xs.length = ys.length
  · have t1 : ((xs.length : Int) != ys.length) = false := by rw [hlen]; exact bne_self_eq_false' _
    have HX := Lib.hid hxs; have HY := Lib.hid hys; have HXR := Lib.hid hxr; have HYR := Lib.hid hyr
    have HLN := Lib.hid (show xs.length = a.length ∧ ys.length = b.length ∧ xs.length = ys.length from ⟨hl1, hl2, hlen⟩)
    unfold maxLen at g2 g4
    clear hxs hys hxr hyr hl1 hl2 hlen
    go_enter Tryz.func16, Tryz.ntmps16
    go_wp2_with fail
    go_loopw [13] (fun i wr => ∃ k : Nat, k ≤ xs.length ∧ i = .int .i64 k ∧ Hid (Below w.heap.size w wr) ∧ Hid (a.take k = b.take k)) (fun i _ => xs.length - (intOf i).toNat)
    case atStart => exact ⟨0, Nat.zero_le _, rfl, Lib.hid (Below.refl _ _), Lib.hid (by simp)⟩
    case round =>
      obtain ⟨k, hk, rfl, hbw, htk⟩ := hrel
      by_cases hlt : k < xs.length
      · obtain ⟨z1, z2, z3⟩ := HLN.out
        have hlt2 : k < ys.length := by omega
        have hka : k < a.length := by omega
        have hkb : k < b.length := by omega
        clear z1 z2 z3
        obtain ⟨ba, oa, rfl, e1⟩ := (RS.below HX.out hbw.out hB).at.2.2.2 k hlt
        obtain ⟨bb, ob, rfl, e2⟩ := (RS.below HY.out hbw.out hB).at.2.2.2 k hlt2
        have hxa : BS B wr xs[k] a[k] := RS.below (HXR.out.2 k hlt hka) hbw.out hB
        have hyb : BS B wr ys[k] b[k] := RS.below (HYR.out.2 k hlt2 hkb) hbw.out hB
        have hta : a.take (k + 1) = a.take k ++ [a[k]] := List.take_succ_eq_append_getElem hka
        have htb : b.take (k + 1) = b.take k ++ [b[k]] := List.take_succ_eq_append_getElem hkb
        have hdb := drew_below wr
        have hsm := same21_t (RS.below hxa hdb (Nat.le_trans hB hbw.out.size)) (RS.below hyb hdb (Nat.le_trans hB hbw.out.size))
        have hneq : a[k] ≠ b[k] → a ≠ b := by rintro h rfl; exact h rfl
        have HNE := Lib.hid hneq; have HTA := Lib.hid hta; have HTB := Lib.hid htb
        generalize a[k] = x at *
        generalize b[k] = y at *
        obtain ⟨ax, cx, hvx, -, -⟩ := hxa.form
        obtain ⟨ay, cy, hvy, -, -⟩ := hyb.form
        rw [hvx] at e1 hsm
        rw [hvy] at e2 hsm
        have hsm2 : Calls Tryz.prog 21 #[.slice ax x.length cx, .slice ay y.length cy] wr.drew fun e w' => e = .returned (.bool (decide (x = y))) ∧ w'.cell? ⟨ba, oa + k, none⟩ = some (.slice ax x.length cx) ∧ w'.cell? ⟨bb, ob + k, none⟩ = some (.slice ay y.length cy) ∧ Hid (Below wr.heap.size wr w') := by
          refine hsm.mono ?_
          rintro e w' ⟨rfl, rfl⟩
          exact ⟨rfl, e1, e2, Lib.hid hdb⟩
        have HSM := Lib.hid hsm2
        clear hxa hyb hta htb hdb hsm hsm2 hneq hvx hvy
        by_cases hxy : x = y
        · have hd : decide (x = y) = true := decide_eq_true hxy
          rw [hd] at HSM
          have HXY := Lib.hid hxy
          clear hd hxy
          go_wp2_with fail
          go_region_held3 (fun w' => w'.cell? ⟨ba, oa + k, none⟩ = some (.slice ax x.length cx) ∧ w'.cell? ⟨bb, ob + k, none⟩ = some (.slice ay y.length cy)) (go_keep) (first | (go_at_call 21; refine HSM.out.mono ?_; rintro e w2 ⟨rfl, q1, q2, q3⟩))
          go_wp2
          go_roundw
          case rel => exact ⟨k + 1, hlt, rfl, Lib.hid (hbw.out.trans (q3.out.mono hbw.out.size)), Lib.hid (by rw [HTA.out, HTB.out, htk.out, HXY.out])⟩
          case measure => simp [intOf]; omega
        · have hd : decide (x = y) = false := decide_eq_false hxy
          rw [hd] at HSM
          have HAB : Hid (decide (a = b) = false) := Lib.hid (decide_eq_false (HNE.out hxy))
          clear hd hxy
          go_wp2_with fail
          go_region_held3 (fun w' => w'.cell? ⟨ba, oa + k, none⟩ = some (.slice ax x.length cx) ∧ w'.cell? ⟨bb, ob + k, none⟩ = some (.slice ay y.length cy)) (go_keep) (first | (go_at_call 21; refine HSM.out.mono ?_; rintro e w2 ⟨rfl, q1, q2, q3⟩))
          all_goals go_wp2
          all_goals go_ret
          all_goals unfold BoolPost
          all_goals rw [HAB.out]
          all_goals exact ⟨rfl, hbw.out.trans (q3.out.mono hbw.out.size)⟩
      · have hk' : k = xs.length := by omega
        subst hk'
        have hab : a = b := by
          obtain ⟨z1, z2, z3⟩ := HLN.out
          have := htk.out
          rw [List.take_of_length_le (by omega), List.take_of_length_le (by omega)] at this
          exact this
        have hd : Hid (decide (a = b) = true) := Lib.hid (decide_eq_true hab)
        clear hab
        go_wp2
        go_ret
        unfold BoolPost
        rw [hd.out]
        exact ⟨rfl, hbw.out⟩
  · have t1 : ((xs.length : Int) != ys.length) = true := bne_iff_ne.2 (by omega)
    have hd : Hid (decide (a = b) = false) := Lib.hid (decide_eq_false (by rintro rfl; omega))
    clear hxs hys hxr hyr g1 g2 g3 g4 hlen
    go_enter Tryz.func16, Tryz.ntmps16
    go_wp2
    go_ret
    unfold BoolPost
    rw [hd.out]
    exact ⟨rfl, Below.refl _ _⟩
end
end Go.Proofs.YthjilhjdnefmdaaGreatDoor
