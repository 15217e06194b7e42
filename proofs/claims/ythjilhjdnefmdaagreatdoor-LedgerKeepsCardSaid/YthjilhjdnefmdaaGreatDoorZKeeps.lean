/- LedgerKeeps: whatever the input, the law answers true and leaves what came in as it was. Conditions: the row's own (the listed variables hold what the text lays). -/
import Derived.Test.YthjilhjdnefmdaaGreatDoorMI
import Derived.Test.YthjilhjdnefmdaaGreatDoorML
import Derived.Test.YthjilhjdnefmdaaGreatDoorMK
import Derived.Deep.CutBlock
import Derived.Deep.CutRange
import Derived.Test.YthjilhjdnefmdaaGreatDoorMR
import Derived.Deep.Slices
import Derived.Deep.Fields
import Derived.ChangeSame
/- A law that keeps what a log must tell, on a store of which a call will fail. Conditions: none. -/
namespace Go.Proofs.YthjilhjdnefmdaaGreatDoor
open Go.RowKit
open Go.ChangeMaps (setBlock)
def SesC (B : Nat) (w : World) (p pl : Nat) (vw : Value) (part : Int) (chk : List UInt8) (sure waits : List (List UInt8)) (R C N : Int) (one : Int) : Prop :=
  ∃ mn ms bl st L vs, RepC B w p mn ms bl st ∧ LRepC B w pl p L vw vs ∧ LiveC st L chk sure C N ∧ Tame st ∧ L.waits = waits ∧ L.part = part ∧ st.room = R ∧ st.keep = one
theorem crashed_two {k : Int} {c1 c2 : List UInt8} {lo1 hi1 lo2 hi2 : List (List UInt8)} {st : St} (h : Crashed (fun s => Fate k c1 lo1 hi1 s ∨ Fate k c2 lo2 hi2 s) k st) : (Tells (powerA st) c1 lo1 hi1 ∨ Tells (powerA st) c2 lo2 hi2) ∧ Settled (powerA st) ∧ st.dark = true := by
  obtain ⟨s0, s, h1 | h1, h2⟩ := h
  · obtain ⟨a, b, c⟩ := crashed_power ⟨s0, s, h1, h2⟩
    exact ⟨.inl a, b, c⟩
  · obtain ⟨a, b, c⟩ := crashed_power ⟨s0, s, h1, h2⟩
    exact ⟨.inr a, b, c⟩
/-- The store is dark; T: what it is when the power is on. -/
def Down (B : Nat) (w : World) (p : Nat) (T : St → Prop) : Prop := ∃ st, Rep B w p st ∧ Tame st ∧ st.dark = true ∧ T (powerA st) ∧ Settled (powerA st)
section
variable {B : Nat} {w w' : World} {p pl : Nat} {vw : Value} {part : Int} {chk : List UInt8} {sure waits : List (List UInt8)} {R C N : Int} {one : Int}
theorem Live.weaken {st : St} {L : LM} (h : Live st L chk sure C N) {C' N' : Int} (hC : C ≤ C') (hN : N ≤ N') : Live st L chk sure C' N' := by
  obtain ⟨⟨fst, ck, pre, s, h1, h2, h3, h4, h5, h6⟩, hd, hs⟩ := h
  exact ⟨⟨fst, ck, pre, s, h1, h2, h3, h4, by omega, by omega⟩, hd, hs⟩
theorem SesC.weaken (h : SesC B w p pl vw part chk sure waits R C N one) {C' N' : Int} (hC : C ≤ C') (hN : N ≤ N') : SesC B w p pl vw part chk sure waits R C' N' one := by
  obtain ⟨mn, ms, bl, st, L, vs, h1, h2, h3, h4⟩ := h
  exact ⟨mn, ms, bl, st, L, vs, h1, h2, ⟨h3.arm, h3.live.weaken hC hN, h3.set⟩, h4⟩
theorem SesC.below (h : SesC B w p pl vw part chk sure waits R C N one) (hb : Below w.heap.size w w') : SesC B w' p pl vw part chk sure waits R C N one := by
  obtain ⟨mn, ms, bl, st, L, vs, h1, h2, h3⟩ := h
  exact ⟨mn, ms, bl, st, L, vs, h1.below hb, h2.below hb, h3⟩
theorem SesC.le (h : SesC B w p pl vw part chk sure waits R C N one) : B ≤ w.heap.size := by
  obtain ⟨mn, ms, bl, st, L, vs, h1, h2, h3⟩ := h
  exact h1.le
def SesCAdd (B p pl : Nat) (vw : Value) (part : Int) (chk : List UInt8) (sure waits : List (List UInt8)) (R C N : Int) (one : Int) (w : World) (e : Ending) (w' : World) : Prop :=
  e = .returned (.int .i64 0) ∧ ∃ vw', SesC B w' p pl vw' part chk sure waits R C N one ∧ (∀ k, vw'.ownBlock = some k → vw.ownBlock = some k ∨ w.heap.size ≤ k) ∧ Stp (pl :: vw.ownBlock.toList) B w w'
theorem addC_ses (h : SesC B w p pl vw part chk sure waits R C N one) {vb : Value} {lb : List UInt8} (hb : BS B w vb lb) (hl : lb.length ≤ 1048512) (hw : waits.length < 1000) :
    Calls Tryz.prog 11 #[.pointer (some ⟨pl, 0, none⟩), vb] w (SesCAdd B p pl vw part chk sure (waits ++ [lb]) R C N one w) := by
  obtain ⟨mn, ms, bl, st, L, vs, h1, h2, h3, h4, rfl, rfl, rfl, h5⟩ := h
  obtain ⟨e1, e2⟩ := h3.add lb hl hw
  refine (add_t h1 h2 hb).mono ?_
  rw [e1]
  rintro e w' ⟨rfl, g1, ⟨vw', vs', g2, g3⟩, g4⟩
  exact ⟨rfl, vw', ⟨mn, ms, bl, st, _, vs', g1, g2, e2, h4, rfl, rfl, rfl, h5⟩, g3, g4⟩
/-- It went well, or the store failed. -/
def SesCStep (B p pl : Nat) (vw : Value) (part : Int) (chk : List UInt8) (sure waits : List (List UInt8)) (R C N : Int) (one : Int) (T : St → Prop) (w : World) (e : Ending) (w' : World) : Prop :=
  Stp [pl] B w w' ∧ ((e = .returned (.int .i64 0) ∧ ∃ vw', SesC B w' p pl vw' part chk sure waits R C N one ∧ (∀ k, vw'.ownBlock = some k → vw.ownBlock = some k)) ∨ (e = .returned (.int .i64 9) ∧ Down B w' p T))
theorem flushC_ses (hE : Env w) (h : SesC B w p pl vw part chk sure waits R C N one) (hB : 6 ≤ B) (hC : C + (sealsL waits).length + 16 ≤ R) (hN : N + 1 ≤ 999999999) :
    Calls Tryz.prog 13 #[.pointer (some ⟨pl, 0, none⟩)] w (SesCStep B p pl vw part chk (sure ++ waits) [] R (C + (sealsL waits).length + 16) (N + 1) one (fun X => Tells X chk sure (sure ++ waits)) w) := by
  obtain ⟨mn, ms, bl, st, L, vs, h1, h2, h3, h4, rfl, rfl, rfl, h5⟩ := h
  have ht := tame_closed.flush st L h4
  rcases h3.flush hC hN with ⟨st2, L2, e1, e2, e3, e4, e5, e6⟩ | ⟨st2, L2, e1, e2⟩
  · refine (flush_t (fun _ => fail_t) hE h1 hB h2).mono ?_
    rw [e1] at ht ⊢
    rintro e w' ⟨rfl, ⟨mn', ms', bl', g1⟩, ⟨vw', vs', g2, g3⟩, g4⟩
    exact ⟨g4, .inl ⟨rfl, vw', ⟨mn', ms', bl', st2, L2, vs', g1, g2, e2, ht, e4, e5, e3, by rw [e6]; exact h5⟩, g3⟩⟩
  · refine (flush_t (fun _ => fail_t) hE h1 hB h2).mono ?_
    rw [e1] at ht ⊢
    rintro e w' ⟨rfl, g1, -, g4⟩
    obtain ⟨q1, q2, q3⟩ := crashed_power e2
    exact ⟨g4, .inr ⟨rfl, st2, g1, ht, q3, q1, q2⟩⟩
theorem markC_ses (hE : Env w) (h : SesC B w p pl vw part chk sure waits R C N one) (hB : 6 ≤ B) {vb : Value} {c : List UInt8} (hv : BS B w vb c) (hc : c.length ≤ 1048512) (hC : C + (sealsL waits).length + 16 + (c.length + 16) + 32 ≤ R) (hN : N + 2 ≤ 999999999) :
    Calls Tryz.prog 19 #[.pointer (some ⟨pl, 0, none⟩), vb] w (SesCStep B p pl vw part c [] [] R (c.length + 48) (N + 2) one (fun X => Tells X chk sure (sure ++ waits) ∨ Tells X c [] []) w) := by
  obtain ⟨mn, ms, bl, st, L, vs, h1, h2, h3, h4, rfl, rfl, rfl, h5⟩ := h
  have ht := tame_closed.mark st L c h4
  rcases h3.mark c hc hC hN with ⟨st2, L2, e1, e2, e3, e4, e5, e6⟩ | ⟨st2, L2, e1, e2⟩
  · refine (mark_t (fun _ => fail_t) hE h1 hB h2 hv (tame_closed.markE _ _ _ (tame_closed.flush st L h4)).names).mono ?_
    rw [e1] at ht ⊢
    rintro e w' ⟨rfl, ⟨mn', ms', bl', g1⟩, ⟨vw', vs', g2, g3⟩, g4⟩
    exact ⟨g4, .inl ⟨rfl, vw', ⟨mn', ms', bl', st2, L2, vs', g1, g2, e2, ht, e4, e5, e3, by rw [e6]; exact h5⟩, g3⟩⟩
  · refine (mark_t (fun _ => fail_t) hE h1 hB h2 hv (tame_closed.markE _ _ _ (tame_closed.flush st L h4)).names).mono ?_
    rw [e1] at ht ⊢
    rintro e w' ⟨rfl, g1, -, g4⟩
    obtain ⟨q1, q2, q3⟩ := crashed_two e2
    exact ⟨g4, .inr ⟨rfl, st2, g1, ht, q3, q1, q2⟩⟩
end
section
variable {B : Nat} {w w' : World} {p pl : Nat} {vw : Value} {part : Int} {chk : List UInt8} {sure waits : List (List UInt8)} {R C N : Int} {one : Int}
theorem SesC.grown (h : SesC B w p pl vw part chk sure waits R C N one) {v : Value} {n : Nat} {xs : List Value} (hown : w.ownsRow B 27 1 v n xs) (hne : ∀ k, vw.ownBlock = some k → v.ownBlock ≠ some k) (hg : w.grownBy w' v.ownBlock) :
    SesC B w' p pl vw part chk sure waits R C N one := by
  obtain ⟨mn, ms, bl, st, L, vs, h1, h2, h3⟩ := h
  have hB := h1.le
  have hs := grown_stp hB (by decide) hown hg
  have hrep : RepC B w' p mn ms bl st := by
    cases hob : v.ownBlock with
    | none =>
      rw [hob] at hg
      have : Below w.heap.size w w' := (Below.refl _ w).grown hg (Nat.le_refl _) (fun k hk => by cases hk)
      exact h1.below this
    | some g =>
      obtain ⟨cur, hcur⟩ := own_kind hown hob
      rw [hob] at hg
      exact h1.off hcur (by decide) (by decide) (fun k x hk' hx => (hg.block k (hp_lt hx) (by simpa using hk')).trans hx) (fun v l hv => RS.stp hv hs (by decide) (by decide) (fun _ h => absurd rfl h))
  have hkeep : ∀ (k : Nat) (cs : Array Value) (e : TypeId) (fr : Nat × Nat), w.heap[k]? = some (Obj.cells cs e fr) → v.ownBlock ≠ some k → w'.heap[k]? = some (Obj.cells cs e fr) := fun k cs e fr hc hn => (hg.block k (hp_lt hc) (fun he => hn he.symm)).trans hc
  refine ⟨mn, ms, bl, st, L, vs, hrep, ⟨hkeep _ _ _ _ h2.blk (fun hb => ?_), ?_, h2.rows.stp (fun v l hv => RS.stp hv hs (by decide) (by decide) (fun _ h => absurd rfl h)), h2.lpl, h2.few, h2.big, h2.lst, h2.prt⟩, h3⟩
  · obtain ⟨cur, hc⟩ := own_kind hown hb
    have := h2.blk
    rw [hc] at this; unfold ledObj at this; simp at this
  · obtain ⟨q1, q2⟩ := h2.own
    refine ⟨q1, q2.imp id ?_⟩
    rintro ⟨g, cap, cur, hv, hb, hg', r⟩
    exact ⟨g, cap, cur, hv, hb, hkeep _ _ _ _ hg' (hne g (by rw [hv]; rfl)), r⟩
end
/-- The ledger (what it would tell, what waits) and the law's variables (what it thinks that it tells, what waits). -/
structure LawC (B : Nat) (w : World) (p pl : Nat) (part : Int) (lc : List UInt8) (ls lw : List (List UInt8)) (R C N : Int) (one : Int) (vc vs vt : Value) (sc : List UInt8) (ss st : List (List UInt8)) : Prop where
  ses : ∃ vw, SesC B w p pl vw part lc ls lw R C N one ∧ (∀ k, vw.ownBlock = some k → vs.ownBlock ≠ some k) ∧ (∀ k, vw.ownBlock = some k → vt.ownBlock ≠ some k)
  bc : BS B w vc sc
  so : OwnLS B w vs ss
  wo : OwnLS B w vt st
  dis : ∀ k, vs.ownBlock = some k → vt.ownBlock ≠ some k
section
variable {B : Nat} {w w' : World} {p pl : Nat} {part : Int} {lc : List UInt8} {ls lw : List (List UInt8)} {R C N : Int} {one : Int} {vc vs vt : Value} {sc : List UInt8} {ss st : List (List UInt8)}
theorem LawC.le (h : LawC B w p pl part lc ls lw R C N one vc vs vt sc ss st) : B ≤ w.heap.size := by
  obtain ⟨vw, h1, -⟩ := h.ses
  exact h1.le
theorem LawC.below (h : LawC B w p pl part lc ls lw R C N one vc vs vt sc ss st) (hb : Below w.heap.size w w') : LawC B w' p pl part lc ls lw R C N one vc vs vt sc ss st := by
  obtain ⟨⟨vw, h1, h2, h3⟩, hc, hs, hw, hd⟩ := h
  exact ⟨⟨vw, h1.below hb, h2, h3⟩, RS.below hc hb h1.le, hs.below hb h1.le, hw.below hb h1.le, hd⟩
theorem LawC.weaken (h : LawC B w p pl part lc ls lw R C N one vc vs vt sc ss st) {C' N' : Int} (hC : C ≤ C') (hN : N ≤ N') : LawC B w p pl part lc ls lw R C' N' one vc vs vt sc ss st := by
  obtain ⟨⟨vw, h1, h2, h3⟩, hc, hs, hw, hd⟩ := h
  exact ⟨⟨vw, h1.weaken hC hN, h2, h3⟩, hc, hs, hw, hd⟩
theorem sesC_notpl {vw : Value} (h : SesC B w p pl vw part lc ls lw R C N one) {v : Value} {L : List (List UInt8)} (ho : OwnLS B w v L) : v.ownBlock ≠ some pl := by
  obtain ⟨mn, ms, bl, st, L', vs', h1, h2, h3⟩ := h
  obtain ⟨xs, h4, h5⟩ := ho
  intro hb
  obtain ⟨cur, hc⟩ := own_kind h4 hb
  have := h2.blk
  rw [hc] at this; unfold ledObj at this; simp at this
theorem sesC_kinds {vw : Value} (h : SesC B w p pl vw part lc ls lw R C N one) : ∀ k ∈ pl :: vw.ownBlock.toList, ∃ cs e fr, w.heap[k]? = some (Obj.cells cs e fr) ∧ e ≠ 54 := by
  obtain ⟨mn, ms, bl, st, L', vs', h1, h2, h3⟩ := h
  intro k hm
  rcases List.mem_cons.1 hm with rfl | hm
  · exact ⟨_, _, _, h2.blk, by decide⟩
  · cases ho : vw.ownBlock with
    | none => rw [ho] at hm; simp at hm
    | some g =>
      rw [ho] at hm; simp at hm; subst hm
      obtain ⟨cur, hc⟩ := own_kind h2.own ho
      exact ⟨_, _, _, hc, by decide⟩
theorem lawC_add (h : LawC B w p pl part lc ls lw R C N one vc vs vt sc ss st) {vb : Value} {lb : List UInt8} (hb : BS B w vb lb) (hl : lb.length ≤ 1048512) (hw : lw.length < 1000) :
    Calls Tryz.prog 11 #[.pointer (some ⟨pl, 0, none⟩), vb] w (LawPost B w fun w' => LawC B w' p pl part lc ls (lw ++ [lb]) R C N one vc vs vt sc ss st ∧ BS B w' vb lb) := by
  obtain ⟨⟨vw, h1, h2, h3⟩, hc, hs, ht, hd⟩ := h
  have n1 := sesC_notpl h1 hs
  have n2 := sesC_notpl h1 ht
  have hk54 := sesC_kinds h1
  refine (addC_ses h1 hb hl hw).mono ?_
  rintro e w' ⟨rfl, vw', g1, g2, g3⟩
  have hM : ∀ (v : Value), v.ownBlock ≠ some pl → (∀ k, vw.ownBlock = some k → v.ownBlock ≠ some k) → ∀ b, v.ownBlock = some b → b ∉ pl :: vw.ownBlock.toList := by
    intro v q1 q2 b hb' hm
    rcases List.mem_cons.1 hm with rfl | hm
    · exact q1 hb'
    · cases ho : vw.ownBlock with
      | none => rw [ho] at hm; simp at hm
      | some k => rw [ho] at hm; simp at hm; subst hm; exact q2 b ho hb'
  refine ⟨rfl, Lib.hid ⟨⟨⟨vw', g1, fun k hk hk2 => ?_, fun k hk hk2 => ?_⟩, RS.stp hc g3 (by decide) (by decide) (fun _ h => absurd rfl h), hs.stp g3 (hM vs n1 h2), ht.stp g3 (hM vt n2 h3), hd⟩, RS.stp hb g3 (by decide) (by decide) (fun _ h => absurd rfl h)⟩, Lib.hid g3.below, Lib.hid (Keep54.of_stp g3 hk54)⟩
  · rcases g2 k hk with q | q
    · exact h2 k q hk2
    · have := hs.lt k hk2; omega
  · rcases g2 k hk with q | q
    · exact h3 k q hk2
    · have := ht.lt k hk2; omega
theorem lawC_step {vw vw' : Value} (h : LawC B w p pl part lc ls lw R C N one vc vs vt sc ss st) (h1 : SesC B w p pl vw part lc ls lw R C N one) (h2 : ∀ k, vw.ownBlock = some k → vs.ownBlock ≠ some k) (h3 : ∀ k, vw.ownBlock = some k → vt.ownBlock ≠ some k)
    {lc' : List UInt8} {ls' lw' : List (List UInt8)} {R' C' N' : Int} {one' : Int} (g1 : SesC B w' p pl vw' part lc' ls' lw' R' C' N' one') (g2 : ∀ k, vw'.ownBlock = some k → vw.ownBlock = some k) (g3 : Stp [pl] B w w') :
    LawC B w' p pl part lc' ls' lw' R' C' N' one' vc vs vt sc ss st := by
  have n1 := sesC_notpl h1 h.so
  have n2 := sesC_notpl h1 h.wo
  refine ⟨⟨vw', g1, fun k hk => h2 k (g2 k hk), fun k hk => h3 k (g2 k hk)⟩, RS.stp h.bc g3 (by decide) (by decide) (fun _ h => absurd rfl h), h.so.stp g3 (fun b hb hm => ?_), h.wo.stp g3 (fun b hb hm => ?_), h.dis⟩
  · simp at hm; subst hm; exact n1 hb
  · simp at hm; subst hm; exact n2 hb
/-- The store has failed; the law's variables. -/
structure LawD (B : Nat) (w : World) (p : Nat) (T : St → Prop) (vc vs vt : Value) (sc : List UInt8) (ss st : List (List UInt8)) : Prop where
  down : Down B w p T
  bc : BS B w vc sc
  so : OwnLS B w vs ss
  wo : OwnLS B w vt st
def LawCPost (B : Nat) (w : World) (P D : World → Prop) (e : Ending) (w' : World) : Prop := Hid (Below B w w') ∧ Hid (Keep54 w w') ∧ ((e = .returned (.int .i64 0) ∧ Hid (P w')) ∨ (e = .returned (.int .i64 9) ∧ Hid (D w')))
theorem lawC_flush (hE : Env w) (h : LawC B w p pl part lc ls lw R C N one vc vs vt sc ss st) (hB : 6 ≤ B) (hC : C + (sealsL lw).length + 16 ≤ R) (hN : N + 1 ≤ 999999999) :
    Calls Tryz.prog 13 #[.pointer (some ⟨pl, 0, none⟩)] w (LawCPost B w (fun w' => LawC B w' p pl part lc (ls ++ lw) [] R (C + (sealsL lw).length + 16) (N + 1) one vc vs vt sc ss st) (fun w' => LawD B w' p (fun X => Tells X lc ls (ls ++ lw)) vc vs vt sc ss st)) := by
  have h0 := h
  obtain ⟨⟨vw, h1, h2, h3⟩, -⟩ := h0
  have n1 := sesC_notpl h1 h.so
  have n2 := sesC_notpl h1 h.wo
  refine (flushC_ses hE h1 hB hC hN).mono ?_
  rintro e w' ⟨g3, ⟨rfl, vw', g1, g2⟩ | ⟨rfl, g1⟩⟩
  · exact ⟨Lib.hid g3.below, Lib.hid (Keep54.of_stp g3 (fun k hk => sesC_kinds h1 k (by simp at hk; simp [hk]))), .inl ⟨rfl, Lib.hid (lawC_step h h1 h2 h3 g1 g2 g3)⟩⟩
  · exact ⟨Lib.hid g3.below, Lib.hid (Keep54.of_stp g3 (fun k hk => sesC_kinds h1 k (by simp at hk; simp [hk]))), .inr ⟨rfl, Lib.hid ⟨g1, RS.stp h.bc g3 (by decide) (by decide) (fun _ h => absurd rfl h), h.so.stp g3 (fun b hb hm => by simp at hm; subst hm; exact n1 hb), h.wo.stp g3 (fun b hb hm => by simp at hm; subst hm; exact n2 hb)⟩⟩⟩
theorem lawC_mark (hE : Env w) (h : LawC B w p pl part lc ls lw R C N one vc vs vt sc ss st) (hB : 6 ≤ B) {vb : Value} {c : List UInt8} (hv : BS B w vb c) (hc : c.length ≤ 1048512) (hC : C + (sealsL lw).length + 16 + (c.length + 16) + 32 ≤ R) (hN : N + 2 ≤ 999999999) :
    Calls Tryz.prog 19 #[.pointer (some ⟨pl, 0, none⟩), vb] w (LawCPost B w (fun w' => LawC B w' p pl part c [] [] R (c.length + 48) (N + 2) one vc vs vt sc ss st ∧ BS B w' vb c) (fun w' => LawD B w' p (fun X => Tells X lc ls (ls ++ lw) ∨ Tells X c [] []) vc vs vt sc ss st ∧ BS B w' vb c)) := by
  have h0 := h
  obtain ⟨⟨vw, h1, h2, h3⟩, -⟩ := h0
  have n1 := sesC_notpl h1 h.so
  have n2 := sesC_notpl h1 h.wo
  refine (markC_ses hE h1 hB hv hc hC hN).mono ?_
  rintro e w' ⟨g3, ⟨rfl, vw', g1, g2⟩ | ⟨rfl, g1⟩⟩
  · exact ⟨Lib.hid g3.below, Lib.hid (Keep54.of_stp g3 (fun k hk => sesC_kinds h1 k (by simp at hk; simp [hk]))), .inl ⟨rfl, Lib.hid ⟨lawC_step h h1 h2 h3 g1 g2 g3, RS.stp hv g3 (by decide) (by decide) (fun _ h => absurd rfl h)⟩⟩⟩
  · exact ⟨Lib.hid g3.below, Lib.hid (Keep54.of_stp g3 (fun k hk => sesC_kinds h1 k (by simp at hk; simp [hk]))), .inr ⟨rfl, Lib.hid ⟨⟨g1, RS.stp h.bc g3 (by decide) (by decide) (fun _ h => absurd rfl h), h.so.stp g3 (fun b hb hm => by simp at hm; subst hm; exact n1 hb), h.wo.stp g3 (fun b hb hm => by simp at hm; subst hm; exact n2 hb)⟩, RS.stp hv g3 (by decide) (by decide) (fun _ h => absurd rfl h)⟩⟩⟩
/-- The law's waiting row grows. -/
theorem LawC.push (h : LawC B w p pl part lc ls lw R C N one vc vs vt sc ss st) {xs : List Value} (hx : w.ownsRow B 27 1 vt st.length xs) (hr : Rows B w xs st) {vd : Value} {d : List UInt8} (hd : BS B w vd d) {v' : Value}
    (ho : w'.ownsRow B 27 1 v' (st.length + 1) (xs ++ [vd])) (hg : w.grownBy w' vt.ownBlock) (hk : ∀ k, v'.ownBlock = some k → vt.ownBlock = some k ∨ w.heap.size ≤ k) : LawC B w' p pl part lc ls lw R C N one vc vs v' sc ss (st ++ [d]) ∧ Below B w w' := by
  obtain ⟨⟨vw, h1, h2, h3⟩, hc, hs, ht, hdis⟩ := h
  have hstp := grown_stp h1.le (by decide) hx hg
  have hbs : ∀ v l, BS B w v l → BS B w' v l := fun v l hv => RS.stp hv hstp (by decide) (by decide) (fun _ h => absurd rfl h)
  refine ⟨⟨⟨vw, h1.grown hx h3 hg, h2, fun k q1 q2 => ?_⟩, hbs _ _ hc, hs.stp hstp (fun b hb hm => ?_), ?_, fun k q1 q2 => ?_⟩, hstp.below⟩
  · rcases hk k q2 with q | q
    · exact h3 k q1 q
    · obtain ⟨mn, ms, bl, st', L, vs', k1, k2, k3⟩ := h1
      have := (k2.own.lt k q1).2
      omega
  · cases hv : vt.ownBlock with
    | none => rw [hv] at hm; simp at hm
    | some g => rw [hv] at hm; simp at hm; subst hm; exact hdis b hb hv
  · exact ⟨xs ++ [vd], by rw [List.length_append]; exact ho, (hr.stp hbs).snoc (hbs _ _ hd)⟩
  · rcases hk k q2 with q | q
    · exact hdis k q1 q
    · have := hs.lt k q1; omega
/-- What waited is behind what was sure. -/
theorem LawC.move (h : LawC B w p pl part lc ls lw R C N one vc vs vt sc ss st) {xs ys : List Value} (hx : w.ownsRow B 27 1 vs ss.length xs) (hr : Rows B w xs ss) (hry : Rows B w ys st) {v' : Value}
    (ho : w'.ownsRow B 27 1 v' (ss.length + ys.length) (xs ++ ys)) (hg : w.grownBy w' vs.ownBlock) (hk : ∀ k, v'.ownBlock = some k → vs.ownBlock = some k ∨ w.heap.size ≤ k) : LawC B w' p pl part lc ls lw R C N one vc v' (.slice none 0 0) sc (ss ++ st) [] ∧ Below B w w' := by
  obtain ⟨⟨vw, h1, h2, h3⟩, hc, hs, ht, hdis⟩ := h
  have hstp := grown_stp h1.le (by decide) hx hg
  have hbs : ∀ v l, BS B w v l → BS B w' v l := fun v l hv => RS.stp hv hstp (by decide) (by decide) (fun _ h => absurd rfl h)
  refine ⟨⟨⟨vw, h1.grown hx h2 hg, fun k q1 q2 => ?_, fun k _ q2 => by simp [Value.ownBlock] at q2⟩, hbs _ _ hc, ?_, OwnLS.nil _ _, fun k _ q2 => by simp [Value.ownBlock] at q2⟩, hstp.below⟩
  · rcases hk k q2 with q | q
    · exact h2 k q1 q
    · obtain ⟨mn, ms, bl, st', L, vs', k1, k2, k3⟩ := h1
      have := (k2.own.lt k q1).2
      omega
  · refine ⟨xs ++ ys, ?_, (hr.stp hbs).append (hry.stp hbs)⟩
    rw [List.length_append, ← hry.1]
    exact ho
theorem LawC.reset (h : LawC B w p pl part lc ls lw R C N one vc vs vt sc ss st) {vc' : Value} {sc' : List UInt8} (hc : BS B w vc' sc') : LawC B w p pl part lc ls lw R C N one vc' (.slice none 0 0) (.slice none 0 0) sc' [] [] := by
  obtain ⟨⟨vw, h1, h2, h3⟩, -, hs, ht, hdis⟩ := h
  exact ⟨⟨vw, h1, fun k _ q2 => by simp [Value.ownBlock] at q2, fun k _ q2 => by simp [Value.ownBlock] at q2⟩, hc, OwnLS.nil _ _, OwnLS.nil _ _, fun k _ q2 => by simp [Value.ownBlock] at q2⟩
end
end Go.Proofs.YthjilhjdnefmdaaGreatDoor
/- What is sure stays: the first Open, the Plan, the Opens behind the failure. Conditions: none. -/
namespace Go.Proofs.YthjilhjdnefmdaaGreatDoor
open Go.RowKit
open Go.ChangeMaps (setBlock)
theorem new_settled (room : Int) (hr : 16 ≤ room) (part : Int) (hp : 1 ≤ part ∧ part ≤ 1048576) : Settled (openL (newA room) part).st := by
  have hc := calm_new room
  have hk : kErr (newA room) kCheck = 3 := by rw [calm_err hc kCheck goodN_check, view_new]; rfl
  have hf : foundA (newA room) = (1, [], 0) := by unfold foundA; rw [hk]; rfl
  have hpa : partsA (newA room) 1 = [] := by
    unfold partsA namesA namesOf partsOf
    simp [newA]
  have hga : gatherA (newA room) [] 1 = ([], -1, 0) := rfl
  have g1 := goodN_name 1 (by omega) (by omega)
  have hm := calm_make hc g1 (view_new room _) (by unfold freeA usedA; simp [newA]; exact hr)
  have hcm := calm_commit hm.calm
  have hmend : mendA (newA room) [] 1 (-1) = ((commitA (makeA (newA room) (nameA 1)).1).1, 0) := by
    unfold mendA
    rw [if_neg (by omega), if_pos rfl, eachA_step hm.ok, eachA_step hcm.ok, eachA_nil]
  have e : (openL (newA room) part).st = (commitA (makeA (newA room) (nameA 1)).1).1 := by
    unfold openL
    rw [hk, if_neg (by decide), if_neg (by omega), hf]
    simp only
    rw [hpa, hga]
    simp only
    rw [hmend, if_neg (by simp), if_neg (by simp), if_neg (by simp)]
  rw [e]
  obtain ⟨q1, q2, -⟩ := make_ok hc hm.ok
  rw [commit_ok q2]
  refine settled_commit ?_
  rw [q1]
  exact clean_new (fun m i hi => by simp [newA, dget] at hi) hc.toWF _
theorem Log.same {X Y : St} {fst : Int} {ck : Option (List UInt8)} {segs : List (List (List UInt8))} (h : Log X fst ck segs) (hc : Calm Y) (hv : ∀ m, view Y m = view X m) : Log Y fst ck segs :=
  ⟨hc, h.pos, h.ne, h.few, fun e => by rw [hv]; exact h.chk0 e, fun c e => by rw [hv]; exact h.chk1 c e, by rw [hv]; exact h.new, fun i s e => by rw [hv]; exact h.segv i s e, fun n a b c => by rw [hv]; exact h.none n a b c, h.small, fun m hm => h.only m (by rw [← hv]; exact hm)⟩
theorem Live.same {X Y : St} {L : LM} {chk : List UInt8} {sure : List (List UInt8)} {C N : Int} (h : Live X L chk sure C N) (hc : Calm Y) (hv : ∀ m, view Y m = view X m) : Live Y L chk sure C N := by
  obtain ⟨⟨fst, ck, pre, s, h1, h2⟩, hd, hs⟩ := h
  exact ⟨⟨fst, ck, pre, s, h1.same hc hv, h2⟩, hd, hs⟩
section
variable {B : Nat} {w w' : World} {p pl : Nat} {vw : Value} {part : Int} {chk : List UInt8} {sure waits : List (List UInt8)} {R C N : Int}
/-- A ledger whose store is calm, nothing waiting to be sure. -/
def SesS (B : Nat) (w : World) (p pl : Nat) (vw : Value) (part : Int) (chk : List UInt8) (sure waits : List (List UInt8)) (R C N : Int) : Prop :=
  ∃ mn ms bl st L vs, RepC B w p mn ms bl st ∧ LRepC B w pl p L vw vs ∧ Live st L chk sure C N ∧ Settled st ∧ Tame st ∧ L.waits = waits ∧ L.part = part ∧ st.room = R
def FirstKeep (B p : Nat) (part room : Int) (w : World) (e : Ending) (w' : World) : Prop :=
  ∃ pl a1 n1 c1 a2 n2 c2, e = .returned (.tuple #[.pointer (some ⟨pl, 0, none⟩), .slice a1 n1 c1, .slice a2 n2 c2, .int .i64 0]) ∧ Hid (SesS B w' p pl (.slice none 0 0) part [] [] [] room 16 1) ∧ Hid (Stp [] B w w')
theorem first_keep (hE : Env w) (h : Rep B w p (newA R)) (hB : 6 ≤ B) (hr : 16 ≤ R ∧ R ≤ 1048576) (hp : 1 ≤ part ∧ part ≤ 1048576) :
    Calls Tryz.prog 9 #[.pointer (some ⟨p, 0, none⟩), .int .i64 part] w (FirstKeep B p part R w) := by
  obtain ⟨mn, ms, bl, h⟩ := h
  obtain ⟨st1, e1, e2, e3⟩ := Live.new hr.1 hp
  have hse := new_settled R hr.1 part hp
  have ht : Tame (newA R) := Tame.new (by omega) hr.2
  refine (openL_t (fun h => by simp [newA] at h) hE h hB ht.names ht.bytes part).mono ?_
  have ht1 := tame_closed.openL (newA R) part ht
  rw [e1] at ht1 hse
  rw [e1]
  rintro e w' ⟨vp, vc, vr, rfl, hc, hr', ⟨mn', ms', bl', hrep⟩, hs, ⟨h0, -⟩ | ⟨-, pl, rfl, hpl, hblk⟩⟩
  · exact absurd rfl h0
  · obtain ⟨a1, c1, rfl, -⟩ := hc.form
    obtain ⟨vs, hvs, -⟩ := hr'
    obtain ⟨a2, c2, rfl, -⟩ := hvs
    exact ⟨pl, a1, _, c1, a2, _, c2, rfl, Lib.hid ⟨mn', ms', bl', st1, ⟨part, 1, [], false⟩, [], hrep, ⟨hblk, World.ownsRow_nil _ _ _ _, ⟨rfl, fun i h => by simp at h⟩, by have := h.le; omega, by simp, by simp, by simp, hp⟩, e2, hse, ht1, rfl, rfl, e3⟩, Lib.hid hs⟩
theorem plan_keep (h : SesS B w p pl vw part chk sure waits R C N) (n k : Int) (hn : 1 ≤ n ∧ n ≤ 100) :
    Calls Tryz.prog 24 #[.pointer (some ⟨p, 0, none⟩), .int .i64 n, .int .i64 k] w fun e w' => e = .returned (.int .i64 0) ∧ Hid (SesC B w' p pl vw part chk sure waits R C N k) ∧ Hid (Stp [] B w w') := by
  obtain ⟨mn, ms, bl, st, L, vs, h1, h2, h3, h4, h5, h6, h7, h8⟩ := h
  have hcalm : Calm st := by
    obtain ⟨fst, ck, pre, s, hl, -⟩ := h3.ex
    exact hl.calm
  have e1 : planA st n k = ({ st with left := n, keep := k }, 0) := by
    unfold planA
    rw [if_neg (by rw [hcalm.dark]; simp), if_neg (by omega)]
  refine (plan_t h1 n k).mono ?_
  have ht := h5.plan n k
  rw [e1] at ht ⊢
  rintro e w' ⟨rfl, ⟨mn', ms', bl', g1⟩, g2⟩
  refine ⟨rfl, Lib.hid ⟨mn', ms', bl', _, L, vs, g1, h2.stp g2, ⟨⟨by show 0 < n; omega, hn.2, hcalm.dark⟩, h3.same ⟨⟨hcalm.keys, hcalm.inj, hcalm.idx, hcalm.good⟩, hcalm.dark, Int.le_refl _⟩ (fun m => rfl), h4⟩, ht, h6, h7, h8, rfl⟩, Lib.hid g2⟩
end
/-- What may be told. -/
def MayTell (sc : List UInt8) (ss st : List (List UInt8)) (mk : Bool) (sm : List UInt8) (X : St) : Prop := Tells X sc ss (ss ++ st) ∨ (mk = true ∧ Tells X sm [] [])
theorem Tells.reopen {Y : St} {ck : List UInt8} {lo hi : List (List UInt8)} (h : Tells Y ck lo hi) (hs : Settled Y) (n k : Int) (hn : 0 ≤ n ∧ n ≤ 100) :
    ((openL { Y with left := n, keep := k } 80).err = 0 ∨ (openL { Y with left := n, keep := k } 80).err = 9) ∧ Tells (powerA (openL { Y with left := n, keep := k } 80).st) ck lo hi := by
  obtain ⟨fst, cko, pre, s, t, h1, h2⟩ := h
  obtain ⟨h3, t', h4⟩ := h1.reopen hs n k hn 80 (by omega)
  exact ⟨h3, fst, cko, pre, s, t', h4, h2⟩
theorem MayTell.reopen {Y : St} {sc : List UInt8} {ss st : List (List UInt8)} {mk : Bool} {sm : List UInt8} (h : MayTell sc ss st mk sm Y) (hs : Settled Y) (n k : Int) (hn : 0 ≤ n ∧ n ≤ 100) :
    ((openL { Y with left := n, keep := k } 80).err = 0 ∨ (openL { Y with left := n, keep := k } 80).err = 9) ∧ MayTell sc ss st mk sm (powerA (openL { Y with left := n, keep := k } 80).st) := by
  rcases h with h | ⟨h0, h⟩
  · obtain ⟨a, b⟩ := h.reopen hs n k hn
    exact ⟨a, .inl b⟩
  · obtain ⟨a, b⟩ := h.reopen hs n k hn
    exact ⟨a, .inr ⟨h0, b⟩⟩
theorem MayTell.final {Y : St} {sc : List UInt8} {ss st : List (List UInt8)} {mk : Bool} {sm : List UInt8} (h : MayTell sc ss st mk sm Y) :
    ∃ st4 last ck recs, openL Y 80 = ⟨st4, last, ck, recs, 0⟩ ∧ ((ck = sc ∧ ∃ n, ss.length ≤ n ∧ n ≤ (ss ++ st).length ∧ recs = (ss ++ st).take n) ∨ (mk = true ∧ ck = sm ∧ recs = [])) := by
  rcases h with ⟨fst, cko, pre, s, t, h1, h2, n, h3, h4, h5⟩ | ⟨h0, fst, cko, pre, s, t, h1, h2, n, h3, h4, h5⟩
  · obtain ⟨st4, e, -⟩ := h1.opens 80 (by omega)
    exact ⟨st4, _, _, _, e, .inl ⟨h2, n, h3, h4, h5⟩⟩
  · obtain ⟨st4, e, -⟩ := h1.opens 80 (by omega)
    refine ⟨st4, _, _, _, e, .inr ⟨h0, h2, ?_⟩⟩
    rw [h5]; simp
/-- The law's variables and its store. -/
structure Stage (B : Nat) (w0 : World) (p : Nat) (vc vs vt vm : Value) (sc : List UInt8) (ss st : List (List UInt8)) (sm : List UInt8) (G : St → Prop) (w : World) : Prop where
  rep : ∃ X, Rep B w p X ∧ Tame X ∧ G X
  bc : BS B w vc sc
  so : OwnLS B w vs ss
  wo : OwnLS B w vt st
  bm : BS B w vm sm
  below : Below B w0 w
section
variable {B : Nat} {w0 w : World} {p : Nat} {vc vs vt vm : Value} {sc : List UInt8} {ss st : List (List UInt8)} {sm : List UInt8} {mk : Bool} {G : St → Prop}
theorem Rep.le' {X : St} (h : Rep B w p X) : B ≤ w.heap.size := by
  obtain ⟨mn, ms, bl, h⟩ := h
  exact h.le
theorem Stage.go (h : Stage B w0 p vc vs vt vm sc ss st sm G w) {G' : St → Prop} {w' : World} (hs : Stp [] B w w') (hr : ∃ X, Rep B w' p X ∧ Tame X ∧ G' X) : Stage B w0 p vc vs vt vm sc ss st sm G' w' :=
  ⟨hr, BS.stp h.bc hs, h.so.stp hs (fun _ _ hm => by simp at hm), h.wo.stp hs (fun _ _ hm => by simp at hm), BS.stp h.bm hs, h.below.trans hs.below⟩
theorem stage_on (h : Stage B w0 p vc vs vt vm sc ss st sm G w) : ∃ d, Calls Tryz.prog 25 #[.pointer (some ⟨p, 0, none⟩)] w (fun e w' => e = .returned (.bool (!d)) ∧ w = w') ∧ Stage B w0 p vc vs vt vm sc ss st sm (fun X => X.dark = d ∧ G X) w := by
  obtain ⟨X, hr, ht, hg⟩ := h.rep
  have hr0 := hr
  obtain ⟨mn, ms, bl, hr⟩ := hr
  exact ⟨X.dark, on_t hr, ⟨X, hr0, ht, rfl, hg⟩, h.bc, h.so, h.wo, h.bm, h.below⟩
theorem stage_fail (h : Stage B w0 p vc vs vt vm sc ss st sm (fun X => X.dark = false ∧ (X.dark = false → ∀ k, MayTell sc ss st mk sm (after k X) ∧ Settled (after k X))) w) (k : Int) :
    Calls Tryz.prog 26 #[.pointer (some ⟨p, 0, none⟩), .int .i64 k] w fun e w' => e = .returned (.tuple #[]) ∧ Hid (Stage B w0 p vc vs vt vm sc ss st sm (fun X => MayTell sc ss st mk sm (powerA X) ∧ Settled (powerA X)) w') := by
  obtain ⟨X, hr, ht, hd, hg⟩ := h.rep
  obtain ⟨mn, ms, bl, hr⟩ := hr
  refine (fail_t _ _ _ _ _ _ _ k hr).mono ?_
  rintro e w' ⟨rfl, g1, g2⟩
  exact ⟨rfl, Lib.hid (h.go g2 ⟨_, g1, ht.fail k, hg hd k⟩)⟩
theorem stage_power (h : Stage B w0 p vc vs vt vm sc ss st sm (fun X => G (powerA X)) w) : Calls Tryz.prog 27 #[.pointer (some ⟨p, 0, none⟩)] w fun e w' => e = .returned (.tuple #[]) ∧ Hid (Stage B w0 p vc vs vt vm sc ss st sm (fun X => G X ∧ X.dark = false) w') := by
  obtain ⟨X, hr, ht, hg⟩ := h.rep
  obtain ⟨mn, ms, bl, hr⟩ := hr
  refine (powerOn_t hr).mono ?_
  rintro e w' ⟨rfl, g1, g2⟩
  exact ⟨rfl, Lib.hid (h.go g2 ⟨_, g1, ht.power, hg, rfl⟩)⟩
theorem stage_plan (h : Stage B w0 p vc vs vt vm sc ss st sm (fun X => G X ∧ X.dark = false) w) (n k : Int) (hn : 0 ≤ n) : Calls Tryz.prog 24 #[.pointer (some ⟨p, 0, none⟩), .int .i64 n, .int .i64 k] w fun e w' => e = .returned (.int .i64 0) ∧ Hid (Stage B w0 p vc vs vt vm sc ss st sm (fun X => ∃ Y, X = { Y with left := n, keep := k } ∧ G Y) w') := by
  obtain ⟨X, hr, ht, hg, hd⟩ := h.rep
  obtain ⟨mn, ms, bl, hr⟩ := hr
  have e1 : planA X n k = ({ X with left := n, keep := k }, 0) := by
    unfold planA
    rw [if_neg (by rw [hd]; simp), if_neg (by omega)]
  refine (plan_t hr n k).mono ?_
  have ht' := ht.plan n k
  rw [e1] at ht' ⊢
  rintro e w' ⟨rfl, g1, g2⟩
  exact ⟨rfl, Lib.hid (h.go g2 ⟨_, g1, ht', X, rfl, hg⟩)⟩
theorem stage_open (hE : Env w) (hB : 6 ≤ B) (n k : Int) (hn : 0 ≤ n ∧ n ≤ 100) (h : Stage B w0 p vc vs vt vm sc ss st sm (fun X => ∃ Y, X = { Y with left := n, keep := k } ∧ (MayTell sc ss st mk sm Y ∧ Settled Y)) w) :
    Calls Tryz.prog 9 #[.pointer (some ⟨p, 0, none⟩), .int .i64 80] w fun e w' => ∃ vp v1 v2 er, e = .returned (.tuple #[vp, v1, v2, .int .i64 er]) ∧ Hid (er = 0 ∨ er = 9) ∧ Hid (Stage B w0 p vc vs vt vm sc ss st sm (fun X => MayTell sc ss st mk sm (powerA X)) w') := by
  obtain ⟨X, hr, ht, Y, rfl, hm, hs⟩ := h.rep
  obtain ⟨mn, ms, bl, hr⟩ := hr
  obtain ⟨q1, q2⟩ := hm.reopen hs n k hn
  refine (openL_t (fun _ => fail_t) hE hr hB ht.names ht.bytes 80).mono ?_
  rintro e w' ⟨vp, v1, v2, rfl, -, -, g1, g2, -⟩
  exact ⟨vp, v1, v2, _, rfl, Lib.hid q1, Lib.hid (h.go g2 ⟨_, g1, tame_closed.openL _ 80 ht, q2⟩)⟩
theorem stage_last (hE : Env w) (hB : 6 ≤ B) (h : Stage B w0 p vc vs vt vm sc ss st sm (fun X => MayTell sc ss st mk sm X ∧ X.dark = false) w) :
    Calls Tryz.prog 9 #[.pointer (some ⟨p, 0, none⟩), .int .i64 80] w fun e w' => ∃ vp v1 v2 ck recs, e = .returned (.tuple #[vp, v1, v2, .int .i64 0]) ∧ BS B w' v1 ck ∧ LS B w' v2 recs ∧
      Hid ((ck = sc ∧ ∃ n, ss.length ≤ n ∧ n ≤ (ss ++ st).length ∧ recs = (ss ++ st).take n) ∨ (mk = true ∧ ck = sm ∧ recs = [])) ∧ Hid (Stage B w0 p vc vs vt vm sc ss st sm (fun _ => True) w') := by
  obtain ⟨X, hr, ht, hm, hd⟩ := h.rep
  obtain ⟨mn, ms, bl, hr⟩ := hr
  obtain ⟨st4, last, ck, recs, e1, e2⟩ := hm.final
  refine (openL_t (fun _ => fail_t) hE hr hB ht.names ht.bytes 80).mono ?_
  have ht' := tame_closed.openL X 80 ht
  rw [e1] at ht' ⊢
  rintro e w' ⟨vp, v1, v2, rfl, g3, g4, g1, g2, -⟩
  exact ⟨vp, v1, v2, ck, recs, rfl, g3, g4, Lib.hid e2, Lib.hid (h.go g2 ⟨_, g1, ht', trivial⟩)⟩
end
end Go.Proofs.YthjilhjdnefmdaaGreatDoor
/- What is sure stays: the law's walk, up to the failure. Conditions: none. -/
namespace Go.Proofs.YthjilhjdnefmdaaGreatDoor
open Go.RowKit
open Go.ChangeMaps (setBlock)
structure KeepI (B : Nat) (w0 : World) (p pl : Nat) (kp : Int) (W : Nat) (vc vs vt : Value) (w : World) : Prop where
  ex : ∃ sc ss st, LawC B w p pl 80 sc ss st 1048576 (16 + 100 * W - (sealsL st).length) (1 + 2 * W) kp vc vs vt sc ss st ∧ ss.length + st.length ≤ W
  below : Below B w0 w
/-- The loop is over. -/
def KeepE (B : Nat) (w0 : World) (p : Nat) (vc vs vt vm : Value) (mk : Bool) (w : World) : Prop :=
  ∃ sc ss st sm, Stage B w0 p vc vs vt vm sc ss st sm (fun X => (X.dark = true → MayTell sc ss st mk sm (powerA X) ∧ Settled (powerA X)) ∧ (X.dark = false → ∀ k, MayTell sc ss st mk sm (after k X) ∧ Settled (after k X))) w ∧ ss.length + st.length ≤ 200
theorem KeepE.live {B : Nat} {w0 w : World} {p pl : Nat} {kp : Int} {W : Nat} {vc vs vt : Value} (h : KeepI B w0 p pl kp W vc vs vt w) (hW : W ≤ 200) : KeepE B w0 p vc vs vt (.slice none 0 0) false w := by
  obtain ⟨⟨sc, ss, st, ⟨⟨vw, h1, -⟩, h2, h3, h4, -⟩, h6⟩, h7⟩ := h
  obtain ⟨mn, ms, bl, X, L, vs', g1, g2, g3, g4, -⟩ := h1
  refine ⟨sc, ss, st, [], ⟨⟨X, ⟨_, _, _, g1⟩, g4, fun hd => ?_, fun _ k => ?_⟩, h2, h3, h4, RS.nil _ _ _, h7⟩, by omega⟩
  · rw [g3.arm.dark] at hd; cases hd
  · obtain ⟨a, b⟩ := g3.fail k st
    exact ⟨.inl a, b⟩
theorem KeepE.flush {B : Nat} {w0 w : World} {p : Nat} {vc vs vt : Value} {sc : List UInt8} {ss st : List (List UInt8)} (h : LawD B w p (fun X => Tells X sc ss (ss ++ st)) vc vs vt sc ss st) (hn : ss.length + st.length ≤ 200) (hb : Below B w0 w) : KeepE B w0 p vc vs vt (.slice none 0 0) false w := by
  obtain ⟨⟨X, h1, h2, h3, h4, h5⟩, h6, h7, h8⟩ := h
  exact ⟨sc, ss, st, [], ⟨⟨X, h1, h2, fun _ => ⟨.inl h4, h5⟩, fun hd => (by rw [h3] at hd; cases hd)⟩, h6, h7, h8, RS.nil _ _ _, hb⟩, hn⟩
theorem KeepE.mark {B : Nat} {w0 w : World} {p : Nat} {vc vs vt vb : Value} {sc c : List UInt8} {ss st : List (List UInt8)} (h : LawD B w p (fun X => Tells X sc ss (ss ++ st) ∨ Tells X c [] []) vc vs vt sc ss st) (hv : BS B w vb c) (hn : ss.length + st.length ≤ 200) (hb : Below B w0 w) : KeepE B w0 p vc vs vt vb true w := by
  obtain ⟨⟨X, h1, h2, h3, h4, h5⟩, h6, h7, h8⟩ := h
  exact ⟨sc, ss, st, c, ⟨⟨X, h1, h2, fun _ => ⟨h4.imp id (fun h => ⟨rfl, h⟩), h5⟩, fun hd => (by rw [h3] at hd; cases hd)⟩, h6, h7, h8, hv, hb⟩, hn⟩
theorem Stage.imp {B : Nat} {w0 w : World} {p : Nat} {vc vs vt vm : Value} {sc : List UInt8} {ss st : List (List UInt8)} {sm : List UInt8} {G G' : St → Prop} (h : Stage B w0 p vc vs vt vm sc ss st sm G w) (hg : ∀ X, G X → G' X) : Stage B w0 p vc vs vt vm sc ss st sm G' w := by
  obtain ⟨X, h1, h2, h3⟩ := h.rep
  exact ⟨⟨X, h1, h2, hg X h3⟩, h.bc, h.so, h.wo, h.bm, h.below⟩
theorem AS.up {B B' : Nat} {w : World} {v : Value} {acts : List ActM} (h : AS B w v acts) (hB : B ≤ B') : AS B' w v acts := by
  obtain ⟨a', c', he, q1, q2, q3⟩ := h
  exact ⟨a', c', he, q1, q2, q3.imp id (fun ⟨b, o, x1, x2, x3⟩ => ⟨b, o, x1, Nat.lt_of_lt_of_le x2 hB, fun i hi => by
    obtain ⟨ad, cd, nm, n, m, g0, g1, g2, g3, g4, g5⟩ := x3 i hi
    exact ⟨ad, cd, nm, n, m, g0, g1, g2, g3, RS.low g4 hB, g5⟩⟩)⟩
theorem run_build_empty (w : World) : (Instr.buildSlice 22 0 #[]).run Tryz.prog w = .ok (.slice (some ⟨w.heap.size, 0, none⟩) 0 0) (w.alloc (.cells #[] 27)) := by
  kernel_rfl
theorem wpList_build_empty {ops : Array Oper} {rest : List Oper} {o : Oper} {a : Act} {Q : Exit → Act → World → Prop} {w : World} (hgd : o.guard = none) (ho : o.op = .buildSlice 22 0 #[])
    (h : wpList Tryz.prog ops Q rest (a.put o.dst (.slice (some ⟨w.heap.size, 0, none⟩) 0 0)) (w.alloc (.cells #[] 27))) : wpList Tryz.prog ops Q (o :: rest) a w :=
  wpList_plain hgd fun _ hK => by
    unfold Oper.wp
    have e : (execOp a.eval o).run Tryz.prog w = .ok (.value (.slice (some ⟨w.heap.size, 0, none⟩) 0 0)) (w.alloc (.cells #[] 27)) := by
      have := run_build_empty w
      unfold execOp
      rw [ho]
      simp [this, Result.andThen]
    rw [e]
    exact hK _ _ h
theorem made_below {wc w5 : World} (hg : (wc.alloc (.cells #[] 27)).grownBy w5 (Value.ownBlock (.slice (some ⟨wc.heap.size, 0, none⟩) 0 0))) : Below wc.heap.size wc w5 :=
  ((Below.refl _ wc).alloc (Nat.le_refl _) _).grown hg (by simp) (fun k e => by simp [Value.ownBlock] at e; omega)
theorem made_below2 {wc w5 w6 : World} {v5 : Value} (h5 : Below wc.heap.size wc w5) (hk : ∀ k, v5.ownBlock = some k → Value.ownBlock (.slice (some ⟨wc.heap.size, 0, none⟩) 0 0) = some k ∨ (wc.alloc (.cells #[] 27)).heap.size ≤ k) (hg : w5.grownBy w6 v5.ownBlock) : Below wc.heap.size wc w6 :=
  h5.grown hg h5.size (fun k e => by
    rcases hk k e with h | h
    · simp [Value.ownBlock] at h; omega
    · simp at h; omega)
theorem slice_to22 (w : World) (a : Option Addr) (n c k : Nat) (hk : k ≤ c) : (Instr.slice 22 (.slice a n c) none (some (.int .i64 (k : Int))) none).run Tryz.prog w = .ok (.slice a k c) w := by
  have hu : Tryz.prog.underlying 22 = some (.slice 27) := by kernel_rfl
  obtain ⟨i, hi, hz, hs, hb⟩ := slT22.hi
  have h1 : (k : Int) ≤ (c : Int) := by omega
  simp [Instr.slice, run_underlying hu, Instr.sliceBounds, Instr.sliceBound, asIntOf, sizeOf, typeInfo, hi, Result.andThen, Addr.add, hk]
set_option maxRecDepth 100000 in
set_option maxHeartbeats 8000000 in
theorem ledgerKeeps_t {w : World} (hE : Env w) (hB : 6 ≤ w.heap.size) {v : Value} {acts : List ActM} (ha : AS w.heap.size w v acts) (n1 k1 n2 k2 : Int) (hn1 : 0 ≤ n1 ∧ n1 < 18446744073709551616) (hn2 : 0 ≤ n2 ∧ n2 < 18446744073709551616) :
    Calls Tryz.prog 7 #[v, .agg #[.int .u64 n1, .int .i64 k1], .agg #[.int .u64 n2, .int .i64 k2]] w (LivesPost w) := by
  have hsz : (w.alloc (.cells #[.int .u64 n1, .int .i64 k1] 57)).heap.size = w.heap.size + 1 := by simp
  have hbx : Below w.heap.size w ((w.alloc (.cells #[.int .u64 n1, .int .i64 k1] 57)).alloc (.cells #[.int .u64 n2, .int .i64 k2] 57)) := ((Below.refl _ w).alloc (Nat.le_refl _) _).alloc (by simp) _
  have x1 : ((w.alloc (.cells #[.int .u64 n1, .int .i64 k1] 57)).alloc (.cells #[.int .u64 n2, .int .i64 k2] 57)).heap[w.heap.size]? = some (.cells #[.int .u64 n1, .int .i64 k1] 57) := hp_old (hp_new _ _)
  have x2 : ((w.alloc (.cells #[.int .u64 n1, .int .i64 k1] 57)).alloc (.cells #[.int .u64 n2, .int .i64 k2] 57)).heap[w.heap.size + 1]? = some (.cells #[.int .u64 n2, .int .i64 k2] 57) := by
    have := hp_new (w.alloc (.cells #[.int .u64 n1, .int .i64 k1] 57)) (.cells #[.int .u64 n2, .int .i64 k2] 57)
    rw [hsz] at this; exact this
  have HE := Lib.hid (hE.below hbx hB)
  have HA := Lib.hid ((ha.keep hbx (fun v l hv => RS.below hv hbx (Nat.le_refl _))).up hbx.size)
  have HB0 := Lib.hid hbx; have HX := Lib.hid (And.intro x1 x2)
  have HB6 : Hid (6 ≤ ((w.alloc (.cells #[.int .u64 n1, .int .i64 k1] 57)).alloc (.cells #[.int .u64 n2, .int .i64 k2] 57)).heap.size) := Lib.hid (Nat.le_trans hB hbx.size)
  obtain ⟨a, c, rfl, k1', k2', -⟩ := ha
  unfold maxLen at k2'
  clear x1 x2 hsz hbx
  go_enter Tryz.func7, Tryz.ntmps7
  go_wp2_with fail
  generalize hW0 : (w.alloc (.cells #[.int .u64 n1, .int .i64 k1] 57)).alloc (.cells #[.int .u64 n2, .int .i64 k2] 57) = W0 at *
  clear hW0
  refine (light_t HA.out).mono ?_
  rintro e w1 ⟨rfl, hb1⟩
  have B1 := Lib.hid hb1
  have HE1 := Lib.hid (HE.out.below B1.out HB6.out)
  have HB61 : Hid (6 ≤ w1.heap.size) := Lib.hid (Nat.le_trans HB6.out B1.out.size)
  have HBW : Hid (Below w.heap.size w w1) := Lib.hid (HB0.out.trans (B1.out.mono HB0.out.size))
  have HC : Hid (∀ wr, Below w1.heap.size w1 wr → wr.cell? ⟨w.heap.size, 0, none⟩ = some (.int .u64 n1) ∧ wr.cell? ⟨w.heap.size, 1, none⟩ = some (.int .i64 k1) ∧ wr.cell? ⟨w.heap.size + 1, 0, none⟩ = some (.int .u64 n2) ∧ wr.cell? ⟨w.heap.size + 1, 1, none⟩ = some (.int .i64 k2)) := Lib.hid (fun wr hb => by
    have h1 := (B1.out.block _ (hp_lt HX.out.1)).trans HX.out.1
    have h2 := (B1.out.block _ (hp_lt HX.out.2)).trans HX.out.2
    have h1' := (hb.block _ (hp_lt h1)).trans h1
    have h2' := (hb.block _ (hp_lt h2)).trans h2
    exact ⟨cell_of h1' 0, cell_of h1' 1, cell_of h2' 0, cell_of h2' 1⟩)
  have HA1 : Hid (∀ wr, Below w1.heap.size w1 wr → AS w1.heap.size wr (.slice a acts.length c) acts) := Lib.hid (fun wr hb => by
    have h1 := (HA.out.keep B1.out (fun v l hv => RS.below hv B1.out (Nat.le_refl _))).up B1.out.size
    exact h1.keep hb (fun v l hv => RS.below hv hb (Nat.le_refl _)))
  clear hb1
  by_cases hw : wt acts ≤ 200
  · have hd : decide (wt acts ≤ 200) = true := decide_eq_true hw
    have HW := Lib.hid hw
    rw [hd]
    obtain ⟨q1, hq1⟩ : ∃ q : Nat, n1 % 60 = (q : Int) := ⟨(n1 % 60).toNat, by omega⟩
    have hq1' : q1 < 60 := by omega
    obtain ⟨q2, hq2⟩ : ∃ q : Nat, n2 % 6 = (q : Int) := ⟨(n2 % 6).toNat, by omega⟩
    have hq2' : q2 < 6 := by omega
    clear hE hd hw
    go_wp2_with fail
    refine (new_t w1 1048576 (by omega) (by omega)).mono ?_
    rintro e w2 ⟨p, rfl, hr2, hs2⟩
    have B2 := Lib.hid hs2.below
    have C2 := Lib.hid (first_keep (part := 80) (HE1.out.below B2.out HB61.out) hr2 HB61.out (by omega) (by omega))
    clear hr2 hs2
    go_wp2_with fail
    refine C2.out.mono ?_
    rintro e w3 ⟨pl, a1, m1, c1, a2, m2, c2, rfl, H3, S3⟩
    have B3 := Lib.hid (B2.out.trans S3.out.below)
    obtain ⟨y1, y2, -, -⟩ := HC.out _ B3.out
    have C3 := Lib.hid (plan_keep H3.out (1 + (q1 : Int)) k1 (by omega))
    go_wp2_with fail
    refine C3.out.mono ?_
    rintro e w4 ⟨rfl, H4, S4⟩
    have B4 := Lib.hid (B3.out.trans S4.out.below)
    have HI : Hid (KeepI w1.heap.size w1 p pl k1 0 (.slice none 0 0) (.slice none 0 0) (.slice none 0 0) w4) :=
      Lib.hid ⟨⟨[], [], [], ⟨⟨_, H4.out.weaken (by simp [sealsL]) (by simp), fun k _ h => by simp [Value.ownBlock] at h, fun k _ h => by simp [Value.ownBlock] at h⟩, RS.nil _ _ _, OwnLS.nil _ _, OwnLS.nil _ _, fun k h => by simp [Value.ownBlock] at h⟩, by simp⟩, B4.out⟩
    go_upto_block 0 with fail
    go_cut [12, 13, 14, 15, 16] from 17 to 99 (fun s12 s13 s14 s15 s16 wx => ∃ mk, s16 = .bool mk ∧ Hid (KeepE w1.heap.size w1 p s12 s13 s14 s15 mk wx))
    case first =>
      go_wp2_with fail
      go_loopw [12, 13, 14, 15, 16, 57] (fun vc vs vt vm vk i wr => ∃ k : Nat, k ≤ acts.length ∧ i = .int .i64 k ∧ vm = .slice none 0 0 ∧ vk = .bool false ∧ Hid (KeepI w1.heap.size w1 p pl k1 (wt (acts.take k)) vc vs vt wr)) (fun _ _ _ _ _ i _ => acts.length - (intOf i).toNat)
      case atStart => exact ⟨0, Nat.zero_le _, rfl, rfl, rfl, by simpa [wt] using HI⟩
      case round =>
        clear HI
        obtain ⟨k, hk, rfl, rfl, rfl, HI⟩ := hrel
        by_cases hlt : k < acts.length
        · obtain ⟨sc, ss, st, hls, hst⟩ := HI.out.ex
          have HB := Lib.hid HI.out.below
          obtain ⟨_, _, _, _, _, h0 | ⟨b, o, he, hlb, hx⟩⟩ := HA1.out wr HB.out
          · rw [h0] at hlt; simp at hlt
          · subst he
            obtain ⟨ad, cd, nm, n, m, -, -, e2, e3, g4, e5, e6, e7⟩ := hx k hlt
            have hsucc := wt_succ acts k hlt
            have hwl := wt_le acts (k + 1)
            have hw200 := HW.out
            obtain ⟨kd, hkd⟩ : ∃ kd, acts[k].kind = kd := ⟨_, rfl⟩
            obtain ⟨d, hdd⟩ : ∃ d, acts[k].data = d := ⟨_, rfl⟩
            rw [hkd] at e2
            rw [hdd] at e3 g4 hsucc
            obtain ⟨W, hW⟩ : ∃ W, wt (acts.take k) = W := ⟨_, rfl⟩
            obtain ⟨W1, hW1⟩ : ∃ W1, wt (acts.take (k + 1)) = W1 := ⟨_, rfl⟩
            rw [hW] at hls hst hsucc
            rw [hW1] at hsucc hwl
            have hbA : Below wr.heap.size wr (wr.alloc (.cells #[.int .i64 kd, .slice ad d.length cd, .string nm, .int .i64 n, .int .i64 m] 54)) := (Below.refl _ wr).alloc (Nat.le_refl _) _
            have HLA := Lib.hid (hls.below hbA)
            have HDA := Lib.hid (RS.below g4 hbA HB.out.size)
            have HACT := Lib.hid (hp_new wr (.cells #[.int .i64 kd, .slice ad d.length cd, .string nm, .int .i64 n, .int .i64 m] 54))
            have HBA := Lib.hid (HB.out.trans (hbA.mono HB.out.size))
            obtain ⟨ac, cc, rfl⟩ := hls.bc.form2
            obtain ⟨as', cs', rfl⟩ := hls.so.form
            obtain ⟨at', ct', rfl⟩ := hls.wo.form
            have HW1 := Lib.hid hW1
            have hsr : (sealsL ([] : List (List UInt8))).length = 0 := rfl
            have HSR := Lib.hid hsr
            clear hls g4 hx hbA hkd hdd hW hW1 hsr
            by_cases h0 : kd = 0
            · have t0 : (kd == 0) = true := by rw [h0]; rfl
              have C4 := Lib.hid (lawC_add HLA.out HDA.out (by omega) (by omega))
              clear h0
              go_wp2_with fail
              generalize wr.alloc (.cells #[.int .i64 kd, .slice ad d.length cd, .string nm, .int .i64 n, .int .i64 m] 54) = wa at *
              refine C4.out.mono ?_
              rintro e w4 ⟨rfl, H4, B4, K4⟩
              have e8 : w4.cell? ⟨wr.heap.size, 1, none⟩ = some (.slice ad d.length cd) := cell_of (K4.out _ _ _ HACT.out) 1
              have hb8 : Below w4.heap.size w4 (w4.alloc (.cells #[.slice ad d.length cd] 27)) := (Below.refl _ w4).alloc (Nat.le_refl _) _
              have hl5 := H4.out.1.below hb8
              have hd5 := RS.below H4.out.2 hb8 H4.out.1.le
              obtain ⟨xs, hx1, hx2⟩ := hl5.wo
              have hsz := hl5.le
              have HX1 := Lib.hid hx1; have HX2 := Lib.hid hx2; have HL5 := Lib.hid hl5; have HD5 := Lib.hid hd5
              have HB5 := Lib.hid ((HBA.out.trans B4.out).trans (hb8.mono H4.out.1.le))
              clear hb8 hl5 hd5 hx1 hx2
              go_wp2_with (at_builtin; refine wpList_append_rs2 slT22 rfl (.tmp 71) (.tmp 74) rfl w1.heap.size w1.heap.size _ st.length xs rfl HX1.out _ rfl [.slice ad d.length cd] (rs_new w4 27 _ _) (by simp [Value.oneCell']) (by simp only [List.length_singleton]; unfold maxLen; omega) (by simp only [List.length_singleton]; omega) hsz ?_; intro v5 wz ho hg hk5; have P5 := Lib.hid (LawC.push HL5.out HX1.out HX2.out HD5.out ho hg hk5); clear ho hg hk5)
              obtain ⟨stz, hstz⟩ : ∃ stz, st ++ [d] = stz := ⟨_, rfl⟩
              have hsl : (sealsL stz).length = (sealsL st).length + (d.length + 8) := by rw [← hstz, sealsL_app, List.length_append, sealsL_sum [d]]; simp
              have hln : stz.length = st.length + 1 := by rw [← hstz]; simp
              rw [hstz] at P5
              have HZ : Hid (KeepI w1.heap.size w1 p pl k1 (wt (acts.take (k + 1))) (.slice ac sc.length cc) (.slice as' ss.length cs') v5 wz) := Lib.hid (by
                rw [HW1.out]
                exact ⟨⟨sc, ss, stz, P5.out.1.weaken (by omega) (by omega), by omega⟩, HB5.out.trans P5.out.2⟩)
              clear hstz hsl hln
              go_roundw
              case rel => exact ⟨k + 1, hlt, by go_num, rfl, rfl, HZ⟩
              case measure => simp [intOf]; omega
            · have t0 : (kd == 0) = false := beq_eq_false_iff_ne.2 h0
              by_cases h1 : kd = 1
              · have t1 : (kd == 1) = true := by rw [h1]; rfl
                clear h0 h1
                have C4 := Lib.hid (lawC_flush (HE1.out.below HBA.out HB61.out) HLA.out HB61.out (by omega) (by omega))
                go_wp2_with fail
                generalize wr.alloc (.cells #[.int .i64 kd, .slice ad d.length cd, .string nm, .int .i64 n, .int .i64 m] 54) = wa at *
                refine C4.out.mono ?_
                rintro e w4 ⟨B4, K4, ⟨rfl, H4⟩ | ⟨rfl, H4⟩⟩
                · obtain ⟨xs, hx1, hx2⟩ := H4.out.so
                  obtain ⟨ys, hy1, hy2⟩ := H4.out.wo
                  have hyl := hy2.1
                  have hsz := H4.out.le
                  have HX1 := Lib.hid hx1; have HX2 := Lib.hid hx2; have HY1 := Lib.hid (RS.of_owns (B := w1.heap.size) hy1); have HY2 := Lib.hid hy2
                  have HB5 := Lib.hid (HBA.out.trans B4.out)
                  clear hx1 hx2 hy1 hy2
                  go_wp2_with (at_builtin; refine wpList_append_rs2 slT22 rfl (.tmp 82) (.tmp 83) rfl w1.heap.size w1.heap.size _ ss.length xs rfl HX1.out _ rfl ys HY1.out HY2.out.one (by unfold maxLen; omega) (by omega) hsz ?_; intro v5 wz ho hg hk5; have P5 := Lib.hid (LawC.move H4.out HX1.out HX2.out HY2.out ho hg hk5); clear ho hg hk5)
                  obtain ⟨ssz, hssz⟩ : ∃ ssz, ss ++ st = ssz := ⟨_, rfl⟩
                  have hln : ssz.length = ss.length + st.length := by rw [← hssz]; simp
                  rw [hssz] at P5
                  have HZ : Hid (KeepI w1.heap.size w1 p pl k1 (wt (acts.take (k + 1))) (.slice ac sc.length cc) v5 (.slice none 0 0) wz) := Lib.hid (by
                    rw [HW1.out]
                    exact ⟨⟨sc, ssz, [], P5.out.1.weaken (by rw [HSR.out]; omega) (by omega), by simp only [List.length_nil]; omega⟩, HB5.out.trans P5.out.2⟩)
                  clear hssz hln
                  go_roundw
                  case rel => exact ⟨k + 1, hlt, by go_num, rfl, rfl, HZ⟩
                  case measure => simp [intOf]; omega
                · have HK : Hid (KeepE w1.heap.size w1 p (.slice ac sc.length cc) (.slice as' ss.length cs') (.slice at' st.length ct') (.slice none 0 0) false w4) := Lib.hid (KeepE.flush H4.out (by omega) (HBA.out.trans B4.out))
                  go_wp2_with fail
                  go_meet
                  exact ⟨_, rfl, HK⟩
              · have t1 : (kd == 1) = false := beq_eq_false_iff_ne.2 h1
                by_cases h2 : kd = 2
                · have t2 : (kd == 2) = true := by rw [h2]; rfl
                  clear h0 h1 h2
                  have C4 := Lib.hid (lawC_mark (HE1.out.below HBA.out HB61.out) HLA.out HB61.out HDA.out (by omega) (by omega) (by omega))
                  go_wp2_with fail
                  generalize wr.alloc (.cells #[.int .i64 kd, .slice ad d.length cd, .string nm, .int .i64 n, .int .i64 m] 54) = wa at *
                  refine C4.out.mono ?_
                  rintro e w4 ⟨B4, K4, ⟨rfl, H4⟩ | ⟨rfl, H4⟩⟩
                  · have e8 : w4.cell? ⟨wr.heap.size, 1, none⟩ = some (.slice ad d.length cd) := cell_of (K4.out _ _ _ HACT.out) 1
                    have HZ : Hid (KeepI w1.heap.size w1 p pl k1 (wt (acts.take (k + 1))) (.slice ad d.length cd) (.slice none 0 0) (.slice none 0 0) w4) := Lib.hid (by
                      rw [HW1.out]
                      exact ⟨⟨d, [], [], (H4.out.1.reset H4.out.2).weaken (by rw [HSR.out]; omega) (by omega), by simp⟩, HBA.out.trans B4.out⟩)
                    go_wp2_with fail
                    go_roundw
                    case rel => exact ⟨k + 1, hlt, by go_num, rfl, rfl, HZ⟩
                    case measure => simp [intOf]; omega
                  · have e8 : w4.cell? ⟨wr.heap.size, 1, none⟩ = some (.slice ad d.length cd) := cell_of (K4.out _ _ _ HACT.out) 1
                    have HK : Hid (KeepE w1.heap.size w1 p (.slice ac sc.length cc) (.slice as' ss.length cs') (.slice at' st.length ct') (.slice ad d.length cd) true w4) := Lib.hid (KeepE.mark H4.out.1 H4.out.2 (by omega) (HBA.out.trans B4.out))
                    go_wp2_with fail
                    go_meet
                    exact ⟨_, rfl, HK⟩
                · have t2 : (kd == 2) = false := beq_eq_false_iff_ne.2 h2
                  clear h0 h1 h2
                  have HZ : Hid (KeepI w1.heap.size w1 p pl k1 (wt (acts.take (k + 1))) (.slice ac sc.length cc) (.slice as' ss.length cs') (.slice at' st.length ct') (wr.alloc (.cells #[.int .i64 kd, .slice ad d.length cd, .string nm, .int .i64 n, .int .i64 m] 54))) := Lib.hid (by
                    rw [HW1.out]
                    exact ⟨⟨sc, ss, st, HLA.out.weaken (by omega) (by omega), by omega⟩, HBA.out⟩)
                  go_wp2_with fail
                  go_roundw
                  case rel => exact ⟨k + 1, hlt, by go_num, rfl, rfl, HZ⟩
                  case measure => simp [intOf]; omega
        · have HK : Hid (KeepE w1.heap.size w1 p _ _ _ (.slice none 0 0) false wr) := Lib.hid (KeepE.live HI.out (Nat.le_trans (wt_le acts k) HW.out))
          go_wp2_with fail
          go_meet
          exact ⟨_, rfl, HK⟩
    case rest =>
      obtain ⟨mk, rfl, HK⟩ := hcut
      obtain ⟨sc, ss, st, sm, hst, hcnt⟩ := HK.out
      obtain ⟨d, hon, hst2⟩ := stage_on hst
      obtain ⟨ac, cc, rfl⟩ := hst.bc.form2
      obtain ⟨as', cs', rfl⟩ := hst.so.form
      obtain ⟨at', ct', rfl⟩ := hst.wo.form
      obtain ⟨am, cm, rfl⟩ := hst.bm.form2
      obtain ⟨-, y2, -, -⟩ := HC.out _ hst.below
      have HS2 := Lib.hid hst2; have HCNT := Lib.hid hcnt; have HON := Lib.hid hon
      clear hst hst2 hcnt hon HK HI y1
      go_wp2_with fail
      refine HON.out.mono ?_
      rintro e w' ⟨rfl, rfl⟩
      go_upto_if 101 with fail
      go_cut [12] from 102 to 105 (fun s12 wx => s12 = .slice ac sc.length cc ∧ Hid (Stage w1.heap.size w1 p (.slice ac sc.length cc) (.slice as' ss.length cs') (.slice at' st.length ct') (.slice am sm.length cm) sc ss st sm (fun X => MayTell sc ss st mk sm (powerA X) ∧ Settled (powerA X)) wx))
      case first =>
        cases d with
        | true =>
          have H := Lib.hid (HS2.out.imp (fun X h => h.2.1 h.1))
          go_wp2_with fail
          go_meet
          exact ⟨rfl, H⟩
        | false =>
          have C5 := Lib.hid (stage_fail (mk := mk) (HS2.out.imp (fun X h => ⟨h.1, h.2.2⟩)) k1)
          go_wp2_with fail
          refine C5.out.mono ?_
          rintro e w5 ⟨rfl, H5⟩
          go_wp2_with fail
          go_meet
          exact ⟨rfl, H5⟩
      case rest =>
        obtain ⟨rfl, HF⟩ := hcut
        have C6 := Lib.hid (stage_power (G := fun X => MayTell sc ss st mk sm X ∧ Settled X) HF.out)
        go_wp2_with fail
        refine C6.out.mono ?_
        rintro e w6 ⟨rfl, H6⟩
        obtain ⟨-, -, y3, y4⟩ := HC.out _ H6.out.below
        have C7 := Lib.hid (stage_plan H6.out (q2 : Int) k2 (by omega))
        go_wp2_with fail
        refine C7.out.mono ?_
        rintro e w7 ⟨rfl, H7⟩
        have C8 := Lib.hid (stage_open (HE1.out.below H7.out.below HB61.out) HB61.out (q2 : Int) k2 (by omega) H7.out)
        go_wp2_with fail
        refine C8.out.mono ?_
        rintro e w8 ⟨vp8, v18, v28, er, rfl, HER, H8⟩
        go_upto_region 36 with fail
        go_cut [128] from 123 to 128 (fun s128 wx => s128 = .bool false ∧ wx = w8)
        case first =>
          rcases HER.out with rfl | rfl
          · go_wp2_with fail
            go_meet
            exact ⟨rfl, rfl⟩
          · go_wp2_with fail
            go_meet
            exact ⟨rfl, rfl⟩
        case rest =>
          obtain ⟨rfl, rfl⟩ := hcut
          have C9 := Lib.hid (stage_power (G := fun X => MayTell sc ss st mk sm X) H8.out)
          go_wp2_with fail
          refine C9.out.mono ?_
          rintro e w9 ⟨rfl, H9⟩
          have C10 := Lib.hid (stage_last (HE1.out.below H9.out.below HB61.out) HB61.out H9.out)
          go_wp2_with fail
          refine C10.out.mono ?_
          rintro e w10 ⟨vp, v1, v2, ck, recs, rfl, hv1, hv2, HO, H10⟩
          have CS := same21_t hv1 H10.out.bm
          have CK := same21_t hv1 H10.out.bc
          have HV2 := Lib.hid hv2
          obtain ⟨vs2, hv2r, hrw⟩ := hv2
          obtain ⟨a2', c2', rfl, hvc, hvm, -⟩ := hv2r
          obtain ⟨a1', c1', rfl⟩ := hv1.form2
          have hvl : vs2.length = recs.length := hrw.1
          rw [hvl] at HV2 hvc ⊢
          clear hrw hvl
          have HCS := Lib.hid CS; have HCK := Lib.hid CK
          have HV1 := Lib.hid hv1
          clear hv1 CS CK
          go_upto_region 42 with fail
          go_cut [150] from 140 to 150 (fun s150 wx => ∃ x, s150 = .bool x ∧ Hid (x = false → ck = sc ∧ ∃ n, ss.length ≤ n ∧ n ≤ (ss ++ st).length ∧ recs = (ss ++ st).take n) ∧ wx = w10)
          case first =>
            cases mk with
            | false =>
              have H := Lib.hid (HO.out.resolve_right (fun h => by cases h.1))
              go_wp2_with fail
              go_meet
              exact ⟨false, rfl, Lib.hid (fun _ => H.out), rfl⟩
            | true =>
              by_cases hs : ck = sm
              · have hd : decide (ck = sm) = true := decide_eq_true hs
                by_cases hr : recs = []
                · have hl : ((recs.length : Int) == 0) = true := by rw [hr]; rfl
                  have hl2 : (recs.length == 0) = true := by rw [hr]; rfl
                  rw [hd] at HCS
                  clear hs hr hd
                  go_wp2_with fail
                  refine HCS.out.mono ?_
                  rintro e w' ⟨rfl, rfl⟩
                  go_wp2_with fail
                  go_meet
                  exact ⟨_, rfl, Lib.hid (fun h => by cases h), rfl⟩
                · have hlen : recs.length ≠ 0 := fun h => hr (List.length_eq_zero_iff.1 h)
                  have hl : ((recs.length : Int) == 0) = false := beq_eq_false_iff_ne.2 (by omega)
                  have hl2 : (recs.length == 0) = false := beq_eq_false_iff_ne.2 hlen
                  have H := Lib.hid (HO.out.resolve_right (fun h => hr h.2.2))
                  rw [hd] at HCS
                  clear hs hr hd hlen
                  go_wp2_with fail
                  refine HCS.out.mono ?_
                  rintro e w' ⟨rfl, rfl⟩
                  go_wp2_with fail
                  go_meet
                  exact ⟨_, rfl, Lib.hid (fun _ => H.out), rfl⟩
              · have hd : decide (ck = sm) = false := decide_eq_false hs
                have H := Lib.hid (HO.out.resolve_right (fun h => hs h.2.1))
                rw [hd] at HCS
                clear hs hd
                go_wp2_with fail
                refine HCS.out.mono ?_
                rintro e w' ⟨rfl, rfl⟩
                go_wp2_with fail
                go_meet
                exact ⟨_, rfl, Lib.hid (fun _ => H.out), rfl⟩
          case rest =>
            obtain ⟨x, rfl, HXF, rfl⟩ := hcut
            cases x with
            | true =>
              go_wp2_with fail
              refine (lives_t (HE1.out.below H10.out.below HB61.out) (Nat.le_trans HB61.out H10.out.below.size)).mono ?_
              rintro e w11 ⟨rfl, hb11⟩
              go_wp2
              go_ret
              exact ⟨rfl, HBW.out.trans ((H10.out.below.trans (hb11.mono H10.out.below.size)).mono HBW.out.size)⟩
            | false =>
              obtain ⟨hck, nn, hn1, hn2, hrec⟩ := HXF.out rfl
              have HN := Lib.hid (And.intro hn1 (And.intro hn2 hrec))
              obtain ⟨xs, hx1, hx2⟩ := H10.out.so
              obtain ⟨ys, hy1, hy2⟩ := H10.out.wo
              have hxl := hx2.1
              have hyl := hy2.1
              have hle : w1.heap.size ≤ wc.heap.size := H10.out.below.size
              have hba : Below wc.heap.size wc (wc.alloc (.cells #[] 27)) := (Below.refl _ wc).alloc (Nat.le_refl _) _
              have HOW : Hid ((wc.alloc (.cells #[] 27)).ownsRow w1.heap.size 27 1 (.slice (some ⟨wc.heap.size, 0, none⟩) 0 0) 0 []) := Lib.hid (World.ownsRow_made wc #[] 0 hle (by unfold maxLen; omega) rfl)
              have HSX := Lib.hid (RS.below (RS.of_owns (B := w1.heap.size) hx1) hba hle)
              have HSY := Lib.hid (RS.of_owns (B := w1.heap.size) hy1)
              have HX2 := Lib.hid hx2; have HY2 := Lib.hid hy2; have HLE := Lib.hid hle; have HCKE := Lib.hid hck
              have hsz1 : w1.heap.size ≤ (wc.alloc (.cells #[] 27)).heap.size := by simp; omega
              have hcn := HCNT.out
              clear hck hn1 hn2 hrec hx1 hx2 hy1 hy2 hba hle HCK
              go_wp2_with (first
                | (refine wpList_build_empty rfl rfl ?_)
                | (at_builtin; refine wpList_append_rs2 slT22 rfl (.tmp 152) (.tmp 153) rfl w1.heap.size w1.heap.size _ 0 [] rfl HOW.out _ rfl xs HSX.out HX2.out.one (by unfold maxLen; omega) (by omega) hsz1 ?_; intro v5 w5 ho5 hg5 hk5; have P5 := Lib.hid (And.intro ho5 (And.intro (made_below hg5) hk5)); clear ho5 hg5 hk5)
                | (at_builtin; refine wpList_append_rs2 slT22 rfl (.tmp 154) (.tmp 155) rfl w1.heap.size w1.heap.size _ (0 + xs.length) ([] ++ xs) rfl P5.out.1 _ rfl ys (RS.below HSY.out P5.out.2.1 HLE.out) HY2.out.one (by unfold maxLen; omega) (by omega) (Nat.le_trans HLE.out P5.out.2.1.size) ?_; intro v6 w6 ho6 hg6 hk6; have P6 := Lib.hid (And.intro ho6 (made_below2 P5.out.2.1 P5.out.2.2 hg6)); clear ho6 hg6 hk6))
              obtain ⟨a6, c6, rfl⟩ := own_form P6.out.1
              have hNN : 0 + xs.length + ys.length = (ss ++ st).length := by rw [List.length_append]; omega
              have P6o : w6.ownsRow w1.heap.size 27 1 (.slice a6 (0 + xs.length + ys.length) c6) (0 + xs.length + ys.length) ([] ++ xs ++ ys) := P6.out.1
              rw [hNN] at P6o ⊢
              have hbs : ∀ v l, BS w1.heap.size wc v l → BS w1.heap.size w6 v l := fun v l hv => RS.below hv P6.out.2 HLE.out
              have hall : LS w1.heap.size w6 (.slice a6 (ss ++ st).length c6) (ss ++ st) := ⟨xs ++ ys, RS.of_owns P6o, (HX2.out.stp hbs).append (HY2.out.stp hbs)⟩
              have hrecs : LS w1.heap.size w6 (.slice a2' recs.length c2') recs := by
                obtain ⟨vs, q1, q2⟩ := HV2.out
                exact ⟨vs, RS.below q1 P6.out.2 HLE.out, q2.stp hbs⟩
              have hc6 : (ss ++ st).length ≤ c6 := by
                obtain ⟨vs, ⟨a', c', he, q1, -⟩, q2⟩ := hall
                simp only [Value.slice.injEq] at he
                obtain ⟨-, he2, he3⟩ := he
                omega
              obtain ⟨hn1, hn2, hrec⟩ := HN.out
              have hrl : recs.length = nn := by rw [hrec, List.length_take]; omega
              have hd1 : decide (ss.length ≤ recs.length) = true := decide_eq_true (by omega)
              have hd2 : decide (recs.length ≤ (ss ++ st).length) = true := decide_eq_true (by omega)
              have hsl := fun w => slice_to22 w a6 (ss ++ st).length c6 recs.length (by omega)
              have CK6 := same21_t (hbs _ _ HV1.out) (hbs _ _ H10.out.bc)
              rw [decide_eq_true HCKE.out] at CK6
              have CR6 := same16_t (B := w1.heap.size) (Nat.le_trans HLE.out P6.out.2.size) hrecs (hall.take recs.length (by omega))
              rw [decide_eq_true (show recs = (ss ++ st).take recs.length by rw [hrl]; exact hrec)] at CR6
              have HCK6 := Lib.hid CK6; have HCR6 := Lib.hid CR6
              have HB6w := Lib.hid (H10.out.below.trans (P6.out.2.mono HLE.out))
              obtain ⟨NA, hNA⟩ : ∃ NA, (ss ++ st).length = NA := ⟨_, rfl⟩
              rw [hNA] at hd2 hsl ⊢
              clear CK6 CR6 hall hrecs hc6 hn1 hn2 hrec hrl hNN P6o hbs hNA
              refine HCK6.out.mono ?_
              rintro e w' ⟨rfl, rfl⟩
              go_wp2_with fail
              refine HCR6.out.mono ?_
              rintro e w7 ⟨rfl, hb7⟩
              have HB7 := Lib.hid (HB6w.out.trans (hb7.mono HB6w.out.size))
              go_wp2_with fail
              refine (lives_t (HE1.out.below HB7.out HB61.out) (Nat.le_trans HB61.out HB7.out.size)).mono ?_
              rintro e w11 ⟨rfl, hb11⟩
              go_wp2
              go_ret
              exact ⟨rfl, HBW.out.trans ((HB7.out.trans (hb11.mono HB7.out.size)).mono HBW.out.size)⟩
  · have hd : decide (wt acts ≤ 200) = false := decide_eq_false hw
    rw [hd]
    clear hE hd hw
    go_wp2_with fail
    refine (lives_t HE1.out HB61.out).mono ?_
    rintro e w3 ⟨rfl, hb3⟩
    go_wp2
    go_ret
    exact ⟨rfl, HBW.out.trans (hb3.mono HBW.out.size)⟩
end Go.Proofs.YthjilhjdnefmdaaGreatDoor
/- From what a row reads to what the walks ask: slices of acts. Conditions: none. -/
namespace Go.Proofs.YthjilhjdnefmdaaGreatDoor
open Go.ChangeShapes Go.WideShapes Go.ChangeAt Go.WideMaps Go.WideElems Go.RowKit Go.Deep
set_option maxRecDepth 100000
section
variable {H : Type} {enc : TypeId × Value → H} {P : Program} {w : World} {base : Nat} {spare : Nat → Bool} {held : Bool}
theorem open_slice_fields {t e : TypeId} {fs : Array Field} {fuel : Nat} {cs : List Value} {x : DataW H × List MemPlace} (ht : P.underlying t = some (.slice e)) (he : P.underlying e = some (.struct fs))
    (hone : oneCellFields P fs = true) (hC : P.cellsOf e = fs.size) (h : DataW.trod enc P w base spare held fuel t cs = some x) :
    (cs = [.slice none 0 0] ∧ x = (.nil, [])) ∨
    ∃ (a : Addr) (len cap m : Nat) (D : Nat → DataW H) (Pl : Nat → List MemPlace), cs = [.slice (some a) len cap] ∧ base ≤ a.block ∧ len ≤ cap ∧ cap ≤ maxLen ∧ m = (if spare a.block then cap else len) ∧
      x = (.slice ((List.range len).map D) ((List.range (m - len)).map fun j => D (len + j)), MemPlace.row a (m * fs.size) ++ (List.range m).flatMap Pl) ∧
      ∀ i, i < m → ∃ (ys : List (DataW H × List MemPlace)) (n : Nat), D i = .agg (ys.map (·.1)) ∧ Pl i = ys.flatMap (·.2) ∧ ys.length = fs.size ∧
        ∀ (j : Nat) (f : Field), fs[j]? = some f → ∃ (v : Value) (y : DataW H × List MemPlace), w.cell? (a.add (i * fs.size + j)) = some v ∧ ys[j]? = some y ∧ DataW.trod enc P w base spare held n f.type [v] = some y := by
  rcases open_slice ht h with h0 | ⟨a, len, cap, m, n, D, Pl, hcs, hb, hl, hm, hmm, hx, hi⟩
  · exact .inl h0
  · refine .inr ⟨a, len, cap, m, D, Pl, hcs, hb, hl, hm, hmm, by rw [hC] at hx; exact hx, fun i him => ?_⟩
    obtain ⟨cs', hc, ht'⟩ := hi i him
    rw [hC] at hc
    obtain ⟨ys, n', hn', hy, hlen, hyl, hf⟩ := DataW.trod_struct he ht'
    obtain ⟨_, hcl, hat⟩ := World.cells?_some hc
    simp only [Prod.mk.injEq] at hy
    refine ⟨ys, n', hy.1, hy.2, hyl, fun j f hj => ?_⟩
    obtain ⟨ho, hk⟩ := hone_of hone j f hj
    have hjl : j < fs.size := (Array.getElem?_eq_some_iff.1 hj).1
    have hcell := hat j hjl
    have hv : cs'[j]? = some (cs'[j]'(by omega)) := List.getElem?_eq_getElem (by omega)
    have h1 := hf j f hj
    rw [ho, hk] at h1
    have hone' : (cs'.drop j).take 1 = [cs'[j]'(by omega)] := by
      rw [List.drop_eq_getElem_cons (by omega)]
      rfl
    rw [hone'] at h1
    have hys : ys[j]? = some (ys[j]'(by omega)) := List.getElem?_eq_getElem (by omega)
    refine ⟨_, _, ?_, hys, h1.trans hys⟩
    rw [← Go.Deep.add_add, hcell, hv]
end
instance : Inhabited ActM := ⟨⟨0, []⟩⟩
section
variable {H : Type} {enc : TypeId × Value → H}
theorem as_of_trod {W : World} {base : Nat} {v : Value} {d : DataW H} {p : List MemPlace} (hval : Value.okWide Tryz.prog W .any base 51 v) (h : DataW.Trod enc Tryz.prog W 0 (fun _ => true) true 51 v d p) :
    ∃ acts, AS W.heap.size W v acts := by
  obtain ⟨a1, len, cap, rfl⟩ := okWide_slice Tryz.underlying51 hval
  obtain ⟨fuel, hf⟩ := h
  rcases open_slice_fields Tryz.underlying51 Tryz.underlying54 (by kernel_rfl) (by kernel_rfl) hf with ⟨hcs, -⟩ | ⟨a, len', cap', m, D, Pl, hcs, _, hl, hm, hmm, -, hel⟩
  · simp [Value.cells] at hcs
    obtain ⟨rfl, rfl, rfl⟩ := hcs
    exact ⟨[], none, 0, rfl, Nat.le_refl _, by unfold maxLen; omega, .inl rfl⟩
  · simp [Value.cells] at hcs
    obtain ⟨rfl, rfl, rfl⟩ := hcs
    simp only [if_true] at hmm
    subst hmm
    obtain ⟨A, hA⟩ := choose_lt (α := ActM) (p := fun i (x : ActM) => ∃ ad cd nm n m', -9223372036854775808 ≤ x.kind ∧ x.kind ≤ 9223372036854775807 ∧
        W.cell? (a.add (i * 5 + 0)) = some (.int .i64 x.kind) ∧ W.cell? (a.add (i * 5 + 1)) = some (.slice ad x.data.length cd) ∧ BS W.heap.size W (.slice ad x.data.length cd) x.data ∧
        W.cell? (a.add (i * 5 + 2)) = some (.string nm) ∧ W.cell? (a.add (i * 5 + 3)) = some (.int .i64 n) ∧ W.cell? (a.add (i * 5 + 4)) = some (.int .i64 m')) (n := m) (fun i hi => by
      obtain ⟨ys, fu, -, -, -, hf⟩ := hel i hi
      obtain ⟨v0, y0, c0, -, t0⟩ := hf 0 _ rfl
      obtain ⟨v1, y1, c1, -, t1⟩ := hf 1 _ rfl
      obtain ⟨v2, y2, c2, -, t2⟩ := hf 2 _ rfl
      obtain ⟨v3, y3, c3, -, t3⟩ := hf 3 _ rfl
      obtain ⟨v4, y4, c4, -, t4⟩ := hf 4 _ rfl
      obtain ⟨z0, e0, -, w0⟩ := DataW.trod_int Tryz.underlying3 t0
      obtain ⟨ad, cd, l, e1, hb⟩ := bs_of_cs t1
      obtain ⟨nm, e2, -⟩ := DataW.trod_string Tryz.underlying9 t2
      obtain ⟨z3, e3, -⟩ := DataW.trod_int Tryz.underlying3 t3
      obtain ⟨z4, e4, -⟩ := DataW.trod_int Tryz.underlying3 t4
      simp only [List.cons.injEq, and_true] at e0 e1 e2 e3 e4
      subst e0 e1 e2 e3 e4
      obtain ⟨b0, b1⟩ := wf_i64 w0
      exact ⟨⟨z0, l⟩, ad, cd, nm, z3, z4, b0, b1, c0, c1, hb, c2, c3, c4⟩)
    have hlen : ((List.range len).map A).length = len := by simp
    refine ⟨(List.range len).map A, some a, m, by rw [hlen], by rw [hlen]; exact hl, hm, ?_⟩
    rcases Nat.eq_zero_or_pos len with h0 | h0
    · left; subst h0; simp
    · right
      obtain ⟨ab, ao, spot⟩ := a
      obtain ⟨_, _, _, _, _, _, _, hc0, -⟩ := hA 0 (by omega)
      have hspot : spot = none := by simpa [Addr.add] using World.cell?_spot hc0
      subst hspot
      refine ⟨ab, ao, rfl, World.block_lt_of_cell? W ((⟨ab, ao, none⟩ : Addr).add (0 * 5 + 0)) hc0, fun i hi => ?_⟩
      rw [hlen] at hi
      obtain ⟨ad, cd, nm, n, m', b0, b1, c0, c1, hb, c2, c3, c4⟩ := hA i (by omega)
      simp only [Addr.add_lit] at c0 c1 c2 c3 c4
      simp only [List.getElem_map, List.getElem_range]
      exact ⟨ad, cd, nm, n, m', b0, b1, by simpa using c0, by simpa [Nat.add_assoc] using c1, hb, by simpa [Nat.add_assoc] using c2, by simpa [Nat.add_assoc] using c3, by simpa [Nat.add_assoc] using c4⟩
end
end Go.Proofs.YthjilhjdnefmdaaGreatDoor
/- LedgerKeeps: whatever the input, the law answers true and leaves what came in as it was. Conditions: the row's own (the listed variables hold what the text lays). -/
namespace Go.Proofs.YthjilhjdnefmdaaGreatDoor
open Go.ChangeShapes Go.WideShapes Go.ChangeAt Go.WideMaps Go.WideElems Go.RowKit
set_option maxRecDepth 100000
theorem cut_of_trod {H : Type} {enc : TypeId × Value → H} {W : World} {base : Nat} {v : Value} {d : DataW H} {p : List MemPlace} (hval : Value.okWide Tryz.prog W .any base 57 v) (h : DataW.Trod enc Tryz.prog W 0 (fun _ => true) true 57 v d p) :
    ∃ n k, v = .agg #[.int .u64 n, .int .i64 k] ∧ (0 ≤ n ∧ n < 18446744073709551616) := by
  obtain ⟨cs, rfl, hsz⟩ := okWide_struct Tryz.underlying57 hval
  have hC : Tryz.prog.cellsOf 57 = 2 := by kernel_rfl
  rw [hC] at hsz
  obtain ⟨fuel, hf⟩ := h
  obtain ⟨ys, n', hn', hy, hlen, hyl, hfl⟩ := DataW.trod_struct Tryz.underlying57 hf
  obtain ⟨l⟩ := cs
  match l, hsz with
  | [x0, x1], _ =>
    have f0 := hfl 0 _ rfl
    have f1 := hfl 1 _ rfl
    have c23 : Tryz.prog.cellsOf 23 = 1 := by kernel_rfl
    have c3 : Tryz.prog.cellsOf 3 = 1 := by kernel_rfl
    have hl : ys.length = 2 := hyl
    have y0 : ys[0]? = some (ys[0]'(by omega)) := List.getElem?_eq_getElem (by omega)
    have y1 : ys[1]? = some (ys[1]'(by omega)) := List.getElem?_eq_getElem (by omega)
    have t0 : DataW.trod enc Tryz.prog W 0 (fun _ => true) true n' 23 [x0] = some (ys[0]'(by omega)) := by
      rw [← y0, ← f0]
      show _ = DataW.trod enc Tryz.prog W 0 (fun _ => true) true n' 23 (List.take (Tryz.prog.cellsOf 23) [x0, x1])
      rw [c23]; rfl
    have t1 : DataW.trod enc Tryz.prog W 0 (fun _ => true) true n' 3 [x1] = some (ys[1]'(by omega)) := by
      rw [← y1, ← f1]
      show _ = DataW.trod enc Tryz.prog W 0 (fun _ => true) true n' 3 (List.take (Tryz.prog.cellsOf 3) [x1])
      rw [c3]; rfl
    obtain ⟨z0, e0, -, w0⟩ := DataW.trod_int Tryz.underlying23 t0
    obtain ⟨z1, e1, -, w1⟩ := DataW.trod_int Tryz.underlying3 t1
    simp only [List.cons.injEq, and_true] at e0 e1
    subst e0 e1
    have hz := wf_u64 w0
    exact ⟨z0, z1, rfl, by omega⟩
theorem ledgerKeeps_lifted (os : Os) (started : os.Started) (H : Type) (enc : TypeId × Value → H) :
    ReturnsInHanded {} Tryz.checked os 7 .any (fun w args => (Rows.ledgerKeepsSpec.pre enc Tryz.prog Tryz.f7 [] false w args ∧ laidMetH Tryz.prog laidL w) ∧ sizedMet enc Tryz.prog Tryz.f7 (OpenSpec.ofChange Rows.ledgerKeepsSpec) false w args)
      (Rows.ledgerKeepsSpec.post enc Tryz.prog Tryz.f7 false true false false) := by
  refine returnsInHanded_of_change_and (C := Tryz.checked) (X := fun w _ => laidMetH Tryz.prog laidL w) (fun _ _ _ hh h => h.of_heap hh) own started (by kernel_rfl) Tryz.func7
    (ChangeSpec.witness_shaped (enc := enc) (C := Tryz.checked) (os := os) (X := fun w _ => laidMetH Tryz.prog laidL w) false (World.doorLaid Tryz.prog 67 os) #[.slice none 0 0, .agg #[.int .u64 0, .int .i64 0], .agg #[.int .u64 0, .int .i64 0]] 8 rfl (World.shaped_of_RefB (by kernel_rfl) (by kernel_rfl)) (by kernel_rfl) (by kernel_rfl) (by kernel_rfl) (door_met os _)) ?_
  intro W base args ds gs before hval0 hW _ _ hL _
  have hval : ∀ (j : Nat) t v, Tryz.f7.params[j]? = some t → args[j]? = some v → Value.okWide Tryz.prog W .any base t v := hval0
  have hW' := hW
  obtain ⟨p, q, hA0, hV, rfl, hfz, hnd⟩ := hW
  have hA : DataW.TrodAll enc Tryz.prog W 0 (fun _ => true) true Tryz.f7.params.toList args.toList ds p := hA0
  rw [Tryz.params7] at hA hval
  obtain ⟨v0, v1, v2, d0, d1, d2, p0, p1, p2, rfl, rfl, rfl, h0, h1, h2⟩ := trodAll_three hA
  obtain ⟨rfl, rfl⟩ := trodVars_none hV
  obtain ⟨acts, hb⟩ := as_of_trod (hval 0 51 v0 rfl rfl) h0
  obtain ⟨n1, k1, hv1, hn1⟩ := cut_of_trod (hval 1 57 v1 rfl rfl) h1
  obtain ⟨n2, k2, hv2, hn2⟩ := cut_of_trod (hval 2 57 v2 rfl rfl) h2
  have hE := env_of_laid hL
  have hB := door_size W hL
  clear hA0 hval0
  simp only [List.append_nil] at hW'
  have hcall := ledgerKeeps_t hE hB hb n1 k1 n2 k2 hn1 hn2
  rw [← hv1, ← hv2] at hcall
  refine hcall.mono fun e W' ⟨he, hbw⟩ => ?_
  subst he
  refine ⟨_, rfl, ?_⟩
  have hlt : ∀ x, x ∈ p0 ∨ x ∈ p1 ∨ x ∈ p2 → x.block < W.heap.size := fun x hx => by simpa using hW'.lt x (by simpa using hx)
  exact post_of_below hW' (fun _ _ _ => trodAll_mk1 (shut_bool Tryz.underlying4 _))
    (fun sp hsp => trodAll_mk3 (trod_after laidOut (by kernel_rfl) (of_decide_eq_true (by kernel_rfl)) h0 hbw (fun x hx => hlt x (.inl hx)) sp (fun x hx => hsp x (by simp [hx])))
      (trod_after laidOut (by kernel_rfl) (of_decide_eq_true (by kernel_rfl)) h1 hbw (fun x hx => hlt x (.inr (.inl hx))) sp (fun x hx => hsp x (by simp [hx])))
      (trod_after laidOut (by kernel_rfl) (of_decide_eq_true (by kernel_rfl)) h2 hbw (fun x hx => hlt x (.inr (.inr hx))) sp (fun x hx => hsp x (by simp [hx]))))
    (fun _ _ => rfl) (by simp) hbw (ok_one (by kernel_rfl) rfl (okWide_bool_mk Tryz.underlying4 _))
theorem ledgerKeeps_holds : Rows.LedgerKeepsSaid :=
  OpenClaim.holds_of_wide 7 Tryz.f7 rfl rfl rfl rfl rfl rfl rfl ⟨rfl, rfl, rfl, rfl, rfl⟩ rfl rfl rfl rfl rfl (by kernel_rfl) Tryz.func7 (by kernel_rfl)
    (of_decide_eq_true (by kernel_rfl)) (by unfold Func.isWrapper; first | (rw [if_pos (by decide +kernel)]; kernel_rfl) | (rw [if_neg (by decide +kernel)]; exact ⟨rfl, rfl⟩))
    (fun os started H enc _ => ledgerKeeps_lifted os started H enc)
theorem ledgerKeeps_card : Rows.LedgerKeepsCardSaid :=
  Claim7.holds_tied_plain_at .later [] [.data, .data, .data, .data, .sentinel, .sentinel] true (true, "0ab7c83c1672bf8c850f1051b57ddf953dceb826234ee46c8015e3da2cec6e5c") true
    ledgerKeeps_holds (fun _ h => by cases h) (by kernel_rfl) (fun _ h => by cases h) ledgerKeeps_row_tie rfl ⟨rfl, rfl⟩ (by kernel_rfl) rfl
    (fun f fn hf hfn => by
      obtain rfl : f = 7 := Option.some.inj ((show Tryz.prog.funcNamed "staith/staithlaw12.LedgerKeeps" = some 7 by kernel_rfl).symm.trans hf) |>.symm
      obtain rfl : fn = Tryz.f7 := (Option.some.inj (Tryz.func7.symm.trans hfn)).symm
      exact ⟨by kernel_rfl, fun j t ht => by
        rw [Tryz.params7] at ht
        have h3 : t = 51 ∨ t = 57 := by
          rcases j with _ | _ | _ | j
          · left; simpa using ht.symm
          · right; simpa using ht.symm
          · right; simpa using ht.symm
          · simp at ht
        rcases h3 with rfl | rfl
        · exact (show Tryz.prog.wantsStandIn 51 = false by kernel_rfl)
        · exact (show Tryz.prog.wantsStandIn 57 = false by kernel_rfl)⟩)
    (by kernel_rfl)
#print axioms ledgerKeeps_card
end Go.Proofs.YthjilhjdnefmdaaGreatDoor
