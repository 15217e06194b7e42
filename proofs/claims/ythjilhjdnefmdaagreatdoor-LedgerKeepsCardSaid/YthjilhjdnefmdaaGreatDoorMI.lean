/- Joined texts: The acts of a law, and whether they are light. Conditions: none. A law that keeps what a log must tell: the ledger beside the law's own rows. Conditions: none. Open tells: the law's walk. Conditions: none. -/
import Derived.Test.YthjilhjdnefmdaaGreatDoorMG
import Derived.Lib.Hide
import Derived.Test.YthjilhjdnefmdaaGreatDoorMT
/- The acts of a law, and whether they are light. Conditions: none. -/
namespace Go.Proofs.YthjilhjdnefmdaaGreatDoor
open Go.RowKit
open Go.ChangeMaps (setBlock)
structure ActM where
  kind : Int
  data : List UInt8
/-- A slice of acts below B. -/
def AS (B : Nat) (w : World) (v : Value) (acts : List ActM) : Prop :=
  ∃ a c, v = .slice a acts.length c ∧ acts.length ≤ c ∧ c ≤ maxLen ∧
    (acts = [] ∨ ∃ b o, a = some ⟨b, o, none⟩ ∧ b < B ∧ ∀ i (h : i < acts.length), ∃ ad cd nm n m, -9223372036854775808 ≤ acts[i].kind ∧ acts[i].kind ≤ 9223372036854775807 ∧
      w.cell? ⟨b, o + i * 5, none⟩ = some (.int .i64 acts[i].kind) ∧ w.cell? ⟨b, o + i * 5 + 1, none⟩ = some (.slice ad acts[i].data.length cd) ∧ BS B w (.slice ad acts[i].data.length cd) acts[i].data ∧
      w.cell? ⟨b, o + i * 5 + 2, none⟩ = some (.string nm) ∧ w.cell? ⟨b, o + i * 5 + 3, none⟩ = some (.int .i64 n) ∧ w.cell? ⟨b, o + i * 5 + 4, none⟩ = some (.int .i64 m))
theorem AS.keep {B : Nat} {w w' : World} {v : Value} {acts : List ActM} (h : AS B w v acts) (hb : Below B w w') (hs : ∀ v l, BS B w v l → BS B w' v l) : AS B w' v acts := by
  obtain ⟨a, c, rfl, h1, h2, h3⟩ := h
  refine ⟨a, c, rfl, h1, h2, h3.imp id ?_⟩
  rintro ⟨b, o, rfl, hlt, hx⟩
  refine ⟨b, o, rfl, hlt, fun i hi => ?_⟩
  obtain ⟨ad, cd, nm, n, m, g0, g1, g2, g3, g4, g5, g6, g7⟩ := hx i hi
  have hc : ∀ k, w'.cell? ⟨b, k, none⟩ = w.cell? ⟨b, k, none⟩ := fun k => hb.cell (p := ⟨b, k, none⟩) hlt
  exact ⟨ad, cd, nm, n, m, g0, g1, by rw [hc]; exact g2, by rw [hc]; exact g3, hs _ _ g4, by rw [hc]; exact g5, by rw [hc]; exact g6, by rw [hc]; exact g7⟩
def wt (acts : List ActM) : Nat := (acts.map fun a => 1 + a.data.length / 50).sum
set_option maxRecDepth 100000 in
set_option maxHeartbeats 2000000 in
theorem light_t {w : World} {v : Value} {acts : List ActM} (h : AS w.heap.size w v acts) : Calls Tryz.prog 23 #[v] w (BoolPost (decide (wt acts ≤ 200)) w) := by
  have HA := Lib.hid h
  obtain ⟨a, c, rfl, h1, h2, h3⟩ := h
  unfold maxLen at h2
  have H3 := Lib.hid h3
  clear h3
  go_enter Tryz.func23, Tryz.ntmps23
  go_wp2_with fail
  go_loopw [3, 8] (fun n i wr => ∃ k : Nat, k ≤ acts.length ∧ i = .int .i64 k ∧ n = .int .i64 (wt (acts.take k) : Nat) ∧ wt (acts.take k) ≤ 200 ∧ Hid (Below w.heap.size w wr)) (fun _ i _ => acts.length - (intOf i).toNat)
  case atStart => exact ⟨0, Nat.zero_le _, rfl, by simp [wt], by simp [wt], Lib.hid (Below.refl _ _)⟩
  case round =>
    obtain ⟨k, hk, rfl, rfl, hw, hb⟩ := hrel
    by_cases hlt : k < acts.length
    · rcases H3.out with h0 | ⟨b, o, rfl, hlb, hx⟩
      · rw [h0] at hlt; simp at hlt
      · obtain ⟨ad, cd, nm, n, m, g0, g1, g2, g3, g4, g5, g6, g7⟩ := hx k hlt
        have hc : ∀ j, wr.cell? ⟨b, j, none⟩ = w.cell? ⟨b, j, none⟩ := fun j => hb.out.cell (p := ⟨b, j, none⟩) hlb
        have e2 := (hc _).trans g2
        have e3 := (hc _).trans g3
        have e5 := (hc _).trans g5
        have e6 := (hc _).trans g6
        have e7 := (hc _).trans g7
        have hsucc : wt (acts.take (k + 1)) = wt (acts.take k) + (1 + acts[k].data.length / 50) := by
          unfold wt
          rw [List.take_succ_eq_append_getElem hlt, List.map_append, List.sum_append]; simp
        have hmono : wt (acts.take (k + 1)) ≤ wt acts := by
          unfold wt
          conv => rhs; rw [← List.take_append_drop (k + 1) acts]
          rw [List.map_append, List.sum_append]; omega
        obtain ⟨_, _, he, k1, k2, -⟩ := g4
        rw [List.length_map] at k1
        unfold maxLen at k2
        have hD : acts[k].data.length ≤ 9223372036854775807 := by omega
        have HS := Lib.hid hsucc; have HM := Lib.hid hmono
        generalize acts[k].kind = kd at *
        generalize acts[k].data.length = D at *
        obtain ⟨W, hW⟩ : ∃ W, wt (acts.take k) = W := ⟨_, rfl⟩
        rw [hW] at HS hw ⊢
        clear hc g2 g3 g5 g6 g7 hx hW he k1 k2 hsucc hmono g0 g1
        by_cases hgo : W + (1 + D / 50) ≤ 200
        · have hgo' : (W : Int) + (1 + (D : Int) / 50) ≤ 200 := by omega
          have HGO := Lib.hid hgo
          clear hgo
          go_wp2_with fail
          go_roundw
          case rel =>
            refine ⟨k + 1, hlt, by go_num, ?_, by rw [HS.out]; exact HGO.out, Lib.hid (hb.out.alloc hb.out.size _)⟩
            rw [HS.out]
            congr 1
          case measure => simp [intOf]; omega
        · have hgo' : 200 < (W : Int) + (1 + (D : Int) / 50) := by omega
          have hd : Hid (decide (wt acts ≤ 200) = false) := Lib.hid (decide_eq_false (by have := HM.out; have := HS.out; omega))
          clear hgo
          go_wp2_with fail
          go_ret
          unfold BoolPost
          rw [hd.out]
          exact ⟨rfl, hb.out.alloc hb.out.size _⟩
    · have hke : k = acts.length := by omega
      subst hke
      rw [List.take_length] at hw
      have hd : Hid (decide (wt acts ≤ 200) = true) := Lib.hid (decide_eq_true hw)
      go_wp2
      go_ret
      unfold BoolPost
      rw [hd.out]
      exact ⟨rfl, hb.out⟩
end Go.Proofs.YthjilhjdnefmdaaGreatDoor
/- A law that keeps what a log must tell: the ledger beside the law's own rows. Conditions: none. -/
namespace Go.Proofs.YthjilhjdnefmdaaGreatDoor
open Go.RowKit
open Go.ChangeMaps (setBlock)
section
variable {B : Nat} {w w' : World} {p pl : Nat} {vw : Value} {part : Int} {chk : List UInt8} {sure waits : List (List UInt8)} {R C N : Int} {one : Prop}
/-- An append to a row of slices that is not the ledger's. -/
theorem grown_stp {v : Value} {e : TypeId} {n : Nat} {xs : List Value} (hB : B ≤ w.heap.size) (he5 : e ≠ 5) (hown : w.ownsRow B e 1 v n xs) (hg : w.grownBy w' v.ownBlock) : Stp v.ownBlock.toList B w w' :=
  (Stp.refl v.ownBlock.toList B w).grown hg hB (fun k hk => ⟨(hown.lt k hk).1, fun cs e' fr hcs => by
    obtain ⟨cur, hc⟩ := own_kind hown hk
    rw [hc] at hcs; cases hcs
    exact ⟨he5, by rw [hk]; simp⟩⟩)
theorem Ses.grown (h : Ses B w p pl vw part chk sure waits R C N one) {v : Value} {n : Nat} {xs : List Value} (hown : w.ownsRow B 27 1 v n xs) (hne : ∀ k, vw.ownBlock = some k → v.ownBlock ≠ some k) (hg : w.grownBy w' v.ownBlock) :
    Ses B w' p pl vw part chk sure waits R C N one := by
  obtain ⟨mn, ms, bl, st, L, vs, h1, h2, h3⟩ := h
  have hB := h1.le
  have hs := grown_stp hB (by decide) hown hg
  have hrep : RepC B w' p mn ms bl st := by
    cases hob : v.ownBlock with
    | none =>
      rw [hob] at hg
      have : Below w.heap.size w w' := (Below.refl _ w).grown hg (Nat.le_refl _) (fun k hk => by cases hk)
      exact h1.below this
    | some g =>
      obtain ⟨cur, hcur⟩ := own_kind hown hob
      rw [hob] at hg
      exact h1.off hcur (by decide) (by decide) (fun k x hk' hx => (hg.block k (hp_lt hx) (by simpa using hk')).trans hx) (fun v l hv => RS.stp hv hs (by decide) (by decide) (fun _ h => absurd rfl h))
  have hkeep : ∀ (k : Nat) (cs : Array Value) (e : TypeId) (fr : Nat × Nat), w.heap[k]? = some (Obj.cells cs e fr) → v.ownBlock ≠ some k → w'.heap[k]? = some (Obj.cells cs e fr) := fun k cs e fr hc hn => (hg.block k (hp_lt hc) (fun he => hn he.symm)).trans hc
  refine ⟨mn, ms, bl, st, L, vs, hrep, ⟨hkeep _ _ _ _ h2.blk (fun hb => ?_), ?_, h2.rows.stp (fun v l hv => RS.stp hv hs (by decide) (by decide) (fun _ h => absurd rfl h)), h2.lpl, h2.few, h2.big, h2.lst, h2.prt⟩, h3⟩
  · obtain ⟨cur, hc⟩ := own_kind hown hb
    have := h2.blk
    rw [hc] at this; unfold ledObj at this; simp at this
  · obtain ⟨q1, q2⟩ := h2.own
    refine ⟨q1, q2.imp id ?_⟩
    rintro ⟨g, cap, cur, hv, hb, hg', r⟩
    exact ⟨g, cap, cur, hv, hb, hkeep _ _ _ _ hg' (hne g (by rw [hv]; rfl)), r⟩
end
/-- A row of slices of bytes of the call's own. -/
def OwnLS (B : Nat) (w : World) (v : Value) (L : List (List UInt8)) : Prop := ∃ xs, w.ownsRow B 27 1 v L.length xs ∧ Rows B w xs L
theorem OwnLS.nil (B : Nat) (w : World) : OwnLS B w (.slice none 0 0) [] := ⟨[], World.ownsRow_nil _ _ _ _, rfl, fun i h => by simp at h⟩
theorem OwnLS.ls {B : Nat} {w : World} {v : Value} {L : List (List UInt8)} (h : OwnLS B w v L) : LS B w v L := by
  obtain ⟨xs, h1, h2⟩ := h
  exact ⟨xs, RS.of_owns h1, h2⟩
theorem OwnLS.lt {B : Nat} {w : World} {v : Value} {L : List (List UInt8)} (h : OwnLS B w v L) : ∀ k, v.ownBlock = some k → k < w.heap.size := by
  obtain ⟨xs, h1, h2⟩ := h
  exact fun k hk => (h1.lt k hk).2
theorem OwnLS.stp {M : List Nat} {B : Nat} {w w' : World} {v : Value} {L : List (List UInt8)} (h : OwnLS B w v L) (s : Stp M B w w') (hM : ∀ b, v.ownBlock = some b → b ∉ M) : OwnLS B w' v L := by
  obtain ⟨xs, h1, h2⟩ := h
  exact ⟨xs, own_stp h1 s (by decide) (by decide) (fun b _ hb => hM b hb), h2.stp (fun v l hv => RS.stp hv s (by decide) (by decide) (fun _ h => absurd rfl h))⟩
theorem OwnLS.below {B : Nat} {w w' : World} {v : Value} {L : List (List UInt8)} (h : OwnLS B w v L) (hb : Below w.heap.size w w') (hB : B ≤ w.heap.size) : OwnLS B w' v L := by
  obtain ⟨xs, h1, h2⟩ := h
  exact ⟨xs, own_below h1 hb, h2.stp (fun v l hv => RS.below hv hb hB)⟩
theorem OwnLS.form {B : Nat} {w : World} {v : Value} {L : List (List UInt8)} (h : OwnLS B w v L) : ∃ a c, v = .slice a L.length c := by
  obtain ⟨xs, h1, h2⟩ := h
  exact own_form h1
/-- The ledger (what it would tell, what waits) and the law's variables (what it thinks that it tells, what waits). -/
structure LawS (B : Nat) (w : World) (p pl : Nat) (part : Int) (lc : List UInt8) (ls lw : List (List UInt8)) (R C N : Int) (one : Prop) (vc vs vt : Value) (sc : List UInt8) (ss st : List (List UInt8)) : Prop where
  ses : ∃ vw, Ses B w p pl vw part lc ls lw R C N one ∧ (∀ k, vw.ownBlock = some k → vs.ownBlock ≠ some k) ∧ (∀ k, vw.ownBlock = some k → vt.ownBlock ≠ some k)
  bc : BS B w vc sc
  so : OwnLS B w vs ss
  wo : OwnLS B w vt st
  dis : ∀ k, vs.ownBlock = some k → vt.ownBlock ≠ some k
section
variable {B : Nat} {w w' : World} {p pl : Nat} {part : Int} {lc : List UInt8} {ls lw : List (List UInt8)} {R C N : Int} {one : Prop} {vc vs vt : Value} {sc : List UInt8} {ss st : List (List UInt8)}
theorem LawS.le (h : LawS B w p pl part lc ls lw R C N one vc vs vt sc ss st) : B ≤ w.heap.size := by
  obtain ⟨vw, h1, -⟩ := h.ses
  exact h1.le
theorem LawS.below (h : LawS B w p pl part lc ls lw R C N one vc vs vt sc ss st) (hb : Below w.heap.size w w') : LawS B w' p pl part lc ls lw R C N one vc vs vt sc ss st := by
  obtain ⟨⟨vw, h1, h2, h3⟩, hc, hs, hw, hd⟩ := h
  exact ⟨⟨vw, h1.below hb, h2, h3⟩, RS.below hc hb h1.le, hs.below hb h1.le, hw.below hb h1.le, hd⟩
theorem LawS.weaken (h : LawS B w p pl part lc ls lw R C N one vc vs vt sc ss st) {C' N' : Int} (hC : C ≤ C') (hN : N ≤ N') {one' : Prop} (ho : one' → one) : LawS B w p pl part lc ls lw R C' N' one' vc vs vt sc ss st := by
  obtain ⟨⟨vw, h1, h2, h3⟩, hc, hs, hw, hd⟩ := h
  exact ⟨⟨vw, h1.weaken hC hN ho, h2, h3⟩, hc, hs, hw, hd⟩
theorem ses_notpl {vw : Value} (h : Ses B w p pl vw part lc ls lw R C N one) {v : Value} {L : List (List UInt8)} (ho : OwnLS B w v L) : v.ownBlock ≠ some pl := by
  obtain ⟨mn, ms, bl, st, L', vs', h1, h2, h3⟩ := h
  obtain ⟨xs, h4, h5⟩ := ho
  intro hb
  obtain ⟨cur, hc⟩ := own_kind h4 hb
  have := h2.blk
  rw [hc] at this; unfold ledObj at this; simp at this
/-- The blocks of acts stand. -/
def Keep54 (w w' : World) : Prop := ∀ (k : Nat) (cs : Array Value) (fr : Nat × Nat), w.heap[k]? = some (Obj.cells cs 54 fr) → w'.heap[k]? = some (Obj.cells cs 54 fr)
theorem Keep54.of_below (h : Below w.heap.size w w') : Keep54 w w' := fun k _ _ hk => (h.block k (hp_lt hk)).trans hk
theorem Keep54.of_stp {M : List Nat} (h : Stp M B w w') (hM : ∀ k ∈ M, ∃ cs e fr, w.heap[k]? = some (Obj.cells cs e fr) ∧ e ≠ 54) : Keep54 w w' := fun k cs fr hk =>
  h.fix k cs 54 fr hk (by decide) (by decide) (fun _ hm => by
    obtain ⟨cs', e', fr', h1, h2⟩ := hM k hm
    rw [hk] at h1; cases h1; exact h2 rfl)
theorem ses_kinds {vw : Value} (h : Ses B w p pl vw part lc ls lw R C N one) : ∀ k ∈ pl :: vw.ownBlock.toList, ∃ cs e fr, w.heap[k]? = some (Obj.cells cs e fr) ∧ e ≠ 54 := by
  obtain ⟨mn, ms, bl, st, L', vs', h1, h2, h3⟩ := h
  intro k hm
  rcases List.mem_cons.1 hm with rfl | hm
  · exact ⟨_, _, _, h2.blk, by decide⟩
  · cases ho : vw.ownBlock with
    | none => rw [ho] at hm; simp at hm
    | some g =>
      rw [ho] at hm; simp at hm; subst hm
      obtain ⟨cur, hc⟩ := own_kind h2.own ho
      exact ⟨_, _, _, hc, by decide⟩
def LawPost (B : Nat) (w : World) (P : World → Prop) (e : Ending) (w' : World) : Prop := e = .returned (.int .i64 0) ∧ Hid (P w') ∧ Hid (Below B w w') ∧ Hid (Keep54 w w')
theorem law_add (h : LawS B w p pl part lc ls lw R C N one vc vs vt sc ss st) {vb : Value} {lb : List UInt8} (hb : BS B w vb lb) (hl : lb.length ≤ 1048512) (hw : lw.length < 1000) :
    Calls Tryz.prog 11 #[.pointer (some ⟨pl, 0, none⟩), vb] w (LawPost B w fun w' => LawS B w' p pl part lc ls (lw ++ [lb]) R C N one vc vs vt sc ss st ∧ BS B w' vb lb) := by
  obtain ⟨⟨vw, h1, h2, h3⟩, hc, hs, ht, hd⟩ := h
  have n1 := ses_notpl h1 hs
  have n2 := ses_notpl h1 ht
  have hk54 := ses_kinds h1
  refine (add_ses h1 hb hl hw).mono ?_
  rintro e w' ⟨rfl, vw', g1, g2, g3⟩
  have hM : ∀ (v : Value), v.ownBlock ≠ some pl → (∀ k, vw.ownBlock = some k → v.ownBlock ≠ some k) → ∀ b, v.ownBlock = some b → b ∉ pl :: vw.ownBlock.toList := by
    intro v q1 q2 b hb' hm
    rcases List.mem_cons.1 hm with rfl | hm
    · exact q1 hb'
    · cases ho : vw.ownBlock with
      | none => rw [ho] at hm; simp at hm
      | some k => rw [ho] at hm; simp at hm; subst hm; exact q2 b ho hb'
  refine ⟨rfl, Lib.hid ⟨⟨⟨vw', g1, fun k hk hk2 => ?_, fun k hk hk2 => ?_⟩, RS.stp hc g3 (by decide) (by decide) (fun _ h => absurd rfl h), hs.stp g3 (hM vs n1 h2), ht.stp g3 (hM vt n2 h3), hd⟩, RS.stp hb g3 (by decide) (by decide) (fun _ h => absurd rfl h)⟩, Lib.hid g3.below, Lib.hid (Keep54.of_stp g3 hk54)⟩
  · rcases g2 k hk with q | q
    · exact h2 k q hk2
    · have := hs.lt k hk2; omega
  · rcases g2 k hk with q | q
    · exact h3 k q hk2
    · have := ht.lt k hk2; omega
theorem law_step {vw vw' : Value} (h : LawS B w p pl part lc ls lw R C N one vc vs vt sc ss st) (h1 : Ses B w p pl vw part lc ls lw R C N one) (h2 : ∀ k, vw.ownBlock = some k → vs.ownBlock ≠ some k) (h3 : ∀ k, vw.ownBlock = some k → vt.ownBlock ≠ some k)
    {lc' : List UInt8} {ls' lw' : List (List UInt8)} {R' C' N' : Int} {one' : Prop} (g1 : Ses B w' p pl vw' part lc' ls' lw' R' C' N' one') (g2 : ∀ k, vw'.ownBlock = some k → vw.ownBlock = some k) (g3 : Stp [pl] B w w') :
    LawS B w' p pl part lc' ls' lw' R' C' N' one' vc vs vt sc ss st := by
  have n1 := ses_notpl h1 h.so
  have n2 := ses_notpl h1 h.wo
  refine ⟨⟨vw', g1, fun k hk => h2 k (g2 k hk), fun k hk => h3 k (g2 k hk)⟩, RS.stp h.bc g3 (by decide) (by decide) (fun _ h => absurd rfl h), h.so.stp g3 (fun b hb hm => ?_), h.wo.stp g3 (fun b hb hm => ?_), h.dis⟩
  · simp at hm; subst hm; exact n1 hb
  · simp at hm; subst hm; exact n2 hb
theorem law_flush (hE : Env w) (h : LawS B w p pl part lc ls lw R C N one vc vs vt sc ss st) (hB : 6 ≤ B) (hC : C + (sealsL lw).length + 16 ≤ R) (hN : N + 1 ≤ 999999999) :
    Calls Tryz.prog 13 #[.pointer (some ⟨pl, 0, none⟩)] w (LawPost B w fun w' => LawS B w' p pl part lc (ls ++ lw) [] R (C + (sealsL lw).length + 16) (N + 1) False vc vs vt sc ss st) := by
  have h0 := h
  obtain ⟨⟨vw, h1, h2, h3⟩, -⟩ := h0
  refine (flush_ses hE h1 hB hC hN).mono ?_
  rintro e w' ⟨rfl, vw', g1, g2, g3⟩
  exact ⟨rfl, Lib.hid (law_step h h1 h2 h3 g1 g2 g3), Lib.hid g3.below, Lib.hid (Keep54.of_stp g3 (fun k hk => ses_kinds h1 k (by simp at hk; simp [hk])))⟩
theorem law_mark (hE : Env w) (h : LawS B w p pl part lc ls lw R C N one vc vs vt sc ss st) (hB : 6 ≤ B) {vb : Value} {c : List UInt8} (hv : BS B w vb c) (hc : c.length ≤ 1048512) (hC : C + (sealsL lw).length + 16 + (c.length + 16) + 32 ≤ R) (hN : N + 2 ≤ 999999999) :
    Calls Tryz.prog 19 #[.pointer (some ⟨pl, 0, none⟩), vb] w (LawPost B w fun w' => LawS B w' p pl part c [] [] R (c.length + 48) (N + 2) True vc vs vt sc ss st ∧ BS B w' vb c) := by
  have h0 := h
  obtain ⟨⟨vw, h1, h2, h3⟩, -⟩ := h0
  refine (mark_ses hE h1 hB hv hc hC hN).mono ?_
  rintro e w' ⟨rfl, vw', g1, g2, g3⟩
  exact ⟨rfl, Lib.hid ⟨law_step h h1 h2 h3 g1 g2 g3, RS.stp hv g3 (by decide) (by decide) (fun _ h => absurd rfl h)⟩, Lib.hid g3.below, Lib.hid (Keep54.of_stp g3 (fun k hk => ses_kinds h1 k (by simp at hk; simp [hk])))⟩
theorem law_pending (h : LawS B w p pl part lc ls lw R C N one vc vs vt sc ss st) : Calls Tryz.prog 22 #[.pointer (some ⟨pl, 0, none⟩)] w fun e w' => e = .returned (.int .i64 (lw.length : Int)) ∧ w = w' := by
  obtain ⟨vw, h1, -⟩ := h.ses
  exact pending_ses h1
theorem law_parts (hE : Env w) (h : LawS B w p pl part lc ls lw R C N True vc vs vt sc ss st) (hB : 6 ≤ B) {vb : Value} {lb : List UInt8} (hb : BS B w vb lb) : Calls Tryz.prog 20 #[.pointer (some ⟨pl, 0, none⟩)] w fun e w' => (∃ a c, e = .returned (.slice a 1 c)) ∧
    Hid (LawS B w' p pl part lc ls lw R C N False vc vs vt sc ss st) ∧ Hid (BS B w' vb lb) ∧ Hid (Below B w w') ∧ Hid (Keep54 w w') := by
  obtain ⟨vw, h1, -⟩ := h.ses
  refine (parts_ses hE h1 hB).mono ?_
  rintro e w' ⟨h2, h3⟩
  exact ⟨h2, Lib.hid ((h.below h3).weaken (Int.le_refl _) (Int.le_refl _) (fun h => h.elim)), Lib.hid (RS.below hb h3 h1.le), Lib.hid (h3.mono h1.le), Lib.hid (Keep54.of_below h3)⟩
def LawOpen (B p pl : Nat) (part : Int) (lc : List UInt8) (ls lw : List (List UInt8)) (R C N : Int) (one : Prop) (vc vs vt : Value) (sc : List UInt8) (ss st : List (List UInt8)) (w : World) (e : Ending) (w' : World) : Prop :=
  ∃ pl2 v1 v2, e = .returned (.tuple #[.pointer (some ⟨pl2, 0, none⟩), v1, v2, .int .i64 0]) ∧ BS B w' v1 lc ∧ LS B w' v2 ls ∧ Hid (LawS B w' p pl part lc ls lw R C N one vc vs vt sc ss st) ∧ Hid (Below B w w')
theorem law_open (hE : Env w) (h : LawS B w p pl part lc ls lw R C N one vc vs vt sc ss st) (hB : 6 ≤ B) {part2 : Int} (hp : 1 ≤ part2 ∧ part2 ≤ 1048576) :
    Calls Tryz.prog 9 #[.pointer (some ⟨p, 0, none⟩), .int .i64 part2] w (LawOpen B p pl part lc ls lw R C N one vc vs vt sc ss st w) := by
  have h0 := h
  obtain ⟨⟨vw, h1, h2, h3⟩, -⟩ := h0
  refine (open_ses hE h1 hB hp).mono ?_
  rintro e w' ⟨pl2, v1, v2, rfl, g1, g2, g3, g4⟩
  exact ⟨pl2, v1, v2, rfl, g1, g2, Lib.hid (law_step h h1 h2 h3 g3 (fun k hk => hk) (g4.wide (by simp))), Lib.hid g4.below⟩
/-- The law's waiting row grows. -/
theorem LawS.push (h : LawS B w p pl part lc ls lw R C N one vc vs vt sc ss st) {xs : List Value} (hx : w.ownsRow B 27 1 vt st.length xs) (hr : Rows B w xs st) {vd : Value} {d : List UInt8} (hd : BS B w vd d) {v' : Value}
    (ho : w'.ownsRow B 27 1 v' (st.length + 1) (xs ++ [vd])) (hg : w.grownBy w' vt.ownBlock) (hk : ∀ k, v'.ownBlock = some k → vt.ownBlock = some k ∨ w.heap.size ≤ k) : LawS B w' p pl part lc ls lw R C N one vc vs v' sc ss (st ++ [d]) ∧ Below B w w' := by
  obtain ⟨⟨vw, h1, h2, h3⟩, hc, hs, ht, hdis⟩ := h
  have hstp := grown_stp h1.le (by decide) hx hg
  have hbs : ∀ v l, BS B w v l → BS B w' v l := fun v l hv => RS.stp hv hstp (by decide) (by decide) (fun _ h => absurd rfl h)
  refine ⟨⟨⟨vw, h1.grown hx h3 hg, h2, fun k q1 q2 => ?_⟩, hbs _ _ hc, hs.stp hstp (fun b hb hm => ?_), ?_, fun k q1 q2 => ?_⟩, hstp.below⟩
  · rcases hk k q2 with q | q
    · exact h3 k q1 q
    · obtain ⟨mn, ms, bl, st', L, vs', k1, k2, k3⟩ := h1
      have := (k2.own.lt k q1).2
      omega
  · cases hv : vt.ownBlock with
    | none => rw [hv] at hm; simp at hm
    | some g => rw [hv] at hm; simp at hm; subst hm; exact hdis b hb hv
  · exact ⟨xs ++ [vd], by rw [List.length_append]; exact ho, (hr.stp hbs).snoc (hbs _ _ hd)⟩
  · rcases hk k q2 with q | q
    · exact hdis k q1 q
    · have := hs.lt k q1; omega
/-- What waited is behind what was sure. -/
theorem LawS.move (h : LawS B w p pl part lc ls lw R C N one vc vs vt sc ss st) {xs ys : List Value} (hx : w.ownsRow B 27 1 vs ss.length xs) (hr : Rows B w xs ss) (hry : Rows B w ys st) {v' : Value}
    (ho : w'.ownsRow B 27 1 v' (ss.length + ys.length) (xs ++ ys)) (hg : w.grownBy w' vs.ownBlock) (hk : ∀ k, v'.ownBlock = some k → vs.ownBlock = some k ∨ w.heap.size ≤ k) : LawS B w' p pl part lc ls lw R C N one vc v' (.slice none 0 0) sc (ss ++ st) [] ∧ Below B w w' := by
  obtain ⟨⟨vw, h1, h2, h3⟩, hc, hs, ht, hdis⟩ := h
  have hstp := grown_stp h1.le (by decide) hx hg
  have hbs : ∀ v l, BS B w v l → BS B w' v l := fun v l hv => RS.stp hv hstp (by decide) (by decide) (fun _ h => absurd rfl h)
  refine ⟨⟨⟨vw, h1.grown hx h2 hg, fun k q1 q2 => ?_, fun k _ q2 => by simp [Value.ownBlock] at q2⟩, hbs _ _ hc, ?_, OwnLS.nil _ _, fun k _ q2 => by simp [Value.ownBlock] at q2⟩, hstp.below⟩
  · rcases hk k q2 with q | q
    · exact h2 k q1 q
    · obtain ⟨mn, ms, bl, st', L, vs', k1, k2, k3⟩ := h1
      have := (k2.own.lt k q1).2
      omega
  · refine ⟨xs ++ ys, ?_, (hr.stp hbs).append (hry.stp hbs)⟩
    rw [List.length_append, ← hry.1]
    exact ho
theorem LawS.reset (h : LawS B w p pl part lc ls lw R C N one vc vs vt sc ss st) {vc' : Value} {sc' : List UInt8} (hc : BS B w vc' sc') : LawS B w p pl part lc ls lw R C N one vc' (.slice none 0 0) (.slice none 0 0) sc' [] [] := by
  obtain ⟨⟨vw, h1, h2, h3⟩, -, hs, ht, hdis⟩ := h
  exact ⟨⟨vw, h1, fun k _ q2 => by simp [Value.ownBlock] at q2, fun k _ q2 => by simp [Value.ownBlock] at q2⟩, hc, OwnLS.nil _ _, OwnLS.nil _ _, fun k _ q2 => by simp [Value.ownBlock] at q2⟩
end
end Go.Proofs.YthjilhjdnefmdaaGreatDoor
/- Open tells: the law's walk. Conditions: none. -/
namespace Go.Proofs.YthjilhjdnefmdaaGreatDoor
open Go.RowKit
open Go.ChangeMaps (setBlock)
theorem wpList_append_rs2 {t e : TypeId} {z : Value} {bytes : Nat} (T : SlT t e z bytes) {ops : Array Oper} {rest : List Oper} {o : Oper} {a : Act} {Q : Exit → Act → World → Prop} {w : World} (hgd : o.guard = none) (s x : Operand)
    (ho : o.op = .call { callee := .builtin .append, args := #[s, x], argTypes := #[t, t] })
    (base B : Nat) (v : Value) (n : Nat) (xs : List Value) (hs : a.eval s = v) (hown : w.ownsRow base e 1 v n xs)
    (src : Value) (hx : a.eval x = src) (ys : List Value) {e' : TypeId} (hsrc : RS e' B w src ys) (h1 : ∀ u ∈ ys, u.oneCell' = true) (hm : n + ys.length ≤ maxLen) (hbytes : (n + ys.length) * bytes ≤ 140737488355328) (hbase : base ≤ w.heap.size)
    (h : ∀ v' w', w'.ownsRow base e 1 v' (n + ys.length) (xs ++ ys) → w.grownBy w' v.ownBlock → (∀ k, v'.ownBlock = some k → v.ownBlock = some k ∨ w.heap.size ≤ k) → wpList Tryz.prog ops Q rest (a.put o.dst v') w') : wpList Tryz.prog ops Q (o :: rest) a w :=
  wpList_plain hgd fun _ hK => wp_append_rs2 T s x ho base B v n xs hs hown src hx ys hsrc h1 hm hbytes hbase fun v' w' h2 h3 h4 => hK _ _ (h v' w' h2 h3 h4)
theorem wt_succ (acts : List ActM) (k : Nat) (h : k < acts.length) : wt (acts.take (k + 1)) = wt (acts.take k) + (1 + acts[k].data.length / 50) := by
  unfold wt
  rw [List.take_succ_eq_append_getElem h, List.map_append, List.sum_append]; simp
theorem wt_le (acts : List ActM) (k : Nat) : wt (acts.take k) ≤ wt acts := by
  unfold wt
  conv => rhs; rw [← List.take_append_drop k acts]
  rw [List.map_append, List.sum_append]; omega
structure TellI (B : Nat) (w0 : World) (p pl : Nat) (part : Int) (W : Nat) (vc vs vt : Value) (w : World) : Prop where
  ex : ∃ sc ss st, LawS B w p pl part sc ss st 1048576 (16 + 100 * W - (sealsL st).length) (1 + 2 * W) False vc vs vt sc ss st ∧ ss.length + st.length ≤ W
  below : Below B w0 w
theorem BS.form2 {B : Nat} {w : World} {v : Value} {l : List UInt8} (h : BS B w v l) : ∃ a c, v = .slice a l.length c := by
  obtain ⟨a, c, h1, -⟩ := h.form
  exact ⟨a, c, h1⟩
set_option maxRecDepth 100000 in
set_option maxHeartbeats 8000000 in
theorem ledgerTells_t {w : World} (hE : Env w) (hB : 6 ≤ w.heap.size) {v : Value} {acts : List ActM} (ha : AS w.heap.size w v acts) (part : Int) (hp0 : 0 ≤ part) (hp1 : part < 18446744073709551616) :
    Calls Tryz.prog 6 #[v, .int .u64 part] w (LivesPost w) := by
  have HE := Lib.hid hE; have HA := Lib.hid ha
  have HLI := Lib.hid (light_t ha)
  obtain ⟨a, c, rfl, k1, k2, -⟩ := ha
  unfold maxLen at k2
  by_cases hw : wt acts ≤ 200
  · have hd : decide (wt acts ≤ 200) = true := decide_eq_true hw
    rw [hd] at HLI
    have HW := Lib.hid hw
    obtain ⟨q, hq⟩ : ∃ q : Nat, part % 500 = (q : Int) := ⟨(part % 500).toNat, by omega⟩
    have hq1 : q < 500 := by omega
    clear hE hd hw
    go_enter Tryz.func6, Tryz.ntmps6
    go_wp2_with fail
    refine HLI.out.mono ?_
    rintro e w1 ⟨rfl, hb1⟩
    have B1 := Lib.hid hb1
    clear hb1
    go_wp2_with fail
    refine (new_t w1 1048576 (by omega) (by omega)).mono ?_
    rintro e w2 ⟨p, rfl, hr2, hs2⟩
    have HB6 : Hid (6 ≤ w1.heap.size) := Lib.hid (Nat.le_trans hB B1.out.size)
    have HE1 := Lib.hid (HE.out.below B1.out hB)
    have B2 := Lib.hid hs2.below
    have C2 := Lib.hid (first_ses (part := 1 + (q : Int)) (HE1.out.below B2.out HB6.out) hr2 HB6.out (by omega) (by omega))
    clear hr2 hs2
    go_wp2_with fail
    refine C2.out.mono ?_
    rintro e w3 ⟨pl, a1, n1, c1, a2, n2, c2, rfl, h3, hs3, -⟩
    have HI : Hid (TellI w1.heap.size w1 p pl (1 + (q : Int)) 0 (.slice none 0 0) (.slice none 0 0) (.slice none 0 0) w3) :=
      Lib.hid ⟨⟨[], [], [], ⟨⟨_, h3.weaken (by simp [sealsL]) (by simp) id, fun k _ h => by simp [Value.ownBlock] at h, fun k _ h => by simp [Value.ownBlock] at h⟩, RS.nil _ _ _, OwnLS.nil _ _, OwnLS.nil _ _, fun k h => by simp [Value.ownBlock] at h⟩, by simp⟩, B2.out.trans hs3.below⟩
    have HA1 : Hid (∀ wr, Below w1.heap.size w1 wr → AS w1.heap.size wr (.slice a acts.length c) acts) := Lib.hid (fun wr hb => by
      obtain ⟨a', c', he, q1, q2, q3⟩ := HA.out
      have h1 := HA.out.keep B1.out (fun v l hv => RS.below hv B1.out (Nat.le_refl _))
      obtain ⟨a', c', he, q1, q2, q3⟩ := h1
      have h2 : AS w1.heap.size w1 (.slice a acts.length c) acts := ⟨a', c', he, q1, q2, q3.imp id (fun ⟨b, o, x1, x2, x3⟩ => ⟨b, o, x1, Nat.lt_of_lt_of_le x2 B1.out.size, fun i hi => by
        obtain ⟨ad, cd, nm, n, m, g0, g1, g2, g3, g4, g5⟩ := x3 i hi
        exact ⟨ad, cd, nm, n, m, g0, g1, g2, g3, RS.low g4 B1.out.size, g5⟩⟩)⟩
      exact h2.keep hb (fun v l hv => RS.below hv hb (Nat.le_refl _)))
    clear h3 hs3
    go_wp2_with fail
    go_loopw [11, 12, 13, 41] (fun vc vs vt i wr => ∃ k : Nat, k ≤ acts.length ∧ i = .int .i64 k ∧ Hid (TellI w1.heap.size w1 p pl (1 + (q : Int)) (wt (acts.take k)) vc vs vt wr)) (fun _ _ _ i _ => acts.length - (intOf i).toNat)
    case atStart => exact ⟨0, Nat.zero_le _, rfl, by simpa [wt] using HI⟩
    case round =>
      clear HI
      obtain ⟨k, hk, rfl, HI⟩ := hrel
      by_cases hlt : k < acts.length
      · obtain ⟨sc, ss, st, hls, hst⟩ := HI.out.ex
        have HB := Lib.hid HI.out.below
        obtain ⟨_, _, _, _, _, h0 | ⟨b, o, he, hlb, hx⟩⟩ := HA1.out wr HB.out
        · rw [h0] at hlt; simp at hlt
        · subst he
          obtain ⟨ad, cd, nm, n, m, -, -, e2, e3, g4, e5, e6, e7⟩ := hx k hlt
          have hsucc := wt_succ acts k hlt
          have hwl := wt_le acts (k + 1)
          have hw200 := HW.out
          obtain ⟨kd, hkd⟩ : ∃ kd, acts[k].kind = kd := ⟨_, rfl⟩
          obtain ⟨d, hdd⟩ : ∃ d, acts[k].data = d := ⟨_, rfl⟩
          rw [hkd] at e2
          rw [hdd] at e3 g4 hsucc
          obtain ⟨W, hW⟩ : ∃ W, wt (acts.take k) = W := ⟨_, rfl⟩
          obtain ⟨W1, hW1⟩ : ∃ W1, wt (acts.take (k + 1)) = W1 := ⟨_, rfl⟩
          rw [hW] at hls hst hsucc
          rw [hW1] at hsucc hwl
          have hbA : Below wr.heap.size wr (wr.alloc (.cells #[.int .i64 kd, .slice ad d.length cd, .string nm, .int .i64 n, .int .i64 m] 54)) := (Below.refl _ wr).alloc (Nat.le_refl _) _
          have HLA := Lib.hid (hls.below hbA)
          have HDA := Lib.hid (RS.below g4 hbA HB.out.size)
          have HACT := Lib.hid (hp_new wr (.cells #[.int .i64 kd, .slice ad d.length cd, .string nm, .int .i64 n, .int .i64 m] 54))
          have HBA := Lib.hid (HB.out.trans (hbA.mono HB.out.size))
          obtain ⟨ac, cc, rfl⟩ := hls.bc.form2
          obtain ⟨as', cs', rfl⟩ := hls.so.form
          obtain ⟨at', ct', rfl⟩ := hls.wo.form
          have HW1 := Lib.hid hW1
          have hsr : (sealsL ([] : List (List UInt8))).length = 0 := rfl
          have HSR := Lib.hid hsr
          clear hls g4 hx hbA hkd hdd hW hW1 hsr
          by_cases h0 : kd = 0
          · have t0 : (kd == 0) = true := by rw [h0]; rfl
            have C4 := Lib.hid (law_add HLA.out HDA.out (by omega) (by omega))
            clear h0
            go_wp2_with fail
            generalize wr.alloc (.cells #[.int .i64 kd, .slice ad d.length cd, .string nm, .int .i64 n, .int .i64 m] 54) = wa at *
            refine C4.out.mono ?_
            rintro e w4 ⟨rfl, H4, B4, K4⟩
            have e8 : w4.cell? ⟨wr.heap.size, 1, none⟩ = some (.slice ad d.length cd) := cell_of (K4.out _ _ _ HACT.out) 1
            have hb8 : Below w4.heap.size w4 (w4.alloc (.cells #[.slice ad d.length cd] 27)) := (Below.refl _ w4).alloc (Nat.le_refl _) _
            have hl5 := H4.out.1.below hb8
            have hd5 := RS.below H4.out.2 hb8 H4.out.1.le
            obtain ⟨xs, hx1, hx2⟩ := hl5.wo
            have hsz := hl5.le
            have HX1 := Lib.hid hx1; have HX2 := Lib.hid hx2; have HL5 := Lib.hid hl5; have HD5 := Lib.hid hd5
            have HB5 := Lib.hid ((HBA.out.trans B4.out).trans (hb8.mono H4.out.1.le))
            clear hb8 hl5 hd5 hx1 hx2
            go_wp2_with (at_builtin; refine wpList_append_rs2 slT22 rfl (.tmp 54) (.tmp 57) rfl w1.heap.size w1.heap.size _ st.length xs rfl HX1.out _ rfl [.slice ad d.length cd] (rs_new w4 27 _ _) (by simp [Value.oneCell']) (by simp only [List.length_singleton]; unfold maxLen; omega) (by simp only [List.length_singleton]; omega) hsz ?_; intro v5 wz ho hg hk5; have P5 := Lib.hid (LawS.push HL5.out HX1.out HX2.out HD5.out ho hg hk5); clear ho hg hk5)
            obtain ⟨stz, hstz⟩ : ∃ stz, st ++ [d] = stz := ⟨_, rfl⟩
            have hsl : (sealsL stz).length = (sealsL st).length + (d.length + 8) := by rw [← hstz, sealsL_app, List.length_append, sealsL_sum [d]]; simp
            have hln : stz.length = st.length + 1 := by rw [← hstz]; simp
            rw [hstz] at P5
            obtain ⟨a5, c5, rfl⟩ := P5.out.1.wo.form
            have HZ : Hid (LawS w1.heap.size wz p pl (1 + (q : Int)) sc ss stz 1048576 (16 + 100 * W1 - (sealsL stz).length) (1 + 2 * W1) False (.slice ac sc.length cc) (.slice as' ss.length cs') (.slice a5 stz.length c5) sc ss stz) := Lib.hid (P5.out.1.weaken (by omega) (by omega) id)
            have BZ := Lib.hid (HB5.out.trans P5.out.2)
            have hcnt : ss.length + stz.length ≤ W1 := by omega
            clear hstz hsl hln
            go_wp2_with fail
            refine (law_pending HZ.out).mono ?_
            rintro e w6 ⟨rfl, rfl⟩
            have CO := Lib.hid (law_open (HE1.out.below BZ.out HB6.out) HZ.out HB6.out (part2 := 1 + (q : Int)) (by omega))
            go_wp2_with fail
            refine CO.out.mono ?_
            rintro e w7 ⟨pl2, v1, v2, rfl, hv1, hv2, H7, B7⟩
            obtain ⟨a1', c1', rfl⟩ := hv1.form2
            have CS := same21_t hv1 H7.out.bc
            rw [decide_eq_true rfl] at CS
            have CR := same16_t (B := w1.heap.size) (BZ.out.trans B7.out).size hv2 H7.out.so.ls
            rw [decide_eq_true rfl] at CR
            obtain ⟨vs2, hv2r, -⟩ := hv2
            obtain ⟨a2', c2', rfl, -⟩ := hv2r
            have HCS := Lib.hid CS; have HCR := Lib.hid CR
            clear hv1 CS CR
            go_wp2_with fail
            refine HCS.out.mono ?_
            rintro e w8 ⟨rfl, rfl⟩
            go_wp2_with fail
            refine HCR.out.mono ?_
            rintro e w9 ⟨rfl, hb9⟩
            have H9 := Lib.hid (H7.out.below hb9)
            have B9 := Lib.hid ((BZ.out.trans B7.out).trans (hb9.mono (BZ.out.trans B7.out).size))
            clear hb9
            go_wp2_with fail
            go_roundw
            case rel => exact ⟨k + 1, hlt, by go_num, Lib.hid ⟨⟨_, _, _, by rw [HW1.out]; exact H9.out, by rw [HW1.out]; exact hcnt⟩, B9.out⟩⟩
            case measure => simp [intOf]; omega
          · have t0 : (kd == 0) = false := beq_eq_false_iff_ne.2 h0
            by_cases h1 : kd = 1
            · have t1 : (kd == 1) = true := by rw [h1]; rfl
              clear h0 h1
              have C4 := Lib.hid (law_flush (HE1.out.below HBA.out HB6.out) HLA.out HB6.out (by omega) (by omega))
              go_wp2_with fail
              generalize wr.alloc (.cells #[.int .i64 kd, .slice ad d.length cd, .string nm, .int .i64 n, .int .i64 m] 54) = wa at *
              refine C4.out.mono ?_
              rintro e w4 ⟨rfl, H4, B4, K4⟩
              obtain ⟨xs, hx1, hx2⟩ := H4.out.so
              obtain ⟨ys, hy1, hy2⟩ := H4.out.wo
              have hyl := hy2.1
              have hsz := H4.out.le
              have HX1 := Lib.hid hx1; have HX2 := Lib.hid hx2; have HY1 := Lib.hid (RS.of_owns (B := w1.heap.size) hy1); have HY2 := Lib.hid hy2
              have HB5 := Lib.hid (HBA.out.trans B4.out)
              clear hx1 hx2 hy1 hy2
              go_wp2_with (at_builtin; refine wpList_append_rs2 slT22 rfl (.tmp 64) (.tmp 65) rfl w1.heap.size w1.heap.size _ ss.length xs rfl HX1.out _ rfl ys HY1.out HY2.out.one (by unfold maxLen; omega) (by omega) hsz ?_; intro v5 wz ho hg hk5; have P5 := Lib.hid (LawS.move H4.out HX1.out HX2.out HY2.out ho hg hk5); clear ho hg hk5)
              obtain ⟨ssz, hssz⟩ : ∃ ssz, ss ++ st = ssz := ⟨_, rfl⟩
              have hln : ssz.length = ss.length + st.length := by rw [← hssz]; simp
              rw [hssz] at P5
              obtain ⟨a5, c5, rfl⟩ := P5.out.1.so.form
              have HZ : Hid (LawS w1.heap.size wz p pl (1 + (q : Int)) sc ssz [] 1048576 (16 + 100 * W1 - (sealsL []).length) (1 + 2 * W1) False (.slice ac sc.length cc) (.slice a5 ssz.length c5) (.slice none 0 0) sc ssz []) := Lib.hid (P5.out.1.weaken (by rw [HSR.out]; omega) (by omega) id)
              have BZ := Lib.hid (HB5.out.trans P5.out.2)
              have hcnt : ssz.length + ([] : List (List UInt8)).length ≤ W1 := by simp only [List.length_nil]; omega
              clear hssz hln
              go_wp2_with fail
              refine (law_pending HZ.out).mono ?_
              rintro e w6 ⟨rfl, rfl⟩
              have CO := Lib.hid (law_open (HE1.out.below BZ.out HB6.out) HZ.out HB6.out (part2 := 1 + (q : Int)) (by omega))
              go_wp2_with fail
              refine CO.out.mono ?_
              rintro e w7 ⟨pl2, v1, v2, rfl, hv1, hv2, H7, B7⟩
              obtain ⟨a1', c1', rfl⟩ := hv1.form2
              have CS := same21_t hv1 H7.out.bc
              rw [decide_eq_true rfl] at CS
              have CR := same16_t (B := w1.heap.size) (BZ.out.trans B7.out).size hv2 H7.out.so.ls
              rw [decide_eq_true rfl] at CR
              obtain ⟨vs2, hv2r, -⟩ := hv2
              obtain ⟨a2', c2', rfl, -⟩ := hv2r
              have HCS := Lib.hid CS; have HCR := Lib.hid CR
              clear hv1 CS CR
              go_wp2_with fail
              refine HCS.out.mono ?_
              rintro e w8 ⟨rfl, rfl⟩
              go_wp2_with fail
              refine HCR.out.mono ?_
              rintro e w9 ⟨rfl, hb9⟩
              have H9 := Lib.hid (H7.out.below hb9)
              have B9 := Lib.hid ((BZ.out.trans B7.out).trans (hb9.mono (BZ.out.trans B7.out).size))
              clear hb9
              go_wp2_with fail
              go_roundw
              case rel => exact ⟨k + 1, hlt, by go_num, Lib.hid ⟨⟨_, _, _, by rw [HW1.out]; exact H9.out, by rw [HW1.out]; exact hcnt⟩, B9.out⟩⟩
              case measure => simp [intOf]; omega
            · have t1 : (kd == 1) = false := beq_eq_false_iff_ne.2 h1
              by_cases h2 : kd = 2
              · have t2 : (kd == 2) = true := by rw [h2]; rfl
                clear h0 h1 h2
                have C4 := Lib.hid (law_mark (HE1.out.below HBA.out HB6.out) HLA.out HB6.out HDA.out (by omega) (by omega) (by omega))
                go_wp2_with fail
                generalize wr.alloc (.cells #[.int .i64 kd, .slice ad d.length cd, .string nm, .int .i64 n, .int .i64 m] 54) = wa at *
                refine C4.out.mono ?_
                rintro e w4 ⟨rfl, H4, B4, K4⟩
                have C5 := Lib.hid (law_parts (HE1.out.below (HBA.out.trans B4.out) HB6.out) H4.out.1 HB6.out H4.out.2)
                go_wp2_with fail
                refine C5.out.mono ?_
                rintro e wz ⟨⟨a5, c5, rfl⟩, H5, D5, B5, K5⟩
                have e8 : wz.cell? ⟨wr.heap.size, 1, none⟩ = some (.slice ad d.length cd) := cell_of (K5.out _ _ _ (K4.out _ _ _ HACT.out)) 1
                have hdl : d.length ≤ 50 * (d.length / 50) + 49 := by omega
                have HZ : Hid (LawS w1.heap.size wz p pl (1 + (q : Int)) d [] [] 1048576 (16 + 100 * W1 - (sealsL []).length) (1 + 2 * W1) False (.slice ad d.length cd) (.slice none 0 0) (.slice none 0 0) d [] []) := Lib.hid ((H5.out.reset D5.out).weaken (by rw [HSR.out]; omega) (by omega) id)
                have BZ := Lib.hid ((HBA.out.trans B4.out).trans B5.out)
                have hcnt : ([] : List (List UInt8)).length + ([] : List (List UInt8)).length ≤ W1 := by simp
                clear hdl
                go_wp2_with fail
                refine (law_pending HZ.out).mono ?_
                rintro e w6 ⟨rfl, rfl⟩
                have CO := Lib.hid (law_open (HE1.out.below BZ.out HB6.out) HZ.out HB6.out (part2 := 1 + (q : Int)) (by omega))
                go_wp2_with fail
                refine CO.out.mono ?_
                rintro e w7 ⟨pl2, v1, v2, rfl, hv1, hv2, H7, B7⟩
                obtain ⟨a1', c1', rfl⟩ := hv1.form2
                have CS := same21_t hv1 H7.out.bc
                rw [decide_eq_true rfl] at CS
                have CR := same16_t (B := w1.heap.size) (BZ.out.trans B7.out).size hv2 H7.out.so.ls
                rw [decide_eq_true rfl] at CR
                obtain ⟨vs2, hv2r, -⟩ := hv2
                obtain ⟨a2', c2', rfl, -⟩ := hv2r
                have HCS := Lib.hid CS; have HCR := Lib.hid CR
                clear hv1 CS CR
                go_wp2_with fail
                refine HCS.out.mono ?_
                rintro e w8 ⟨rfl, rfl⟩
                go_wp2_with fail
                refine HCR.out.mono ?_
                rintro e w9 ⟨rfl, hb9⟩
                have H9 := Lib.hid (H7.out.below hb9)
                have B9 := Lib.hid ((BZ.out.trans B7.out).trans (hb9.mono (BZ.out.trans B7.out).size))
                clear hb9
                go_wp2_with fail
                go_roundw
                case rel => exact ⟨k + 1, hlt, by go_num, Lib.hid ⟨⟨_, _, _, by rw [HW1.out]; exact H9.out, by rw [HW1.out]; exact hcnt⟩, B9.out⟩⟩
                case measure => simp [intOf]; omega
              · have t2 : (kd == 2) = false := beq_eq_false_iff_ne.2 h2
                clear h0 h1 h2
                have HZ0 : Hid (LawS w1.heap.size (wr.alloc (.cells #[.int .i64 kd, .slice ad d.length cd, .string nm, .int .i64 n, .int .i64 m] 54)) p pl (1 + (q : Int)) sc ss st 1048576 (16 + 100 * W1 - (sealsL st).length) (1 + 2 * W1) False (.slice ac sc.length cc) (.slice as' ss.length cs') (.slice at' st.length ct') sc ss st) := Lib.hid (HLA.out.weaken (by omega) (by omega) id)
                have hcnt : ss.length + st.length ≤ W1 := by omega
                go_wp2_with fail
                generalize wr.alloc (.cells #[.int .i64 kd, .slice ad d.length cd, .string nm, .int .i64 n, .int .i64 m] 54) = wz at *
                have HZ := HZ0
                have BZ := HBA
                refine (law_pending HZ.out).mono ?_
                rintro e w6 ⟨rfl, rfl⟩
                have CO := Lib.hid (law_open (HE1.out.below BZ.out HB6.out) HZ.out HB6.out (part2 := 1 + (q : Int)) (by omega))
                go_wp2_with fail
                refine CO.out.mono ?_
                rintro e w7 ⟨pl2, v1, v2, rfl, hv1, hv2, H7, B7⟩
                obtain ⟨a1', c1', rfl⟩ := hv1.form2
                have CS := same21_t hv1 H7.out.bc
                rw [decide_eq_true rfl] at CS
                have CR := same16_t (B := w1.heap.size) (BZ.out.trans B7.out).size hv2 H7.out.so.ls
                rw [decide_eq_true rfl] at CR
                obtain ⟨vs2, hv2r, -⟩ := hv2
                obtain ⟨a2', c2', rfl, -⟩ := hv2r
                have HCS := Lib.hid CS; have HCR := Lib.hid CR
                clear hv1 CS CR
                go_wp2_with fail
                refine HCS.out.mono ?_
                rintro e w8 ⟨rfl, rfl⟩
                go_wp2_with fail
                refine HCR.out.mono ?_
                rintro e w9 ⟨rfl, hb9⟩
                have H9 := Lib.hid (H7.out.below hb9)
                have B9 := Lib.hid ((BZ.out.trans B7.out).trans (hb9.mono (BZ.out.trans B7.out).size))
                clear hb9
                go_wp2_with fail
                go_roundw
                case rel => exact ⟨k + 1, hlt, by go_num, Lib.hid ⟨⟨_, _, _, by rw [HW1.out]; exact H9.out, by rw [HW1.out]; exact hcnt⟩, B9.out⟩⟩
                case measure => simp [intOf]; omega
      · go_wp2_with fail
        refine (lives_t (HE1.out.below HI.out.below HB6.out) (Nat.le_trans HB6.out HI.out.below.size)).mono ?_
        rintro e w9 ⟨rfl, hb9⟩
        go_wp2
        go_ret
        exact ⟨rfl, B1.out.trans ((HI.out.below.trans (hb9.mono HI.out.below.size)).mono B1.out.size)⟩
  · have hd : decide (wt acts ≤ 200) = false := decide_eq_false hw
    rw [hd] at HLI
    clear hE hd hw
    go_enter Tryz.func6, Tryz.ntmps6
    go_wp2_with fail
    refine HLI.out.mono ?_
    rintro e w1 ⟨rfl, hb1⟩
    go_wp2_with fail
    refine (lives_t (HE.out.below hb1 hB) (Nat.le_trans hB hb1.size)).mono ?_
    rintro e w3 ⟨rfl, hb3⟩
    go_wp2
    go_ret
    exact ⟨rfl, hb1.trans (hb3.mono hb1.size)⟩
end Go.Proofs.YthjilhjdnefmdaaGreatDoor
