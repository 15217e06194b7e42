/- Joined texts: Plain laws: a store whose calls are counted goes as one whose are not, or fails. Conditions: none. Plain laws: a ledger's calls on a store whose calls are counted. Conditions: none. Plain laws: what a store shows when its power has failed. Conditions: none. Plain laws: what Open tells where Flush has failed. Conditions: none. Plain laws: Flush and Mark where a call will fail. Conditions: none. Plain laws: Mark where a call will fail. Conditions: none. Plain laws: a ledger on a store of which a call will fail. Conditions: none. Plain laws: a log is opened again while a call may fail. Conditions: none. -/
import Derived.Test.YthjilhjdnefmdaaGreatDoorMP
import Derived.Test.YthjilhjdnefmdaaGreatDoorMT
/- Plain laws: a store whose calls are counted goes as one whose are not, or fails. Conditions: none. -/
namespace Go.Proofs.YthjilhjdnefmdaaGreatDoor
open Go.RowKit
def zero (st : St) : St := { st with left := 0 }
/-- What a counted call does touches neither counts nor the switch. -/
structure Does (d : St → St) : Prop where
  zero : ∀ s, zero (d s) = d (zero s)
  left : ∀ s, (d s).left = s.left
  keep : ∀ s, (d s).keep = s.keep
  dark : ∀ s, (d s).dark = s.dark
theorem does_new (n : Nm) : Does fun s => newFile s n := ⟨fun _ => rfl, fun _ => rfl, fun _ => rfl, fun _ => rfl⟩
theorem does_write (i : Nat) (l : List UInt8) : Does (writeD i l) := ⟨fun _ => rfl, fun _ => rfl, fun _ => rfl, fun _ => rfl⟩
theorem does_sync (i : Nat) : Does (syncD i) := ⟨fun _ => rfl, fun _ => rfl, fun _ => rfl, fun _ => rfl⟩
theorem does_cut (i k : Nat) : Does (cutD i k) := ⟨fun _ => rfl, fun _ => rfl, fun _ => rfl, fun _ => rfl⟩
theorem does_move (i : Nat) (a b : Nm) : Does (moveD i a b) := ⟨fun _ => rfl, fun _ => rfl, fun _ => rfl, fun _ => rfl⟩
theorem does_drop (n : Nm) : Does (dropD n) := ⟨fun _ => rfl, fun _ => rfl, fun _ => rfl, fun _ => rfl⟩
theorem does_commit : Does commitD := ⟨fun _ => rfl, fun _ => rfl, fun _ => rfl, fun _ => rfl⟩
/-- A call will fail. -/
structure Armed (st : St) : Prop where
  pos : 0 < st.left
  few : st.left ≤ 100
  dark : st.dark = false
def Crashed (Q : St → Prop) (k : Int) (st : St) : Prop := ∃ s0 s, Q s0 ∧ Like s0 s ∧ s.dark = false ∧ st = failA s k
theorem Crashed.mono {Q Q' : St → Prop} {k : Int} {st : St} (h : Crashed Q k st) (hq : ∀ s, Q s → Q' s) : Crashed Q' k st := by
  obtain ⟨s0, s, h1, h2⟩ := h
  exact ⟨s0, s, hq _ h1, h2⟩
/-- It failed where Q stands, or all went as without a count. -/
def CrashOr (Q : St → Prop) (k : Int) (r r0 : St × Int) : Prop := (r.2 = 9 ∧ Crashed Q k r.1) ∨ (zero r.1 = r0.1 ∧ r.2 = r0.2 ∧ Armed r.1 ∧ r.1.keep = k)
theorem CrashOr.mono {Q Q' : St → Prop} {k : Int} {r r0 : St × Int} (h : CrashOr Q k r r0) (hq : ∀ s, Q s → Q' s) : CrashOr Q' k r r0 :=
  h.imp (fun h => ⟨h.1, h.2.mono hq⟩) id
theorem counted_crash {d : St → St} (hd : Does d) {st : St} (h : Armed st) : CrashOr (· = zero st) st.keep (countedA st d) (countedA (zero st) d) := by
  have h1 := h.pos
  have h2 := h.few
  have hw : wrap64 (st.left - 1) = st.left - 1 := IntWalk.wrap64_in _ (by omega)
  have h0 : countedA (zero st) d = (d (tick (zero st)), 0) := by unfold countedA; rw [if_neg (by show ¬ (0 : Int) < 0; omega)]
  rw [h0]
  unfold countedA
  rw [if_pos h1, hw]
  by_cases hz : st.left - 1 = 0
  · rw [if_pos hz]
    exact .inl ⟨rfl, zero st, { tick st with left := 0 }, rfl, ⟨rfl, rfl, rfl, rfl, rfl⟩, h.dark, rfl⟩
  · rw [if_neg hz]
    refine .inr ⟨hd.zero _, rfl, ⟨?_, ?_, ?_⟩, ?_⟩
    · show 0 < (d _).left
      rw [hd.left]; show 0 < st.left - 1; omega
    · show (d _).left ≤ _
      rw [hd.left]; show st.left - 1 ≤ _; omega
    · show (d _).dark = _
      rw [hd.dark]; exact h.dark
    · show (d _).keep = _
      rw [hd.keep]; rfl
theorem went_same {Q : St → Prop} {st : St} (h : Armed st) (e : Int) : CrashOr Q st.keep (st, e) (zero st, e) := .inr ⟨rfl, rfl, h, rfl⟩
def Opp (f : St → St × Int) : Prop := ∀ st, Armed st → CrashOr (· = zero st) st.keep (f st) (f (zero st))
theorem opp_make (n : Nm) : Opp fun s => makeA s n := fun st h => by
  show CrashOr _ _ (makeA st n) (makeA (zero st) n)
  unfold makeA
  show CrashOr _ _ _ (if (knownA st n).2 = 0 then (zero st, 4) else if (knownA st n).2 ≠ 3 then (zero st, (knownA st n).2) else if freeA st < 16 then (zero st, 6) else countedA (zero st) _)
  by_cases h1 : (knownA st n).2 = 0
  · rw [if_pos h1, if_pos h1]; exact went_same h _
  · rw [if_neg h1, if_neg h1]
    by_cases h2 : (knownA st n).2 ≠ 3
    · rw [if_pos h2, if_pos h2]; exact went_same h _
    · rw [if_neg h2, if_neg h2]
      by_cases h3 : freeA st < 16
      · rw [if_pos h3, if_pos h3]; exact went_same h _
      · rw [if_neg h3, if_neg h3]; exact counted_crash (does_new n) h
theorem opp_write (n : Nm) (l : List UInt8) : Opp fun s => writeA s n l := fun st h => by
  show CrashOr _ _ (writeA st n l) (writeA (zero st) n l)
  unfold writeA
  show CrashOr _ _ _ (if kErr st n = 0 then (if freeA st < l.length then (zero st, 6) else countedA (zero st) (writeD (kIdx st n) l)) else (zero st, kErr st n))
  by_cases h1 : kErr st n = 0
  · rw [if_pos h1, if_pos h1]
    by_cases h3 : freeA st < l.length
    · rw [if_pos h3, if_pos h3]; exact went_same h _
    · rw [if_neg h3, if_neg h3]; exact counted_crash (does_write _ l) h
  · rw [if_neg h1, if_neg h1]; exact went_same h _
theorem opp_sync (n : Nm) : Opp fun s => syncA s n := fun st h => by
  show CrashOr _ _ (syncA st n) (syncA (zero st) n)
  unfold syncA
  show CrashOr _ _ _ (if kErr st n = 0 then countedA (zero st) (syncD (kIdx st n)) else (zero st, kErr st n))
  by_cases h1 : kErr st n = 0
  · rw [if_pos h1, if_pos h1]; exact counted_crash (does_sync _) h
  · rw [if_neg h1, if_neg h1]; exact went_same h _
theorem opp_cut (n : Nm) (k : Int) : Opp fun s => cutA s n k := fun st h => by
  show CrashOr _ _ (cutA st n k) (cutA (zero st) n k)
  unfold cutA
  show CrashOr _ _ _ (if kErr st n = 0 then (if k < 0 ∨ ((fl st (kIdx st n)).now.length : Int) < k then (zero st, 2) else countedA (zero st) (cutD (kIdx st n) k.toNat)) else (zero st, kErr st n))
  by_cases h1 : kErr st n = 0
  · rw [if_pos h1, if_pos h1]
    by_cases h3 : k < 0 ∨ ((fl st (kIdx st n)).now.length : Int) < k
    · rw [if_pos h3, if_pos h3]; exact went_same h _
    · rw [if_neg h3, if_neg h3]; exact counted_crash (does_cut _ _) h
  · rw [if_neg h1, if_neg h1]; exact went_same h _
theorem opp_drop (n : Nm) : Opp fun s => dropA s n := fun st h => by
  show CrashOr _ _ (dropA st n) (dropA (zero st) n)
  unfold dropA
  show CrashOr _ _ _ (if kErr st n = 0 then countedA (zero st) (dropD n) else (zero st, kErr st n))
  by_cases h1 : kErr st n = 0
  · rw [if_pos h1, if_pos h1]; exact counted_crash (does_drop _) h
  · rw [if_neg h1, if_neg h1]; exact went_same h _
theorem opp_move (a b : Nm) : Opp fun s => moveA s a b := fun st h => by
  show CrashOr _ _ (moveA st a b) (moveA (zero st) a b)
  unfold moveA
  show CrashOr _ _ _ (if kErr st a ≠ 1 ∧ kErr st a ≠ 9 ∧ goodN b = false then (zero st, 2) else if kErr st a = 0 then countedA (zero st) (moveD (kIdx st a) a b) else (zero st, kErr st a))
  by_cases h1 : kErr st a ≠ 1 ∧ kErr st a ≠ 9 ∧ goodN b = false
  · rw [if_pos h1, if_pos h1]; exact went_same h _
  · rw [if_neg h1, if_neg h1]
    by_cases h3 : kErr st a = 0
    · rw [if_pos h3, if_pos h3]; exact counted_crash (does_move _ _ _) h
    · rw [if_neg h3, if_neg h3]; exact went_same h _
theorem opp_commit : Opp commitA := fun st h => by
  unfold commitA
  rw [if_neg (by rw [h.dark]; simp), if_neg (by show ¬ st.dark = true; rw [h.dark]; simp)]
  exact counted_crash does_commit h
theorem opp_mark1 : Opp mark1A := fun st h => by
  unfold mark1A
  show CrashOr _ _ _ (if kErr st kNew ≠ 0 then (zero st, 0) else dropA (zero st) kNew)
  by_cases h1 : kErr st kNew ≠ 0
  · rw [if_pos h1, if_pos h1]; exact went_same h _
  · rw [if_neg h1, if_neg h1]; exact opp_drop kNew st h
/-- Q stands wherever a step begins. -/
def Along (Q : St → Prop) : List (St → St × Int) → St → Prop
  | [], _ => True
  | f :: r, s => Q s ∧ ((f s).2 = 0 → Along Q r (f s).1)
theorem each_crash {Q : St → Prop} : ∀ (l : List (St → St × Int)) (st : St), (∀ f ∈ l, Opp f) → Armed st → Along Q l (zero st) → CrashOr Q st.keep (eachA l st) (eachA l (zero st))
  | [], st, _, h, _ => went_same h 0
  | f :: r, st, hl, h, ha => by
    rcases hl f (List.mem_cons_self ..) st h with ⟨h1, h2⟩ | ⟨h1, h2, h3, h4⟩
    · unfold eachA
      rw [if_neg (by rw [h1]; decide)]
      exact .inl ⟨h1, h2.mono (fun s hs => by subst hs; exact ha.1)⟩
    · unfold eachA
      rw [← h2]
      by_cases h0 : (f st).2 = 0
      · rw [if_pos h0, if_pos h0, ← h4, ← h1]
        exact each_crash r (f st).1 (fun g hg => hl g (List.mem_cons_of_mem _ hg)) h3 (by rw [h1]; exact ha.2 (by rw [← h2]; exact h0))
      · rw [if_neg h0, if_neg h0]
        exact .inr ⟨h1, h2, h3, h4⟩
end Go.Proofs.YthjilhjdnefmdaaGreatDoor
/- Plain laws: a ledger's calls on a store whose calls are counted. Conditions: none. -/
namespace Go.Proofs.YthjilhjdnefmdaaGreatDoor
open Go.RowKit
def CrashT (Q : St → Prop) (k : Int) (r r0 : St × LM × Int) : Prop := (r.2.2 = 9 ∧ Crashed Q k r.1) ∨ (zero r.1 = r0.1 ∧ r.2 = r0.2 ∧ Armed r.1 ∧ r.1.keep = k)
section
variable {Q R : St → Prop} {st : St}
theorem CrashT.mono {Q Q' : St → Prop} {k : Int} {r r0 : St × LM × Int} (h : CrashT Q k r r0) (hq : ∀ s, Q s → Q' s) : CrashT Q' k r r0 :=
  h.imp (fun h => ⟨h.1, h.2.mono hq⟩) id
theorem turn_crash (h : Armed st) (L : LM) (h0 : Q (zero st)) (h1 : (makeA (zero st) (nameA (L.last + 1))).2 = 0 → Q (makeA (zero st) (nameA (L.last + 1))).1) : CrashT Q st.keep (turnA st L) (turnA (zero st) L) := by
  have hm : CrashOr (fun s => s = zero st) st.keep (makeA st (nameA (L.last + 1))) (makeA (zero st) (nameA (L.last + 1))) := opp_make (nameA (L.last + 1)) st h
  unfold turnA
  revert hm h1
  generalize makeA st (nameA (L.last + 1)) = m
  generalize makeA (zero st) (nameA (L.last + 1)) = m0
  rintro h1 (⟨e1, e2⟩ | ⟨e1, e2, e3, e4⟩)
  · have e1' : m.2 = 9 := e1
    rw [if_pos e1']
    exact .inl ⟨rfl, e2.mono (fun s hs => by rw [hs]; exact h0)⟩
  · have e1' : zero m.1 = m0.1 := e1
    have e2' : m.2 = m0.2 := e2
    have e4' : m.1.keep = st.keep := e4
    rw [← e2']
    by_cases a : m.2 = 9
    · rw [if_pos a, if_pos a]
      exact .inr ⟨e1', rfl, e3, e4'⟩
    · rw [if_neg a, if_neg a]
      by_cases b : m.2 ≠ 0
      · rw [if_pos b, if_pos b]
        exact .inr ⟨e1', rfl, e3, e4'⟩
      · rw [if_neg b, if_neg b]
        have hc := opp_commit m.1 e3
        have hq : Q m0.1 := h1 (by rw [← e2']; omega)
        rw [e1', e4'] at hc
        revert hc
        generalize commitA m.1 = c
        generalize commitA m0.1 = c0
        rintro (⟨f1, f2⟩ | ⟨f1, f2, f3, f4⟩)
        · rw [if_pos (by rw [f1]; decide)]
          exact .inl ⟨f1, f2.mono (fun s hs => by rw [hs]; exact hq)⟩
        · rw [← f2]
          by_cases d : c.2 ≠ 0
          · rw [if_pos d, if_pos d]
            exact .inr ⟨f1, rfl, f3, f4⟩
          · rw [if_neg d, if_neg d]
            exact .inr ⟨f1, rfl, f3, f4⟩
theorem flush_crash (h : Armed st) (L : LM) (h0 : Along Q [fun s => writeA s (nameA L.last) (sealsL L.waits), fun s => syncA s (nameA L.last)] (zero st))
    (h1 : (flushE (zero st) L).2 = 0 → Q (flushE (zero st) L).1 ∧ ((makeA (flushE (zero st) L).1 (nameA (L.last + 1))).2 = 0 → Q (makeA (flushE (zero st) L).1 (nameA (L.last + 1))).1)) :
    CrashT Q st.keep (flushA st L) (flushA (zero st) L) := by
  have hf : CrashOr Q st.keep (flushE st L) (flushE (zero st) L) := each_crash _ st (fun f hf => by
    simp only [List.mem_cons, List.not_mem_nil, or_false] at hf
    rcases hf with rfl | rfl
    · exact opp_write _ _
    · exact opp_sync _) h h0
  unfold flushA
  show CrashT Q st.keep _ (if mayA st L ≠ 0 then (zero st, L, mayA st L) else if L.waits = [] then (zero st, L, 0) else if (flushE (zero st) L).2 ≠ 0 then _ else _)
  by_cases a : mayA st L ≠ 0
  · rw [if_pos a, if_pos a]; exact .inr ⟨rfl, rfl, h, rfl⟩
  · rw [if_neg a, if_neg a]
    by_cases b : L.waits = []
    · rw [if_pos b, if_pos b]; exact .inr ⟨rfl, rfl, h, rfl⟩
    · rw [if_neg b, if_neg b]
      revert hf h1
      generalize flushE st L = m
      generalize flushE (zero st) L = m0
      rintro h1 (⟨e1, e2⟩ | ⟨e1, e2, e3, e4⟩)
      · rw [if_pos (by rw [e1]; decide)]
        exact .inl ⟨e1, e2⟩
      · rw [← e2]
        by_cases c : m.2 ≠ 0
        · rw [if_pos c, if_pos c]; exact .inr ⟨e1, rfl, e3, e4⟩
        · rw [if_neg c, if_neg c]
          obtain ⟨g1, g2⟩ := h1 (by rw [← e2]; omega)
          rw [← e1] at g1 g2 ⊢
          unfold flushT
          show CrashT Q st.keep _ (if ((readA m.1 (nameA L.last)).length : Int) ≤ L.part ∨ 999999999 ≤ L.last then (zero m.1, { L with waits := [] }, 0) else turnA (zero m.1) { L with waits := [] })
          by_cases d : ((readA m.1 (nameA L.last)).length : Int) ≤ L.part ∨ 999999999 ≤ L.last
          · rw [if_pos d, if_pos d]; exact .inr ⟨rfl, rfl, e3, e4⟩
          · rw [if_neg d, if_neg d, ← e4]
            exact turn_crash e3 { L with waits := [] } g1 g2
theorem cleanF_crash (hR : ∀ s, R s → Q s) (hd : ∀ s n, R s → (dropA s (nameA n)).2 = 0 → R (dropA s (nameA n)).1) (last : Int) : ∀ (all : List Int) (st : St), Armed st → R (zero st) → CrashOr Q st.keep (cleanF last all st) (cleanF last all (zero st))
  | [], st, h, h0 => by
    have := opp_commit st h
    exact this.mono (fun s hs => by rw [hs]; exact hR _ h0)
  | n :: r, st, h, h0 => by
    unfold cleanF
    by_cases a : n = last
    · rw [if_pos a, if_pos a]
      exact cleanF_crash hR hd last r st h h0
    · rw [if_neg a, if_neg a]
      have hm : CrashOr (fun s => s = zero st) st.keep (dropA st (nameA n)) (dropA (zero st) (nameA n)) := opp_drop (nameA n) st h
      have h2 := hd (zero st) n h0
      revert hm h2
      generalize dropA st (nameA n) = m
      generalize dropA (zero st) (nameA n) = m0
      rintro (⟨e1, e2⟩ | ⟨e1, e2, e3, e4⟩) h2
      · rw [if_pos (by rw [e1]; decide)]
        exact .inl ⟨e1, e2.mono (fun s hs => by rw [hs]; exact hR _ h0)⟩
      · rw [← e2]
        by_cases c : m.2 ≠ 0
        · rw [if_pos c, if_pos c]; exact .inr ⟨e1, e2, e3, e4⟩
        · rw [if_neg c, if_neg c, ← e1, ← e4]
          exact cleanF_crash hR hd last r m.1 e3 (by rw [e1]; exact h2 (by rw [← e2]; omega))
def markL (next : Int) (b : List UInt8) : List (St → St × Int) := [mark1A, fun s => makeA s kNew, fun s => writeA s kNew b, fun s => syncA s kNew, fun s => makeA s (nameA next), fun s => moveA s kNew kCheck, commitA]
theorem markF_crash (h : Armed st) (L : LM) (c : List UInt8) (hR : ∀ s, R s → Q s) (hd : ∀ s n, R s → (dropA s (nameA n)).2 = 0 → R (dropA s (nameA n)).1)
    (h0 : Along Q (markL (L.last + 1) (markB (L.last + 1) c)) (zero st)) (h1 : (markE (zero st) (L.last + 1) (markB (L.last + 1) c)).2 = 0 → R (markE (zero st) (L.last + 1) (markB (L.last + 1) c)).1) :
    CrashT Q st.keep (markF st L c) (markF (zero st) L c) := by
  have hf : CrashOr Q st.keep (markE st (L.last + 1) (markB (L.last + 1) c)) (markE (zero st) (L.last + 1) (markB (L.last + 1) c)) := each_crash _ st (fun f hf => by
    simp only [markL, List.mem_cons, List.not_mem_nil, or_false] at hf
    rcases hf with rfl | rfl | rfl | rfl | rfl | rfl | rfl
    · exact opp_mark1
    · exact opp_make _
    · exact opp_write _ _
    · exact opp_sync _
    · exact opp_make _
    · exact opp_move _ _
    · exact opp_commit) h h0
  unfold markF
  revert hf h1
  generalize markE st (L.last + 1) (markB (L.last + 1) c) = m
  generalize markE (zero st) (L.last + 1) (markB (L.last + 1) c) = m0
  rintro h1 (⟨e1, e2⟩ | ⟨e1, e2, e3, e4⟩)
  · rw [if_pos (by rw [e1]; decide)]
    exact .inl ⟨e1, e2⟩
  · rw [← e2]
    by_cases a : m.2 ≠ 0
    · rw [if_pos a, if_pos a]; exact .inr ⟨e1, rfl, e3, e4⟩
    · rw [if_neg a, if_neg a]
      have hr := h1 (by rw [← e2]; omega)
      rw [← e1] at hr ⊢
      have hc : CrashOr Q m.1.keep (cleanA m.1 (L.last + 1)) (cleanA (zero m.1) (L.last + 1)) := cleanF_crash hR hd _ _ _ e3 hr
      unfold markT
      revert hc
      generalize cleanA m.1 (L.last + 1) = d
      generalize cleanA (zero m.1) (L.last + 1) = d0
      rw [e4]
      rintro (⟨f1, f2⟩ | ⟨f1, f2, f3, f4⟩)
      · exact .inl ⟨f1, f2⟩
      · rw [← f2]
        exact .inr ⟨f1, rfl, f3, f4⟩
theorem mark_crash (h : Armed st) (L : LM) (c : List UInt8) (hR : ∀ s, R s → Q s) (hd : ∀ s n, R s → (dropA s (nameA n)).2 = 0 → R (dropA s (nameA n)).1)
    (hF : CrashT Q st.keep (flushA st L) (flushA (zero st) L))
    (h0 : (flushA (zero st) L).2.2 = 0 → Along Q (markL ((flushA (zero st) L).2.1.last + 1) (markB ((flushA (zero st) L).2.1.last + 1) c)) (flushA (zero st) L).1)
    (h1 : (flushA (zero st) L).2.2 = 0 → (markE (flushA (zero st) L).1 ((flushA (zero st) L).2.1.last + 1) (markB ((flushA (zero st) L).2.1.last + 1) c)).2 = 0 → R (markE (flushA (zero st) L).1 ((flushA (zero st) L).2.1.last + 1) (markB ((flushA (zero st) L).2.1.last + 1) c)).1) :
    CrashT Q st.keep (markA st L c) (markA (zero st) L c) := by
  unfold markA
  show CrashT Q st.keep _ (if mayA st L ≠ 0 then (zero st, L, mayA st L) else if 1048512 < c.length then (zero st, L, 5) else if (flushA (zero st) L).2.2 ≠ 0 then _ else _)
  by_cases a : mayA st L ≠ 0
  · rw [if_pos a, if_pos a]; exact .inr ⟨rfl, rfl, h, rfl⟩
  · rw [if_neg a, if_neg a]
    by_cases b : 1048512 < c.length
    · rw [if_pos b, if_pos b]; exact .inr ⟨rfl, rfl, h, rfl⟩
    · rw [if_neg b, if_neg b]
      revert hF h0 h1
      generalize flushA st L = m
      generalize flushA (zero st) L = m0
      rintro (⟨e1, e2⟩ | ⟨e1, e2, e3, e4⟩) h0 h1
      · rw [if_pos (by rw [e1]; decide)]
        exact .inl ⟨e1, e2⟩
      · rw [← e2] at h0 h1 ⊢
        by_cases d : m.2.2 ≠ 0
        · rw [if_pos d, if_pos d]; exact .inr ⟨e1, e2, e3, e4⟩
        · rw [if_neg d, if_neg d]
          rw [← e1] at h0 h1 ⊢
          by_cases f : 999999999 ≤ m.2.1.last
          · rw [if_pos f, if_pos f]; exact .inr ⟨rfl, rfl, e3, e4⟩
          · rw [if_neg f, if_neg f, ← e4]
            exact markF_crash e3 m.2.1 c hR hd (h0 (by omega)) (h1 (by omega))
end
end Go.Proofs.YthjilhjdnefmdaaGreatDoor
/- Plain laws: what a store shows when its power has failed. Conditions: none. -/
namespace Go.Proofs.YthjilhjdnefmdaaGreatDoor
open Go.RowKit
/-- The power fails, and is on again. -/
def after (k : Int) (s : St) : St := powerA (failA s k)
/-- Nothing waits for a sync or a commit. -/
def Clean (st : St) : Prop := ∀ m i, dget st.now m = some i → (fl st i).sure = (fl st i).now
def Settled (st : St) : Prop := st.sure = st.now ∧ Clean st
def WFs (st : St) : Prop := WF { st with now := st.sure }
section
variable {s s0 : St} {k : Int}
theorem after_now (hd : s.dark = false) : (after k s).now = s.sure := by unfold after powerA failA; rw [hd]; rfl
theorem after_sure (hd : s.dark = false) : (after k s).sure = s.sure := by unfold after powerA failA; rw [hd]; rfl
theorem after_files (hd : s.dark = false) : (after k s).files = s.files.mapIdx fun i f => if reach s i then afterFail k f else f := by unfold after powerA failA; rw [hd]; rfl
theorem after_room : (after k s).room = s.room := by unfold after powerA failA; split <;> rfl
theorem after_fl (hd : s.dark = false) {m : Nm} {i : Nat} (hi : dget s.sure m = some i) (hlt : i < s.files.length) : fl (after k s) i = afterFail k (fl s i) := by
  have hr : reach s i = true := by
    unfold reach
    rw [List.any_eq_true]
    exact ⟨(m, i), List.mem_append_right _ (dget_mem hi), by simp⟩
  unfold fl
  rw [after_files hd]
  simp only [List.getD_eq_getElem?_getD, List.getElem?_mapIdx, List.getElem?_eq_getElem hlt, Option.map_some, Option.getD_some]
  rw [if_pos hr]
theorem after_calm (hd : s.dark = false) (hw : WFs s) : Calm (after k s) := by
  refine ⟨⟨?_, ?_, ?_, ?_⟩, rfl, Int.le_refl _⟩
  · rw [after_now hd]; exact hw.keys
  · rw [after_now hd]; exact hw.inj
  · rw [after_now hd, after_files hd, List.length_mapIdx]; exact hw.idx
  · rw [after_now hd]; exact hw.good
theorem after_view (hd : s.dark = false) (hw : WFs s) (m : Nm) : view (after k s) m = (dget s.sure m).map fun i => (afterFail k (fl s i)).now := by
  unfold view
  rw [after_now hd]
  cases hi : dget s.sure m with
  | none => rfl
  | some i => rw [Option.map_some, Option.map_some, after_fl hd hi (hw.idx m i hi)]
theorem afterFail_clean (k : Int) (f : Fl) : (afterFail k f).sure = (afterFail k f).now := rfl
theorem after_settled (hd : s.dark = false) (hw : WFs s) : Settled (after k s) := by
  refine ⟨by rw [after_sure hd, after_now hd], fun m i hi => ?_⟩
  rw [after_now hd] at hi
  rw [after_fl hd hi (hw.idx m i hi)]
  rfl
theorem afterFail_same (k : Int) (x : List UInt8) : afterFail k ⟨x, x⟩ = ⟨x, x⟩ := by
  have : (min (max k 0) ((x.length : Int) - x.length)).toNat = 0 := by omega
  simp only [afterFail, this]
  simp
theorem settled_wfs (h : Settled s) (hw : WF s) : WFs s := by
  unfold WFs
  rw [h.1]
  exact ⟨hw.keys, hw.inj, hw.idx, hw.good⟩
/-- The part that is sure is untouched. -/
structure Sd (s0 s : St) : Prop where
  sure : s.sure = s0.sure
  len : s0.files.length ≤ s.files.length
  fl : ∀ m i, dget s0.sure m = some i → fl s i = fl s0 i
theorem Sd.refl (s : St) : Sd s s := ⟨rfl, Nat.le_refl _, fun _ _ _ => rfl⟩
theorem Sd.wfs (h : Sd s0 s) (hw : WFs s0) : WFs s := by
  obtain ⟨h1, h2, h3, h4⟩ := hw
  refine ⟨?_, ?_, ?_, ?_⟩
  · show (s.sure.map (·.1)).Nodup
    rw [h.sure]; exact h1
  · show ∀ n m i, dget s.sure n = some i → dget s.sure m = some i → n = m
    rw [h.sure]; exact h2
  · show ∀ n i, dget s.sure n = some i → i < s.files.length
    rw [h.sure]; exact fun n i hi => Nat.lt_of_lt_of_le (h3 n i hi) h.len
  · show ∀ q ∈ s.sure, goodN q.1 = true
    rw [h.sure]; exact h4
theorem Sd.like {s1 : St} (h : Sd s0 s) (hl : Like s s1) : Sd s0 s1 := ⟨by rw [hl.sure]; exact h.sure, by rw [hl.files]; exact h.len, fun m i hi => by rw [hl.fl]; exact h.fl m i hi⟩
theorem Sd.trans {s1 : St} (h : Sd s0 s) (g : Sd s s1) : Sd s0 s1 := ⟨g.sure.trans h.sure, Nat.le_trans h.len g.len, fun m i hi => (g.fl m i (by rw [h.sure]; exact hi)).trans (h.fl m i hi)⟩
theorem Sd.view (h : Sd s0 s) (hs : Settled s0) (hw : WF s0) (hd : s.dark = false) (m : Nm) : view (after k s) m = view s0 m := by
  rw [after_view hd (h.wfs (settled_wfs hs hw))]
  unfold Go.Proofs.YthjilhjdnefmdaaGreatDoor.view
  rw [h.sure, hs.1]
  cases hi : dget s0.now m with
  | none => rfl
  | some i =>
    rw [Option.map_some, Option.map_some, h.fl m i (by rw [hs.1]; exact hi)]
    have hc := hs.2 m i hi
    have e : Go.Proofs.YthjilhjdnefmdaaGreatDoor.fl s0 i = ⟨(Go.Proofs.YthjilhjdnefmdaaGreatDoor.fl s0 i).now, (Go.Proofs.YthjilhjdnefmdaaGreatDoor.fl s0 i).now⟩ := by
      conv => lhs; rw [show Go.Proofs.YthjilhjdnefmdaaGreatDoor.fl s0 i = ⟨(Go.Proofs.YthjilhjdnefmdaaGreatDoor.fl s0 i).now, (Go.Proofs.YthjilhjdnefmdaaGreatDoor.fl s0 i).sure⟩ from rfl]
      rw [hc]
    rw [e, afterFail_same]
theorem sd_new (n : Nm) (hw : WFs s) : Sd s (newFile (tick s) n) := by
  refine ⟨rfl, by simp [newFile, tick], fun m i hi => ?_⟩
  have hlt := hw.idx m i hi
  show (s.files ++ [(⟨[], []⟩ : Fl)]).getD i ⟨[], []⟩ = s.files.getD i ⟨[], []⟩
  have hlt' : i < s.files.length := hlt
  simp only [List.getD_eq_getElem?_getD, List.getElem?_append_left hlt']
theorem sd_set {i : Nat} (f : Fl) (hi : i < s.files.length) (hn : ∀ m, dget s.sure m ≠ some i) : Sd s (setFl (tick s) i f) := by
  refine ⟨rfl, by simp [setFl, tick], fun m j hj => ?_⟩
  have hne : j ≠ i := by rintro rfl; exact hn m hj
  rw [fl_setFl (tick s) i j f hi, if_neg hne]
  rfl
end
/-- What Open tells on a store. -/
def Tells (X : St) (ck : List UInt8) (lo hi : List (List UInt8)) : Prop :=
  ∃ fst cko pre s t, Told X fst cko pre s t ∧ cko.getD [] = ck ∧ ∃ n, lo.length ≤ n ∧ n ≤ hi.length ∧ (pre ++ [s]).flatten = hi.take n
theorem Told.same {X Y : St} {fst : Int} {ck : Option (List UInt8)} {pre : List (List (List UInt8))} {s : List (List UInt8)} {t : List UInt8} (h : Told X fst ck pre s t) (hc : Calm Y) (hv : ∀ m, view Y m = view X m) : Told Y fst ck pre s t :=
  ⟨hc, h.pos, h.few, fun e => by rw [hv]; exact h.chk0 e, fun c e => by rw [hv]; exact h.chk1 c e, fun i s' e => by rw [hv]; exact h.segv i s' e, by rw [hv]; exact h.lastv, fun n a b => by rw [hv]; exact h.none n a b, h.small, h.tail⟩
theorem told_of_log {X : St} {fst : Int} {ck : Option (List UInt8)} {pre : List (List (List UInt8))} {s : List (List UInt8)} (h : Log X fst ck (pre ++ [s])) : Told X fst ck pre s [] := by
  have hf := h.few
  have hp := h.pos
  rw [List.length_append, List.length_singleton] at hf
  refine ⟨h.calm, h.pos, by omega, h.chk0, h.chk1, fun i s' hi => h.segv i s' ?_, by rw [List.append_nil]; exact h.last_view, fun n a b => h.none n (by omega) b (by rw [List.length_append, List.length_singleton]; omega), h.small, wholeA_stop (by rw [openA_nil]; decide)⟩
  rw [List.getElem?_append_left (List.getElem?_eq_some_iff.1 hi).1]; exact hi
/-- Where a store fails: what will be told. -/
def Fate (k : Int) (ck : List UInt8) (lo hi : List (List UInt8)) (s0 : St) : Prop := ∀ s, Like s0 s → s.dark = false → Tells (after k s) ck lo hi ∧ Settled (after k s)
theorem fate_of {k : Int} {s0 X : St} {ck : List UInt8} {lo hi : List (List UInt8)} (hw : WFs s0) (hv : ∀ s, Like s0 s → s.dark = false → ∀ m, view (after k s) m = view X m) (hT : Tells X ck lo hi) : Fate k ck lo hi s0 := by
  intro s hl hd
  have hws : WFs s := (Sd.like (Sd.refl s0) hl).wfs hw
  refine ⟨?_, after_settled hd hws⟩
  obtain ⟨fst, cko, pre, s', t, h1, h2⟩ := hT
  exact ⟨fst, cko, pre, s', t, h1.same (after_calm hd hws) (hv s hl hd), h2⟩
theorem fate_sd {k : Int} {s0 s1 : St} {ck : List UInt8} {lo hi : List (List UInt8)} (h : Sd s0 s1) (hs : Settled s0) (hw : WF s0) (hT : Tells s0 ck lo hi) : Fate k ck lo hi s1 :=
  fate_of (h.wfs (settled_wfs hs hw)) (fun _ hl hd m => (h.like hl).view hs hw hd m) hT
end Go.Proofs.YthjilhjdnefmdaaGreatDoor
/- Plain laws: what Open tells where Flush has failed. Conditions: none. -/
namespace Go.Proofs.YthjilhjdnefmdaaGreatDoor
open Go.RowKit
section
variable {s : St}
theorem write_ok (h : Calm s) {n : Nm} {l : List UInt8} (h0 : (writeA s n l).2 = 0) : ∃ i, dget s.now n = some i ∧ (writeA s n l).1 = setFl (tick s) i ⟨(fl s i).now ++ l, (fl s i).sure⟩ ∧ Calm (writeA s n l).1 := by
  unfold writeA at h0 ⊢
  by_cases h1 : kErr s n = 0
  · rw [if_pos h1] at h0 ⊢
    by_cases h2 : freeA s < l.length
    · rw [if_pos h2] at h0; simp at h0
    · rw [if_neg h2, calm_counted h]
      exact ⟨_, (known_zero h1).2.1, rfl, wf_set h.toWF _ _, h.dark, h.left⟩
  · rw [if_neg h1] at h0; exact absurd h0 h1
theorem sync_ok (h : Calm s) {n : Nm} (h0 : (syncA s n).2 = 0) : ∃ i, dget s.now n = some i ∧ (syncA s n).1 = setFl (tick s) i ⟨(fl s i).now, (fl s i).now⟩ ∧ Calm (syncA s n).1 := by
  unfold syncA at h0 ⊢
  by_cases h1 : kErr s n = 0
  · rw [if_pos h1, calm_counted h]
    exact ⟨_, (known_zero h1).2.1, rfl, wf_set h.toWF _ _, h.dark, h.left⟩
  · rw [if_neg h1] at h0; exact absurd h0 h1
theorem make_ok (h : Calm s) {n : Nm} (h0 : (makeA s n).2 = 0) : (makeA s n).1 = newFile (tick s) n ∧ Calm (makeA s n).1 ∧ dget s.now n = none := by
  have h0' := h0
  unfold makeA at h0
  by_cases h1 : (knownA s n).2 = 0
  · rw [if_pos h1] at h0; simp at h0
  · rw [if_neg h1] at h0
    by_cases h2 : (knownA s n).2 ≠ 3
    · rw [if_pos h2] at h0; exact absurd h0 h1
    · rw [if_neg h2] at h0
      by_cases h3 : freeA s < 16
      · rw [if_pos h3] at h0; simp at h0
      · have hg : goodN n = true := kErr_good (st := s) (by unfold kErr; omega)
        have he := calm_err h n hg
        have hv : view s n = none := by
          cases hv : view s n with
          | none => rfl
          | some x => rw [hv] at he; unfold kErr at he; simp at he; omega
        refine ⟨?_, (calm_make h hg hv (by omega)).calm, by unfold view at hv; simpa using hv⟩
        unfold makeA
        rw [if_neg h1, if_neg h2, if_neg h3, calm_counted h]
theorem commit_ok (h : Calm s) : (commitA s).1 = commitD (tick s) := by
  unfold commitA
  rw [if_neg (by rw [h.dark]; simp), calm_counted h]
theorem clean_new (h : Clean s) (hw : WF s) (n : Nm) : Clean (newFile (tick s) n) := by
  intro m i hi
  have hi' : dget (dset s.now n s.files.length) m = some i := hi
  rw [dget_dset] at hi'
  split at hi'
  · cases hi'
    show ((s.files ++ [(⟨[], []⟩ : Fl)]).getD s.files.length ⟨[], []⟩).sure = ((s.files ++ [(⟨[], []⟩ : Fl)]).getD s.files.length ⟨[], []⟩).now
    simp [List.getD_eq_getElem?_getD]
  · have hlt : i < s.files.length := hw.idx m i hi'
    have e : fl (newFile (tick s) n) i = fl s i := by
      show (s.files ++ [(⟨[], []⟩ : Fl)]).getD i ⟨[], []⟩ = s.files.getD i ⟨[], []⟩
      simp only [List.getD_eq_getElem?_getD, List.getElem?_append_left hlt]
    rw [e]
    exact h m i hi'
theorem clean_set (hw : WF s) {n : Nm} {i : Nat} (hi : dget s.now n = some i) (x : List UInt8) (h : ∀ m j, dget s.now m = some j → j ≠ i → (fl s j).sure = (fl s j).now) : Clean (setFl (tick s) i ⟨x, x⟩) := by
  intro m j hj
  rw [fl_setFl (tick s) i j _ (hw.idx n i hi)]
  split
  · rfl
  · rename_i hne
    exact h m j hj hne
theorem settled_commit (h : Clean s) : Settled (commitD (tick s)) := ⟨rfl, h⟩
end
theorem ends_ex (l : List (List UInt8)) (n : Nat) : ∀ j, j ≤ l.length → ∃ k, k ≤ j ∧ endsA l k ≤ n ∧ (k < j → n < endsA l (k + 1))
  | 0, _ => ⟨0, Nat.le_refl _, by simp [endsA, sealsL], fun h => by omega⟩
  | j + 1, hj => by
    obtain ⟨k, h1, h2, h3⟩ := ends_ex l n j (by omega)
    by_cases hk : k < j
    · exact ⟨k, by omega, h2, fun _ => h3 hk⟩
    · have hkj : k = j := by omega
      by_cases hn : endsA l (j + 1) ≤ n
      · exact ⟨j + 1, Nat.le_refl _, hn, fun h => by omega⟩
      · exact ⟨k, by omega, h2, fun _ => by rw [hkj]; omega⟩
theorem torn_ex (l : List (List UInt8)) (hl : ∀ x ∈ l, x.length ≤ 1048512) (n : Nat) : ∃ k t, k ≤ l.length ∧ (sealsL l).take n = sealsL (l.take k) ++ t ∧ wholeA t = ([], 0) := by
  obtain ⟨k, h1, h2, h3⟩ := ends_ex l n l.length (Nat.le_refl _)
  by_cases hk : k < l.length
  · refine ⟨k, _, h1, take_seals l k n hk h2 (h3 hk), whole_short _ (Nat.le_trans (hl _ (List.getElem_mem hk)) (by decide)) _ ?_⟩
    have := h3 hk
    rw [endsA_succ l k hk] at this
    rw [sealL_len]; omega
  · have hkk : k = l.length := by omega
    refine ⟨k, [], h1, ?_, wholeA_stop (by rw [openA_nil]; decide)⟩
    have e : endsA l k = (sealsL l).length := by unfold endsA; rw [hkk, List.take_length]
    rw [List.take_of_length_le (by omega), hkk, List.take_length, List.append_nil]
theorem told_torn {X Y : St} {fst : Int} {ck : Option (List UInt8)} {pre : List (List (List UInt8))} {s w : List (List UInt8)} {t : List UInt8} (h : Told X fst ck pre s []) (hc : Calm Y) (hw : ∀ x ∈ w, x.length ≤ 1048512)
    (hv : ∀ m, view Y m = if m = nameA (fst + pre.length) then some (sealsL s ++ (sealsL w ++ t)) else view X m) (ht : wholeA t = ([], 0)) : Told Y fst ck pre (s ++ w) t := by
  have hpos := h.pos
  have hfew := h.few
  have hne : ∀ m, m ≠ nameA (fst + pre.length) → view Y m = view X m := fun m hm => by rw [hv, if_neg hm]
  refine ⟨hc, h.pos, h.few, fun h0 => ?_, fun c h0 => ?_, fun i s' hi => ?_, ?_, fun n h1 h2 => ?_, fun x hx l hl => ?_, ht⟩
  · rw [hne kCheck (name_ne_check _).symm]; exact h.chk0 h0
  · rw [hne kCheck (name_ne_check _).symm]; exact h.chk1 c h0
  · have hlt := (List.getElem?_eq_some_iff.1 hi).1
    rw [hne _ (fun he => by have := name_inj (by omega) (by omega) (by omega) (by omega) he; omega)]
    exact h.segv i s' hi
  · rw [hv, if_pos rfl, sealsL_app, List.append_assoc]
  · rw [hne _ (fun he => by have := name_inj (by omega) (by omega) (by omega) (by omega) he; omega)]
    exact h.none n h1 h2
  · rcases List.mem_append.1 hx with hx | hx
    · exact h.small x (List.mem_append_left _ hx) l hl
    · simp at hx; subst hx
      rcases List.mem_append.1 hl with hl | hl
      · exact h.small s (by simp) l hl
      · exact hw l hl
theorem tells_log {X : St} {fst : Int} {ck : Option (List UInt8)} {pre : List (List (List UInt8))} {s : List (List UInt8)} (h : Log X fst ck (pre ++ [s])) {lo hi : List (List UInt8)} (h1 : lo.length ≤ (pre ++ [s]).flatten.length) (h2 : (pre ++ [s]).flatten <+: hi) : Tells X (ck.getD []) lo hi := by
  obtain ⟨r, hr⟩ := h2
  exact ⟨fst, ck, pre, s, [], told_of_log h, rfl, (pre ++ [s]).flatten.length, h1, by rw [← hr]; simp, by rw [← hr, List.take_left' rfl]⟩
theorem afterFail_torn {k : Int} {nw sr : List UInt8} (h : nw.take sr.length = sr) {t : Nat} (ht : (t : Int) = sr.length + min (max k 0) ((nw.length : Int) - sr.length)) (hle : sr.length ≤ nw.length) : afterFail k ⟨nw, sr⟩ = ⟨nw.take t, nw.take t⟩ := by
  have e : sr.length + (min (max k 0) ((nw.length : Int) - sr.length)).toNat = t := by omega
  simp only [afterFail]
  rw [if_pos h, e]
/-- A write that is not synced: what is there when the power has failed. -/
theorem half_view {k : Int} {s0 s : St} {i : Nat} {n : Nm} {x l : List UInt8} (hs : Settled s0) (hw : WF s0) (hi : dget s0.now n = some i) (hx : (fl s0 i).now = x) (hl : Like (setFl (tick s0) i ⟨(fl s0 i).now ++ l, (fl s0 i).sure⟩) s) (hd : s.dark = false) (m : Nm) :
    view (after k s) m = if m = n then some (x ++ l.take (min (max k 0) (l.length : Int)).toNat) else view s0 m := by
  have hlt := hw.idx n i hi
  have hws : WFs s := by
    have h := settled_wfs hs hw
    obtain ⟨h1, h2, h3, h4⟩ := h
    refine ⟨?_, ?_, ?_, ?_⟩
    · show (s.sure.map (·.1)).Nodup
      rw [hl.sure]; exact h1
    · show ∀ n m i, dget s.sure n = some i → dget s.sure m = some i → n = m
      rw [hl.sure]; exact h2
    · show ∀ n i, dget s.sure n = some i → i < s.files.length
      rw [hl.sure, hl.files]
      show ∀ n i, _ → i < (s0.files.set _ _).length
      rw [List.length_set]; exact h3
    · show ∀ q ∈ s.sure, goodN q.1 = true
      rw [hl.sure]; exact h4
  rw [after_view hd hws, hl.sure]
  show (dget s0.sure m).map _ = _
  rw [hs.1]
  by_cases hm : m = n
  · subst hm
    rw [if_pos rfl, hi, Option.map_some, hl.fl, fl_setFl (tick s0) i i _ hlt, if_pos rfl, hs.2 m i hi, hx]
    have e := afterFail_torn (k := k) (nw := x ++ l) (sr := x) (List.take_left' rfl) (t := x.length + (min (max k 0) (l.length : Int)).toNat) (by rw [List.length_append]; omega) (by rw [List.length_append]; omega)
    rw [e]
    show some ((x ++ l).take _) = _
    rw [List.take_length_add_append]
  · rw [if_neg hm]
    unfold view
    cases hk : dget s0.now m with
    | none => rfl
    | some j =>
      have hj : j ≠ i := by rintro rfl; exact hm (hw.inj m n j hk hi)
      rw [Option.map_some, Option.map_some, hl.fl, fl_setFl (tick s0) i j _ hlt, if_neg hj]
      show some (afterFail k (fl s0 j)).now = _
      have e : fl s0 j = ⟨(fl s0 j).now, (fl s0 j).now⟩ := by
        conv => lhs; rw [show fl s0 j = ⟨(fl s0 j).now, (fl s0 j).sure⟩ from rfl]
        rw [hs.2 m j hk]
      rw [e, afterFail_same]
end Go.Proofs.YthjilhjdnefmdaaGreatDoor
/- Plain laws: Flush and Mark where a call will fail. Conditions: none. -/
namespace Go.Proofs.YthjilhjdnefmdaaGreatDoor
open Go.RowKit
theorem each_ok {f : St → St × Int} {r : List (St → St × Int)} {st : St} (h : (eachA (f :: r) st).2 = 0) : (f st).2 = 0 ∧ eachA (f :: r) st = eachA r (f st).1 := by
  have e : eachA (f :: r) st = if (f st).2 = 0 then eachA r (f st).1 else f st := rfl
  rw [e] at h
  rw [e]
  by_cases h0 : (f st).2 = 0
  · exact ⟨h0, by rw [if_pos h0]⟩
  · rw [if_neg h0] at h; exact absurd h h0
theorem make_no {s : St} (h : Calm s) {n : Nm} (h0 : (makeA s n).2 ≠ 0) : (makeA s n).1 = s := by
  unfold makeA at h0 ⊢
  by_cases h1 : (knownA s n).2 = 0
  · rw [if_pos h1]
  · rw [if_neg h1] at h0 ⊢
    by_cases h2 : (knownA s n).2 ≠ 3
    · rw [if_pos h2]
    · rw [if_neg h2] at h0 ⊢
      by_cases h3 : freeA s < 16
      · rw [if_pos h3]
      · rw [if_neg h3, calm_counted h] at h0; exact absurd rfl h0
section
variable {s0 : St} {L : LM} {fst : Int} {ck : Option (List UInt8)} {pre : List (List (List UInt8))} {s : List (List UInt8)} {k : Int}
theorem half_wfs {s1 : St} {i : Nat} {f : Fl} (hs : Settled s0) (hw : WF s0) (hl : Like (setFl (tick s0) i f) s1) : WFs s1 := by
  obtain ⟨h1, h2, h3, h4⟩ := settled_wfs hs hw
  refine ⟨?_, ?_, ?_, ?_⟩
  · show (s1.sure.map (·.1)).Nodup
    rw [hl.sure]; exact h1
  · show ∀ n m i, dget s1.sure n = some i → dget s1.sure m = some i → n = m
    rw [hl.sure]; exact h2
  · show ∀ n i, dget s1.sure n = some i → i < s1.files.length
    rw [hl.sure, hl.files]
    show ∀ n i, _ → i < (s0.files.set _ _).length
    rw [List.length_set]; exact h3
  · show ∀ q ∈ s1.sure, goodN q.1 = true
    rw [hl.sure]; exact h4
theorem flush_along (h : Log s0 fst ck (pre ++ [s])) (hs : Settled s0) (hl : L.last = fst + pre.length) (hw : ∀ x ∈ L.waits, x.length ≤ 1048512) :
    Along (Fate k (ck.getD []) ((pre ++ [s]).flatten) ((pre ++ [s]).flatten ++ L.waits)) [fun s => writeA s (nameA L.last) (sealsL L.waits), fun s => syncA s (nameA L.last)] s0 := by
  refine ⟨fate_sd (Sd.refl _) hs h.calm.toWF (tells_log h (Nat.le_refl _) (List.prefix_append ..)), fun h0 => ⟨?_, fun _ => trivial⟩⟩
  obtain ⟨i, hi, e, hc⟩ := write_ok h.calm h0
  show Fate k _ _ _ (writeA s0 (nameA L.last) (sealsL L.waits)).1
  rw [e]
  intro s' hl' hd
  have hx : (fl s0 i).now = sealsL s := by
    have := h.last_view
    rw [← hl] at this
    unfold view at this
    rw [hi] at this
    simpa using this
  have hws : WFs s' := half_wfs hs h.calm.toWF hl'
  have hv := half_view (k := k) hs h.calm.toWF hi hx hl' hd
  obtain ⟨kk, t, h1, h2, h3⟩ := torn_ex L.waits hw (min (max k 0) ((sealsL L.waits).length : Int)).toNat
  refine ⟨⟨fst, ck, pre, s ++ L.waits.take kk, t, told_torn (told_of_log h) (after_calm hd hws) (fun x hx => hw x (List.mem_of_mem_take hx)) (fun m => ?_) h3, rfl, (pre ++ [s]).flatten.length + kk, by omega, ?_, ?_⟩, after_settled hd hws⟩
  · rw [hv m, h2, hl]
  · rw [List.length_append]; omega
  · rw [List.take_length_add_append, List.flatten_append, List.flatten_append]
    simp
theorem flushE_settled (hc : Calm s0) (hs : Settled s0) (h0 : (flushE s0 L).2 = 0) : Settled (flushE s0 L).1 ∧ Calm (flushE s0 L).1 := by
  unfold flushE at h0 ⊢
  obtain ⟨h1, e1⟩ := each_ok h0
  rw [e1] at h0 ⊢
  obtain ⟨i, hi, e2, hc1⟩ := write_ok hc h1
  obtain ⟨h2, e3⟩ := each_ok h0
  rw [e3]
  show Settled (syncA (writeA s0 (nameA L.last) (sealsL L.waits)).1 (nameA L.last)).1 ∧ Calm (syncA (writeA s0 (nameA L.last) (sealsL L.waits)).1 (nameA L.last)).1
  obtain ⟨j, hj, e4, hc2⟩ := sync_ok hc1 h2
  refine ⟨?_, hc2⟩
  rw [e4]
  have hj' : dget s0.now (nameA L.last) = some j := by
    rw [e2] at hj; exact hj
  have hji : j = i := by rw [hi] at hj'; cases hj'; rfl
  subst hji
  refine ⟨?_, ?_⟩
  · rw [e2]; exact hs.1
  · refine clean_set hc1.toWF hj _ (fun m i' hm hne => ?_)
    rw [e2] at hm ⊢
    rw [fl_setFl (tick s0) j i' _ (hc.idx _ _ hi), if_neg hne]
    exact hs.2 m i' hm
theorem flushA_settled (hc : Calm s0) (hs : Settled s0) (h0 : (flushA s0 L).2.2 = 0) : Settled (flushA s0 L).1 := by
  unfold flushA at h0 ⊢
  by_cases a : mayA s0 L ≠ 0
  · rw [if_pos a] at h0; exact absurd h0 a
  · rw [if_neg a] at h0 ⊢
    by_cases b : L.waits = []
    · rw [if_pos b]; exact hs
    · rw [if_neg b] at h0 ⊢
      by_cases c : (flushE s0 L).2 ≠ 0
      · rw [if_pos c] at h0; exact absurd h0 c
      · rw [if_neg c] at h0 ⊢
        obtain ⟨g1, g2⟩ := flushE_settled hc hs (L := L) (by omega)
        revert h0 g1 g2
        generalize (flushE s0 L).1 = s1
        intro h0 g1 g2
        unfold flushT at h0 ⊢
        split
        · exact g1
        · rename_i hn
          rw [if_neg hn] at h0
          unfold turnA at h0 ⊢
          by_cases d : (makeA s1 (nameA (L.last + 1))).2 = 9
          · rw [if_pos d] at h0; simp at h0
          · rw [if_neg d] at h0 ⊢
            by_cases f : (makeA s1 (nameA (L.last + 1))).2 ≠ 0
            · rw [if_pos f]
              show Settled (makeA s1 (nameA (L.last + 1))).1
              rw [make_no g2 f]; exact g1
            · rw [if_neg f] at h0 ⊢
              obtain ⟨q1, q2, q3⟩ := make_ok g2 (n := nameA (L.last + 1)) (by omega)
              have hcl : Clean (makeA s1 (nameA (L.last + 1))).1 := by rw [q1]; exact clean_new g1.2 g2.toWF _
              have hst : Settled (commitA (makeA s1 (nameA (L.last + 1))).1).1 := by rw [commit_ok q2]; exact settled_commit hcl
              split
              · exact hst
              · exact hst
/-- Flush where a call will fail. -/
theorem flush_fate {st : St} (ha : Armed st) (h : Log (zero st) fst ck (pre ++ [s])) (hs : Settled (zero st)) (hl : L.last = fst + pre.length) (hw : ∀ x ∈ L.waits, x.length ≤ 1048512)
    (hroom : chkCost fst ck + segCost (pre ++ [s]) + (sealsL L.waits).length ≤ st.room) :
    CrashT (Fate st.keep (ck.getD []) ((pre ++ [s]).flatten) ((pre ++ [s]).flatten ++ L.waits)) st.keep (flushA st L) (flushA (zero st) L) := by
  refine flush_crash ha L (flush_along h hs hl hw) (fun h0 => ?_)
  have hu := h.used
  obtain ⟨-, g2, -, -⟩ := h.flushE L hl hw (by unfold freeA; show _ ≤ st.room - _; omega)
  obtain ⟨g3, g4⟩ := flushE_settled h.calm hs h0
  have hfl : (pre ++ [s ++ L.waits]).flatten = (pre ++ [s]).flatten ++ L.waits := by
    rw [List.flatten_append, List.flatten_append]; simp
  have hT : Tells (flushE (zero st) L).1 (ck.getD []) ((pre ++ [s]).flatten) ((pre ++ [s]).flatten ++ L.waits) := tells_log g2 (by rw [hfl, List.length_append]; omega) (by rw [hfl]; exact List.prefix_refl _)
  refine ⟨fate_sd (Sd.refl _) g3 g4.toWF hT, fun h1 => ?_⟩
  obtain ⟨q1, q2, q3⟩ := make_ok g4 h1
  rw [q1]
  exact fate_sd (sd_new _ (settled_wfs g3 g4.toWF)) g3 g4.toWF hT
end
end Go.Proofs.YthjilhjdnefmdaaGreatDoor
/- Plain laws: Mark where a call will fail. Conditions: none. -/
namespace Go.Proofs.YthjilhjdnefmdaaGreatDoor
open Go.RowKit
/-- A store of which the part that is sure shows a checkpoint alone. -/
def MarkR (c : List UInt8) (s : St) : Prop := ∃ sC, Settled sC ∧ WF sC ∧ Tells sC c [] [] ∧ Sd sC s ∧ s.dark = false ∧ s.left ≤ 0
theorem MarkR.fate {c : List UInt8} {s : St} {k : Int} (h : MarkR c s) : Fate k c [] [] s := by
  obtain ⟨sC, h1, h2, h3, h4, -⟩ := h
  exact fate_sd h4 h1 h2 h3
theorem MarkR.drop {c : List UInt8} {s : St} (h : MarkR c s) (n : Nm) (h0 : (dropA s n).2 = 0) : MarkR c (dropA s n).1 := by
  obtain ⟨sC, h1, h2, h3, h4, h5, h6⟩ := h
  unfold dropA at h0 ⊢
  by_cases hk : kErr s n = 0
  · rw [if_pos hk]
    have e : countedA s (dropD n) = (dropD n (tick s), 0) := by unfold countedA; rw [if_neg (by omega)]
    rw [e]
    exact ⟨sC, h1, h2, h3, ⟨h4.sure, h4.len, h4.fl⟩, h5, h6⟩
  · rw [if_neg hk] at h0; exact absurd h0 hk
section
variable {s0 : St} {L : LM} {fst : Int} {ck : Option (List UInt8)} {segs : List (List (List UInt8))} {k : Int}
theorem move_ok {s : St} {a b : Nm} (h : Calm s) (h0 : (moveA s a b).2 = 0) : ∃ i, dget s.now a = some i ∧ (moveA s a b).1 = moveD i a b (tick s) := by
  unfold moveA at h0 ⊢
  by_cases h1 : kErr s a ≠ 1 ∧ kErr s a ≠ 9 ∧ goodN b = false
  · rw [if_pos h1] at h0; simp at h0
  · rw [if_neg h1] at h0 ⊢
    by_cases h2 : kErr s a = 0
    · rw [if_pos h2, calm_counted h]
      exact ⟨_, (known_zero h2).2.1, rfl⟩
    · rw [if_neg h2] at h0; exact absurd h0 h2
theorem clean_move {s : St} {a b : Nm} {i : Nat} (h : Clean s) (hi : dget s.now a = some i) : Clean (moveD i a b (tick s)) := by
  intro m j hj
  have hj' : dget (dset (ddel s.now a) b i) m = some j := hj
  rw [dget_dset] at hj'
  split at hj'
  · cases hj'
    exact h a _ hi
  · rw [dget_ddel] at hj'
    split at hj'
    · cases hj'
    · exact h m j hj'
/-- Mark's steps, one by one. -/
theorem mark_steps {Q R : St → Prop} (hc : Calm s0) (hs : Settled s0) (hnew : view s0 kNew = none) (next : Int) (b : List UInt8) (hQ : ∀ s, Sd s0 s → Q s)
    (hR : ∀ s6, Settled s6 → (markE s0 next b).1 = s6 → R s6) : Along Q (markL next b) s0 ∧ ((markE s0 next b).2 = 0 → R (markE s0 next b).1) := by
  have hws := settled_wfs hs hc.toWF
  have m1 : mark1A s0 = (s0, 0) := by
    unfold mark1A
    rw [if_pos (by rw [calm_err hc kNew goodN_new, hnew]; decide)]
  have key : ∀ (h2 : (makeA s0 kNew).2 = 0), ∃ s1, (makeA s0 kNew).1 = s1 ∧ Sd s0 s1 ∧ Calm s1 ∧ Clean s1 ∧ ∃ i, dget s1.now kNew = some i ∧ ∀ m, dget s1.sure m ≠ some i := by
    intro h2
    obtain ⟨q1, q2, q3⟩ := make_ok hc h2
    refine ⟨_, rfl, by rw [q1]; exact sd_new _ hws, q2, by rw [q1]; exact clean_new hs.2 hc.toWF _, s0.files.length, ?_, fun m hm => ?_⟩
    · rw [q1]
      show dget (dset s0.now kNew s0.files.length) kNew = _
      rw [dget_dset, if_pos rfl]
    · rw [q1] at hm
      have := hws.idx m _ hm
      have h3 : s0.files.length < s0.files.length := this
      omega
  have hS : ∀ (s1 : St) (f : St → St × Int), (f = fun s => writeA s kNew b) → Sd s0 s1 → Calm s1 → Clean s1 → (∃ i, dget s1.now kNew = some i ∧ ∀ m, dget s1.sure m ≠ some i) → (f s1).2 = 0 →
      Sd s0 (f s1).1 ∧ Calm (f s1).1 ∧ ∃ i, dget (f s1).1.now kNew = some i ∧ (∀ m, dget (f s1).1.sure m ≠ some i) ∧ ∀ m j, dget (f s1).1.now m = some j → j ≠ i → (fl (f s1).1 j).sure = (fl (f s1).1 j).now := by
    rintro s1 f rfl h1 h2 h3 ⟨i, h4, h5⟩ h6
    obtain ⟨i', e1, e2, e3⟩ := write_ok h2 h6
    have : i' = i := by rw [h4] at e1; cases e1; rfl
    subst this
    have hlt := h2.idx _ _ h4
    refine ⟨by rw [e2]; exact h1.trans (sd_set _ hlt h5), e3, i', by rw [e2]; exact h4, by rw [e2]; exact h5, fun m j hj hne => ?_⟩
    rw [e2] at hj ⊢
    rw [fl_setFl (tick s1) i' j _ hlt, if_neg hne]
    exact h3 m j hj
  have hY : ∀ (s2 : St) (f : St → St × Int), (f = fun s => syncA s kNew) → Sd s0 s2 → Calm s2 → (∃ i, dget s2.now kNew = some i ∧ (∀ m, dget s2.sure m ≠ some i) ∧ ∀ m j, dget s2.now m = some j → j ≠ i → (fl s2 j).sure = (fl s2 j).now) → (f s2).2 = 0 →
      Sd s0 (f s2).1 ∧ Calm (f s2).1 ∧ Clean (f s2).1 := by
    rintro s2 f rfl h1 h2 ⟨i, h4, h5, h6⟩ h7
    obtain ⟨i', e1, e2, e3⟩ := sync_ok h2 h7
    have : i' = i := by rw [h4] at e1; cases e1; rfl
    subst this
    exact ⟨by rw [e2]; exact h1.trans (sd_set _ (h2.idx _ _ h4) h5), e3, by rw [e2]; exact clean_set h2.toWF h4 _ h6⟩
  have hM : ∀ (s3 : St) (f : St → St × Int), (f = fun s => makeA s (nameA next)) → Sd s0 s3 → Calm s3 → Clean s3 → (f s3).2 = 0 → Sd s0 (f s3).1 ∧ Calm (f s3).1 ∧ Clean (f s3).1 := by
    rintro s3 f rfl h1 h2 h3 h4
    obtain ⟨q1, q2, q3⟩ := make_ok h2 h4
    exact ⟨by rw [q1]; exact h1.trans (sd_new _ (h1.wfs hws)), q2, by rw [q1]; exact clean_new h3 h2.toWF _⟩
  have hV : ∀ (s4 : St) (f : St → St × Int), (f = fun s => moveA s kNew kCheck) → Sd s0 s4 → Calm s4 → Clean s4 → (f s4).2 = 0 → Sd s0 (f s4).1 ∧ Clean (f s4).1 ∧ (f s4).1.dark = false ∧ (f s4).1.left ≤ 0 := by
    rintro s4 f rfl h1 h2 h3 h4
    obtain ⟨i, e1, e2⟩ := move_ok h2 h4
    refine ⟨by rw [e2]; exact h1.trans ⟨rfl, Nat.le_refl _, fun _ _ _ => rfl⟩, by rw [e2]; exact clean_move h3 e1, by rw [e2]; exact h2.dark, by rw [e2]; exact h2.left⟩
  constructor
  · refine ⟨hQ _ (Sd.refl _), fun _ => ?_⟩
    rw [m1]
    refine ⟨hQ _ (Sd.refl _), fun h2 => ?_⟩
    obtain ⟨s1, e1, d1, c1, k1, f1⟩ := key h2
    show Along Q _ (makeA s0 kNew).1
    rw [e1]
    refine ⟨hQ _ d1, fun h3 => ?_⟩
    obtain ⟨d2, c2, f2⟩ := hS s1 _ rfl d1 c1 k1 f1 h3
    refine ⟨hQ _ d2, fun h4 => ?_⟩
    obtain ⟨d3, c3, k3⟩ := hY _ _ rfl d2 c2 f2 h4
    refine ⟨hQ _ d3, fun h5 => ?_⟩
    obtain ⟨d4, c4, k4⟩ := hM _ _ rfl d3 c3 k3 h5
    refine ⟨hQ _ d4, fun h6 => ?_⟩
    obtain ⟨d5, k5, -⟩ := hV _ _ rfl d4 c4 k4 h6
    exact ⟨hQ _ d5, fun _ => trivial⟩
  · intro h0
    refine hR _ ?_ rfl
    unfold markE at h0 ⊢
    obtain ⟨h1, e⟩ := each_ok h0
    rw [e, m1] at h0 ⊢
    obtain ⟨h2, e⟩ := each_ok h0
    rw [e] at h0 ⊢
    obtain ⟨s1, e1, d1, c1, k1, f1⟩ := key h2
    have e1' : ((fun s => makeA s kNew) s0).1 = s1 := e1
    rw [show ((s0, (0 : Int)).1) = s0 from rfl] at h0 ⊢
    rw [e1'] at h0 ⊢
    obtain ⟨h3, e⟩ := each_ok h0
    rw [e] at h0 ⊢
    obtain ⟨d2, c2, f2⟩ := hS s1 _ rfl d1 c1 k1 f1 h3
    obtain ⟨h4, e⟩ := each_ok h0
    rw [e] at h0 ⊢
    obtain ⟨d3, c3, k3⟩ := hY _ _ rfl d2 c2 f2 h4
    obtain ⟨h5, e⟩ := each_ok h0
    rw [e] at h0 ⊢
    obtain ⟨d4, c4, k4⟩ := hM _ _ rfl d3 c3 k3 h5
    obtain ⟨h6, e⟩ := each_ok h0
    rw [e] at h0 ⊢
    obtain ⟨d5, k5, g5, l5⟩ := hV _ _ rfl d4 c4 k4 h6
    obtain ⟨h7, e⟩ := each_ok h0
    rw [e]
    have hfin : ∀ s5 : St, s5.dark = false → s5.left ≤ 0 → Clean s5 → Settled (eachA [] (commitA s5).1).1 := by
      intro s5 a b c
      show Settled (commitA s5).1
      unfold commitA
      rw [if_neg (by rw [a]; simp)]
      have e : countedA s5 commitD = (commitD (tick s5), 0) := by unfold countedA; rw [if_neg (by omega)]
      rw [e]
      exact settled_commit c
    exact hfin _ g5 l5 k5
end
end Go.Proofs.YthjilhjdnefmdaaGreatDoor
/- Plain laws: a ledger on a store of which a call will fail. Conditions: none. -/
namespace Go.Proofs.YthjilhjdnefmdaaGreatDoor
open Go.RowKit
theorem cleanF_settled (last : Int) : ∀ (all : List Int) (s : St), Clean s → s.dark = false → s.left ≤ 0 → (cleanF last all s).2 = 0 → Settled (cleanF last all s).1
  | [], s, hc, hd, hl, _ => by
    show Settled (commitA s).1
    unfold commitA
    rw [if_neg (by rw [hd]; simp)]
    have e : countedA s commitD = (commitD (tick s), 0) := by unfold countedA; rw [if_neg (by omega)]
    rw [e]
    exact settled_commit hc
  | n :: r, s, hc, hd, hl, h0 => by
    unfold cleanF at h0 ⊢
    by_cases a : n = last
    · rw [if_pos a] at h0 ⊢
      exact cleanF_settled last r s hc hd hl h0
    · rw [if_neg a] at h0 ⊢
      by_cases b : (dropA s (nameA n)).2 ≠ 0
      · rw [if_pos b] at h0; exact absurd h0 b
      · rw [if_neg b] at h0 ⊢
        have e : (dropA s (nameA n)).1 = dropD (nameA n) (tick s) := by
          unfold dropA at b ⊢
          by_cases hk : kErr s (nameA n) = 0
          · rw [if_pos hk]
            have e : countedA s (dropD (nameA n)) = (dropD (nameA n) (tick s), 0) := by unfold countedA; rw [if_neg (by omega)]
            rw [e]
          · rw [if_neg hk] at b; exact absurd hk b
        rw [e] at h0 ⊢
        refine cleanF_settled last r _ (fun m i hi => ?_) hd hl h0
        have hi' : dget (ddel s.now (nameA n)) m = some i := hi
        rw [dget_ddel] at hi'
        split at hi'
        · cases hi'
        · exact hc m i hi'
theorem marked_tells {s0 s6 : St} {fst : Int} {ck : Option (List UInt8)} {segs : List (List (List UInt8))} (h : Log s0 fst ck segs) (hm : fst + segs.length ≤ 999999999) {c : List UInt8} (hc : c.length ≤ 1048512) (h6 : Calm s6)
    (hv : ∀ m, view s6 m = if m = kCheck then some (markB (fst + segs.length) c) else if m = kNew then none else if m = nameA (fst + segs.length) then some [] else view s0 m) : Tells s6 c [] [] := by
  have hp := h.pos
  refine ⟨fst + segs.length, some c, [], [], [], ⟨h6, by omega, by simpa using hm, fun h0 => (by cases h0), fun c' hc' => ?_, fun i s' hi => by simp at hi, ?_, fun n h1 h2 => ?_, fun x hx l hl => ?_, wholeA_stop (by rw [openA_nil]; decide)⟩, rfl, 0, by simp, by simp, by simp⟩
  · cases hc'
    exact ⟨hc, by rw [hv, if_pos rfl]⟩
  · have e : fst + (segs.length : Int) + (([] : List (List (List UInt8))).length : Int) = fst + segs.length := by simp
    rw [e, hv, if_neg (name_ne_check _), if_neg (name_ne_new _), if_pos rfl]
    simp [sealsL]
  · have h1' : fst + (segs.length : Int) < n := by simpa using h1
    rw [hv, if_neg (name_ne_check _), if_neg (name_ne_new _), if_neg (fun he => by have := name_inj (by omega) (by omega) (by omega) (by omega) he; omega)]
    exact h.none n (by omega) h2 (by omega)
  · simp at hx; subst hx; cases hl
/-- A ledger whose store will fail. -/
structure LiveC (st : St) (L : LM) (chk : List UInt8) (sure : List (List UInt8)) (C N : Int) : Prop where
  arm : Armed st
  live : Live (zero st) L chk sure C N
  set : Settled (zero st)
section
variable {st : St} {L : LM} {chk : List UInt8} {sure : List (List UInt8)} {C N : Int}
theorem LiveC.add (h : LiveC st L chk sure C N) (b : List UInt8) (hb : b.length ≤ 1048512) (hw : L.waits.length < 1000) :
    addA st L b = ({ L with waits := L.waits ++ [b] }, 0) ∧ LiveC st { L with waits := L.waits ++ [b] } chk sure C N := by
  obtain ⟨h1, h2⟩ := h.live.add b hb hw
  exact ⟨h1, h.arm, h2, h.set⟩
theorem LiveC.flush (h : LiveC st L chk sure C N) (hC : C + (sealsL L.waits).length + 16 ≤ st.room) (hN : N + 1 ≤ 999999999) :
    (∃ st2 L2, flushA st L = (st2, L2, 0) ∧ LiveC st2 L2 chk (sure ++ L.waits) (C + (sealsL L.waits).length + 16) (N + 1) ∧ st2.room = st.room ∧ L2.waits = [] ∧ L2.part = L.part ∧ st2.keep = st.keep) ∨
    (∃ st2 L2, flushA st L = (st2, L2, 9) ∧ Crashed (Fate st.keep chk sure (sure ++ L.waits)) st.keep st2) := by
  obtain ⟨st2, L2, e1, e2, e3, e4, e5⟩ := h.live.flush hC hN
  obtain ⟨fst, ck, pre, s, hl, h1, h2, h3, h4, h5⟩ := h.live.ex
  have hf := flush_fate h.arm hl h.set h1 h.live.small (by omega)
  have hse := flushA_settled (L := L) hl.calm h.set (by rw [e1])
  rw [e1] at hf hse
  rw [h2, h3] at hf
  revert hf
  generalize flushA st L = r
  obtain ⟨S, M, E⟩ := r
  intro hf
  rcases hf with ⟨f1, f2⟩ | ⟨f1, f2, f3, f4⟩
  · right
    have f1' : E = 9 := f1
    exact ⟨S, M, by rw [f1'], f2⟩
  · left
    have f1' : zero S = st2 := f1
    have f2' : (M, E) = (L2, (0 : Int)) := f2
    cases f2'
    subst f1'
    exact ⟨S, L2, rfl, ⟨f3, e2, hse⟩, e3, e4, e5, f4⟩
theorem LiveC.mark (h : LiveC st L chk sure C N) (c : List UInt8) (hc : c.length ≤ 1048512) (hC : C + (sealsL L.waits).length + 16 + (c.length + 16) + 32 ≤ st.room) (hN : N + 2 ≤ 999999999) :
    (∃ st2 L2, markA st L c = (st2, L2, 0) ∧ LiveC st2 L2 c [] (c.length + 48) (N + 2) ∧ st2.room = st.room ∧ L2.waits = [] ∧ L2.part = L.part ∧ st2.keep = st.keep) ∨
    (∃ st2 L2, markA st L c = (st2, L2, 9) ∧ Crashed (fun s => Fate st.keep chk sure (sure ++ L.waits) s ∨ Fate st.keep c [] [] s) st.keep st2) := by
  obtain ⟨st2, L2, e1, e2, e3, e4, e5, -⟩ := h.live.mark c hc hC hN
  obtain ⟨fst, ck, pre, s, hl, h1, h2, h3, h4, h5⟩ := h.live.ex
  have hf := flush_fate h.arm hl h.set h1 h.live.small (by omega)
  rw [h2, h3] at hf
  obtain ⟨st1, L1, pre2, s2, g1, g2, g3, g4, g5, g6, g7, g8⟩ := hl.flush L h1 h.live.dead h.live.small (by omega) (by show _ ≤ st.room; omega)
  have hse := flushA_settled (L := L) hl.calm h.set (by rw [g1])
  rw [g1] at hse
  have hd1 : L1.dead = false := by rw [g4]; exact h.live.dead
  have hlen : ((pre2 ++ [s2]).length : Int) = pre2.length + 1 := by simp
  have hp := g2.pos
  have hb : (markB (L1.last + 1) c).length = c.length + 16 := markB_len _ _
  have hu := g2.used
  have hl1 : L1.last + 1 = fst + (pre2 ++ [s2]).length := by omega
  have hroom : chkCost fst ck + segCost (pre2 ++ [s2]) + (c.length + 16) + 32 ≤ st1.room := by rw [g6]; show _ ≤ st.room; omega
  have g := calm_mark g2.calm (n := L1.last + 1) (by omega) (by omega) (markB (L1.last + 1) c) g2.new (by rw [hl1]; exact g2.none _ (by omega) (by omega) (by omega)) (by unfold freeA; omega)
    (fun s hv hs hr => by have := g2.used_new hs [] hv; simp only [List.length_nil] at this; unfold freeA; rw [hr, hb]; omega)
    (fun s hv hs hr => by have := g2.used_new hs _ hv; rw [hb] at this; unfold freeA; rw [hr]; omega)
  have hT6 : Tells (markE st1 (L1.last + 1) (markB (L1.last + 1) c)).1 c [] [] := marked_tells g2 (by omega) hc g.calm (by rw [← hl1]; exact g.view)
  have hflat : (pre2 ++ [s2]).flatten = sure ++ L.waits := by rw [g3, h3]
  have hT1 : Tells st1 chk sure (sure ++ L.waits) := by
    have := tells_log g2 (lo := sure) (hi := sure ++ L.waits) (by rw [hflat, List.length_append]; omega) (by rw [hflat]; exact List.prefix_refl _)
    rw [h2] at this
    exact this
  obtain ⟨s1, s2'⟩ := mark_steps (Q := fun s => Fate st.keep chk sure (sure ++ L.waits) s ∨ Fate st.keep c [] [] s) (R := MarkR c) g2.calm hse g2.new (L1.last + 1) (markB (L1.last + 1) c)
    (fun s hsd => .inl (fate_sd hsd hse g2.calm.toWF hT1))
    (fun s6 hs6 he6 => by have gc := g.calm; rw [he6] at gc hT6; exact ⟨s6, hs6, gc.toWF, hT6, Sd.refl _, gc.dark, gc.left⟩)
  have hm := mark_crash (Q := fun s => Fate st.keep chk sure (sure ++ L.waits) s ∨ Fate st.keep c [] [] s) (R := MarkR c) h.arm L c (fun s hs => .inr hs.fate) (fun s n hs h0 => hs.drop _ h0) (hf.mono (fun s hs => .inl hs))
    (fun _ => by rw [g1]; exact s1) (fun _ => by rw [g1]; exact s2')
  have hset : Settled st2 := by
    have he := e1
    unfold markA at he
    have hmay := calm_may hl.calm h.live.dead
    rw [if_neg (by rw [hmay]; simp), if_neg (by omega), g1, if_neg (by simp)] at he
    simp only at he
    rw [if_neg (by omega)] at he
    unfold markF at he
    rw [if_neg (by rw [g.ok]; simp)] at he
    unfold markT at he
    obtain ⟨sC, r1, r2, r3, r4, r5, r6⟩ := s2' g.ok
    simp only [Prod.mk.injEq] at he
    obtain ⟨k1, -, k3⟩ := he
    rw [← k1]
    refine cleanF_settled _ _ _ ?_ r5 r6 k3
    exact (mark_steps (Q := fun _ => True) (R := fun s => Clean s) g2.calm hse g2.new (L1.last + 1) (markB (L1.last + 1) c) (fun _ _ => trivial) (fun s6 hs6 _ => hs6.2)).2 g.ok
  rw [e1] at hm
  revert hm
  generalize markA st L c = r
  obtain ⟨S, M, E⟩ := r
  intro hm
  rcases hm with ⟨f1, f2⟩ | ⟨f1, f2, f3, f4⟩
  · right
    have f1' : E = 9 := f1
    exact ⟨S, M, by rw [f1'], f2⟩
  · left
    have f1' : zero S = st2 := f1
    have f2' : (M, E) = (L2, (0 : Int)) := f2
    cases f2'
    subst f1'
    exact ⟨S, L2, rfl, ⟨f3, e2, hset⟩, e3, e4, e5, f4⟩
end
end Go.Proofs.YthjilhjdnefmdaaGreatDoor
/- Plain laws: a log is opened again while a call may fail. Conditions: none. -/
namespace Go.Proofs.YthjilhjdnefmdaaGreatDoor
open Go.RowKit
theorem crashed_power {k : Int} {ck : List UInt8} {lo hi : List (List UInt8)} {st : St} (h : Crashed (Fate k ck lo hi) k st) : Tells (powerA st) ck lo hi ∧ Settled (powerA st) ∧ st.dark = true := by
  obtain ⟨s0, s, h1, h2, h3, rfl⟩ := h
  obtain ⟨h4, h5⟩ := h1 s h2 h3
  refine ⟨h4, h5, ?_⟩
  unfold failA
  rw [h3]
  rfl
theorem like_zero (st : St) : Like (zero st) st := ⟨rfl, rfl, rfl, rfl, rfl⟩
theorem LiveC.fail {st : St} {L : LM} {chk : List UInt8} {sure : List (List UInt8)} {C N : Int} (h : LiveC st L chk sure C N) (k : Int) (ws : List (List UInt8)) : Tells (after k st) chk sure (sure ++ ws) ∧ Settled (after k st) := by
  obtain ⟨fst, ck, pre, s, hl, h1, h2, h3, h4, h5⟩ := h.live.ex
  have hT : Tells (zero st) chk sure (sure ++ ws) := by
    have := tells_log hl (lo := sure) (hi := sure ++ ws) (by rw [h3]; omega) (by rw [h3]; exact List.prefix_append ..)
    rw [h2] at this
    exact this
  exact fate_sd (Sd.refl _) h.set hl.calm.toWF hT st (like_zero st) h.arm.dark
section
variable {X : St} {fst : Int} {ck : Option (List UInt8)} {pre : List (List (List UInt8))} {s : List (List UInt8)} {t : List UInt8}
theorem view_power (st : St) (m : Nm) : view (powerA st) m = view st m := rfl
theorem calm_power {st : St} (h : WF st) : Calm (powerA st) := ⟨⟨h.keys, h.inj, h.idx, h.good⟩, rfl, Int.le_refl _⟩
theorem Told.mendC {st : St} (h : Told (zero st) fst ck pre s t) (ha : Armed st) (hs : Settled (zero st)) :
    ((mendA st (run fst (pre.length + 1)) fst (tornOf s t)).2 = 0 ∨ (mendA st (run fst (pre.length + 1)) fst (tornOf s t)).2 = 9) ∧ ∃ t', Told (powerA (mendA st (run fst (pre.length + 1)) fst (tornOf s t)).1) fst ck pre s t' := by
  have hpos := h.pos
  have hfew := h.few
  by_cases ht : t = []
  · have hm : mendA st (run fst (pre.length + 1)) fst (tornOf s t) = (st, 0) := by
      unfold mendA tornOf; rw [if_pos ht, if_neg (by omega), if_neg (by simp [run])]
    rw [hm]
    exact ⟨.inl rfl, t, h.same (calm_power ⟨h.calm.keys, h.calm.inj, h.calm.idx, h.calm.good⟩) (fun m => rfl)⟩
  · have hg := goodN_name (fst + pre.length) (by omega) (by omega)
    have g1 := calm_cut h.calm hg h.lastv (sealsL s).length (by rw [List.length_append]; omega)
    have hv1 : view (cutA (zero st) (nameA (fst + pre.length)) (sealsL s).length).1 (nameA (fst + pre.length)) = some (sealsL s) := by
      rw [g1.view, if_pos rfl, List.take_left' rfl]
    have g2 := calm_sync g1.calm hg hv1
    have hm : ∀ z, mendA z (run fst (pre.length + 1)) fst (tornOf s t) = eachA [fun s' => cutA s' (nameA (fst + pre.length)) (sealsL s).length, fun s' => syncA s' (nameA (fst + pre.length))] z := by
      intro z
      unfold mendA tornOf
      rw [if_neg ht, if_pos (by omega), lastOf_run]
    rw [hm]
    have hmz := hm (zero st)
    have hend : eachA [fun s' => cutA s' (nameA (fst + pre.length)) (sealsL s).length, fun s' => syncA s' (nameA (fst + pre.length))] (zero st) = ((syncA (cutA (zero st) (nameA (fst + pre.length)) (sealsL s).length).1 (nameA (fst + pre.length))).1, 0) := by
      rw [eachA_step g1.ok, eachA_step g2.ok, eachA_nil]
    have hQ : ∀ z, (∀ s', Like z s' → s'.dark = false → Calm (after st.keep s') ∧ ∀ m, view (after st.keep s') m = view (zero st) m) → (∀ s', Like z s' → s'.dark = false → Told (after st.keep s') fst ck pre s t) := fun z hz s' hl hd => h.same (hz s' hl hd).1 (hz s' hl hd).2
    have hwf : WF (zero st) := h.calm.toWF
    have hcr := each_crash (Q := fun z => ∀ s', Like z s' → s'.dark = false → Told (after st.keep s') fst ck pre s t) [fun s' => cutA s' (nameA (fst + pre.length)) (sealsL s).length, fun s' => syncA s' (nameA (fst + pre.length))] st (fun f hf => by
      simp only [List.mem_cons, List.not_mem_nil, or_false] at hf
      rcases hf with rfl | rfl
      · exact opp_cut _ _
      · exact opp_sync _) ha ⟨hQ _ (fun s' hl hd => ⟨after_calm hd (((Sd.refl _).like hl).wfs (settled_wfs hs hwf)), fun m => ((Sd.refl (zero st)).like hl).view hs hwf hd m⟩), fun h0 => ⟨hQ _ (fun s' hl hd => ?_), fun _ => trivial⟩⟩
    · rw [hend] at hcr
      rcases hcr with ⟨f1, f2⟩ | ⟨f1, f2, f3, f4⟩
      · refine ⟨.inr f1, t, ?_⟩
        obtain ⟨z, s', q1, q2, q3, q4⟩ := f2
        rw [q4]
        exact q1 s' q2 q3
      · refine ⟨.inl f2, [], ?_⟩
        have hT : Told (syncA (cutA (zero st) (nameA (fst + pre.length)) (sealsL s).length).1 (nameA (fst + pre.length))).1 fst ck pre s [] := by
          refine h.mended g2.calm (fun m => ?_)
          rw [g2.view, g1.view]
          by_cases hm : m = nameA (fst + pre.length)
          · rw [if_pos hm, if_pos hm, List.take_left' rfl]
          · rw [if_neg hm, if_neg hm]
        have f1' : zero (eachA [fun s' => cutA s' (nameA (fst + pre.length)) (sealsL s).length, fun s' => syncA s' (nameA (fst + pre.length))] st).1 = (syncA (cutA (zero st) (nameA (fst + pre.length)) (sealsL s).length).1 (nameA (fst + pre.length))).1 := f1
        rw [← f1'] at hT
        exact hT.same (calm_power ⟨hT.calm.keys, hT.calm.inj, hT.calm.idx, hT.calm.good⟩) (fun m => rfl)
    · -- the cut is not synced: it is undone
      obtain ⟨i, hi, hx, hk⟩ := calm_idx h.lastv
      have he : (cutA (zero st) (nameA (fst + pre.length)) (sealsL s).length).1 = setFl (tick (zero st)) i ⟨(fl (zero st) i).now.take (sealsL s).length, (fl (zero st) i).sure⟩ := by
        have h1 : kErr (zero st) (nameA (fst + pre.length)) = 0 := by rw [calm_err h.calm _ hg, h.lastv]; rfl
        unfold cutA
        rw [if_pos h1, hk, hx, if_neg (by rw [List.length_append]; omega), calm_counted h.calm]
        have : (((sealsL s).length : Int)).toNat = (sealsL s).length := by omega
        rw [this, ← hx]
        rfl
      have hl2 : Like (setFl (tick (zero st)) i ⟨(fl (zero st) i).now.take (sealsL s).length, (fl (zero st) i).sure⟩) s' := by rw [← he]; exact hl
      have hws : WFs s' := half_wfs hs hwf hl2
      have hlt := hwf.idx _ i hi
      refine ⟨after_calm hd hws, fun m => ?_⟩
      rw [after_view hd hws, hl2.sure]
      show (dget (zero st).sure m).map _ = _
      rw [hs.1]
      unfold view
      cases hj : dget (zero st).now m with
      | none => rfl
      | some j =>
        rw [Option.map_some, Option.map_some, hl2.fl, fl_setFl (tick (zero st)) i j _ hlt]
        by_cases hji : j = i
        · subst hji
          rw [if_pos rfl, hs.2 m j hj, hx]
          have hne : ¬ ((sealsL s ++ t).take (sealsL s).length).take (sealsL s ++ t).length = sealsL s ++ t := by
            intro e
            have := congrArg List.length e
            rw [List.length_take, List.length_take, List.length_append] at this
            have := List.length_pos_iff.2 ht
            omega
          have e : afterFail st.keep ⟨(sealsL s ++ t).take (sealsL s).length, sealsL s ++ t⟩ = ⟨sealsL s ++ t, sealsL s ++ t⟩ := by
            simp only [afterFail]
            rw [if_neg hne]
          rw [e]
        · rw [if_neg hji]
          show some (afterFail st.keep (fl (zero st) j)).now = _
          have e : fl (zero st) j = ⟨(fl (zero st) j).now, (fl (zero st) j).now⟩ := by
            conv => lhs; rw [show fl (zero st) j = ⟨(fl (zero st) j).now, (fl (zero st) j).sure⟩ from rfl]
            rw [hs.2 m j hj]
          rw [e, afterFail_same]
theorem gatherF_zero (st : St) (first : Int) (len : Nat) : ∀ (all : List Int) (i : Nat) (acc : List (List UInt8)) (torn : Int), gatherF st first len i all acc torn = gatherF (zero st) first len i all acc torn
  | [], _, _, _ => rfl
  | n :: r, i, acc, torn => by
    unfold gatherF
    have e : readA (zero st) (nameA n) = readA st (nameA n) := rfl
    rw [e]
    split
    · rfl
    · exact gatherF_zero st first len r _ _ _
theorem Told.openL_zero {st : St} (h : Told (zero st) fst ck pre s t) (hd : st.dark = false) (part : Int) (hp : 1 ≤ part ∧ part ≤ 1048576) :
    openL st part = if (mendA st (run fst (pre.length + 1)) fst (tornOf s t)).2 ≠ 0 then ⟨(mendA st (run fst (pre.length + 1)) fst (tornOf s t)).1, 0, [], [], (mendA st (run fst (pre.length + 1)) fst (tornOf s t)).2⟩
      else ⟨(mendA st (run fst (pre.length + 1)) fst (tornOf s t)).1, fst + pre.length, ck.getD [], (pre ++ [s]).flatten, 0⟩ := by
  have hk : kErr st kCheck ≠ 9 := by
    have := calm_err h.calm kCheck goodN_check
    have e : kErr st kCheck = kErr (zero st) kCheck := rfl
    rw [e, this]; split <;> decide
  have hf : foundA st = (fst, ck.getD [], 0) := h.found
  have hpa : partsA st fst = run fst (pre.length + 1) := h.parts
  have hga : gatherA st (run fst (pre.length + 1)) fst = ((pre ++ [s]).flatten, tornOf s t, 0) := by
    rw [← h.gather]; unfold gatherA; exact gatherF_zero _ _ _ _ _ _ _
  unfold openL
  rw [if_neg hk, if_neg (by omega), hf]
  simp only
  rw [hpa, hga]
  simp only
  rw [if_neg (by simp), if_neg (by simp), lastOf_run]
theorem Told.reopen (h : Told X fst ck pre s t) (hs : Settled X) (n k : Int) (hn : 0 ≤ n ∧ n ≤ 100) (part : Int) (hp : 1 ≤ part ∧ part ≤ 1048576) :
    ((openL { X with left := n, keep := k } part).err = 0 ∨ (openL { X with left := n, keep := k } part).err = 9) ∧ ∃ t', Told (powerA (openL { X with left := n, keep := k } part).st) fst ck pre s t' := by
  have hz : Told (zero { X with left := n, keep := k }) fst ck pre s t := h.same ⟨⟨h.calm.keys, h.calm.inj, h.calm.idx, h.calm.good⟩, h.calm.dark, Int.le_refl _⟩ (fun m => rfl)
  have hsz : Settled (zero { X with left := n, keep := k }) := hs
  by_cases h0 : n = 0
  · subst h0
    have hz' : Told { X with left := 0, keep := k } fst ck pre s t := hz
    obtain ⟨st4, e1, e2, e3⟩ := hz'.opens part hp
    rw [e1]
    exact ⟨.inl rfl, [], e2.same (calm_power e2.calm.toWF) (fun m => rfl)⟩
  · have ha : Armed { X with left := n, keep := k } := ⟨by show 0 < n; omega, hn.2, h.calm.dark⟩
    rw [hz.openL_zero h.calm.dark part hp]
    obtain ⟨h1, t', h2⟩ := hz.mendC ha hsz
    rcases h1 with h1 | h1
    · rw [if_neg (by rw [h1]; simp)]
      exact ⟨.inl rfl, t', h2⟩
    · rw [if_pos (by rw [h1]; decide)]
      exact ⟨.inr h1, t', h2⟩
end
end Go.Proofs.YthjilhjdnefmdaaGreatDoor
