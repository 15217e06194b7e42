/- Joined texts: Plain laws: a log whose last part is torn: Open tells what is whole and mends it. Conditions: none. Plain laws: a flushed log, cut anywhere. Conditions: none. The references' Put and Seal: how long what they hand back is. Conditions: none. A log whose last part was cut: what the law calls. Conditions: none. -/
import Derived.Test.YthjilhjdnefmdaaGreatDoorMP
import Derived.Test.YthjilhjdnefmdaaGreatDoorMD
import Derived.Test.YthjilhjdnefmdaaGreatDoorMR
/- Plain laws: a log whose last part is torn: Open tells what is whole and mends it. Conditions: none. -/
namespace Go.Proofs.YthjilhjdnefmdaaGreatDoor
open Go.RowKit
theorem whole_short (x : List UInt8) (hx : x.length ≤ 1048576) (m : Nat) (hm : m < (sealL x).length) : wholeA ((sealL x).take m) = ([], 0) := by
  apply wholeA_stop
  have hp : (2 : Nat) ^ (8 * 4) = 4294967296 := rfl
  rw [sealL_len] at hm
  have hl : ((sealL x).take m).length = m := by rw [List.length_take, sealL_len]; omega
  unfold openA
  rw [hl]
  by_cases h4 : m < 4
  · rw [if_pos h4]; decide
  · rw [if_neg h4]
    have e0 : sealL x = putB 4 x.length ++ (x ++ putB 4 (sumF (putB 4 x.length ++ x))) := by unfold sealL; simp [List.append_assoc]
    have ht : ((sealL x).take m).take 4 = putB 4 x.length := by
      rw [List.take_take, Nat.min_eq_left (by omega), e0, List.take_left' (putB_len _ _)]
    rw [ht, getB_putB 4 _ (by omega) (by omega), if_neg (by omega), if_pos (by omega)]
    decide
/-- Where a cut falls among sealed records: how many are whole. -/
def endsA (l : List (List UInt8)) (k : Nat) : Nat := (sealsL (l.take k)).length
theorem endsA_succ (l : List (List UInt8)) (k : Nat) (h : k < l.length) : endsA l (k + 1) = endsA l k + (l[k].length + 8) := by
  unfold endsA
  rw [sealsL_snoc l k h, List.length_append, sealL_len]
theorem take_seals (l : List (List UInt8)) (k n : Nat) (hk : k < l.length) (h1 : endsA l k ≤ n) (h2 : n < endsA l (k + 1)) : (sealsL l).take n = sealsL (l.take k) ++ (sealL l[k]).take (n - endsA l k) := by
  have e1 := endsA_succ l k hk
  have hl : l = l.take k ++ (l[k] :: l.drop (k + 1)) := by rw [← List.drop_eq_getElem_cons hk, List.take_append_drop]
  have h3 : sealsL l = sealsL (l.take k) ++ (sealL l[k] ++ sealsL (l.drop (k + 1))) := by
    conv => lhs; rw [hl]
    rw [sealsL_app, sealsL_cons]
  rw [h3, List.take_append, List.take_of_length_le (by unfold endsA at h1; omega)]
  congr 1
  rw [List.take_append_of_le_length (by rw [sealL_len]; unfold endsA at *; omega)]
  rfl
/-- A log whose last part has a torn tail; below the first part there may be others. -/
structure Told (st : St) (fst : Int) (ck : Option (List UInt8)) (pre : List (List (List UInt8))) (s : List (List UInt8)) (t : List UInt8) : Prop where
  calm : Calm st
  pos : 1 ≤ fst
  few : fst + pre.length ≤ 999999999
  chk0 : ck = none → fst = 1 ∧ view st kCheck = none
  chk1 : ∀ c, ck = some c → c.length ≤ 1048512 ∧ view st kCheck = some (markB fst c)
  segv : ∀ (i : Nat) s', pre[i]? = some s' → view st (nameA (fst + (i : Int))) = some (sealsL s')
  lastv : view st (nameA (fst + (pre.length : Int))) = some (sealsL s ++ t)
  none : ∀ n, fst + pre.length < n → n ≤ 999999999 → view st (nameA n) = none
  small : ∀ x ∈ pre ++ [s], ∀ l ∈ x, l.length ≤ 1048512
  tail : wholeA t = ([], 0)
section
variable {st : St} {fst : Int} {ck : Option (List UInt8)} {pre : List (List (List UInt8))} {s : List (List UInt8)} {t : List UInt8}
theorem Told.found (h : Told st fst ck pre s t) : foundA st = (fst, ck.getD [], 0) := by
  unfold foundA
  rw [calm_err h.calm kCheck goodN_check]
  cases hc : ck with
  | none =>
    obtain ⟨h1, h2⟩ := h.chk0 hc
    rw [h2, h1]; simp
  | some c =>
    obtain ⟨h1, h2⟩ := h.chk1 c hc
    have hf := h.few
    have := h.pos
    rw [readA_view h.calm goodN_check, h2]
    simp only [Option.isSome_some, if_true, Option.getD_some]
    exact foundB_mark fst h.pos (by omega) c h1
theorem Told.parts (h : Told st fst ck pre s t) : partsA st fst = run fst (pre.length + 1) := by
  have hf := h.few
  have hp := h.pos
  refine partsA_run st fst fst (pre.length + 1) h.calm.dark h.calm.keys h.pos (by omega) (Int.le_refl _) (fun n h0 h1 h2 => ?_)
  rw [← view_some_iff]
  constructor
  · intro hs
    refine ⟨h0, ?_⟩
    rcases Int.lt_or_le (fst + pre.length) n with hc | hc
    · rw [h.none n hc h2] at hs; cases hs
    · omega
  · rintro ⟨h3, h4⟩
    rcases Int.lt_or_le (n - fst) pre.length with hi | hi
    · have hi' : (n - fst).toNat < pre.length := by omega
      have := h.segv (n - fst).toNat _ (List.getElem?_eq_getElem hi')
      have e : fst + ((n - fst).toNat : Int) = n := by omega
      rw [e] at this
      rw [this]; rfl
    · have e : n = fst + (pre.length : Int) := by omega
      rw [e, h.lastv]; rfl
def tornOf (s : List (List UInt8)) (t : List UInt8) : Int := if t = [] then -1 else ((sealsL s).length : Int)
theorem Told.gather (h : Told st fst ck pre s t) : gatherA st (run fst (pre.length + 1)) fst = ((pre ++ [s]).flatten, tornOf s t, 0) := by
  have hlen : ∀ k a, (run a k).length = k := by
    intro k
    induction k with
    | zero => intro a; rfl
    | succ k ih => intro a; rw [run, List.length_cons, ih]
  have hpos := h.pos
  have hfew := h.few
  unfold gatherA
  rw [hlen]
  have key : ∀ (k i : Nat) (acc : List (List UInt8)), i + k = pre.length → gatherF st fst (pre.length + 1) i (run (fst + i) (k + 1)) acc (-1) = (acc ++ ((pre ++ [s]).drop i).flatten, tornOf s t, 0) := by
    intro k
    induction k with
    | zero =>
      intro i acc hi
      have hii : i = pre.length := by omega
      subst hii
      have hg := goodN_name (fst + pre.length) (by omega) (by omega)
      have hr : readA st (nameA (fst + pre.length)) = sealsL s ++ t := by rw [readA_view h.calm hg, h.lastv]; rfl
      have hw : wholeA (sealsL s ++ t) = (s, (sealsL s).length) := by
        rw [wholeA_seals s t (fun l hl => Nat.le_trans (h.small s (by simp) l hl) (by decide)), h.tail]; simp
      have hd : (pre ++ [s]).drop pre.length = [s] := List.drop_left' rfl
      rw [run, gatherF, hr, hw, if_neg (by simp), run, gatherF, hd]
      unfold tornOf
      by_cases ht : t = []
      · subst ht
        simp
      · rw [if_neg ht, if_neg (by rw [List.length_append]; have := List.length_pos_iff.2 ht; omega)]
        simp
    | succ k ih =>
      intro i acc hi
      have hlt : i < pre.length := by omega
      have hv := h.segv i _ (List.getElem?_eq_getElem hlt)
      have hg := goodN_name (fst + i) (by omega) (by omega)
      have hr : readA st (nameA (fst + i)) = sealsL pre[i] := by rw [readA_view h.calm hg, hv]; rfl
      have hw := wholeA_all pre[i] (fun l hl => Nat.le_trans (h.small _ (List.mem_append_left _ (List.getElem_mem hlt)) l hl) (by decide))
      have hlt2 : i < (pre ++ [s]).length := by simp; omega
      have hgi : (pre ++ [s])[i] = pre[i] := List.getElem_append_left hlt
      rw [run, gatherF, hr, hw, if_neg (by simp), if_pos rfl]
      have e : fst + (i : Int) + 1 = fst + ((i + 1 : Nat) : Int) := by omega
      rw [e, ih (i + 1) _ (by omega), List.drop_eq_getElem_cons hlt2, List.flatten_cons, List.append_assoc, hgi]
  have := key pre.length 0 [] (by omega)
  simpa using this
/-- Mending: the torn tail is cut off. -/
theorem Told.mended (h : Told st fst ck pre s t) {st' : St} (hc : Calm st') (hv : ∀ m, view st' m = if m = nameA (fst + pre.length) then some (sealsL s) else view st m) : Told st' fst ck pre s [] := by
  have hpos := h.pos
  have hfew := h.few
  have hne : ∀ m, m ≠ nameA (fst + pre.length) → view st' m = view st m := fun m hm => by rw [hv, if_neg hm]
  refine ⟨hc, h.pos, h.few, fun h0 => ?_, fun c h0 => ?_, fun i s' hi => ?_, ?_, fun n h1 h2 => ?_, h.small, ?_⟩
  · rw [hne kCheck (name_ne_check _).symm]; exact h.chk0 h0
  · rw [hne kCheck (name_ne_check _).symm]; exact h.chk1 c h0
  · have hlt := (List.getElem?_eq_some_iff.1 hi).1
    rw [hne _ (fun he => by have := name_inj (by omega) (by omega) (by omega) (by omega) he; omega)]
    exact h.segv i s' hi
  · rw [hv, if_pos rfl, List.append_nil]
  · rw [hne _ (fun he => by have := name_inj (by omega) (by omega) (by omega) (by omega) he; omega)]
    exact h.none n h1 h2
  · exact wholeA_stop (by rw [openA_nil]; decide)
theorem Told.openL_eq (h : Told st fst ck pre s t) (part : Int) (hp : 1 ≤ part ∧ part ≤ 1048576) :
    openL st part = if (mendA st (run fst (pre.length + 1)) fst (tornOf s t)).2 ≠ 0 then ⟨(mendA st (run fst (pre.length + 1)) fst (tornOf s t)).1, 0, [], [], (mendA st (run fst (pre.length + 1)) fst (tornOf s t)).2⟩
      else ⟨(mendA st (run fst (pre.length + 1)) fst (tornOf s t)).1, fst + pre.length, ck.getD [], (pre ++ [s]).flatten, 0⟩ := by
  have hk : kErr st kCheck ≠ 9 := by
    rw [calm_err h.calm kCheck goodN_check]; split <;> decide
  unfold openL
  rw [if_neg hk, if_neg (by omega), h.found]
  simp only
  rw [h.parts, h.gather]
  simp only
  rw [if_neg (by simp), if_neg (by simp), lastOf_run]
theorem Told.opens (h : Told st fst ck pre s t) (part : Int) (hp : 1 ≤ part ∧ part ≤ 1048576) :
    ∃ st4, openL st part = ⟨st4, fst + pre.length, ck.getD [], (pre ++ [s]).flatten, 0⟩ ∧ Told st4 fst ck pre s [] ∧ st4.room = st.room := by
  have hpos := h.pos
  have hfew := h.few
  rw [h.openL_eq part hp]
  by_cases ht : t = []
  · subst ht
    have hm : mendA st (run fst (pre.length + 1)) fst (tornOf s []) = (st, 0) := by
      unfold mendA tornOf; rw [if_pos rfl, if_neg (by omega), if_neg (by simp [run])]
    rw [hm]
    exact ⟨st, by rw [if_neg (by simp)], h, rfl⟩
  · have hg := goodN_name (fst + pre.length) (by omega) (by omega)
    have g1 := calm_cut h.calm hg h.lastv (sealsL s).length (by rw [List.length_append]; omega)
    have hv1 : view (cutA st (nameA (fst + pre.length)) (sealsL s).length).1 (nameA (fst + pre.length)) = some (sealsL s) := by
      rw [g1.view, if_pos rfl, List.take_left' rfl]
    have g2 := calm_sync g1.calm hg hv1
    have hm : mendA st (run fst (pre.length + 1)) fst (tornOf s t) = ((syncA (cutA st (nameA (fst + pre.length)) (sealsL s).length).1 (nameA (fst + pre.length))).1, 0) := by
      unfold mendA tornOf
      rw [if_neg ht, if_pos (by omega), lastOf_run, eachA_step g1.ok, eachA_step g2.ok, eachA_nil]
    rw [hm]
    refine ⟨_, by rw [if_neg (by simp)], h.mended g2.calm (fun m => ?_), by rw [g2.room, g1.room]⟩
    rw [g2.view, g1.view]
    by_cases hm : m = nameA (fst + pre.length)
    · rw [if_pos hm, if_pos hm, List.take_left' rfl]
    · rw [if_neg hm, if_neg hm]
end
end Go.Proofs.YthjilhjdnefmdaaGreatDoor
/- Plain laws: a flushed log, cut anywhere. Conditions: none. -/
namespace Go.Proofs.YthjilhjdnefmdaaGreatDoor
open Go.RowKit
theorem name1 : nameA 1 = ⟨#[108, 111, 103, 46, 49]⟩ := by
  unfold nameA
  congr 1
  simp [nameL, dotLog, Lib.itoa, Lib.decDigits]
theorem seals_small (l : List (List UInt8)) (h : ∀ x ∈ l, x.length ≤ 500) : (sealsL l).length ≤ 508 * l.length := by
  induction l with
  | nil => simp [sealsL]
  | cons x r ih =>
    have h1 := h x (List.mem_cons_self ..)
    have h2 := ih (fun y hy => h y (List.mem_cons_of_mem _ hy))
    rw [sealsL_cons, List.length_append, sealL_len, List.length_cons]
    omega
theorem tears_flush {st : St} {L : LM} (h : Log st 1 none [[]]) (hl : L.last = 1) (hd : L.dead = false) (hp : L.part = 1048576) (hs : ∀ x ∈ L.waits, x.length ≤ 500) (hn : L.waits.length ≤ 50) (hr : st.room = 1048576) :
    ∃ st2 L2, flushA st L = (st2, L2, 0) ∧ Log st2 1 none [L.waits] ∧ st2.room = 1048576 := by
  have hmay := calm_may h.calm hd
  have hu := h.used
  have hsm := seals_small L.waits hs
  by_cases hw : L.waits = []
  · refine ⟨st, L, ?_, by rw [hw]; exact h, hr⟩
    unfold flushA
    rw [if_neg (by rw [hmay]; simp), if_pos hw]
  · have hc : chkCost 1 none + segCost [[]] = 16 := by simp [chkCost, segCost, sealsL]
    obtain ⟨e1, e2, e3, e4⟩ := Log.flushE (pre := []) (s := []) h L (by simpa using hl) (fun x hx => Nat.le_trans (hs x hx) (by omega)) (by unfold freeA; omega)
    have e4' := e4 (nameA 1)
    have hread : readA (flushE st L).1 (nameA L.last) = sealsL L.waits := by
      rw [hl, readA_view e2.calm (goodN_name 1 (by omega) (by omega)), e4', if_pos (by simp)]
      simp
    refine ⟨(flushE st L).1, { L with waits := [] }, ?_, by simpa using e2, by rw [e3, hr]⟩
    unfold flushA
    rw [if_neg (by rw [hmay]; simp), if_neg hw, if_neg (by rw [e1]; simp)]
    unfold flushT
    rw [hread, if_pos (.inl (by omega))]
theorem tears_cut {st : St} {l : List (List UInt8)} (h : Log st 1 none [l]) (n k : Nat) (hn : n ≤ (sealsL l).length) (hk : k ≤ l.length) (h1 : endsA l k ≤ n) (h2 : k < l.length → n < endsA l (k + 1)) :
    (cutA st (nameA 1) n).2 = 0 ∧ (cutA st (nameA 1) n).1.room = st.room ∧ ∃ t, Told (cutA st (nameA 1) n).1 1 none [] (l.take k) t := by
  have hg := goodN_name 1 (by omega) (by omega)
  have hv : view st (nameA 1) = some (sealsL l) := by
    have := h.segv 0 l rfl
    simpa using this
  have g := calm_cut h.calm hg hv n hn
  have hne : ∀ m, m ≠ nameA 1 → view (cutA st (nameA 1) n).1 m = view st m := fun m hm => by rw [g.view, if_neg hm]
  have hsm := h.small l (by simp)
  have key : ∃ t, (sealsL l).take n = sealsL (l.take k) ++ t ∧ wholeA t = ([], 0) := by
    by_cases hkl : k < l.length
    · exact ⟨_, take_seals l k n hkl h1 (h2 hkl), whole_short _ (Nat.le_trans (hsm _ (List.getElem_mem hkl)) (by decide)) _ (by
        have := h2 hkl
        rw [endsA_succ l k hkl] at this
        rw [sealL_len]; omega)⟩
    · have hkk : k = l.length := by omega
      have e : endsA l k = (sealsL l).length := by unfold endsA; rw [hkk, List.take_length]
      refine ⟨[], ?_, wholeA_stop (by rw [openA_nil]; decide)⟩
      rw [List.take_of_length_le (by omega), hkk, List.take_length, List.append_nil]
  obtain ⟨t, ht, hw⟩ := key
  refine ⟨g.ok, g.room, t, g.calm, by omega, by simp, fun _ => ⟨rfl, ?_⟩, fun c hc => (by cases hc), fun i s' hi => (by simp at hi), ?_, fun m hm1 hm2 => ?_, fun x hx y hy => ?_, hw⟩
  · rw [hne _ (name_ne_check _).symm]; exact (h.chk0 rfl).2
  · have e : (1 : Int) + (([] : List (List (List UInt8))).length : Int) = 1 := by simp
    rw [e, g.view, if_pos rfl, ht]
  · have hm1' : (1 : Int) < m := by simpa using hm1
    rw [hne _ (fun he => by have := name_inj (by omega) (by omega) (by omega) (by omega) he; omega)]
    exact h.none m (by omega) hm2 (by simp; omega)
  · simp at hx
    subst hx
    exact hsm y (List.mem_of_mem_take hy)
end Go.Proofs.YthjilhjdnefmdaaGreatDoor
/- The references' Put and Seal: how long what they hand back is. Conditions: none. -/
namespace Go.Proofs.YthjilhjdnefmdaaGreatDoor
open Go.RowKit
open Go.ChangeMaps (setBlock)
/-- A row of bytes of the call's own, of which the length is known. -/
def OwnLen (base n : Nat) (w : World) (v : Value) : Prop := ∃ l : List UInt8, l.length = n ∧ w.ownsRow base 5 1 v n (l.map bv)
theorem OwnLen.push {base n : Nat} {w' : World} {v' : Value} {l : List UInt8} (hl : l.length = n) (x : UInt8) (h : w'.ownsRow base 5 1 v' (n + 1) (l.map bv ++ [bv x])) : OwnLen base (n + 1) w' v' :=
  ⟨l ++ [x], by simp [hl], by rw [List.map_append]; exact h⟩
def PutPost (n : Nat) (w : World) (e : Ending) (w' : World) : Prop := ∃ v', e = .returned v' ∧ OwnLen w.heap.size n w' v' ∧ Below w.heap.size w w'
set_option maxRecDepth 100000 in
theorem refGood_t (w : World) : Calls Tryz.prog 77 #[.int .i64 4] w fun e w' => e = .returned (.bool true) ∧ w = w' := by
  go_enter Tryz.func77, Tryz.ntmps77
  go_wp2
  go_ret
  exact ⟨rfl, rfl⟩
set_option maxRecDepth 100000 in
set_option maxHeartbeats 1000000 in
theorem refPut_t {B : Nat} {w : World} {vb : Value} {lb : List UInt8} (h : BS B w vb lb) (hl : lb.length ≤ 140737488355000) (hB : B ≤ w.heap.size) (v : Int) (hv0 : 0 ≤ v) (_hv1 : v < 18446744073709551616) :
    Calls Tryz.prog 40 #[vb, .int .i64 4, .int .u64 v] w (PutPost (lb.length + 4) w) := by
  have hb1 : Below w.heap.size w (w.alloc (.cells #[] 5)) := (Below.refl _ _).alloc (Nat.le_refl _) _
  have hv2 := RS.below h hb1 hB
  have hown := own_empty w 5 w.heap.size (Nat.le_refl _)
  obtain ⟨a, c, rfl, -, -⟩ := h.form
  have HV2 := Lib.hid hv2; have HB1 := Lib.hid hb1; have HO := Lib.hid hown
  clear h hv2 hb1 hown
  go_enter Tryz.func40, Tryz.ntmps40
  go_wp2_with (at_builtin; refine wpList_append_rs slT27 rfl (.tmp 9) (.tmp 10) rfl w.heap.size B _ _ _ rfl HO.out _ rfl (lb.map bv) HV2.out (bv_one lb) (by rw [List.length_map]; unfold maxLen; omega) (by rw [List.length_map]; omega) HB1.out.size ?_; intro v2 w2 hown hg)
  have hb2 : Below w.heap.size w w2 := below_grown HB1.out hg HO.out (Nat.le_refl _)
  have ho2 : w2.ownsRow w.heap.size 5 1 v2 lb.length (lb.map bv) := by
    have := hown
    rw [List.length_map, Nat.zero_add, List.nil_append] at this
    exact this
  have HB2 := Lib.hid hb2; have HO2 := Lib.hid ho2
  clear hown hg hb2 ho2
  go_wp2_with fail
  refine (refGood_t w2).mono ?_
  rintro e w3 ⟨rfl, rfl⟩
  go_wp2_with fail
  go_loopw [7, 8] (fun d i wr => ∃ k : Nat, k ≤ 4 ∧ i = .int .i64 (3 - (k : Int)) ∧ Hid (OwnLen w.heap.size (lb.length + k) wr d) ∧ Hid (Below w.heap.size w wr)) (fun _ i _ => (intOf i + 1).toNat)
  case atStart => exact ⟨0, Nat.zero_le _, rfl, Lib.hid ⟨lb, rfl, HO2.out⟩, HB2⟩
  case round =>
    obtain ⟨k, hk, rfl, ⟨l, hl', hown⟩, hb⟩ := hrel
    have HO' := Lib.hid hown; have HL := Lib.hid hl'
    clear hown hl'
    obtain ⟨ad, cd, rfl⟩ := own_form HO'.out
    have hk' : k = 0 ∨ k = 1 ∨ k = 2 ∨ k = 3 ∨ k = 4 := by omega
    rcases hk' with rfl | rfl | rfl | rfl | rfl
    · go_wp2_with (at_builtin; refine wpList_append_rs slT27 rfl (.tmp 22) (.tmp 29) rfl w.heap.size B _ _ _ rfl (own_row_alloc HO'.out _) _ rfl [.int .u8 (v / 16777216 % 256)] (rs_one 5 B wr _) (by simp [Value.oneCell']) (by unfold maxLen; simp only [List.length_cons, List.length_nil]; omega) (by simp only [List.length_cons, List.length_nil]; omega) (by have := hb.out.size; simp; omega) ?_; intro v' w' hown hg)
      have HO3 := Lib.hid hown; have HG := Lib.hid hg; clear hown hg
      go_wp2
      go_roundw
      case rel =>
        refine ⟨0 + 1, by omega, rfl, Lib.hid (OwnLen.push HL.out (UInt8.ofNat (v.toNat / 16777216)) ?_), Lib.hid (below_grown (hb.out.alloc hb.out.size _) HG.out (own_row_alloc HO'.out _) (Nat.le_refl _))⟩
        have h3 := bv_div v hv0 16777216
        skip
        rw [h3]
        exact HO3.out
      case measure => simp [intOf]
    · go_wp2_with (at_builtin; refine wpList_append_rs slT27 rfl (.tmp 22) (.tmp 29) rfl w.heap.size B _ _ _ rfl (own_row_alloc HO'.out _) _ rfl [.int .u8 (v / 65536 % 256)] (rs_one 5 B wr _) (by simp [Value.oneCell']) (by unfold maxLen; simp only [List.length_cons, List.length_nil]; omega) (by simp only [List.length_cons, List.length_nil]; omega) (by have := hb.out.size; simp; omega) ?_; intro v' w' hown hg)
      have HO3 := Lib.hid hown; have HG := Lib.hid hg; clear hown hg
      go_wp2
      go_roundw
      case rel =>
        refine ⟨1 + 1, by omega, rfl, Lib.hid (OwnLen.push HL.out (UInt8.ofNat (v.toNat / 65536)) ?_), Lib.hid (below_grown (hb.out.alloc hb.out.size _) HG.out (own_row_alloc HO'.out _) (Nat.le_refl _))⟩
        have h3 := bv_div v hv0 65536
        skip
        rw [h3]
        exact HO3.out
      case measure => simp [intOf]
    · go_wp2_with (at_builtin; refine wpList_append_rs slT27 rfl (.tmp 22) (.tmp 29) rfl w.heap.size B _ _ _ rfl (own_row_alloc HO'.out _) _ rfl [.int .u8 (v / 256 % 256)] (rs_one 5 B wr _) (by simp [Value.oneCell']) (by unfold maxLen; simp only [List.length_cons, List.length_nil]; omega) (by simp only [List.length_cons, List.length_nil]; omega) (by have := hb.out.size; simp; omega) ?_; intro v' w' hown hg)
      have HO3 := Lib.hid hown; have HG := Lib.hid hg; clear hown hg
      go_wp2
      go_roundw
      case rel =>
        refine ⟨2 + 1, by omega, rfl, Lib.hid (OwnLen.push HL.out (UInt8.ofNat (v.toNat / 256)) ?_), Lib.hid (below_grown (hb.out.alloc hb.out.size _) HG.out (own_row_alloc HO'.out _) (Nat.le_refl _))⟩
        have h3 := bv_div v hv0 256
        skip
        rw [h3]
        exact HO3.out
      case measure => simp [intOf]
    · go_wp2_with (at_builtin; refine wpList_append_rs slT27 rfl (.tmp 22) (.tmp 29) rfl w.heap.size B _ _ _ rfl (own_row_alloc HO'.out _) _ rfl [.int .u8 (v % 256)] (rs_one 5 B wr _) (by simp [Value.oneCell']) (by unfold maxLen; simp only [List.length_cons, List.length_nil]; omega) (by simp only [List.length_cons, List.length_nil]; omega) (by have := hb.out.size; simp; omega) ?_; intro v' w' hown hg)
      have HO3 := Lib.hid hown; have HG := Lib.hid hg; clear hown hg
      go_wp2
      go_roundw
      case rel =>
        refine ⟨3 + 1, by omega, rfl, Lib.hid (OwnLen.push HL.out (UInt8.ofNat (v.toNat / 1)) ?_), Lib.hid (below_grown (hb.out.alloc hb.out.size _) HG.out (own_row_alloc HO'.out _) (Nat.le_refl _))⟩
        have h3 := bv_div v hv0 1
        have e1 : v / ((1 : Nat) : Int) = v := Int.ediv_one v
        rw [e1] at h3
        rw [h3]
        exact HO3.out
      case measure => simp [intOf]
    · go_wp2
      go_ret
      exact ⟨_, rfl, ⟨l, HL.out, HO'.out⟩, hb.out⟩
def U32Post (w : World) (e : Ending) (w' : World) : Prop := (∃ z : Int, e = .returned (.int .u32 z) ∧ 0 ≤ z ∧ z < 4294967296) ∧ w = w'
set_option maxRecDepth 100000 in
set_option maxHeartbeats 1000000 in
theorem refSum_t {B : Nat} {w : World} {vb : Value} {lb : List UInt8} (h : BS B w vb lb) : Calls Tryz.prog 41 #[vb] w (U32Post w) := by
  obtain ⟨a, c, rfl, g1, g2, -⟩ := id h
  rw [List.length_map] at *
  unfold maxLen at g2
  obtain ⟨-, -, -, hcell⟩ := h.at
  simp only [List.length_map, List.getElem_map] at hcell
  have HC := Lib.hid hcell
  clear h hcell
  go_enter Tryz.func41, Tryz.ntmps41
  go_wp2_with fail
  go_loop [3, 10] (fun r i => ∃ (k : Nat) (z : Int), k ≤ lb.length ∧ i = .int .i64 k ∧ 0 ≤ z ∧ z < 4294967296 ∧ r = .int .u32 z) (fun _ i => lb.length - (intOf i).toNat)
  case atStart => exact ⟨0, 4294967295, Nat.zero_le _, rfl, by omega, by omega, rfl⟩
  case round =>
    obtain ⟨k, z, hk, rfl, z0, z1, rfl⟩ := hrel
    by_cases h4 : k < lb.length
    · obtain ⟨b, o, rfl, e1⟩ := HC.out k (by omega)
      unfold bv at e1
      have hx := UInt8.toNat_lt lb[k]
      generalize lb[k].toNat = x at *
      go_wp2_with fail
      go_loop [3, 6] (fun r i => ∃ (j : Nat) (z : Int), j ≤ 8 ∧ i = .int .i64 (7 - (j : Int)) ∧ 0 ≤ z ∧ z < 4294967296 ∧ r = .int .u32 z) (fun _ i => (intOf i + 1).toNat)
      case atStart => exact ⟨0, z, by omega, rfl, z0, z1, rfl⟩
      case round =>
        clear z0 z1
        obtain ⟨j, y, hj, rfl, y0, y1, rfl⟩ := hrel
        have hj' : j = 0 ∨ j = 1 ∨ j = 2 ∨ j = 3 ∨ j = 4 ∨ j = 5 ∨ j = 6 ∨ j = 7 ∨ j = 8 := by omega
        rcases hj' with rfl | rfl | rfl | rfl | rfl | rfl | rfl | rfl | rfl
        · go_wp2_with fail
          · obtain ⟨q0, q1⟩ := xor_u32_ok (y * 2 % 4294967296) 1947962583 (by omega) (by omega) (by omega) (by omega)
            exact ⟨⟨1, _, by omega, rfl, q0, q1, rfl⟩, by simp [intOf]⟩
          · exact ⟨⟨1, _, by omega, rfl, by omega, by omega, rfl⟩, by simp [intOf]⟩
        · go_wp2_with fail
          · obtain ⟨q0, q1⟩ := xor_u32_ok (y * 2 % 4294967296) 1947962583 (by omega) (by omega) (by omega) (by omega)
            exact ⟨⟨2, _, by omega, rfl, q0, q1, rfl⟩, by simp [intOf]⟩
          · exact ⟨⟨2, _, by omega, rfl, by omega, by omega, rfl⟩, by simp [intOf]⟩
        · go_wp2_with fail
          · obtain ⟨q0, q1⟩ := xor_u32_ok (y * 2 % 4294967296) 1947962583 (by omega) (by omega) (by omega) (by omega)
            exact ⟨⟨3, _, by omega, rfl, q0, q1, rfl⟩, by simp [intOf]⟩
          · exact ⟨⟨3, _, by omega, rfl, by omega, by omega, rfl⟩, by simp [intOf]⟩
        · go_wp2_with fail
          · obtain ⟨q0, q1⟩ := xor_u32_ok (y * 2 % 4294967296) 1947962583 (by omega) (by omega) (by omega) (by omega)
            exact ⟨⟨4, _, by omega, rfl, q0, q1, rfl⟩, by simp [intOf]⟩
          · exact ⟨⟨4, _, by omega, rfl, by omega, by omega, rfl⟩, by simp [intOf]⟩
        · go_wp2_with fail
          · obtain ⟨q0, q1⟩ := xor_u32_ok (y * 2 % 4294967296) 1947962583 (by omega) (by omega) (by omega) (by omega)
            exact ⟨⟨5, _, by omega, rfl, q0, q1, rfl⟩, by simp [intOf]⟩
          · exact ⟨⟨5, _, by omega, rfl, by omega, by omega, rfl⟩, by simp [intOf]⟩
        · go_wp2_with fail
          · obtain ⟨q0, q1⟩ := xor_u32_ok (y * 2 % 4294967296) 1947962583 (by omega) (by omega) (by omega) (by omega)
            exact ⟨⟨6, _, by omega, rfl, q0, q1, rfl⟩, by simp [intOf]⟩
          · exact ⟨⟨6, _, by omega, rfl, by omega, by omega, rfl⟩, by simp [intOf]⟩
        · go_wp2_with fail
          · obtain ⟨q0, q1⟩ := xor_u32_ok (y * 2 % 4294967296) 1947962583 (by omega) (by omega) (by omega) (by omega)
            exact ⟨⟨7, _, by omega, rfl, q0, q1, rfl⟩, by simp [intOf]⟩
          · exact ⟨⟨7, _, by omega, rfl, by omega, by omega, rfl⟩, by simp [intOf]⟩
        · go_wp2_with fail
          · obtain ⟨q0, q1⟩ := xor_u32_ok (y * 2 % 4294967296) 1947962583 (by omega) (by omega) (by omega) (by omega)
            exact ⟨⟨8, _, by omega, rfl, q0, q1, rfl⟩, by simp [intOf]⟩
          · exact ⟨⟨8, _, by omega, rfl, by omega, by omega, rfl⟩, by simp [intOf]⟩
        · go_wp2
          go_round
          case rel => exact ⟨k + 1, y, by omega, by go_num, y0, y1, rfl⟩
          case measure => simp [intOf]; omega
    · go_wp2
      go_ret
      exact ⟨⟨z, rfl, z0, z1⟩, rfl⟩
theorem own_lower {w : World} {base base' n : Nat} {v : Value} (h : OwnLen base n w v) (hb : base' ≤ base) : OwnLen base' n w v := by
  obtain ⟨l, h1, h2, h3⟩ := h
  exact ⟨l, h1, h2, h3.elim .inl (fun ⟨g, cap, cur, hv, hg, r⟩ => .inr ⟨g, cap, cur, hv, Nat.le_trans hb hg, r⟩)⟩
set_option maxRecDepth 100000 in
set_option maxHeartbeats 1000000 in
theorem refSeal_t {B : Nat} {w : World} {vb : Value} {lb : List UInt8} (h : BS B w vb lb) (hl : lb.length ≤ 1048576) (hB : B ≤ w.heap.size) :
    Calls Tryz.prog 12 #[vb] w (PutPost (lb.length + 8) w) := by
  have HP := Lib.hid (refPut_t (BS.nil B w) (by simp) hB (lb.length : Int) (by omega) (by omega))
  have HV := Lib.hid h
  obtain ⟨a, c, rfl, -, -⟩ := h.form
  have t1 : decide ((1048576 : Int) < lb.length) = false := decide_eq_false (by omega)
  clear h
  go_enter Tryz.func12, Tryz.ntmps12
  go_wp2_with fail
  refine HP.out.mono ?_
  rintro e w1 ⟨v1, rfl, ⟨l1, hl1, ho1⟩, hb1⟩
  have HL1 : Hid (l1.length = 4) := Lib.hid (by simpa using hl1)
  have HO1 : Hid (w1.ownsRow w.heap.size 5 1 v1 4 (l1.map bv)) := Lib.hid (by simpa using ho1)
  have HB1 := Lib.hid hb1
  have HV1 := Lib.hid (RS.below HV.out hb1 hB)
  clear hl1 ho1 hb1
  go_wp2_with (at_builtin; refine wpList_append_rs slT27 rfl (.tmp 10) (.tmp 11) rfl w.heap.size B _ _ _ rfl HO1.out _ rfl (lb.map bv) HV1.out (bv_one lb) (by rw [List.length_map]; unfold maxLen; omega) (by rw [List.length_map]; omega) HB1.out.size ?_; intro v2 w2 hown hg)
  have hb2 : Below w.heap.size w w2 := below_grown HB1.out hg HO1.out (Nat.le_refl _)
  have hx2 : BS B w2 v2 (l1 ++ lb) := by
    have := RS.of_owns (B := B) hown
    rw [← List.map_append] at this
    exact this
  have hlen : (l1 ++ lb).length = lb.length + 4 := by rw [List.length_append, HL1.out]; omega
  clear hown hg
  generalize l1 ++ lb = L at *
  have HB2 := Lib.hid hb2
  have HLEN := Lib.hid hlen
  have HSUM := Lib.hid (refSum_t hx2)
  have HX2 := Lib.hid hx2
  obtain ⟨a2, c2, rfl, -, -⟩ := hx2.form
  clear hb2 hx2 hlen HP HV HL1 HO1 HB1 HV1
  go_wp2_with fail
  refine HSUM.out.mono ?_
  rintro e w3 ⟨⟨z, rfl, z0, z1⟩, rfl⟩
  have HP2 := Lib.hid (refPut_t HX2.out (by rw [HLEN.out]; omega) (Nat.le_trans hB HB2.out.size) z z0 (by omega))
  go_wp2_with fail
  refine HP2.out.mono ?_
  rintro e w4 ⟨v4, rfl, ho4, hb4⟩
  obtain ⟨a4, c4, hv4⟩ : ∃ a4 c4, v4 = .slice a4 (L.length + 4) c4 := by
    obtain ⟨l4, q1, q2⟩ := ho4
    exact own_form q2
  subst hv4
  go_wp2
  go_ret
  refine ⟨_, rfl, ?_, HB2.out.trans (hb4.mono HB2.out.size)⟩
  have := own_lower ho4 HB2.out.size
  rw [HLEN.out] at this ⊢
  exact this
end Go.Proofs.YthjilhjdnefmdaaGreatDoor
/- A log whose last part was cut: what the law calls. Conditions: none. -/
namespace Go.Proofs.YthjilhjdnefmdaaGreatDoor
open Go.RowKit
open Go.ChangeMaps (setBlock)
theorem own_stp {M : List Nat} {B : Nat} {w w' : World} {base : Nat} {e : TypeId} {v : Value} {n : Nat} {xs : List Value} (h : w.ownsRow base e 1 v n xs) (s : Stp M B w w') (h64 : e ≠ 64) (h82 : e ≠ 82)
    (hM : ∀ b, e ≠ 5 → v.ownBlock = some b → b ∉ M) : w'.ownsRow base e 1 v n xs := by
  obtain ⟨h1, h2⟩ := h
  refine ⟨h1, h2.imp id ?_⟩
  rintro ⟨g, cap, cur, hv, hb, hg, r⟩
  exact ⟨g, cap, cur, hv, hb, s.fix g cur e (0, 0) hg h64 h82 (fun he => hM g he (by rw [hv]; rfl)), r⟩
theorem own_kind {w : World} {base : Nat} {e : TypeId} {v : Value} {n : Nat} {xs : List Value} (h : w.ownsRow base e 1 v n xs) {b : Nat} (hb : v.ownBlock = some b) : ∃ cur, w.heap[b]? = some (.cells cur e (0, 0)) := by
  rcases h.2 with ⟨rfl, _⟩ | ⟨g, cap, cur, rfl, _, hg, _⟩
  · simp [Value.ownBlock] at hb
  · simp [Value.ownBlock] at hb
    subst hb; exact ⟨cur, hg⟩
/-- A row of another kind than the ledger's blocks are is none of them. -/
theorem own_far {w : World} {B base pl p : Nat} {L : LM} {vw : Value} {vs : List Value} {e : TypeId} {v : Value} {n : Nat} {xs : List Value} (h : w.ownsRow base e 1 v n xs) (hl : LRepC B w pl p L vw vs) (h47 : e ≠ 47) (h27 : e ≠ 27) :
    ∀ b, e ≠ 5 → v.ownBlock = some b → b ∉ pl :: vw.ownBlock.toList := by
  intro b _ hb hm
  obtain ⟨cur, hc⟩ := own_kind h hb
  rcases List.mem_cons.1 hm with rfl | hm
  · rw [hl.blk] at hc; unfold ledObj at hc; simp only [Option.some.injEq, Obj.cells.injEq] at hc; exact h47 hc.2.1.symm
  · have hv : vw.ownBlock = some b := by
      cases ho : vw.ownBlock with
      | none => rw [ho] at hm; simp at hm
      | some k => rw [ho] at hm; simp at hm; rw [hm]
    obtain ⟨cur2, hc2⟩ := own_kind hl.own hv
    rw [hc2] at hc; simp only [Option.some.injEq, Obj.cells.injEq] at hc; exact h27 hc.2.1.symm
/-- The ledger of the law: one part, nothing in it, some records wait; and the law's own row of ends. -/
structure TS (B : Nat) (w : World) (p pl : Nat) (waits : List (List UInt8)) (ve : Value) (es : List Value) : Prop where
  ex : ∃ mn ms bl st L vw vs, RepC B w p mn ms bl st ∧ LRepC B w pl p L vw vs ∧ Log st 1 none [[]] ∧ Tame st ∧ L.last = 1 ∧ L.dead = false ∧ L.part = 1048576 ∧ L.waits = waits ∧ st.room = 1048576
  own : w.ownsRow B 3 1 ve es.length es
theorem TS.below {B : Nat} {w w' : World} {p pl : Nat} {waits : List (List UInt8)} {ve : Value} {es : List Value} (h : TS B w p pl waits ve es) (hb : Below w.heap.size w w') : TS B w' p pl waits ve es := by
  obtain ⟨⟨mn, ms, bl, st, L, vw, vs, h1, h2, h3⟩, ho⟩ := h
  exact ⟨⟨mn, ms, bl, st, L, vw, vs, h1.below hb, h2.below hb, h3⟩, own_below ho hb⟩
theorem TS.le {B : Nat} {w : World} {p pl : Nat} {waits : List (List UInt8)} {ve : Value} {es : List Value} (h : TS B w p pl waits ve es) : B ≤ w.heap.size := by
  obtain ⟨⟨mn, ms, bl, st, L, vw, vs, h1, h2, h3⟩, ho⟩ := h
  exact h1.le
/-- An append to the row of ends. -/
theorem TS.grown {B : Nat} {w w' : World} {p pl : Nat} {waits : List (List UInt8)} {ve v' : Value} {es es' : List Value} (h : TS B w p pl waits ve es) (hg : w.grownBy w' ve.ownBlock) (ho : w'.ownsRow B 3 1 v' es'.length es') : TS B w' p pl waits v' es' := by
  obtain ⟨⟨mn, ms, bl, st, L, vw, vs, h1, h2, h3⟩, hown⟩ := h
  have hB := h1.le
  have hk := fun k (hk : ve.ownBlock = some k) => own_kind hown hk
  have hs : Stp (ve.ownBlock.toList) B w w' := (Stp.refl (ve.ownBlock.toList) B w).grown hg hB (fun k hk' => ⟨(hown.lt k hk').1, fun cs e fr hcs => by
    obtain ⟨cur, hc⟩ := hk k hk'
    rw [hc] at hcs; cases hcs
    exact ⟨by decide, by rw [hk']; simp⟩⟩)
  have hne : ∀ (k : Nat) (cs : Array Value) (e : TypeId) (fr : Nat × Nat), w.heap[k]? = some (Obj.cells cs e fr) → e ≠ 3 → some k ≠ ve.ownBlock := fun k cs e fr hc he hkk => by
    obtain ⟨cur, hc2⟩ := hk k hkk.symm
    rw [hc2] at hc; cases hc; exact he rfl
  have hrep : RepC B w' p mn ms bl st := by
    cases hob : ve.ownBlock with
    | none =>
      rw [hob] at hg
      have : Below w.heap.size w w' := (Below.refl _ w).grown hg (Nat.le_refl _) (fun k hk => by cases hk)
      exact h1.below this
    | some g =>
      obtain ⟨cur, hcur⟩ := hk g hob
      rw [hob] at hg
      exact h1.off hcur (by decide) (by decide) (fun k x hk' hx => (hg.block k (hp_lt hx) (by simpa using hk')).trans hx) (fun v l hv => RS.stp hv hs (by decide) (by decide) (fun _ h => absurd rfl h))
  have hkeep : ∀ (k : Nat) (cs : Array Value) (e : TypeId) (fr : Nat × Nat), w.heap[k]? = some (Obj.cells cs e fr) → e ≠ 3 → w'.heap[k]? = some (Obj.cells cs e fr) := fun k cs e fr hc he => (hg.block k (hp_lt hc) (hne k cs e fr hc he)).trans hc
  refine ⟨⟨mn, ms, bl, st, L, vw, vs, hrep, ⟨hkeep _ _ _ _ h2.blk (by decide), ?_, h2.rows.stp (fun v l hv => RS.stp hv hs (by decide) (by decide) (fun _ h => absurd rfl h)), h2.lpl, h2.few, h2.big, h2.lst, h2.prt⟩, h3⟩, ho⟩
  obtain ⟨q1, q2⟩ := h2.own
  refine ⟨q1, q2.imp id ?_⟩
  rintro ⟨g, cap, cur, hv, hb, hg', r⟩
  exact ⟨g, cap, cur, hv, hb, hkeep _ _ _ _ hg' (by decide), r⟩
theorem own_one (w : World) (e : TypeId) (base : Nat) (x : Value) (h : base ≤ w.heap.size) : (w.alloc (.cells #[x] e)).ownsRow base e 1 (.slice (some ⟨w.heap.size, 0, none⟩) 1 1) 1 [x] :=
  ⟨rfl, .inr ⟨w.heap.size, 1, #[x], rfl, h, hp_new w _, Nat.le_refl _, by unfold maxLen; omega, rfl, rfl⟩⟩
def TFirst (B p : Nat) (w : World) (e : Ending) (w' : World) : Prop :=
  ∃ pl a1 n1 c1 a2 n2 c2, e = .returned (.tuple #[.pointer (some ⟨pl, 0, none⟩), .slice a1 n1 c1, .slice a2 n2 c2, .int .i64 0]) ∧ Hid (TS B (w'.alloc (.cells #[.int .i64 0] 3)) p pl [] (.slice (some ⟨w'.heap.size, 0, none⟩) 1 1) [.int .i64 0]) ∧ Hid (Stp [] B w w')
section
variable {B : Nat} {w w' : World} {p pl : Nat} {waits : List (List UInt8)} {ve : Value} {es : List Value}
theorem first_ts (hE : Env w) (h : Rep B w p (newA 1048576)) (hB : 6 ≤ B) :
    Calls Tryz.prog 9 #[.pointer (some ⟨p, 0, none⟩), .int .i64 1048576] w (TFirst B p w) := by
  obtain ⟨mn, ms, bl, h⟩ := h
  obtain ⟨st1, e1, e2, e3⟩ := open_new 1048576 (by omega) 1048576 (by omega)
  have ht : Tame (newA 1048576) := Tame.new (by omega) (by omega)
  refine (openL_t (fun h => by simp [newA] at h) hE h hB ht.names ht.bytes 1048576).mono ?_
  have ht1 := tame_closed.openL (newA 1048576) 1048576 ht
  rw [e1] at ht1
  rw [e1]
  rintro e w' ⟨vp, vc, vr, rfl, hc, hr', ⟨mn', ms', bl', hrep⟩, hs, ⟨h0, -⟩ | ⟨-, pl, rfl, hpl, hblk⟩⟩
  · exact absurd rfl h0
  · obtain ⟨a1, c1, rfl, -⟩ := hc.form
    obtain ⟨vs, hvs, -⟩ := hr'
    obtain ⟨a2, c2, rfl, -⟩ := hvs
    have hb : Below w'.heap.size w' (w'.alloc (.cells #[.int .i64 0] 3)) := (Below.refl _ w').alloc (Nat.le_refl _) _
    have hl : LRepC B w' pl p ⟨1048576, 1, [], false⟩ (.slice none 0 0) [] := ⟨hblk, World.ownsRow_nil _ _ _ _, ⟨rfl, fun i h => by simp at h⟩, by have := h.le; omega, by simp, by simp, by simp, by simp⟩
    exact ⟨pl, a1, _, c1, a2, _, c2, rfl, Lib.hid ⟨⟨mn', ms', bl', st1, _, _, _, hrep.below hb, hl.below hb, e2, ht1, rfl, rfl, rfl, rfl, e3⟩, own_one w' 3 B _ hrep.le⟩, Lib.hid hs⟩
theorem add_ts (h : TS B w p pl waits ve es) {vb : Value} {lb : List UInt8} (hb : BS B w vb lb) (hl : lb.length ≤ 1048512) (hw : waits.length < 1000) :
    Calls Tryz.prog 11 #[.pointer (some ⟨pl, 0, none⟩), vb] w fun e w' => e = .returned (.int .i64 0) ∧ Hid (TS B w' p pl (waits ++ [lb]) ve es) ∧ Hid (BS B w' vb lb) ∧ Hid (Below B w w') := by
  obtain ⟨⟨mn, ms, bl, st, L, vw, vs, h1, h2, h3, h4, h5, h6, h7, rfl, h8⟩, hown⟩ := h
  have hmay := calm_may h3.calm h6
  have e1 : addA st L lb = ({ L with waits := L.waits ++ [lb] }, 0) := by
    unfold addA
    rw [if_neg (by rw [hmay]; simp), if_neg (by omega)]
  refine (add_t h1 h2 hb).mono ?_
  rw [e1]
  rintro e w' ⟨rfl, g1, ⟨vw', vs', g2, g3⟩, g4⟩
  refine ⟨rfl, Lib.hid ⟨⟨mn, ms, bl, st, _, vw', vs', g1, g2, h3, h4, h5, h6, h7, rfl, h8⟩, own_stp hown g4 (by decide) (by decide) (own_far hown h2 (by decide) (by decide))⟩, Lib.hid (RS.stp hb g4 (by decide) (by decide) (fun _ h => absurd rfl h)), Lib.hid g4.below⟩
/-- Behind Flush the ledger is not looked at any more. -/
structure TF (B : Nat) (w : World) (p : Nat) (P : St → Prop) (ve : Value) (es : List Value) : Prop where
  ex : ∃ st, Rep B w p st ∧ Tame st ∧ P st
  own : w.ownsRow B 3 1 ve es.length es
theorem TF.below {P : St → Prop} (h : TF B w p P ve es) (hb : Below w.heap.size w w') : TF B w' p P ve es := by
  obtain ⟨⟨st, ⟨mn, ms, bl, h1⟩, h2⟩, ho⟩ := h
  exact ⟨⟨st, ⟨mn, ms, bl, h1.below hb⟩, h2⟩, own_below ho hb⟩
theorem TF.imp {P Q : St → Prop} (h : TF B w p P ve es) (hi : ∀ st, P st → Q st) : TF B w p Q ve es := by
  obtain ⟨⟨st, h1, h2, h3⟩, ho⟩ := h
  exact ⟨⟨st, h1, h2, hi st h3⟩, ho⟩
theorem flush_ts (hE : Env w) (hB : 6 ≤ B) (h : TS B w p pl waits ve es) (hs : ∀ x ∈ waits, x.length ≤ 500) (hn : waits.length ≤ 50) :
    Calls Tryz.prog 13 #[.pointer (some ⟨pl, 0, none⟩)] w fun e w' => e = .returned (.int .i64 0) ∧ Hid (TF B w' p (fun st => Log st 1 none [waits] ∧ st.room = 1048576) ve es) ∧ Hid (Below B w w') := by
  obtain ⟨⟨mn, ms, bl, st, L, vw, vs, h1, h2, h3, h4, h5, h6, h7, rfl, h8⟩, hown⟩ := h
  obtain ⟨st2, L2, e1, e2, e3⟩ := tears_flush h3 h5 h6 h7 hs hn h8
  have hleft : ¬ 0 < st.left := by have := h3.calm.left; omega
  have ht := tame_closed.flush st L h4
  refine (flush_t (fun h => absurd h hleft) hE h1 hB h2).mono ?_
  rw [e1] at ht ⊢
  rintro e w' ⟨rfl, g1, -, g4⟩
  have hfar := own_far hown h2 (by decide) (by decide)
  exact ⟨rfl, Lib.hid ⟨⟨st2, g1, ht, e2, e3⟩, own_stp hown g4 (by decide) (by decide) (fun b h5 hb hm => hfar b h5 hb (by simp at hm; simp [hm]))⟩, Lib.hid g4.below⟩
theorem cut_ts {l : List (List UInt8)} (_hB : 6 ≤ B) (h : TF B w p (fun st => Log st 1 none [l] ∧ st.room = 1048576) ve es) (n : Nat) (hn : n ≤ (sealsL l).length) :
    Calls Tryz.prog 14 #[.pointer (some ⟨p, 0, none⟩), .string ⟨#[108, 111, 103, 46, 49]⟩, .int .i64 n] w fun e w' => e = .returned (.int .i64 0) ∧
      Hid (TF B w' p (fun st => ∀ k, k ≤ l.length → endsA l k ≤ n → (k < l.length → n < endsA l (k + 1)) → ∃ t, Told st 1 none [] (l.take k) t) ve es) ∧ Hid (Below B w w') := by
  obtain ⟨⟨st, ⟨mn, ms, bl, h1⟩, h2, h3, h4⟩, ho⟩ := h
  have hleft : ¬ 0 < st.left := by have := h3.calm.left; omega
  have ht := tame_closed.cut st (nameA 1) n h2
  have hg := goodN_name 1 (by omega) (by omega)
  have hv : view st (nameA 1) = some (sealsL l) := by
    have := h3.segv 0 l rfl
    simpa using this
  have g := calm_cut h3.calm hg hv n hn
  have key := fun k a b c => (tears_cut h3 n k hn a b c).2.2
  rw [name1] at key ht g
  refine (cut_t (fun h => absurd h hleft) h1 _ (by decide) n).mono ?_
  rintro e w' ⟨he, hr, hs⟩
  refine ⟨by rw [he, g.ok]; rfl, Lib.hid ⟨⟨_, hr, ht, key⟩, own_stp ho hs (by decide) (by decide) (fun _ _ _ => List.not_mem_nil)⟩, Lib.hid hs.below⟩
def TOpen (B p : Nat) (ve : Value) (es : List Value) (s : List (List UInt8)) (w : World) (e : Ending) (w' : World) : Prop :=
  ∃ pl2 vc vr, e = .returned (.tuple #[.pointer (some ⟨pl2, 0, none⟩), vc, vr, .int .i64 0]) ∧ (∃ a n c, vc = .slice a n c) ∧ LS B w' vr s ∧ TF B w' p (fun st => Told st 1 none [] s []) ve es ∧ Stp [] B w w'
theorem open_ts {s : List (List UInt8)} (hE : Env w) (hB : 6 ≤ B) (h : TF B w p (fun st => ∃ t, Told st 1 none [] s t) ve es) :
    Calls Tryz.prog 9 #[.pointer (some ⟨p, 0, none⟩), .int .i64 1048576] w (TOpen B p ve es s w) := by
  obtain ⟨⟨st, ⟨mn, ms, bl, h1⟩, h2, t, h3⟩, ho⟩ := h
  have hleft : ¬ 0 < st.left := by have := h3.calm.left; omega
  obtain ⟨st4, e1, e2, e3⟩ := h3.opens 1048576 (by omega)
  have ht := tame_closed.openL st 1048576 h2
  refine (openL_t (fun h => absurd h hleft) hE h1 hB h2.names h2.bytes 1048576).mono ?_
  rw [e1] at ht ⊢
  rintro e w' ⟨vp, vc, vr, rfl, hc, hr', hrep, hs, ⟨h0, -⟩ | ⟨-, pl2, rfl, hpl, hblk⟩⟩
  · exact absurd rfl h0
  · obtain ⟨a1, c1, hvc, -⟩ := hc.form
    refine ⟨pl2, vc, vr, rfl, ⟨_, _, _, hvc⟩, ?_, ⟨⟨st4, hrep, ht, e2⟩, own_stp ho hs (by decide) (by decide) (fun _ _ _ => List.not_mem_nil)⟩, hs⟩
    have e : (([] ++ [s]).flatten : List (List UInt8)) = s := by simp
    rw [e] at hr'
    exact hr'
theorem read_ts {s : List (List UInt8)} (h : TF B w p (fun st => Told st 1 none [] s []) ve es) :
    Calls Tryz.prog 15 #[.pointer (some ⟨p, 0, none⟩), .string ⟨#[108, 111, 103, 46, 49]⟩] w fun e w' => ∃ a c ke, e = .returned (.tuple #[.slice a (sealsL s).length c, .int .i64 ke]) ∧ Hid (Below w.heap.size w w') := by
  obtain ⟨⟨st, ⟨mn, ms, bl, h1⟩, h2, h3⟩, ho⟩ := h
  have hg := goodN_name 1 (by omega) (by omega)
  have hr : readA st (nameA 1) = sealsL s := by
    have := h3.lastv
    have e : (1 : Int) + (([] : List (List (List UInt8))).length : Int) = 1 := by simp
    rw [e] at this
    rw [readA_view h3.calm hg, this]; simp
  rw [name1] at hr
  refine (read_t h1 _ (by decide)).mono ?_
  rintro e w' ⟨v, rfl, hv, hb⟩
  rw [hr] at hv
  obtain ⟨a, c, rfl, -⟩ := hv.form
  exact ⟨a, c, _, rfl, Lib.hid hb⟩
theorem LS.take {a : Option Addr} {n c : Nat} {l : List (List UInt8)} (h : LS B w (.slice a n c) l) (k : Nat) (hk : k ≤ l.length) : LS B w (.slice a k c) (l.take k) := by
  obtain ⟨vs, ⟨a', c', he, h1, h2, h3⟩, h4, h5⟩ := h
  cases he
  refine ⟨vs.take k, ⟨a, c, ?_, ?_, h2, ?_⟩, ?_, fun i hi1 hi2 => ?_⟩
  · rw [List.length_take, Nat.min_eq_left (by omega)]
  · rw [List.length_take]; omega
  · rcases h3 with h3 | ⟨b, o, hb, hl, hc⟩
    · left; rw [h3]; simp
    · exact .inr ⟨b, o, hb, hl, fun i x hx => hc i x (by
        rw [List.getElem?_take] at hx
        split at hx
        · exact hx
        · cases hx)⟩
  · rw [List.length_take, List.length_take]; omega
  · rw [List.getElem_take, List.getElem_take]
    rw [List.length_take] at hi1 hi2
    exact h5 i (by omega) (by omega)
end
end Go.Proofs.YthjilhjdnefmdaaGreatDoor
