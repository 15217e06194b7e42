/- LedgerTells: whatever the input, the law answers true and leaves what came in as it was. Conditions: the row's own (the listed variables hold what the text lays). -/
import Derived.Test.YthjilhjdnefmdaaGreatDoorMP
import Derived.Test.YthjilhjdnefmdaaGreatDoorMD
import Derived.Test.YthjilhjdnefmdaaGreatDoorMR
import Derived.Test.YthjilhjdnefmdaaGreatDoorMG
import Derived.Lib.Hide
import Derived.Deep.Slices
import Derived.Deep.Fields
import Derived.ChangeSame
/- Plain laws: a log whose last part is torn: Open tells what is whole and mends it. Conditions: none. -/
namespace Go.Proofs.YthjilhjdnefmdaaGreatDoor
open Go.RowKit
theorem whole_short (x : List UInt8) (hx : x.length ≤ 1048576) (m : Nat) (hm : m < (sealL x).length) : wholeA ((sealL x).take m) = ([], 0) := by
  apply wholeA_stop
  have hp : (2 : Nat) ^ (8 * 4) = 4294967296 := rfl
  rw [sealL_len] at hm
  have hl : ((sealL x).take m).length = m := by rw [List.length_take, sealL_len]; omega
  unfold openA
  rw [hl]
  by_cases h4 : m < 4
  · rw [if_pos h4]; decide
  · rw [if_neg h4]
    have e0 : sealL x = putB 4 x.length ++ (x ++ putB 4 (sumF (putB 4 x.length ++ x))) := by unfold sealL; simp [List.append_assoc]
    have ht : ((sealL x).take m).take 4 = putB 4 x.length := by
      rw [List.take_take, Nat.min_eq_left (by omega), e0, List.take_left' (putB_len _ _)]
    rw [ht, getB_putB 4 _ (by omega) (by omega), if_neg (by omega), if_pos (by omega)]
    decide
/-- Where a cut falls among sealed records: how many are whole. -/
def endsA (l : List (List UInt8)) (k : Nat) : Nat := (sealsL (l.take k)).length
theorem endsA_succ (l : List (List UInt8)) (k : Nat) (h : k < l.length) : endsA l (k + 1) = endsA l k + (l[k].length + 8) := by
  unfold endsA
  rw [sealsL_snoc l k h, List.length_append, sealL_len]
theorem take_seals (l : List (List UInt8)) (k n : Nat) (hk : k < l.length) (h1 : endsA l k ≤ n) (h2 : n < endsA l (k + 1)) : (sealsL l).take n = sealsL (l.take k) ++ (sealL l[k]).take (n - endsA l k) := by
  have e1 := endsA_succ l k hk
  have hl : l = l.take k ++ (l[k] :: l.drop (k + 1)) := by rw [← List.drop_eq_getElem_cons hk, List.take_append_drop]
  have h3 : sealsL l = sealsL (l.take k) ++ (sealL l[k] ++ sealsL (l.drop (k + 1))) := by
    conv => lhs; rw [hl]
    rw [sealsL_app, sealsL_cons]
  rw [h3, List.take_append, List.take_of_length_le (by unfold endsA at h1; omega)]
  congr 1
  rw [List.take_append_of_le_length (by rw [sealL_len]; unfold endsA at *; omega)]
  rfl
/-- A log whose last part has a torn tail; below the first part there may be others. -/
structure Told (st : St) (fst : Int) (ck : Option (List UInt8)) (pre : List (List (List UInt8))) (s : List (List UInt8)) (t : List UInt8) : Prop where
  calm : Calm st
  pos : 1 ≤ fst
  few : fst + pre.length ≤ 999999999
  chk0 : ck = none → fst = 1 ∧ view st kCheck = none
  chk1 : ∀ c, ck = some c → c.length ≤ 1048512 ∧ view st kCheck = some (markB fst c)
  segv : ∀ (i : Nat) s', pre[i]? = some s' → view st (nameA (fst + (i : Int))) = some (sealsL s')
  lastv : view st (nameA (fst + (pre.length : Int))) = some (sealsL s ++ t)
  none : ∀ n, fst + pre.length < n → n ≤ 999999999 → view st (nameA n) = none
  small : ∀ x ∈ pre ++ [s], ∀ l ∈ x, l.length ≤ 1048512
  tail : wholeA t = ([], 0)
section
variable {st : St} {fst : Int} {ck : Option (List UInt8)} {pre : List (List (List UInt8))} {s : List (List UInt8)} {t : List UInt8}
theorem Told.found (h : Told st fst ck pre s t) : foundA st = (fst, ck.getD [], 0) := by
  unfold foundA
  rw [calm_err h.calm kCheck goodN_check]
  cases hc : ck with
  | none =>
    obtain ⟨h1, h2⟩ := h.chk0 hc
    rw [h2, h1]; simp
  | some c =>
    obtain ⟨h1, h2⟩ := h.chk1 c hc
    have hf := h.few
    have := h.pos
    rw [readA_view h.calm goodN_check, h2]
    simp only [Option.isSome_some, if_true, Option.getD_some]
    exact foundB_mark fst h.pos (by omega) c h1
theorem Told.parts (h : Told st fst ck pre s t) : partsA st fst = run fst (pre.length + 1) := by
  have hf := h.few
  have hp := h.pos
  refine partsA_run st fst fst (pre.length + 1) h.calm.dark h.calm.keys h.pos (by omega) (Int.le_refl _) (fun n h0 h1 h2 => ?_)
  rw [← view_some_iff]
  constructor
  · intro hs
    refine ⟨h0, ?_⟩
    rcases Int.lt_or_le (fst + pre.length) n with hc | hc
    · rw [h.none n hc h2] at hs; cases hs
    · omega
  · rintro ⟨h3, h4⟩
    rcases Int.lt_or_le (n - fst) pre.length with hi | hi
    · have hi' : (n - fst).toNat < pre.length := by omega
      have := h.segv (n - fst).toNat _ (List.getElem?_eq_getElem hi')
      have e : fst + ((n - fst).toNat : Int) = n := by omega
      rw [e] at this
      rw [this]; rfl
    · have e : n = fst + (pre.length : Int) := by omega
      rw [e, h.lastv]; rfl
def tornOf (s : List (List UInt8)) (t : List UInt8) : Int := if t = [] then -1 else ((sealsL s).length : Int)
theorem Told.gather (h : Told st fst ck pre s t) : gatherA st (run fst (pre.length + 1)) fst = ((pre ++ [s]).flatten, tornOf s t, 0) := by
  have hlen : ∀ k a, (run a k).length = k := by
    intro k
    induction k with
    | zero => intro a; rfl
    | succ k ih => intro a; rw [run, List.length_cons, ih]
  have hpos := h.pos
  have hfew := h.few
  unfold gatherA
  rw [hlen]
  have key : ∀ (k i : Nat) (acc : List (List UInt8)), i + k = pre.length → gatherF st fst (pre.length + 1) i (run (fst + i) (k + 1)) acc (-1) = (acc ++ ((pre ++ [s]).drop i).flatten, tornOf s t, 0) := by
    intro k
    induction k with
    | zero =>
      intro i acc hi
      have hii : i = pre.length := by omega
      subst hii
      have hg := goodN_name (fst + pre.length) (by omega) (by omega)
      have hr : readA st (nameA (fst + pre.length)) = sealsL s ++ t := by rw [readA_view h.calm hg, h.lastv]; rfl
      have hw : wholeA (sealsL s ++ t) = (s, (sealsL s).length) := by
        rw [wholeA_seals s t (fun l hl => Nat.le_trans (h.small s (by simp) l hl) (by decide)), h.tail]; simp
      have hd : (pre ++ [s]).drop pre.length = [s] := List.drop_left' rfl
      rw [run, gatherF, hr, hw, if_neg (by simp), run, gatherF, hd]
      unfold tornOf
      by_cases ht : t = []
      · subst ht
        simp
      · rw [if_neg ht, if_neg (by rw [List.length_append]; have := List.length_pos_iff.2 ht; omega)]
        simp
    | succ k ih =>
      intro i acc hi
      have hlt : i < pre.length := by omega
      have hv := h.segv i _ (List.getElem?_eq_getElem hlt)
      have hg := goodN_name (fst + i) (by omega) (by omega)
      have hr : readA st (nameA (fst + i)) = sealsL pre[i] := by rw [readA_view h.calm hg, hv]; rfl
      have hw := wholeA_all pre[i] (fun l hl => Nat.le_trans (h.small _ (List.mem_append_left _ (List.getElem_mem hlt)) l hl) (by decide))
      have hlt2 : i < (pre ++ [s]).length := by simp; omega
      have hgi : (pre ++ [s])[i] = pre[i] := List.getElem_append_left hlt
      rw [run, gatherF, hr, hw, if_neg (by simp), if_pos rfl]
      have e : fst + (i : Int) + 1 = fst + ((i + 1 : Nat) : Int) := by omega
      rw [e, ih (i + 1) _ (by omega), List.drop_eq_getElem_cons hlt2, List.flatten_cons, List.append_assoc, hgi]
  have := key pre.length 0 [] (by omega)
  simpa using this
/-- Mending: the torn tail is cut off. -/
theorem Told.mended (h : Told st fst ck pre s t) {st' : St} (hc : Calm st') (hv : ∀ m, view st' m = if m = nameA (fst + pre.length) then some (sealsL s) else view st m) : Told st' fst ck pre s [] := by
  have hpos := h.pos
  have hfew := h.few
  have hne : ∀ m, m ≠ nameA (fst + pre.length) → view st' m = view st m := fun m hm => by rw [hv, if_neg hm]
  refine ⟨hc, h.pos, h.few, fun h0 => ?_, fun c h0 => ?_, fun i s' hi => ?_, ?_, fun n h1 h2 => ?_, h.small, ?_⟩
  · rw [hne kCheck (name_ne_check _).symm]; exact h.chk0 h0
  · rw [hne kCheck (name_ne_check _).symm]; exact h.chk1 c h0
  · have hlt := (List.getElem?_eq_some_iff.1 hi).1
    rw [hne _ (fun he => by have := name_inj (by omega) (by omega) (by omega) (by omega) he; omega)]
    exact h.segv i s' hi
  · rw [hv, if_pos rfl, List.append_nil]
  · rw [hne _ (fun he => by have := name_inj (by omega) (by omega) (by omega) (by omega) he; omega)]
    exact h.none n h1 h2
  · exact wholeA_stop (by rw [openA_nil]; decide)
theorem Told.openL_eq (h : Told st fst ck pre s t) (part : Int) (hp : 1 ≤ part ∧ part ≤ 1048576) :
    openL st part = if (mendA st (run fst (pre.length + 1)) fst (tornOf s t)).2 ≠ 0 then ⟨(mendA st (run fst (pre.length + 1)) fst (tornOf s t)).1, 0, [], [], (mendA st (run fst (pre.length + 1)) fst (tornOf s t)).2⟩
      else ⟨(mendA st (run fst (pre.length + 1)) fst (tornOf s t)).1, fst + pre.length, ck.getD [], (pre ++ [s]).flatten, 0⟩ := by
  have hk : kErr st kCheck ≠ 9 := by
    rw [calm_err h.calm kCheck goodN_check]; split <;> decide
  unfold openL
  rw [if_neg hk, if_neg (by omega), h.found]
  simp only
  rw [h.parts, h.gather]
  simp only
  rw [if_neg (by simp), if_neg (by simp), lastOf_run]
theorem Told.opens (h : Told st fst ck pre s t) (part : Int) (hp : 1 ≤ part ∧ part ≤ 1048576) :
    ∃ st4, openL st part = ⟨st4, fst + pre.length, ck.getD [], (pre ++ [s]).flatten, 0⟩ ∧ Told st4 fst ck pre s [] ∧ st4.room = st.room := by
  have hpos := h.pos
  have hfew := h.few
  rw [h.openL_eq part hp]
  by_cases ht : t = []
  · subst ht
    have hm : mendA st (run fst (pre.length + 1)) fst (tornOf s []) = (st, 0) := by
      unfold mendA tornOf; rw [if_pos rfl, if_neg (by omega), if_neg (by simp [run])]
    rw [hm]
    exact ⟨st, by rw [if_neg (by simp)], h, rfl⟩
  · have hg := goodN_name (fst + pre.length) (by omega) (by omega)
    have g1 := calm_cut h.calm hg h.lastv (sealsL s).length (by rw [List.length_append]; omega)
    have hv1 : view (cutA st (nameA (fst + pre.length)) (sealsL s).length).1 (nameA (fst + pre.length)) = some (sealsL s) := by
      rw [g1.view, if_pos rfl, List.take_left' rfl]
    have g2 := calm_sync g1.calm hg hv1
    have hm : mendA st (run fst (pre.length + 1)) fst (tornOf s t) = ((syncA (cutA st (nameA (fst + pre.length)) (sealsL s).length).1 (nameA (fst + pre.length))).1, 0) := by
      unfold mendA tornOf
      rw [if_neg ht, if_pos (by omega), lastOf_run, eachA_step g1.ok, eachA_step g2.ok, eachA_nil]
    rw [hm]
    refine ⟨_, by rw [if_neg (by simp)], h.mended g2.calm (fun m => ?_), by rw [g2.room, g1.room]⟩
    rw [g2.view, g1.view]
    by_cases hm : m = nameA (fst + pre.length)
    · rw [if_pos hm, if_pos hm, List.take_left' rfl]
    · rw [if_neg hm, if_neg hm]
end
end Go.Proofs.YthjilhjdnefmdaaGreatDoor
/- Plain laws: a flushed log, cut anywhere. Conditions: none. -/
namespace Go.Proofs.YthjilhjdnefmdaaGreatDoor
open Go.RowKit
theorem name1 : nameA 1 = ⟨#[108, 111, 103, 46, 49]⟩ := by
  unfold nameA
  congr 1
  simp [nameL, dotLog, Lib.itoa, Lib.decDigits]
theorem seals_small (l : List (List UInt8)) (h : ∀ x ∈ l, x.length ≤ 500) : (sealsL l).length ≤ 508 * l.length := by
  induction l with
  | nil => simp [sealsL]
  | cons x r ih =>
    have h1 := h x (List.mem_cons_self ..)
    have h2 := ih (fun y hy => h y (List.mem_cons_of_mem _ hy))
    rw [sealsL_cons, List.length_append, sealL_len, List.length_cons]
    omega
theorem tears_flush {st : St} {L : LM} (h : Log st 1 none [[]]) (hl : L.last = 1) (hd : L.dead = false) (hp : L.part = 1048576) (hs : ∀ x ∈ L.waits, x.length ≤ 500) (hn : L.waits.length ≤ 50) (hr : st.room = 1048576) :
    ∃ st2 L2, flushA st L = (st2, L2, 0) ∧ Log st2 1 none [L.waits] ∧ st2.room = 1048576 := by
  have hmay := calm_may h.calm hd
  have hu := h.used
  have hsm := seals_small L.waits hs
  by_cases hw : L.waits = []
  · refine ⟨st, L, ?_, by rw [hw]; exact h, hr⟩
    unfold flushA
    rw [if_neg (by rw [hmay]; simp), if_pos hw]
  · have hc : chkCost 1 none + segCost [[]] = 16 := by simp [chkCost, segCost, sealsL]
    obtain ⟨e1, e2, e3, e4⟩ := Log.flushE (pre := []) (s := []) h L (by simpa using hl) (fun x hx => Nat.le_trans (hs x hx) (by omega)) (by unfold freeA; omega)
    have e4' := e4 (nameA 1)
    have hread : readA (flushE st L).1 (nameA L.last) = sealsL L.waits := by
      rw [hl, readA_view e2.calm (goodN_name 1 (by omega) (by omega)), e4', if_pos (by simp)]
      simp
    refine ⟨(flushE st L).1, { L with waits := [] }, ?_, by simpa using e2, by rw [e3, hr]⟩
    unfold flushA
    rw [if_neg (by rw [hmay]; simp), if_neg hw, if_neg (by rw [e1]; simp)]
    unfold flushT
    rw [hread, if_pos (.inl (by omega))]
theorem tears_cut {st : St} {l : List (List UInt8)} (h : Log st 1 none [l]) (n k : Nat) (hn : n ≤ (sealsL l).length) (hk : k ≤ l.length) (h1 : endsA l k ≤ n) (h2 : k < l.length → n < endsA l (k + 1)) :
    (cutA st (nameA 1) n).2 = 0 ∧ (cutA st (nameA 1) n).1.room = st.room ∧ ∃ t, Told (cutA st (nameA 1) n).1 1 none [] (l.take k) t := by
  have hg := goodN_name 1 (by omega) (by omega)
  have hv : view st (nameA 1) = some (sealsL l) := by
    have := h.segv 0 l rfl
    simpa using this
  have g := calm_cut h.calm hg hv n hn
  have hne : ∀ m, m ≠ nameA 1 → view (cutA st (nameA 1) n).1 m = view st m := fun m hm => by rw [g.view, if_neg hm]
  have hsm := h.small l (by simp)
  have key : ∃ t, (sealsL l).take n = sealsL (l.take k) ++ t ∧ wholeA t = ([], 0) := by
    by_cases hkl : k < l.length
    · exact ⟨_, take_seals l k n hkl h1 (h2 hkl), whole_short _ (Nat.le_trans (hsm _ (List.getElem_mem hkl)) (by decide)) _ (by
        have := h2 hkl
        rw [endsA_succ l k hkl] at this
        rw [sealL_len]; omega)⟩
    · have hkk : k = l.length := by omega
      have e : endsA l k = (sealsL l).length := by unfold endsA; rw [hkk, List.take_length]
      refine ⟨[], ?_, wholeA_stop (by rw [openA_nil]; decide)⟩
      rw [List.take_of_length_le (by omega), hkk, List.take_length, List.append_nil]
  obtain ⟨t, ht, hw⟩ := key
  refine ⟨g.ok, g.room, t, g.calm, by omega, by simp, fun _ => ⟨rfl, ?_⟩, fun c hc => (by cases hc), fun i s' hi => (by simp at hi), ?_, fun m hm1 hm2 => ?_, fun x hx y hy => ?_, hw⟩
  · rw [hne _ (name_ne_check _).symm]; exact (h.chk0 rfl).2
  · have e : (1 : Int) + (([] : List (List (List UInt8))).length : Int) = 1 := by simp
    rw [e, g.view, if_pos rfl, ht]
  · have hm1' : (1 : Int) < m := by simpa using hm1
    rw [hne _ (fun he => by have := name_inj (by omega) (by omega) (by omega) (by omega) he; omega)]
    exact h.none m (by omega) hm2 (by simp; omega)
  · simp at hx
    subst hx
    exact hsm y (List.mem_of_mem_take hy)
end Go.Proofs.YthjilhjdnefmdaaGreatDoor
/- The references' Put and Seal: how long what they hand back is. Conditions: none. -/
namespace Go.Proofs.YthjilhjdnefmdaaGreatDoor
open Go.RowKit
open Go.ChangeMaps (setBlock)
/-- A row of bytes of the call's own, of which the length is known. -/
def OwnLen (base n : Nat) (w : World) (v : Value) : Prop := ∃ l : List UInt8, l.length = n ∧ w.ownsRow base 5 1 v n (l.map bv)
theorem OwnLen.push {base n : Nat} {w' : World} {v' : Value} {l : List UInt8} (hl : l.length = n) (x : UInt8) (h : w'.ownsRow base 5 1 v' (n + 1) (l.map bv ++ [bv x])) : OwnLen base (n + 1) w' v' :=
  ⟨l ++ [x], by simp [hl], by rw [List.map_append]; exact h⟩
def PutPost (n : Nat) (w : World) (e : Ending) (w' : World) : Prop := ∃ v', e = .returned v' ∧ OwnLen w.heap.size n w' v' ∧ Below w.heap.size w w'
set_option maxRecDepth 100000 in
theorem refGood_t (w : World) : Calls Tryz.prog 77 #[.int .i64 4] w fun e w' => e = .returned (.bool true) ∧ w = w' := by
  go_enter Tryz.func77, Tryz.ntmps77
  go_wp2
  go_ret
  exact ⟨rfl, rfl⟩
set_option maxRecDepth 100000 in
set_option maxHeartbeats 1000000 in
theorem refPut_t {B : Nat} {w : World} {vb : Value} {lb : List UInt8} (h : BS B w vb lb) (hl : lb.length ≤ 140737488355000) (hB : B ≤ w.heap.size) (v : Int) (hv0 : 0 ≤ v) (_hv1 : v < 18446744073709551616) :
    Calls Tryz.prog 40 #[vb, .int .i64 4, .int .u64 v] w (PutPost (lb.length + 4) w) := by
  have hb1 : Below w.heap.size w (w.alloc (.cells #[] 5)) := (Below.refl _ _).alloc (Nat.le_refl _) _
  have hv2 := RS.below h hb1 hB
  have hown := own_empty w 5 w.heap.size (Nat.le_refl _)
  obtain ⟨a, c, rfl, -, -⟩ := h.form
  have HV2 := Lib.hid hv2; have HB1 := Lib.hid hb1; have HO := Lib.hid hown
  clear h hv2 hb1 hown
  go_enter Tryz.func40, Tryz.ntmps40
  go_wp2_with (at_builtin; refine wpList_append_rs slT27 rfl (.tmp 9) (.tmp 10) rfl w.heap.size B _ _ _ rfl HO.out _ rfl (lb.map bv) HV2.out (bv_one lb) (by rw [List.length_map]; unfold maxLen; omega) (by rw [List.length_map]; omega) HB1.out.size ?_; intro v2 w2 hown hg)
  have hb2 : Below w.heap.size w w2 := below_grown HB1.out hg HO.out (Nat.le_refl _)
  have ho2 : w2.ownsRow w.heap.size 5 1 v2 lb.length (lb.map bv) := by
    have := hown
    rw [List.length_map, Nat.zero_add, List.nil_append] at this
    exact this
  have HB2 := Lib.hid hb2; have HO2 := Lib.hid ho2
  clear hown hg hb2 ho2
  go_wp2_with fail
  refine (refGood_t w2).mono ?_
  rintro e w3 ⟨rfl, rfl⟩
  go_wp2_with fail
  go_loopw [7, 8] (fun d i wr => ∃ k : Nat, k ≤ 4 ∧ i = .int .i64 (3 - (k : Int)) ∧ Hid (OwnLen w.heap.size (lb.length + k) wr d) ∧ Hid (Below w.heap.size w wr)) (fun _ i _ => (intOf i + 1).toNat)
  case atStart => exact ⟨0, Nat.zero_le _, rfl, Lib.hid ⟨lb, rfl, HO2.out⟩, HB2⟩
  case round =>
    obtain ⟨k, hk, rfl, ⟨l, hl', hown⟩, hb⟩ := hrel
    have HO' := Lib.hid hown; have HL := Lib.hid hl'
    clear hown hl'
    obtain ⟨ad, cd, rfl⟩ := own_form HO'.out
    have hk' : k = 0 ∨ k = 1 ∨ k = 2 ∨ k = 3 ∨ k = 4 := by omega
    rcases hk' with rfl | rfl | rfl | rfl | rfl
    · go_wp2_with (at_builtin; refine wpList_append_rs slT27 rfl (.tmp 22) (.tmp 29) rfl w.heap.size B _ _ _ rfl (own_row_alloc HO'.out _) _ rfl [.int .u8 (v / 16777216 % 256)] (rs_one 5 B wr _) (by simp [Value.oneCell']) (by unfold maxLen; simp only [List.length_cons, List.length_nil]; omega) (by simp only [List.length_cons, List.length_nil]; omega) (by have := hb.out.size; simp; omega) ?_; intro v' w' hown hg)
      have HO3 := Lib.hid hown; have HG := Lib.hid hg; clear hown hg
      go_wp2
      go_roundw
      case rel =>
        refine ⟨0 + 1, by omega, rfl, Lib.hid (OwnLen.push HL.out (UInt8.ofNat (v.toNat / 16777216)) ?_), Lib.hid (below_grown (hb.out.alloc hb.out.size _) HG.out (own_row_alloc HO'.out _) (Nat.le_refl _))⟩
        have h3 := bv_div v hv0 16777216
        skip
        rw [h3]
        exact HO3.out
      case measure => simp [intOf]
    · go_wp2_with (at_builtin; refine wpList_append_rs slT27 rfl (.tmp 22) (.tmp 29) rfl w.heap.size B _ _ _ rfl (own_row_alloc HO'.out _) _ rfl [.int .u8 (v / 65536 % 256)] (rs_one 5 B wr _) (by simp [Value.oneCell']) (by unfold maxLen; simp only [List.length_cons, List.length_nil]; omega) (by simp only [List.length_cons, List.length_nil]; omega) (by have := hb.out.size; simp; omega) ?_; intro v' w' hown hg)
      have HO3 := Lib.hid hown; have HG := Lib.hid hg; clear hown hg
      go_wp2
      go_roundw
      case rel =>
        refine ⟨1 + 1, by omega, rfl, Lib.hid (OwnLen.push HL.out (UInt8.ofNat (v.toNat / 65536)) ?_), Lib.hid (below_grown (hb.out.alloc hb.out.size _) HG.out (own_row_alloc HO'.out _) (Nat.le_refl _))⟩
        have h3 := bv_div v hv0 65536
        skip
        rw [h3]
        exact HO3.out
      case measure => simp [intOf]
    · go_wp2_with (at_builtin; refine wpList_append_rs slT27 rfl (.tmp 22) (.tmp 29) rfl w.heap.size B _ _ _ rfl (own_row_alloc HO'.out _) _ rfl [.int .u8 (v / 256 % 256)] (rs_one 5 B wr _) (by simp [Value.oneCell']) (by unfold maxLen; simp only [List.length_cons, List.length_nil]; omega) (by simp only [List.length_cons, List.length_nil]; omega) (by have := hb.out.size; simp; omega) ?_; intro v' w' hown hg)
      have HO3 := Lib.hid hown; have HG := Lib.hid hg; clear hown hg
      go_wp2
      go_roundw
      case rel =>
        refine ⟨2 + 1, by omega, rfl, Lib.hid (OwnLen.push HL.out (UInt8.ofNat (v.toNat / 256)) ?_), Lib.hid (below_grown (hb.out.alloc hb.out.size _) HG.out (own_row_alloc HO'.out _) (Nat.le_refl _))⟩
        have h3 := bv_div v hv0 256
        skip
        rw [h3]
        exact HO3.out
      case measure => simp [intOf]
    · go_wp2_with (at_builtin; refine wpList_append_rs slT27 rfl (.tmp 22) (.tmp 29) rfl w.heap.size B _ _ _ rfl (own_row_alloc HO'.out _) _ rfl [.int .u8 (v % 256)] (rs_one 5 B wr _) (by simp [Value.oneCell']) (by unfold maxLen; simp only [List.length_cons, List.length_nil]; omega) (by simp only [List.length_cons, List.length_nil]; omega) (by have := hb.out.size; simp; omega) ?_; intro v' w' hown hg)
      have HO3 := Lib.hid hown; have HG := Lib.hid hg; clear hown hg
      go_wp2
      go_roundw
      case rel =>
        refine ⟨3 + 1, by omega, rfl, Lib.hid (OwnLen.push HL.out (UInt8.ofNat (v.toNat / 1)) ?_), Lib.hid (below_grown (hb.out.alloc hb.out.size _) HG.out (own_row_alloc HO'.out _) (Nat.le_refl _))⟩
        have h3 := bv_div v hv0 1
        have e1 : v / ((1 : Nat) : Int) = v := Int.ediv_one v
        rw [e1] at h3
        rw [h3]
        exact HO3.out
      case measure => simp [intOf]
    · go_wp2
      go_ret
      exact ⟨_, rfl, ⟨l, HL.out, HO'.out⟩, hb.out⟩
def U32Post (w : World) (e : Ending) (w' : World) : Prop := (∃ z : Int, e = .returned (.int .u32 z) ∧ 0 ≤ z ∧ z < 4294967296) ∧ w = w'
set_option maxRecDepth 100000 in
set_option maxHeartbeats 1000000 in
theorem refSum_t {B : Nat} {w : World} {vb : Value} {lb : List UInt8} (h : BS B w vb lb) : Calls Tryz.prog 41 #[vb] w (U32Post w) := by
  obtain ⟨a, c, rfl, g1, g2, -⟩ := id h
  rw [List.length_map] at *
  unfold maxLen at g2
  obtain ⟨-, -, -, hcell⟩ := h.at
  simp only [List.length_map, List.getElem_map] at hcell
  have HC := Lib.hid hcell
  clear h hcell
  go_enter Tryz.func41, Tryz.ntmps41
  go_wp2_with fail
  go_loop [3, 10] (fun r i => ∃ (k : Nat) (z : Int), k ≤ lb.length ∧ i = .int .i64 k ∧ 0 ≤ z ∧ z < 4294967296 ∧ r = .int .u32 z) (fun _ i => lb.length - (intOf i).toNat)
  case atStart => exact ⟨0, 4294967295, Nat.zero_le _, rfl, by omega, by omega, rfl⟩
  case round =>
    obtain ⟨k, z, hk, rfl, z0, z1, rfl⟩ := hrel
    by_cases h4 : k < lb.length
    · obtain ⟨b, o, rfl, e1⟩ := HC.out k (by omega)
      unfold bv at e1
      have hx := UInt8.toNat_lt lb[k]
      generalize lb[k].toNat = x at *
      go_wp2_with fail
      go_loop [3, 6] (fun r i => ∃ (j : Nat) (z : Int), j ≤ 8 ∧ i = .int .i64 (7 - (j : Int)) ∧ 0 ≤ z ∧ z < 4294967296 ∧ r = .int .u32 z) (fun _ i => (intOf i + 1).toNat)
      case atStart => exact ⟨0, z, by omega, rfl, z0, z1, rfl⟩
      case round =>
        clear z0 z1
        obtain ⟨j, y, hj, rfl, y0, y1, rfl⟩ := hrel
        have hj' : j = 0 ∨ j = 1 ∨ j = 2 ∨ j = 3 ∨ j = 4 ∨ j = 5 ∨ j = 6 ∨ j = 7 ∨ j = 8 := by omega
        rcases hj' with rfl | rfl | rfl | rfl | rfl | rfl | rfl | rfl | rfl
        · go_wp2_with fail
          · obtain ⟨q0, q1⟩ := xor_u32_ok (y * 2 % 4294967296) 1947962583 (by omega) (by omega) (by omega) (by omega)
            exact ⟨⟨1, _, by omega, rfl, q0, q1, rfl⟩, by simp [intOf]⟩
          · exact ⟨⟨1, _, by omega, rfl, by omega, by omega, rfl⟩, by simp [intOf]⟩
        · go_wp2_with fail
          · obtain ⟨q0, q1⟩ := xor_u32_ok (y * 2 % 4294967296) 1947962583 (by omega) (by omega) (by omega) (by omega)
            exact ⟨⟨2, _, by omega, rfl, q0, q1, rfl⟩, by simp [intOf]⟩
          · exact ⟨⟨2, _, by omega, rfl, by omega, by omega, rfl⟩, by simp [intOf]⟩
        · go_wp2_with fail
          · obtain ⟨q0, q1⟩ := xor_u32_ok (y * 2 % 4294967296) 1947962583 (by omega) (by omega) (by omega) (by omega)
            exact ⟨⟨3, _, by omega, rfl, q0, q1, rfl⟩, by simp [intOf]⟩
          · exact ⟨⟨3, _, by omega, rfl, by omega, by omega, rfl⟩, by simp [intOf]⟩
        · go_wp2_with fail
          · obtain ⟨q0, q1⟩ := xor_u32_ok (y * 2 % 4294967296) 1947962583 (by omega) (by omega) (by omega) (by omega)
            exact ⟨⟨4, _, by omega, rfl, q0, q1, rfl⟩, by simp [intOf]⟩
          · exact ⟨⟨4, _, by omega, rfl, by omega, by omega, rfl⟩, by simp [intOf]⟩
        · go_wp2_with fail
          · obtain ⟨q0, q1⟩ := xor_u32_ok (y * 2 % 4294967296) 1947962583 (by omega) (by omega) (by omega) (by omega)
            exact ⟨⟨5, _, by omega, rfl, q0, q1, rfl⟩, by simp [intOf]⟩
          · exact ⟨⟨5, _, by omega, rfl, by omega, by omega, rfl⟩, by simp [intOf]⟩
        · go_wp2_with fail
          · obtain ⟨q0, q1⟩ := xor_u32_ok (y * 2 % 4294967296) 1947962583 (by omega) (by omega) (by omega) (by omega)
            exact ⟨⟨6, _, by omega, rfl, q0, q1, rfl⟩, by simp [intOf]⟩
          · exact ⟨⟨6, _, by omega, rfl, by omega, by omega, rfl⟩, by simp [intOf]⟩
        · go_wp2_with fail
          · obtain ⟨q0, q1⟩ := xor_u32_ok (y * 2 % 4294967296) 1947962583 (by omega) (by omega) (by omega) (by omega)
            exact ⟨⟨7, _, by omega, rfl, q0, q1, rfl⟩, by simp [intOf]⟩
          · exact ⟨⟨7, _, by omega, rfl, by omega, by omega, rfl⟩, by simp [intOf]⟩
        · go_wp2_with fail
          · obtain ⟨q0, q1⟩ := xor_u32_ok (y * 2 % 4294967296) 1947962583 (by omega) (by omega) (by omega) (by omega)
            exact ⟨⟨8, _, by omega, rfl, q0, q1, rfl⟩, by simp [intOf]⟩
          · exact ⟨⟨8, _, by omega, rfl, by omega, by omega, rfl⟩, by simp [intOf]⟩
        · go_wp2
          go_round
          case rel => exact ⟨k + 1, y, by omega, by go_num, y0, y1, rfl⟩
          case measure => simp [intOf]; omega
    · go_wp2
      go_ret
      exact ⟨⟨z, rfl, z0, z1⟩, rfl⟩
theorem own_lower {w : World} {base base' n : Nat} {v : Value} (h : OwnLen base n w v) (hb : base' ≤ base) : OwnLen base' n w v := by
  obtain ⟨l, h1, h2, h3⟩ := h
  exact ⟨l, h1, h2, h3.elim .inl (fun ⟨g, cap, cur, hv, hg, r⟩ => .inr ⟨g, cap, cur, hv, Nat.le_trans hb hg, r⟩)⟩
set_option maxRecDepth 100000 in
set_option maxHeartbeats 1000000 in
theorem refSeal_t {B : Nat} {w : World} {vb : Value} {lb : List UInt8} (h : BS B w vb lb) (hl : lb.length ≤ 1048576) (hB : B ≤ w.heap.size) :
    Calls Tryz.prog 12 #[vb] w (PutPost (lb.length + 8) w) := by
  have HP := Lib.hid (refPut_t (BS.nil B w) (by simp) hB (lb.length : Int) (by omega) (by omega))
  have HV := Lib.hid h
  obtain ⟨a, c, rfl, -, -⟩ := h.form
  have t1 : decide ((1048576 : Int) < lb.length) = false := decide_eq_false (by omega)
  clear h
  go_enter Tryz.func12, Tryz.ntmps12
  go_wp2_with fail
  refine HP.out.mono ?_
  rintro e w1 ⟨v1, rfl, ⟨l1, hl1, ho1⟩, hb1⟩
  have HL1 : Hid (l1.length = 4) := Lib.hid (by simpa using hl1)
  have HO1 : Hid (w1.ownsRow w.heap.size 5 1 v1 4 (l1.map bv)) := Lib.hid (by simpa using ho1)
  have HB1 := Lib.hid hb1
  have HV1 := Lib.hid (RS.below HV.out hb1 hB)
  clear hl1 ho1 hb1
  go_wp2_with (at_builtin; refine wpList_append_rs slT27 rfl (.tmp 10) (.tmp 11) rfl w.heap.size B _ _ _ rfl HO1.out _ rfl (lb.map bv) HV1.out (bv_one lb) (by rw [List.length_map]; unfold maxLen; omega) (by rw [List.length_map]; omega) HB1.out.size ?_; intro v2 w2 hown hg)
  have hb2 : Below w.heap.size w w2 := below_grown HB1.out hg HO1.out (Nat.le_refl _)
  have hx2 : BS B w2 v2 (l1 ++ lb) := by
    have := RS.of_owns (B := B) hown
    rw [← List.map_append] at this
    exact this
  have hlen : (l1 ++ lb).length = lb.length + 4 := by rw [List.length_append, HL1.out]; omega
  clear hown hg
  generalize l1 ++ lb = L at *
  have HB2 := Lib.hid hb2
  have HLEN := Lib.hid hlen
  have HSUM := Lib.hid (refSum_t hx2)
  have HX2 := Lib.hid hx2
  obtain ⟨a2, c2, rfl, -, -⟩ := hx2.form
  clear hb2 hx2 hlen HP HV HL1 HO1 HB1 HV1
  go_wp2_with fail
  refine HSUM.out.mono ?_
  rintro e w3 ⟨⟨z, rfl, z0, z1⟩, rfl⟩
  have HP2 := Lib.hid (refPut_t HX2.out (by rw [HLEN.out]; omega) (Nat.le_trans hB HB2.out.size) z z0 (by omega))
  go_wp2_with fail
  refine HP2.out.mono ?_
  rintro e w4 ⟨v4, rfl, ho4, hb4⟩
  obtain ⟨a4, c4, hv4⟩ : ∃ a4 c4, v4 = .slice a4 (L.length + 4) c4 := by
    obtain ⟨l4, q1, q2⟩ := ho4
    exact own_form q2
  subst hv4
  go_wp2
  go_ret
  refine ⟨_, rfl, ?_, HB2.out.trans (hb4.mono HB2.out.size)⟩
  have := own_lower ho4 HB2.out.size
  rw [HLEN.out] at this ⊢
  exact this
end Go.Proofs.YthjilhjdnefmdaaGreatDoor
/- A log whose last part was cut: what the law calls. Conditions: none. -/
namespace Go.Proofs.YthjilhjdnefmdaaGreatDoor
open Go.RowKit
open Go.ChangeMaps (setBlock)
theorem own_stp {M : List Nat} {B : Nat} {w w' : World} {base : Nat} {e : TypeId} {v : Value} {n : Nat} {xs : List Value} (h : w.ownsRow base e 1 v n xs) (s : Stp M B w w') (h64 : e ≠ 64) (h82 : e ≠ 82)
    (hM : ∀ b, e ≠ 5 → v.ownBlock = some b → b ∉ M) : w'.ownsRow base e 1 v n xs := by
  obtain ⟨h1, h2⟩ := h
  refine ⟨h1, h2.imp id ?_⟩
  rintro ⟨g, cap, cur, hv, hb, hg, r⟩
  exact ⟨g, cap, cur, hv, hb, s.fix g cur e (0, 0) hg h64 h82 (fun he => hM g he (by rw [hv]; rfl)), r⟩
theorem own_kind {w : World} {base : Nat} {e : TypeId} {v : Value} {n : Nat} {xs : List Value} (h : w.ownsRow base e 1 v n xs) {b : Nat} (hb : v.ownBlock = some b) : ∃ cur, w.heap[b]? = some (.cells cur e (0, 0)) := by
  rcases h.2 with ⟨rfl, _⟩ | ⟨g, cap, cur, rfl, _, hg, _⟩
  · simp [Value.ownBlock] at hb
  · simp [Value.ownBlock] at hb
    subst hb; exact ⟨cur, hg⟩
/-- A row of another kind than the ledger's blocks are is none of them. -/
theorem own_far {w : World} {B base pl p : Nat} {L : LM} {vw : Value} {vs : List Value} {e : TypeId} {v : Value} {n : Nat} {xs : List Value} (h : w.ownsRow base e 1 v n xs) (hl : LRepC B w pl p L vw vs) (h47 : e ≠ 47) (h27 : e ≠ 27) :
    ∀ b, e ≠ 5 → v.ownBlock = some b → b ∉ pl :: vw.ownBlock.toList := by
  intro b _ hb hm
  obtain ⟨cur, hc⟩ := own_kind h hb
  rcases List.mem_cons.1 hm with rfl | hm
  · rw [hl.blk] at hc; unfold ledObj at hc; simp only [Option.some.injEq, Obj.cells.injEq] at hc; exact h47 hc.2.1.symm
  · have hv : vw.ownBlock = some b := by
      cases ho : vw.ownBlock with
      | none => rw [ho] at hm; simp at hm
      | some k => rw [ho] at hm; simp at hm; rw [hm]
    obtain ⟨cur2, hc2⟩ := own_kind hl.own hv
    rw [hc2] at hc; simp only [Option.some.injEq, Obj.cells.injEq] at hc; exact h27 hc.2.1.symm
/-- The ledger of the law: one part, nothing in it, some records wait; and the law's own row of ends. -/
structure TS (B : Nat) (w : World) (p pl : Nat) (waits : List (List UInt8)) (ve : Value) (es : List Value) : Prop where
  ex : ∃ mn ms bl st L vw vs, RepC B w p mn ms bl st ∧ LRepC B w pl p L vw vs ∧ Log st 1 none [[]] ∧ Tame st ∧ L.last = 1 ∧ L.dead = false ∧ L.part = 1048576 ∧ L.waits = waits ∧ st.room = 1048576
  own : w.ownsRow B 3 1 ve es.length es
theorem TS.below {B : Nat} {w w' : World} {p pl : Nat} {waits : List (List UInt8)} {ve : Value} {es : List Value} (h : TS B w p pl waits ve es) (hb : Below w.heap.size w w') : TS B w' p pl waits ve es := by
  obtain ⟨⟨mn, ms, bl, st, L, vw, vs, h1, h2, h3⟩, ho⟩ := h
  exact ⟨⟨mn, ms, bl, st, L, vw, vs, h1.below hb, h2.below hb, h3⟩, own_below ho hb⟩
theorem TS.le {B : Nat} {w : World} {p pl : Nat} {waits : List (List UInt8)} {ve : Value} {es : List Value} (h : TS B w p pl waits ve es) : B ≤ w.heap.size := by
  obtain ⟨⟨mn, ms, bl, st, L, vw, vs, h1, h2, h3⟩, ho⟩ := h
  exact h1.le
/-- An append to the row of ends. -/
theorem TS.grown {B : Nat} {w w' : World} {p pl : Nat} {waits : List (List UInt8)} {ve v' : Value} {es es' : List Value} (h : TS B w p pl waits ve es) (hg : w.grownBy w' ve.ownBlock) (ho : w'.ownsRow B 3 1 v' es'.length es') : TS B w' p pl waits v' es' := by
  obtain ⟨⟨mn, ms, bl, st, L, vw, vs, h1, h2, h3⟩, hown⟩ := h
  have hB := h1.le
  have hk := fun k (hk : ve.ownBlock = some k) => own_kind hown hk
  have hs : Stp (ve.ownBlock.toList) B w w' := (Stp.refl (ve.ownBlock.toList) B w).grown hg hB (fun k hk' => ⟨(hown.lt k hk').1, fun cs e fr hcs => by
    obtain ⟨cur, hc⟩ := hk k hk'
    rw [hc] at hcs; cases hcs
    exact ⟨by decide, by rw [hk']; simp⟩⟩)
  have hne : ∀ (k : Nat) (cs : Array Value) (e : TypeId) (fr : Nat × Nat), w.heap[k]? = some (Obj.cells cs e fr) → e ≠ 3 → some k ≠ ve.ownBlock := fun k cs e fr hc he hkk => by
    obtain ⟨cur, hc2⟩ := hk k hkk.symm
    rw [hc2] at hc; cases hc; exact he rfl
  have hrep : RepC B w' p mn ms bl st := by
    cases hob : ve.ownBlock with
    | none =>
      rw [hob] at hg
      have : Below w.heap.size w w' := (Below.refl _ w).grown hg (Nat.le_refl _) (fun k hk => by cases hk)
      exact h1.below this
    | some g =>
      obtain ⟨cur, hcur⟩ := hk g hob
      rw [hob] at hg
      exact h1.off hcur (by decide) (by decide) (fun k x hk' hx => (hg.block k (hp_lt hx) (by simpa using hk')).trans hx) (fun v l hv => RS.stp hv hs (by decide) (by decide) (fun _ h => absurd rfl h))
  have hkeep : ∀ (k : Nat) (cs : Array Value) (e : TypeId) (fr : Nat × Nat), w.heap[k]? = some (Obj.cells cs e fr) → e ≠ 3 → w'.heap[k]? = some (Obj.cells cs e fr) := fun k cs e fr hc he => (hg.block k (hp_lt hc) (hne k cs e fr hc he)).trans hc
  refine ⟨⟨mn, ms, bl, st, L, vw, vs, hrep, ⟨hkeep _ _ _ _ h2.blk (by decide), ?_, h2.rows.stp (fun v l hv => RS.stp hv hs (by decide) (by decide) (fun _ h => absurd rfl h)), h2.lpl, h2.few, h2.big, h2.lst, h2.prt⟩, h3⟩, ho⟩
  obtain ⟨q1, q2⟩ := h2.own
  refine ⟨q1, q2.imp id ?_⟩
  rintro ⟨g, cap, cur, hv, hb, hg', r⟩
  exact ⟨g, cap, cur, hv, hb, hkeep _ _ _ _ hg' (by decide), r⟩
theorem own_one (w : World) (e : TypeId) (base : Nat) (x : Value) (h : base ≤ w.heap.size) : (w.alloc (.cells #[x] e)).ownsRow base e 1 (.slice (some ⟨w.heap.size, 0, none⟩) 1 1) 1 [x] :=
  ⟨rfl, .inr ⟨w.heap.size, 1, #[x], rfl, h, hp_new w _, Nat.le_refl _, by unfold maxLen; omega, rfl, rfl⟩⟩
def TFirst (B p : Nat) (w : World) (e : Ending) (w' : World) : Prop :=
  ∃ pl a1 n1 c1 a2 n2 c2, e = .returned (.tuple #[.pointer (some ⟨pl, 0, none⟩), .slice a1 n1 c1, .slice a2 n2 c2, .int .i64 0]) ∧ Hid (TS B (w'.alloc (.cells #[.int .i64 0] 3)) p pl [] (.slice (some ⟨w'.heap.size, 0, none⟩) 1 1) [.int .i64 0]) ∧ Hid (Stp [] B w w')
section
variable {B : Nat} {w w' : World} {p pl : Nat} {waits : List (List UInt8)} {ve : Value} {es : List Value}
theorem first_ts (hE : Env w) (h : Rep B w p (newA 1048576)) (hB : 6 ≤ B) :
    Calls Tryz.prog 9 #[.pointer (some ⟨p, 0, none⟩), .int .i64 1048576] w (TFirst B p w) := by
  obtain ⟨mn, ms, bl, h⟩ := h
  obtain ⟨st1, e1, e2, e3⟩ := open_new 1048576 (by omega) 1048576 (by omega)
  have ht : Tame (newA 1048576) := Tame.new (by omega) (by omega)
  refine (openL_t (fun h => by simp [newA] at h) hE h hB ht.names ht.bytes 1048576).mono ?_
  have ht1 := tame_closed.openL (newA 1048576) 1048576 ht
  rw [e1] at ht1
  rw [e1]
  rintro e w' ⟨vp, vc, vr, rfl, hc, hr', ⟨mn', ms', bl', hrep⟩, hs, ⟨h0, -⟩ | ⟨-, pl, rfl, hpl, hblk⟩⟩
  · exact absurd rfl h0
  · obtain ⟨a1, c1, rfl, -⟩ := hc.form
    obtain ⟨vs, hvs, -⟩ := hr'
    obtain ⟨a2, c2, rfl, -⟩ := hvs
    have hb : Below w'.heap.size w' (w'.alloc (.cells #[.int .i64 0] 3)) := (Below.refl _ w').alloc (Nat.le_refl _) _
    have hl : LRepC B w' pl p ⟨1048576, 1, [], false⟩ (.slice none 0 0) [] := ⟨hblk, World.ownsRow_nil _ _ _ _, ⟨rfl, fun i h => by simp at h⟩, by have := h.le; omega, by simp, by simp, by simp, by simp⟩
    exact ⟨pl, a1, _, c1, a2, _, c2, rfl, Lib.hid ⟨⟨mn', ms', bl', st1, _, _, _, hrep.below hb, hl.below hb, e2, ht1, rfl, rfl, rfl, rfl, e3⟩, own_one w' 3 B _ hrep.le⟩, Lib.hid hs⟩
theorem add_ts (h : TS B w p pl waits ve es) {vb : Value} {lb : List UInt8} (hb : BS B w vb lb) (hl : lb.length ≤ 1048512) (hw : waits.length < 1000) :
    Calls Tryz.prog 11 #[.pointer (some ⟨pl, 0, none⟩), vb] w fun e w' => e = .returned (.int .i64 0) ∧ Hid (TS B w' p pl (waits ++ [lb]) ve es) ∧ Hid (BS B w' vb lb) ∧ Hid (Below B w w') := by
  obtain ⟨⟨mn, ms, bl, st, L, vw, vs, h1, h2, h3, h4, h5, h6, h7, rfl, h8⟩, hown⟩ := h
  have hmay := calm_may h3.calm h6
  have e1 : addA st L lb = ({ L with waits := L.waits ++ [lb] }, 0) := by
    unfold addA
    rw [if_neg (by rw [hmay]; simp), if_neg (by omega)]
  refine (add_t h1 h2 hb).mono ?_
  rw [e1]
  rintro e w' ⟨rfl, g1, ⟨vw', vs', g2, g3⟩, g4⟩
  refine ⟨rfl, Lib.hid ⟨⟨mn, ms, bl, st, _, vw', vs', g1, g2, h3, h4, h5, h6, h7, rfl, h8⟩, own_stp hown g4 (by decide) (by decide) (own_far hown h2 (by decide) (by decide))⟩, Lib.hid (RS.stp hb g4 (by decide) (by decide) (fun _ h => absurd rfl h)), Lib.hid g4.below⟩
/-- Behind Flush the ledger is not looked at any more. -/
structure TF (B : Nat) (w : World) (p : Nat) (P : St → Prop) (ve : Value) (es : List Value) : Prop where
  ex : ∃ st, Rep B w p st ∧ Tame st ∧ P st
  own : w.ownsRow B 3 1 ve es.length es
theorem TF.below {P : St → Prop} (h : TF B w p P ve es) (hb : Below w.heap.size w w') : TF B w' p P ve es := by
  obtain ⟨⟨st, ⟨mn, ms, bl, h1⟩, h2⟩, ho⟩ := h
  exact ⟨⟨st, ⟨mn, ms, bl, h1.below hb⟩, h2⟩, own_below ho hb⟩
theorem TF.imp {P Q : St → Prop} (h : TF B w p P ve es) (hi : ∀ st, P st → Q st) : TF B w p Q ve es := by
  obtain ⟨⟨st, h1, h2, h3⟩, ho⟩ := h
  exact ⟨⟨st, h1, h2, hi st h3⟩, ho⟩
theorem flush_ts (hE : Env w) (hB : 6 ≤ B) (h : TS B w p pl waits ve es) (hs : ∀ x ∈ waits, x.length ≤ 500) (hn : waits.length ≤ 50) :
    Calls Tryz.prog 13 #[.pointer (some ⟨pl, 0, none⟩)] w fun e w' => e = .returned (.int .i64 0) ∧ Hid (TF B w' p (fun st => Log st 1 none [waits] ∧ st.room = 1048576) ve es) ∧ Hid (Below B w w') := by
  obtain ⟨⟨mn, ms, bl, st, L, vw, vs, h1, h2, h3, h4, h5, h6, h7, rfl, h8⟩, hown⟩ := h
  obtain ⟨st2, L2, e1, e2, e3⟩ := tears_flush h3 h5 h6 h7 hs hn h8
  have hleft : ¬ 0 < st.left := by have := h3.calm.left; omega
  have ht := tame_closed.flush st L h4
  refine (flush_t (fun h => absurd h hleft) hE h1 hB h2).mono ?_
  rw [e1] at ht ⊢
  rintro e w' ⟨rfl, g1, -, g4⟩
  have hfar := own_far hown h2 (by decide) (by decide)
  exact ⟨rfl, Lib.hid ⟨⟨st2, g1, ht, e2, e3⟩, own_stp hown g4 (by decide) (by decide) (fun b h5 hb hm => hfar b h5 hb (by simp at hm; simp [hm]))⟩, Lib.hid g4.below⟩
theorem cut_ts {l : List (List UInt8)} (_hB : 6 ≤ B) (h : TF B w p (fun st => Log st 1 none [l] ∧ st.room = 1048576) ve es) (n : Nat) (hn : n ≤ (sealsL l).length) :
    Calls Tryz.prog 14 #[.pointer (some ⟨p, 0, none⟩), .string ⟨#[108, 111, 103, 46, 49]⟩, .int .i64 n] w fun e w' => e = .returned (.int .i64 0) ∧
      Hid (TF B w' p (fun st => ∀ k, k ≤ l.length → endsA l k ≤ n → (k < l.length → n < endsA l (k + 1)) → ∃ t, Told st 1 none [] (l.take k) t) ve es) ∧ Hid (Below B w w') := by
  obtain ⟨⟨st, ⟨mn, ms, bl, h1⟩, h2, h3, h4⟩, ho⟩ := h
  have hleft : ¬ 0 < st.left := by have := h3.calm.left; omega
  have ht := tame_closed.cut st (nameA 1) n h2
  have hg := goodN_name 1 (by omega) (by omega)
  have hv : view st (nameA 1) = some (sealsL l) := by
    have := h3.segv 0 l rfl
    simpa using this
  have g := calm_cut h3.calm hg hv n hn
  have key := fun k a b c => (tears_cut h3 n k hn a b c).2.2
  rw [name1] at key ht g
  refine (cut_t (fun h => absurd h hleft) h1 _ (by decide) n).mono ?_
  rintro e w' ⟨he, hr, hs⟩
  refine ⟨by rw [he, g.ok]; rfl, Lib.hid ⟨⟨_, hr, ht, key⟩, own_stp ho hs (by decide) (by decide) (fun _ _ _ => List.not_mem_nil)⟩, Lib.hid hs.below⟩
def TOpen (B p : Nat) (ve : Value) (es : List Value) (s : List (List UInt8)) (w : World) (e : Ending) (w' : World) : Prop :=
  ∃ pl2 vc vr, e = .returned (.tuple #[.pointer (some ⟨pl2, 0, none⟩), vc, vr, .int .i64 0]) ∧ (∃ a n c, vc = .slice a n c) ∧ LS B w' vr s ∧ TF B w' p (fun st => Told st 1 none [] s []) ve es ∧ Stp [] B w w'
theorem open_ts {s : List (List UInt8)} (hE : Env w) (hB : 6 ≤ B) (h : TF B w p (fun st => ∃ t, Told st 1 none [] s t) ve es) :
    Calls Tryz.prog 9 #[.pointer (some ⟨p, 0, none⟩), .int .i64 1048576] w (TOpen B p ve es s w) := by
  obtain ⟨⟨st, ⟨mn, ms, bl, h1⟩, h2, t, h3⟩, ho⟩ := h
  have hleft : ¬ 0 < st.left := by have := h3.calm.left; omega
  obtain ⟨st4, e1, e2, e3⟩ := h3.opens 1048576 (by omega)
  have ht := tame_closed.openL st 1048576 h2
  refine (openL_t (fun h => absurd h hleft) hE h1 hB h2.names h2.bytes 1048576).mono ?_
  rw [e1] at ht ⊢
  rintro e w' ⟨vp, vc, vr, rfl, hc, hr', hrep, hs, ⟨h0, -⟩ | ⟨-, pl2, rfl, hpl, hblk⟩⟩
  · exact absurd rfl h0
  · obtain ⟨a1, c1, hvc, -⟩ := hc.form
    refine ⟨pl2, vc, vr, rfl, ⟨_, _, _, hvc⟩, ?_, ⟨⟨st4, hrep, ht, e2⟩, own_stp ho hs (by decide) (by decide) (fun _ _ _ => List.not_mem_nil)⟩, hs⟩
    have e : (([] ++ [s]).flatten : List (List UInt8)) = s := by simp
    rw [e] at hr'
    exact hr'
theorem read_ts {s : List (List UInt8)} (h : TF B w p (fun st => Told st 1 none [] s []) ve es) :
    Calls Tryz.prog 15 #[.pointer (some ⟨p, 0, none⟩), .string ⟨#[108, 111, 103, 46, 49]⟩] w fun e w' => ∃ a c ke, e = .returned (.tuple #[.slice a (sealsL s).length c, .int .i64 ke]) ∧ Hid (Below w.heap.size w w') := by
  obtain ⟨⟨st, ⟨mn, ms, bl, h1⟩, h2, h3⟩, ho⟩ := h
  have hg := goodN_name 1 (by omega) (by omega)
  have hr : readA st (nameA 1) = sealsL s := by
    have := h3.lastv
    have e : (1 : Int) + (([] : List (List (List UInt8))).length : Int) = 1 := by simp
    rw [e] at this
    rw [readA_view h3.calm hg, this]; simp
  rw [name1] at hr
  refine (read_t h1 _ (by decide)).mono ?_
  rintro e w' ⟨v, rfl, hv, hb⟩
  rw [hr] at hv
  obtain ⟨a, c, rfl, -⟩ := hv.form
  exact ⟨a, c, _, rfl, Lib.hid hb⟩
theorem LS.take {a : Option Addr} {n c : Nat} {l : List (List UInt8)} (h : LS B w (.slice a n c) l) (k : Nat) (hk : k ≤ l.length) : LS B w (.slice a k c) (l.take k) := by
  obtain ⟨vs, ⟨a', c', he, h1, h2, h3⟩, h4, h5⟩ := h
  cases he
  refine ⟨vs.take k, ⟨a, c, ?_, ?_, h2, ?_⟩, ?_, fun i hi1 hi2 => ?_⟩
  · rw [List.length_take, Nat.min_eq_left (by omega)]
  · rw [List.length_take]; omega
  · rcases h3 with h3 | ⟨b, o, hb, hl, hc⟩
    · left; rw [h3]; simp
    · exact .inr ⟨b, o, hb, hl, fun i x hx => hc i x (by
        rw [List.getElem?_take] at hx
        split at hx
        · exact hx
        · cases hx)⟩
  · rw [List.length_take, List.length_take]; omega
  · rw [List.getElem_take, List.getElem_take]
    rw [List.length_take] at hi1 hi2
    exact h5 i (by omega) (by omega)
end
end Go.Proofs.YthjilhjdnefmdaaGreatDoor
/- The acts of a law, and whether they are light. Conditions: none. -/
namespace Go.Proofs.YthjilhjdnefmdaaGreatDoor
open Go.RowKit
open Go.ChangeMaps (setBlock)
structure ActM where
  kind : Int
  data : List UInt8
/-- A slice of acts below B. -/
def AS (B : Nat) (w : World) (v : Value) (acts : List ActM) : Prop :=
  ∃ a c, v = .slice a acts.length c ∧ acts.length ≤ c ∧ c ≤ maxLen ∧
    (acts = [] ∨ ∃ b o, a = some ⟨b, o, none⟩ ∧ b < B ∧ ∀ i (h : i < acts.length), ∃ ad cd nm n m, -9223372036854775808 ≤ acts[i].kind ∧ acts[i].kind ≤ 9223372036854775807 ∧
      w.cell? ⟨b, o + i * 5, none⟩ = some (.int .i64 acts[i].kind) ∧ w.cell? ⟨b, o + i * 5 + 1, none⟩ = some (.slice ad acts[i].data.length cd) ∧ BS B w (.slice ad acts[i].data.length cd) acts[i].data ∧
      w.cell? ⟨b, o + i * 5 + 2, none⟩ = some (.string nm) ∧ w.cell? ⟨b, o + i * 5 + 3, none⟩ = some (.int .i64 n) ∧ w.cell? ⟨b, o + i * 5 + 4, none⟩ = some (.int .i64 m))
theorem AS.keep {B : Nat} {w w' : World} {v : Value} {acts : List ActM} (h : AS B w v acts) (hb : Below B w w') (hs : ∀ v l, BS B w v l → BS B w' v l) : AS B w' v acts := by
  obtain ⟨a, c, rfl, h1, h2, h3⟩ := h
  refine ⟨a, c, rfl, h1, h2, h3.imp id ?_⟩
  rintro ⟨b, o, rfl, hlt, hx⟩
  refine ⟨b, o, rfl, hlt, fun i hi => ?_⟩
  obtain ⟨ad, cd, nm, n, m, g0, g1, g2, g3, g4, g5, g6, g7⟩ := hx i hi
  have hc : ∀ k, w'.cell? ⟨b, k, none⟩ = w.cell? ⟨b, k, none⟩ := fun k => hb.cell (p := ⟨b, k, none⟩) hlt
  exact ⟨ad, cd, nm, n, m, g0, g1, by rw [hc]; exact g2, by rw [hc]; exact g3, hs _ _ g4, by rw [hc]; exact g5, by rw [hc]; exact g6, by rw [hc]; exact g7⟩
def wt (acts : List ActM) : Nat := (acts.map fun a => 1 + a.data.length / 50).sum
set_option maxRecDepth 100000 in
set_option maxHeartbeats 2000000 in
theorem light_t {w : World} {v : Value} {acts : List ActM} (h : AS w.heap.size w v acts) : Calls Tryz.prog 23 #[v] w (BoolPost (decide (wt acts ≤ 200)) w) := by
  have HA := Lib.hid h
  obtain ⟨a, c, rfl, h1, h2, h3⟩ := h
  unfold maxLen at h2
  have H3 := Lib.hid h3
  clear h3
  go_enter Tryz.func23, Tryz.ntmps23
  go_wp2_with fail
  go_loopw [3, 8] (fun n i wr => ∃ k : Nat, k ≤ acts.length ∧ i = .int .i64 k ∧ n = .int .i64 (wt (acts.take k) : Nat) ∧ wt (acts.take k) ≤ 200 ∧ Hid (Below w.heap.size w wr)) (fun _ i _ => acts.length - (intOf i).toNat)
  case atStart => exact ⟨0, Nat.zero_le _, rfl, by simp [wt], by simp [wt], Lib.hid (Below.refl _ _)⟩
  case round =>
    obtain ⟨k, hk, rfl, rfl, hw, hb⟩ := hrel
    by_cases hlt : k < acts.length
    · rcases H3.out with h0 | ⟨b, o, rfl, hlb, hx⟩
      · rw [h0] at hlt; simp at hlt
      · obtain ⟨ad, cd, nm, n, m, g0, g1, g2, g3, g4, g5, g6, g7⟩ := hx k hlt
        have hc : ∀ j, wr.cell? ⟨b, j, none⟩ = w.cell? ⟨b, j, none⟩ := fun j => hb.out.cell (p := ⟨b, j, none⟩) hlb
        have e2 := (hc _).trans g2
        have e3 := (hc _).trans g3
        have e5 := (hc _).trans g5
        have e6 := (hc _).trans g6
        have e7 := (hc _).trans g7
        have hsucc : wt (acts.take (k + 1)) = wt (acts.take k) + (1 + acts[k].data.length / 50) := by
          unfold wt
          rw [List.take_succ_eq_append_getElem hlt, List.map_append, List.sum_append]; simp
        have hmono : wt (acts.take (k + 1)) ≤ wt acts := by
          unfold wt
          conv => rhs; rw [← List.take_append_drop (k + 1) acts]
          rw [List.map_append, List.sum_append]; omega
        obtain ⟨_, _, he, k1, k2, -⟩ := g4
        rw [List.length_map] at k1
        unfold maxLen at k2
        have hD : acts[k].data.length ≤ 9223372036854775807 := by omega
        have HS := Lib.hid hsucc; have HM := Lib.hid hmono
        generalize acts[k].kind = kd at *
        generalize acts[k].data.length = D at *
        obtain ⟨W, hW⟩ : ∃ W, wt (acts.take k) = W := ⟨_, rfl⟩
        rw [hW] at HS hw ⊢
        clear hc g2 g3 g5 g6 g7 hx hW he k1 k2 hsucc hmono g0 g1
        by_cases hgo : W + (1 + D / 50) ≤ 200
        · have hgo' : (W : Int) + (1 + (D : Int) / 50) ≤ 200 := by omega
          have HGO := Lib.hid hgo
          clear hgo
          go_wp2_with fail
          go_roundw
          case rel =>
            refine ⟨k + 1, hlt, by go_num, ?_, by rw [HS.out]; exact HGO.out, Lib.hid (hb.out.alloc hb.out.size _)⟩
            rw [HS.out]
            congr 1
          case measure => simp [intOf]; omega
        · have hgo' : 200 < (W : Int) + (1 + (D : Int) / 50) := by omega
          have hd : Hid (decide (wt acts ≤ 200) = false) := Lib.hid (decide_eq_false (by have := HM.out; have := HS.out; omega))
          clear hgo
          go_wp2_with fail
          go_ret
          unfold BoolPost
          rw [hd.out]
          exact ⟨rfl, hb.out.alloc hb.out.size _⟩
    · have hke : k = acts.length := by omega
      subst hke
      rw [List.take_length] at hw
      have hd : Hid (decide (wt acts ≤ 200) = true) := Lib.hid (decide_eq_true hw)
      go_wp2
      go_ret
      unfold BoolPost
      rw [hd.out]
      exact ⟨rfl, hb.out⟩
end Go.Proofs.YthjilhjdnefmdaaGreatDoor
/- A law that keeps what a log must tell: the ledger beside the law's own rows. Conditions: none. -/
namespace Go.Proofs.YthjilhjdnefmdaaGreatDoor
open Go.RowKit
open Go.ChangeMaps (setBlock)
section
variable {B : Nat} {w w' : World} {p pl : Nat} {vw : Value} {part : Int} {chk : List UInt8} {sure waits : List (List UInt8)} {R C N : Int} {one : Prop}
/-- An append to a row of slices that is not the ledger's. -/
theorem grown_stp {v : Value} {e : TypeId} {n : Nat} {xs : List Value} (hB : B ≤ w.heap.size) (he5 : e ≠ 5) (hown : w.ownsRow B e 1 v n xs) (hg : w.grownBy w' v.ownBlock) : Stp v.ownBlock.toList B w w' :=
  (Stp.refl v.ownBlock.toList B w).grown hg hB (fun k hk => ⟨(hown.lt k hk).1, fun cs e' fr hcs => by
    obtain ⟨cur, hc⟩ := own_kind hown hk
    rw [hc] at hcs; cases hcs
    exact ⟨he5, by rw [hk]; simp⟩⟩)
theorem Ses.grown (h : Ses B w p pl vw part chk sure waits R C N one) {v : Value} {n : Nat} {xs : List Value} (hown : w.ownsRow B 27 1 v n xs) (hne : ∀ k, vw.ownBlock = some k → v.ownBlock ≠ some k) (hg : w.grownBy w' v.ownBlock) :
    Ses B w' p pl vw part chk sure waits R C N one := by
  obtain ⟨mn, ms, bl, st, L, vs, h1, h2, h3⟩ := h
  have hB := h1.le
  have hs := grown_stp hB (by decide) hown hg
  have hrep : RepC B w' p mn ms bl st := by
    cases hob : v.ownBlock with
    | none =>
      rw [hob] at hg
      have : Below w.heap.size w w' := (Below.refl _ w).grown hg (Nat.le_refl _) (fun k hk => by cases hk)
      exact h1.below this
    | some g =>
      obtain ⟨cur, hcur⟩ := own_kind hown hob
      rw [hob] at hg
      exact h1.off hcur (by decide) (by decide) (fun k x hk' hx => (hg.block k (hp_lt hx) (by simpa using hk')).trans hx) (fun v l hv => RS.stp hv hs (by decide) (by decide) (fun _ h => absurd rfl h))
  have hkeep : ∀ (k : Nat) (cs : Array Value) (e : TypeId) (fr : Nat × Nat), w.heap[k]? = some (Obj.cells cs e fr) → v.ownBlock ≠ some k → w'.heap[k]? = some (Obj.cells cs e fr) := fun k cs e fr hc hn => (hg.block k (hp_lt hc) (fun he => hn he.symm)).trans hc
  refine ⟨mn, ms, bl, st, L, vs, hrep, ⟨hkeep _ _ _ _ h2.blk (fun hb => ?_), ?_, h2.rows.stp (fun v l hv => RS.stp hv hs (by decide) (by decide) (fun _ h => absurd rfl h)), h2.lpl, h2.few, h2.big, h2.lst, h2.prt⟩, h3⟩
  · obtain ⟨cur, hc⟩ := own_kind hown hb
    have := h2.blk
    rw [hc] at this; unfold ledObj at this; simp at this
  · obtain ⟨q1, q2⟩ := h2.own
    refine ⟨q1, q2.imp id ?_⟩
    rintro ⟨g, cap, cur, hv, hb, hg', r⟩
    exact ⟨g, cap, cur, hv, hb, hkeep _ _ _ _ hg' (hne g (by rw [hv]; rfl)), r⟩
end
/-- A row of slices of bytes of the call's own. -/
def OwnLS (B : Nat) (w : World) (v : Value) (L : List (List UInt8)) : Prop := ∃ xs, w.ownsRow B 27 1 v L.length xs ∧ Rows B w xs L
theorem OwnLS.nil (B : Nat) (w : World) : OwnLS B w (.slice none 0 0) [] := ⟨[], World.ownsRow_nil _ _ _ _, rfl, fun i h => by simp at h⟩
theorem OwnLS.ls {B : Nat} {w : World} {v : Value} {L : List (List UInt8)} (h : OwnLS B w v L) : LS B w v L := by
  obtain ⟨xs, h1, h2⟩ := h
  exact ⟨xs, RS.of_owns h1, h2⟩
theorem OwnLS.lt {B : Nat} {w : World} {v : Value} {L : List (List UInt8)} (h : OwnLS B w v L) : ∀ k, v.ownBlock = some k → k < w.heap.size := by
  obtain ⟨xs, h1, h2⟩ := h
  exact fun k hk => (h1.lt k hk).2
theorem OwnLS.stp {M : List Nat} {B : Nat} {w w' : World} {v : Value} {L : List (List UInt8)} (h : OwnLS B w v L) (s : Stp M B w w') (hM : ∀ b, v.ownBlock = some b → b ∉ M) : OwnLS B w' v L := by
  obtain ⟨xs, h1, h2⟩ := h
  exact ⟨xs, own_stp h1 s (by decide) (by decide) (fun b _ hb => hM b hb), h2.stp (fun v l hv => RS.stp hv s (by decide) (by decide) (fun _ h => absurd rfl h))⟩
theorem OwnLS.below {B : Nat} {w w' : World} {v : Value} {L : List (List UInt8)} (h : OwnLS B w v L) (hb : Below w.heap.size w w') (hB : B ≤ w.heap.size) : OwnLS B w' v L := by
  obtain ⟨xs, h1, h2⟩ := h
  exact ⟨xs, own_below h1 hb, h2.stp (fun v l hv => RS.below hv hb hB)⟩
theorem OwnLS.form {B : Nat} {w : World} {v : Value} {L : List (List UInt8)} (h : OwnLS B w v L) : ∃ a c, v = .slice a L.length c := by
  obtain ⟨xs, h1, h2⟩ := h
  exact own_form h1
/-- The ledger (what it would tell, what waits) and the law's variables (what it thinks that it tells, what waits). -/
structure LawS (B : Nat) (w : World) (p pl : Nat) (part : Int) (lc : List UInt8) (ls lw : List (List UInt8)) (R C N : Int) (one : Prop) (vc vs vt : Value) (sc : List UInt8) (ss st : List (List UInt8)) : Prop where
  ses : ∃ vw, Ses B w p pl vw part lc ls lw R C N one ∧ (∀ k, vw.ownBlock = some k → vs.ownBlock ≠ some k) ∧ (∀ k, vw.ownBlock = some k → vt.ownBlock ≠ some k)
  bc : BS B w vc sc
  so : OwnLS B w vs ss
  wo : OwnLS B w vt st
  dis : ∀ k, vs.ownBlock = some k → vt.ownBlock ≠ some k
section
variable {B : Nat} {w w' : World} {p pl : Nat} {part : Int} {lc : List UInt8} {ls lw : List (List UInt8)} {R C N : Int} {one : Prop} {vc vs vt : Value} {sc : List UInt8} {ss st : List (List UInt8)}
theorem LawS.le (h : LawS B w p pl part lc ls lw R C N one vc vs vt sc ss st) : B ≤ w.heap.size := by
  obtain ⟨vw, h1, -⟩ := h.ses
  exact h1.le
theorem LawS.below (h : LawS B w p pl part lc ls lw R C N one vc vs vt sc ss st) (hb : Below w.heap.size w w') : LawS B w' p pl part lc ls lw R C N one vc vs vt sc ss st := by
  obtain ⟨⟨vw, h1, h2, h3⟩, hc, hs, hw, hd⟩ := h
  exact ⟨⟨vw, h1.below hb, h2, h3⟩, RS.below hc hb h1.le, hs.below hb h1.le, hw.below hb h1.le, hd⟩
theorem LawS.weaken (h : LawS B w p pl part lc ls lw R C N one vc vs vt sc ss st) {C' N' : Int} (hC : C ≤ C') (hN : N ≤ N') {one' : Prop} (ho : one' → one) : LawS B w p pl part lc ls lw R C' N' one' vc vs vt sc ss st := by
  obtain ⟨⟨vw, h1, h2, h3⟩, hc, hs, hw, hd⟩ := h
  exact ⟨⟨vw, h1.weaken hC hN ho, h2, h3⟩, hc, hs, hw, hd⟩
theorem ses_notpl {vw : Value} (h : Ses B w p pl vw part lc ls lw R C N one) {v : Value} {L : List (List UInt8)} (ho : OwnLS B w v L) : v.ownBlock ≠ some pl := by
  obtain ⟨mn, ms, bl, st, L', vs', h1, h2, h3⟩ := h
  obtain ⟨xs, h4, h5⟩ := ho
  intro hb
  obtain ⟨cur, hc⟩ := own_kind h4 hb
  have := h2.blk
  rw [hc] at this; unfold ledObj at this; simp at this
/-- The blocks of acts stand. -/
def Keep54 (w w' : World) : Prop := ∀ (k : Nat) (cs : Array Value) (fr : Nat × Nat), w.heap[k]? = some (Obj.cells cs 54 fr) → w'.heap[k]? = some (Obj.cells cs 54 fr)
theorem Keep54.of_below (h : Below w.heap.size w w') : Keep54 w w' := fun k _ _ hk => (h.block k (hp_lt hk)).trans hk
theorem Keep54.of_stp {M : List Nat} (h : Stp M B w w') (hM : ∀ k ∈ M, ∃ cs e fr, w.heap[k]? = some (Obj.cells cs e fr) ∧ e ≠ 54) : Keep54 w w' := fun k cs fr hk =>
  h.fix k cs 54 fr hk (by decide) (by decide) (fun _ hm => by
    obtain ⟨cs', e', fr', h1, h2⟩ := hM k hm
    rw [hk] at h1; cases h1; exact h2 rfl)
theorem ses_kinds {vw : Value} (h : Ses B w p pl vw part lc ls lw R C N one) : ∀ k ∈ pl :: vw.ownBlock.toList, ∃ cs e fr, w.heap[k]? = some (Obj.cells cs e fr) ∧ e ≠ 54 := by
  obtain ⟨mn, ms, bl, st, L', vs', h1, h2, h3⟩ := h
  intro k hm
  rcases List.mem_cons.1 hm with rfl | hm
  · exact ⟨_, _, _, h2.blk, by decide⟩
  · cases ho : vw.ownBlock with
    | none => rw [ho] at hm; simp at hm
    | some g =>
      rw [ho] at hm; simp at hm; subst hm
      obtain ⟨cur, hc⟩ := own_kind h2.own ho
      exact ⟨_, _, _, hc, by decide⟩
def LawPost (B : Nat) (w : World) (P : World → Prop) (e : Ending) (w' : World) : Prop := e = .returned (.int .i64 0) ∧ Hid (P w') ∧ Hid (Below B w w') ∧ Hid (Keep54 w w')
theorem law_add (h : LawS B w p pl part lc ls lw R C N one vc vs vt sc ss st) {vb : Value} {lb : List UInt8} (hb : BS B w vb lb) (hl : lb.length ≤ 1048512) (hw : lw.length < 1000) :
    Calls Tryz.prog 11 #[.pointer (some ⟨pl, 0, none⟩), vb] w (LawPost B w fun w' => LawS B w' p pl part lc ls (lw ++ [lb]) R C N one vc vs vt sc ss st ∧ BS B w' vb lb) := by
  obtain ⟨⟨vw, h1, h2, h3⟩, hc, hs, ht, hd⟩ := h
  have n1 := ses_notpl h1 hs
  have n2 := ses_notpl h1 ht
  have hk54 := ses_kinds h1
  refine (add_ses h1 hb hl hw).mono ?_
  rintro e w' ⟨rfl, vw', g1, g2, g3⟩
  have hM : ∀ (v : Value), v.ownBlock ≠ some pl → (∀ k, vw.ownBlock = some k → v.ownBlock ≠ some k) → ∀ b, v.ownBlock = some b → b ∉ pl :: vw.ownBlock.toList := by
    intro v q1 q2 b hb' hm
    rcases List.mem_cons.1 hm with rfl | hm
    · exact q1 hb'
    · cases ho : vw.ownBlock with
      | none => rw [ho] at hm; simp at hm
      | some k => rw [ho] at hm; simp at hm; subst hm; exact q2 b ho hb'
  refine ⟨rfl, Lib.hid ⟨⟨⟨vw', g1, fun k hk hk2 => ?_, fun k hk hk2 => ?_⟩, RS.stp hc g3 (by decide) (by decide) (fun _ h => absurd rfl h), hs.stp g3 (hM vs n1 h2), ht.stp g3 (hM vt n2 h3), hd⟩, RS.stp hb g3 (by decide) (by decide) (fun _ h => absurd rfl h)⟩, Lib.hid g3.below, Lib.hid (Keep54.of_stp g3 hk54)⟩
  · rcases g2 k hk with q | q
    · exact h2 k q hk2
    · have := hs.lt k hk2; omega
  · rcases g2 k hk with q | q
    · exact h3 k q hk2
    · have := ht.lt k hk2; omega
theorem law_step {vw vw' : Value} (h : LawS B w p pl part lc ls lw R C N one vc vs vt sc ss st) (h1 : Ses B w p pl vw part lc ls lw R C N one) (h2 : ∀ k, vw.ownBlock = some k → vs.ownBlock ≠ some k) (h3 : ∀ k, vw.ownBlock = some k → vt.ownBlock ≠ some k)
    {lc' : List UInt8} {ls' lw' : List (List UInt8)} {R' C' N' : Int} {one' : Prop} (g1 : Ses B w' p pl vw' part lc' ls' lw' R' C' N' one') (g2 : ∀ k, vw'.ownBlock = some k → vw.ownBlock = some k) (g3 : Stp [pl] B w w') :
    LawS B w' p pl part lc' ls' lw' R' C' N' one' vc vs vt sc ss st := by
  have n1 := ses_notpl h1 h.so
  have n2 := ses_notpl h1 h.wo
  refine ⟨⟨vw', g1, fun k hk => h2 k (g2 k hk), fun k hk => h3 k (g2 k hk)⟩, RS.stp h.bc g3 (by decide) (by decide) (fun _ h => absurd rfl h), h.so.stp g3 (fun b hb hm => ?_), h.wo.stp g3 (fun b hb hm => ?_), h.dis⟩
  · simp at hm; subst hm; exact n1 hb
  · simp at hm; subst hm; exact n2 hb
theorem law_flush (hE : Env w) (h : LawS B w p pl part lc ls lw R C N one vc vs vt sc ss st) (hB : 6 ≤ B) (hC : C + (sealsL lw).length + 16 ≤ R) (hN : N + 1 ≤ 999999999) :
    Calls Tryz.prog 13 #[.pointer (some ⟨pl, 0, none⟩)] w (LawPost B w fun w' => LawS B w' p pl part lc (ls ++ lw) [] R (C + (sealsL lw).length + 16) (N + 1) False vc vs vt sc ss st) := by
  have h0 := h
  obtain ⟨⟨vw, h1, h2, h3⟩, -⟩ := h0
  refine (flush_ses hE h1 hB hC hN).mono ?_
  rintro e w' ⟨rfl, vw', g1, g2, g3⟩
  exact ⟨rfl, Lib.hid (law_step h h1 h2 h3 g1 g2 g3), Lib.hid g3.below, Lib.hid (Keep54.of_stp g3 (fun k hk => ses_kinds h1 k (by simp at hk; simp [hk])))⟩
theorem law_mark (hE : Env w) (h : LawS B w p pl part lc ls lw R C N one vc vs vt sc ss st) (hB : 6 ≤ B) {vb : Value} {c : List UInt8} (hv : BS B w vb c) (hc : c.length ≤ 1048512) (hC : C + (sealsL lw).length + 16 + (c.length + 16) + 32 ≤ R) (hN : N + 2 ≤ 999999999) :
    Calls Tryz.prog 19 #[.pointer (some ⟨pl, 0, none⟩), vb] w (LawPost B w fun w' => LawS B w' p pl part c [] [] R (c.length + 48) (N + 2) True vc vs vt sc ss st ∧ BS B w' vb c) := by
  have h0 := h
  obtain ⟨⟨vw, h1, h2, h3⟩, -⟩ := h0
  refine (mark_ses hE h1 hB hv hc hC hN).mono ?_
  rintro e w' ⟨rfl, vw', g1, g2, g3⟩
  exact ⟨rfl, Lib.hid ⟨law_step h h1 h2 h3 g1 g2 g3, RS.stp hv g3 (by decide) (by decide) (fun _ h => absurd rfl h)⟩, Lib.hid g3.below, Lib.hid (Keep54.of_stp g3 (fun k hk => ses_kinds h1 k (by simp at hk; simp [hk])))⟩
theorem law_pending (h : LawS B w p pl part lc ls lw R C N one vc vs vt sc ss st) : Calls Tryz.prog 22 #[.pointer (some ⟨pl, 0, none⟩)] w fun e w' => e = .returned (.int .i64 (lw.length : Int)) ∧ w = w' := by
  obtain ⟨vw, h1, -⟩ := h.ses
  exact pending_ses h1
theorem law_parts (hE : Env w) (h : LawS B w p pl part lc ls lw R C N True vc vs vt sc ss st) (hB : 6 ≤ B) {vb : Value} {lb : List UInt8} (hb : BS B w vb lb) : Calls Tryz.prog 20 #[.pointer (some ⟨pl, 0, none⟩)] w fun e w' => (∃ a c, e = .returned (.slice a 1 c)) ∧
    Hid (LawS B w' p pl part lc ls lw R C N False vc vs vt sc ss st) ∧ Hid (BS B w' vb lb) ∧ Hid (Below B w w') ∧ Hid (Keep54 w w') := by
  obtain ⟨vw, h1, -⟩ := h.ses
  refine (parts_ses hE h1 hB).mono ?_
  rintro e w' ⟨h2, h3⟩
  exact ⟨h2, Lib.hid ((h.below h3).weaken (Int.le_refl _) (Int.le_refl _) (fun h => h.elim)), Lib.hid (RS.below hb h3 h1.le), Lib.hid (h3.mono h1.le), Lib.hid (Keep54.of_below h3)⟩
def LawOpen (B p pl : Nat) (part : Int) (lc : List UInt8) (ls lw : List (List UInt8)) (R C N : Int) (one : Prop) (vc vs vt : Value) (sc : List UInt8) (ss st : List (List UInt8)) (w : World) (e : Ending) (w' : World) : Prop :=
  ∃ pl2 v1 v2, e = .returned (.tuple #[.pointer (some ⟨pl2, 0, none⟩), v1, v2, .int .i64 0]) ∧ BS B w' v1 lc ∧ LS B w' v2 ls ∧ Hid (LawS B w' p pl part lc ls lw R C N one vc vs vt sc ss st) ∧ Hid (Below B w w')
theorem law_open (hE : Env w) (h : LawS B w p pl part lc ls lw R C N one vc vs vt sc ss st) (hB : 6 ≤ B) {part2 : Int} (hp : 1 ≤ part2 ∧ part2 ≤ 1048576) :
    Calls Tryz.prog 9 #[.pointer (some ⟨p, 0, none⟩), .int .i64 part2] w (LawOpen B p pl part lc ls lw R C N one vc vs vt sc ss st w) := by
  have h0 := h
  obtain ⟨⟨vw, h1, h2, h3⟩, -⟩ := h0
  refine (open_ses hE h1 hB hp).mono ?_
  rintro e w' ⟨pl2, v1, v2, rfl, g1, g2, g3, g4⟩
  exact ⟨pl2, v1, v2, rfl, g1, g2, Lib.hid (law_step h h1 h2 h3 g3 (fun k hk => hk) (g4.wide (by simp))), Lib.hid g4.below⟩
/-- The law's waiting row grows. -/
theorem LawS.push (h : LawS B w p pl part lc ls lw R C N one vc vs vt sc ss st) {xs : List Value} (hx : w.ownsRow B 27 1 vt st.length xs) (hr : Rows B w xs st) {vd : Value} {d : List UInt8} (hd : BS B w vd d) {v' : Value}
    (ho : w'.ownsRow B 27 1 v' (st.length + 1) (xs ++ [vd])) (hg : w.grownBy w' vt.ownBlock) (hk : ∀ k, v'.ownBlock = some k → vt.ownBlock = some k ∨ w.heap.size ≤ k) : LawS B w' p pl part lc ls lw R C N one vc vs v' sc ss (st ++ [d]) ∧ Below B w w' := by
  obtain ⟨⟨vw, h1, h2, h3⟩, hc, hs, ht, hdis⟩ := h
  have hstp := grown_stp h1.le (by decide) hx hg
  have hbs : ∀ v l, BS B w v l → BS B w' v l := fun v l hv => RS.stp hv hstp (by decide) (by decide) (fun _ h => absurd rfl h)
  refine ⟨⟨⟨vw, h1.grown hx h3 hg, h2, fun k q1 q2 => ?_⟩, hbs _ _ hc, hs.stp hstp (fun b hb hm => ?_), ?_, fun k q1 q2 => ?_⟩, hstp.below⟩
  · rcases hk k q2 with q | q
    · exact h3 k q1 q
    · obtain ⟨mn, ms, bl, st', L, vs', k1, k2, k3⟩ := h1
      have := (k2.own.lt k q1).2
      omega
  · cases hv : vt.ownBlock with
    | none => rw [hv] at hm; simp at hm
    | some g => rw [hv] at hm; simp at hm; subst hm; exact hdis b hb hv
  · exact ⟨xs ++ [vd], by rw [List.length_append]; exact ho, (hr.stp hbs).snoc (hbs _ _ hd)⟩
  · rcases hk k q2 with q | q
    · exact hdis k q1 q
    · have := hs.lt k q1; omega
/-- What waited is behind what was sure. -/
theorem LawS.move (h : LawS B w p pl part lc ls lw R C N one vc vs vt sc ss st) {xs ys : List Value} (hx : w.ownsRow B 27 1 vs ss.length xs) (hr : Rows B w xs ss) (hry : Rows B w ys st) {v' : Value}
    (ho : w'.ownsRow B 27 1 v' (ss.length + ys.length) (xs ++ ys)) (hg : w.grownBy w' vs.ownBlock) (hk : ∀ k, v'.ownBlock = some k → vs.ownBlock = some k ∨ w.heap.size ≤ k) : LawS B w' p pl part lc ls lw R C N one vc v' (.slice none 0 0) sc (ss ++ st) [] ∧ Below B w w' := by
  obtain ⟨⟨vw, h1, h2, h3⟩, hc, hs, ht, hdis⟩ := h
  have hstp := grown_stp h1.le (by decide) hx hg
  have hbs : ∀ v l, BS B w v l → BS B w' v l := fun v l hv => RS.stp hv hstp (by decide) (by decide) (fun _ h => absurd rfl h)
  refine ⟨⟨⟨vw, h1.grown hx h2 hg, fun k q1 q2 => ?_, fun k _ q2 => by simp [Value.ownBlock] at q2⟩, hbs _ _ hc, ?_, OwnLS.nil _ _, fun k _ q2 => by simp [Value.ownBlock] at q2⟩, hstp.below⟩
  · rcases hk k q2 with q | q
    · exact h2 k q1 q
    · obtain ⟨mn, ms, bl, st', L, vs', k1, k2, k3⟩ := h1
      have := (k2.own.lt k q1).2
      omega
  · refine ⟨xs ++ ys, ?_, (hr.stp hbs).append (hry.stp hbs)⟩
    rw [List.length_append, ← hry.1]
    exact ho
theorem LawS.reset (h : LawS B w p pl part lc ls lw R C N one vc vs vt sc ss st) {vc' : Value} {sc' : List UInt8} (hc : BS B w vc' sc') : LawS B w p pl part lc ls lw R C N one vc' (.slice none 0 0) (.slice none 0 0) sc' [] [] := by
  obtain ⟨⟨vw, h1, h2, h3⟩, -, hs, ht, hdis⟩ := h
  exact ⟨⟨vw, h1, fun k _ q2 => by simp [Value.ownBlock] at q2, fun k _ q2 => by simp [Value.ownBlock] at q2⟩, hc, OwnLS.nil _ _, OwnLS.nil _ _, fun k _ q2 => by simp [Value.ownBlock] at q2⟩
end
end Go.Proofs.YthjilhjdnefmdaaGreatDoor
/- From what a row reads to what the walks ask: slices of acts. Conditions: none. -/
namespace Go.Proofs.YthjilhjdnefmdaaGreatDoor
open Go.ChangeShapes Go.WideShapes Go.ChangeAt Go.WideMaps Go.WideElems Go.RowKit Go.Deep
set_option maxRecDepth 100000
section
variable {H : Type} {enc : TypeId × Value → H} {P : Program} {w : World} {base : Nat} {spare : Nat → Bool} {held : Bool}
theorem open_slice_fields {t e : TypeId} {fs : Array Field} {fuel : Nat} {cs : List Value} {x : DataW H × List MemPlace} (ht : P.underlying t = some (.slice e)) (he : P.underlying e = some (.struct fs))
    (hone : oneCellFields P fs = true) (hC : P.cellsOf e = fs.size) (h : DataW.trod enc P w base spare held fuel t cs = some x) :
    (cs = [.slice none 0 0] ∧ x = (.nil, [])) ∨
    ∃ (a : Addr) (len cap m : Nat) (D : Nat → DataW H) (Pl : Nat → List MemPlace), cs = [.slice (some a) len cap] ∧ base ≤ a.block ∧ len ≤ cap ∧ cap ≤ maxLen ∧ m = (if spare a.block then cap else len) ∧
      x = (.slice ((List.range len).map D) ((List.range (m - len)).map fun j => D (len + j)), MemPlace.row a (m * fs.size) ++ (List.range m).flatMap Pl) ∧
      ∀ i, i < m → ∃ (ys : List (DataW H × List MemPlace)) (n : Nat), D i = .agg (ys.map (·.1)) ∧ Pl i = ys.flatMap (·.2) ∧ ys.length = fs.size ∧
        ∀ (j : Nat) (f : Field), fs[j]? = some f → ∃ (v : Value) (y : DataW H × List MemPlace), w.cell? (a.add (i * fs.size + j)) = some v ∧ ys[j]? = some y ∧ DataW.trod enc P w base spare held n f.type [v] = some y := by
  rcases open_slice ht h with h0 | ⟨a, len, cap, m, n, D, Pl, hcs, hb, hl, hm, hmm, hx, hi⟩
  · exact .inl h0
  · refine .inr ⟨a, len, cap, m, D, Pl, hcs, hb, hl, hm, hmm, by rw [hC] at hx; exact hx, fun i him => ?_⟩
    obtain ⟨cs', hc, ht'⟩ := hi i him
    rw [hC] at hc
    obtain ⟨ys, n', hn', hy, hlen, hyl, hf⟩ := DataW.trod_struct he ht'
    obtain ⟨_, hcl, hat⟩ := World.cells?_some hc
    simp only [Prod.mk.injEq] at hy
    refine ⟨ys, n', hy.1, hy.2, hyl, fun j f hj => ?_⟩
    obtain ⟨ho, hk⟩ := hone_of hone j f hj
    have hjl : j < fs.size := (Array.getElem?_eq_some_iff.1 hj).1
    have hcell := hat j hjl
    have hv : cs'[j]? = some (cs'[j]'(by omega)) := List.getElem?_eq_getElem (by omega)
    have h1 := hf j f hj
    rw [ho, hk] at h1
    have hone' : (cs'.drop j).take 1 = [cs'[j]'(by omega)] := by
      rw [List.drop_eq_getElem_cons (by omega)]
      rfl
    rw [hone'] at h1
    have hys : ys[j]? = some (ys[j]'(by omega)) := List.getElem?_eq_getElem (by omega)
    refine ⟨_, _, ?_, hys, h1.trans hys⟩
    rw [← Go.Deep.add_add, hcell, hv]
end
instance : Inhabited ActM := ⟨⟨0, []⟩⟩
section
variable {H : Type} {enc : TypeId × Value → H}
theorem as_of_trod {W : World} {base : Nat} {v : Value} {d : DataW H} {p : List MemPlace} (hval : Value.okWide Tryz.prog W .any base 51 v) (h : DataW.Trod enc Tryz.prog W 0 (fun _ => true) true 51 v d p) :
    ∃ acts, AS W.heap.size W v acts := by
  obtain ⟨a1, len, cap, rfl⟩ := okWide_slice Tryz.underlying51 hval
  obtain ⟨fuel, hf⟩ := h
  rcases open_slice_fields Tryz.underlying51 Tryz.underlying54 (by kernel_rfl) (by kernel_rfl) hf with ⟨hcs, -⟩ | ⟨a, len', cap', m, D, Pl, hcs, _, hl, hm, hmm, -, hel⟩
  · simp [Value.cells] at hcs
    obtain ⟨rfl, rfl, rfl⟩ := hcs
    exact ⟨[], none, 0, rfl, Nat.le_refl _, by unfold maxLen; omega, .inl rfl⟩
  · simp [Value.cells] at hcs
    obtain ⟨rfl, rfl, rfl⟩ := hcs
    simp only [if_true] at hmm
    subst hmm
    obtain ⟨A, hA⟩ := choose_lt (α := ActM) (p := fun i (x : ActM) => ∃ ad cd nm n m', -9223372036854775808 ≤ x.kind ∧ x.kind ≤ 9223372036854775807 ∧
        W.cell? (a.add (i * 5 + 0)) = some (.int .i64 x.kind) ∧ W.cell? (a.add (i * 5 + 1)) = some (.slice ad x.data.length cd) ∧ BS W.heap.size W (.slice ad x.data.length cd) x.data ∧
        W.cell? (a.add (i * 5 + 2)) = some (.string nm) ∧ W.cell? (a.add (i * 5 + 3)) = some (.int .i64 n) ∧ W.cell? (a.add (i * 5 + 4)) = some (.int .i64 m')) (n := m) (fun i hi => by
      obtain ⟨ys, fu, -, -, -, hf⟩ := hel i hi
      obtain ⟨v0, y0, c0, -, t0⟩ := hf 0 _ rfl
      obtain ⟨v1, y1, c1, -, t1⟩ := hf 1 _ rfl
      obtain ⟨v2, y2, c2, -, t2⟩ := hf 2 _ rfl
      obtain ⟨v3, y3, c3, -, t3⟩ := hf 3 _ rfl
      obtain ⟨v4, y4, c4, -, t4⟩ := hf 4 _ rfl
      obtain ⟨z0, e0, -, w0⟩ := DataW.trod_int Tryz.underlying3 t0
      obtain ⟨ad, cd, l, e1, hb⟩ := bs_of_cs t1
      obtain ⟨nm, e2, -⟩ := DataW.trod_string Tryz.underlying9 t2
      obtain ⟨z3, e3, -⟩ := DataW.trod_int Tryz.underlying3 t3
      obtain ⟨z4, e4, -⟩ := DataW.trod_int Tryz.underlying3 t4
      simp only [List.cons.injEq, and_true] at e0 e1 e2 e3 e4
      subst e0 e1 e2 e3 e4
      obtain ⟨b0, b1⟩ := wf_i64 w0
      exact ⟨⟨z0, l⟩, ad, cd, nm, z3, z4, b0, b1, c0, c1, hb, c2, c3, c4⟩)
    have hlen : ((List.range len).map A).length = len := by simp
    refine ⟨(List.range len).map A, some a, m, by rw [hlen], by rw [hlen]; exact hl, hm, ?_⟩
    rcases Nat.eq_zero_or_pos len with h0 | h0
    · left; subst h0; simp
    · right
      obtain ⟨ab, ao, spot⟩ := a
      obtain ⟨_, _, _, _, _, _, _, hc0, -⟩ := hA 0 (by omega)
      have hspot : spot = none := by simpa [Addr.add] using World.cell?_spot hc0
      subst hspot
      refine ⟨ab, ao, rfl, World.block_lt_of_cell? W ((⟨ab, ao, none⟩ : Addr).add (0 * 5 + 0)) hc0, fun i hi => ?_⟩
      rw [hlen] at hi
      obtain ⟨ad, cd, nm, n, m', b0, b1, c0, c1, hb, c2, c3, c4⟩ := hA i (by omega)
      simp only [Addr.add_lit] at c0 c1 c2 c3 c4
      simp only [List.getElem_map, List.getElem_range]
      exact ⟨ad, cd, nm, n, m', b0, b1, by simpa using c0, by simpa [Nat.add_assoc] using c1, hb, by simpa [Nat.add_assoc] using c2, by simpa [Nat.add_assoc] using c3, by simpa [Nat.add_assoc] using c4⟩
end
end Go.Proofs.YthjilhjdnefmdaaGreatDoor
/- Open tells: the law's walk. Conditions: none. -/
namespace Go.Proofs.YthjilhjdnefmdaaGreatDoor
open Go.RowKit
open Go.ChangeMaps (setBlock)
theorem wpList_append_rs2 {t e : TypeId} {z : Value} {bytes : Nat} (T : SlT t e z bytes) {ops : Array Oper} {rest : List Oper} {o : Oper} {a : Act} {Q : Exit → Act → World → Prop} {w : World} (hgd : o.guard = none) (s x : Operand)
    (ho : o.op = .call { callee := .builtin .append, args := #[s, x], argTypes := #[t, t] })
    (base B : Nat) (v : Value) (n : Nat) (xs : List Value) (hs : a.eval s = v) (hown : w.ownsRow base e 1 v n xs)
    (src : Value) (hx : a.eval x = src) (ys : List Value) {e' : TypeId} (hsrc : RS e' B w src ys) (h1 : ∀ u ∈ ys, u.oneCell' = true) (hm : n + ys.length ≤ maxLen) (hbytes : (n + ys.length) * bytes ≤ 140737488355328) (hbase : base ≤ w.heap.size)
    (h : ∀ v' w', w'.ownsRow base e 1 v' (n + ys.length) (xs ++ ys) → w.grownBy w' v.ownBlock → (∀ k, v'.ownBlock = some k → v.ownBlock = some k ∨ w.heap.size ≤ k) → wpList Tryz.prog ops Q rest (a.put o.dst v') w') : wpList Tryz.prog ops Q (o :: rest) a w :=
  wpList_plain hgd fun _ hK => wp_append_rs2 T s x ho base B v n xs hs hown src hx ys hsrc h1 hm hbytes hbase fun v' w' h2 h3 h4 => hK _ _ (h v' w' h2 h3 h4)
theorem wt_succ (acts : List ActM) (k : Nat) (h : k < acts.length) : wt (acts.take (k + 1)) = wt (acts.take k) + (1 + acts[k].data.length / 50) := by
  unfold wt
  rw [List.take_succ_eq_append_getElem h, List.map_append, List.sum_append]; simp
theorem wt_le (acts : List ActM) (k : Nat) : wt (acts.take k) ≤ wt acts := by
  unfold wt
  conv => rhs; rw [← List.take_append_drop k acts]
  rw [List.map_append, List.sum_append]; omega
structure TellI (B : Nat) (w0 : World) (p pl : Nat) (part : Int) (W : Nat) (vc vs vt : Value) (w : World) : Prop where
  ex : ∃ sc ss st, LawS B w p pl part sc ss st 1048576 (16 + 100 * W - (sealsL st).length) (1 + 2 * W) False vc vs vt sc ss st ∧ ss.length + st.length ≤ W
  below : Below B w0 w
theorem BS.form2 {B : Nat} {w : World} {v : Value} {l : List UInt8} (h : BS B w v l) : ∃ a c, v = .slice a l.length c := by
  obtain ⟨a, c, h1, -⟩ := h.form
  exact ⟨a, c, h1⟩
set_option maxRecDepth 100000 in
set_option maxHeartbeats 8000000 in
theorem ledgerTells_t {w : World} (hE : Env w) (hB : 6 ≤ w.heap.size) {v : Value} {acts : List ActM} (ha : AS w.heap.size w v acts) (part : Int) (hp0 : 0 ≤ part) (hp1 : part < 18446744073709551616) :
    Calls Tryz.prog 6 #[v, .int .u64 part] w (LivesPost w) := by
  have HE := Lib.hid hE; have HA := Lib.hid ha
  have HLI := Lib.hid (light_t ha)
  obtain ⟨a, c, rfl, k1, k2, -⟩ := ha
  unfold maxLen at k2
  by_cases hw : wt acts ≤ 200
  · have hd : decide (wt acts ≤ 200) = true := decide_eq_true hw
    rw [hd] at HLI
    have HW := Lib.hid hw
    obtain ⟨q, hq⟩ : ∃ q : Nat, part % 500 = (q : Int) := ⟨(part % 500).toNat, by omega⟩
    have hq1 : q < 500 := by omega
    clear hE hd hw
    go_enter Tryz.func6, Tryz.ntmps6
    go_wp2_with fail
    refine HLI.out.mono ?_
    rintro e w1 ⟨rfl, hb1⟩
    have B1 := Lib.hid hb1
    clear hb1
    go_wp2_with fail
    refine (new_t w1 1048576 (by omega) (by omega)).mono ?_
    rintro e w2 ⟨p, rfl, hr2, hs2⟩
    have HB6 : Hid (6 ≤ w1.heap.size) := Lib.hid (Nat.le_trans hB B1.out.size)
    have HE1 := Lib.hid (HE.out.below B1.out hB)
    have B2 := Lib.hid hs2.below
    have C2 := Lib.hid (first_ses (part := 1 + (q : Int)) (HE1.out.below B2.out HB6.out) hr2 HB6.out (by omega) (by omega))
    clear hr2 hs2
    go_wp2_with fail
    refine C2.out.mono ?_
    rintro e w3 ⟨pl, a1, n1, c1, a2, n2, c2, rfl, h3, hs3, -⟩
    have HI : Hid (TellI w1.heap.size w1 p pl (1 + (q : Int)) 0 (.slice none 0 0) (.slice none 0 0) (.slice none 0 0) w3) :=
      Lib.hid ⟨⟨[], [], [], ⟨⟨_, h3.weaken (by simp [sealsL]) (by simp) id, fun k _ h => by simp [Value.ownBlock] at h, fun k _ h => by simp [Value.ownBlock] at h⟩, RS.nil _ _ _, OwnLS.nil _ _, OwnLS.nil _ _, fun k h => by simp [Value.ownBlock] at h⟩, by simp⟩, B2.out.trans hs3.below⟩
    have HA1 : Hid (∀ wr, Below w1.heap.size w1 wr → AS w1.heap.size wr (.slice a acts.length c) acts) := Lib.hid (fun wr hb => by
      obtain ⟨a', c', he, q1, q2, q3⟩ := HA.out
      have h1 := HA.out.keep B1.out (fun v l hv => RS.below hv B1.out (Nat.le_refl _))
      obtain ⟨a', c', he, q1, q2, q3⟩ := h1
      have h2 : AS w1.heap.size w1 (.slice a acts.length c) acts := ⟨a', c', he, q1, q2, q3.imp id (fun ⟨b, o, x1, x2, x3⟩ => ⟨b, o, x1, Nat.lt_of_lt_of_le x2 B1.out.size, fun i hi => by
        obtain ⟨ad, cd, nm, n, m, g0, g1, g2, g3, g4, g5⟩ := x3 i hi
        exact ⟨ad, cd, nm, n, m, g0, g1, g2, g3, RS.low g4 B1.out.size, g5⟩⟩)⟩
      exact h2.keep hb (fun v l hv => RS.below hv hb (Nat.le_refl _)))
    clear h3 hs3
    go_wp2_with fail
    go_loopw [11, 12, 13, 41] (fun vc vs vt i wr => ∃ k : Nat, k ≤ acts.length ∧ i = .int .i64 k ∧ Hid (TellI w1.heap.size w1 p pl (1 + (q : Int)) (wt (acts.take k)) vc vs vt wr)) (fun _ _ _ i _ => acts.length - (intOf i).toNat)
    case atStart => exact ⟨0, Nat.zero_le _, rfl, by simpa [wt] using HI⟩
    case round =>
      clear HI
      obtain ⟨k, hk, rfl, HI⟩ := hrel
      by_cases hlt : k < acts.length
      · obtain ⟨sc, ss, st, hls, hst⟩ := HI.out.ex
        have HB := Lib.hid HI.out.below
        obtain ⟨_, _, _, _, _, h0 | ⟨b, o, he, hlb, hx⟩⟩ := HA1.out wr HB.out
        · rw [h0] at hlt; simp at hlt
        · subst he
          obtain ⟨ad, cd, nm, n, m, -, -, e2, e3, g4, e5, e6, e7⟩ := hx k hlt
          have hsucc := wt_succ acts k hlt
          have hwl := wt_le acts (k + 1)
          have hw200 := HW.out
          obtain ⟨kd, hkd⟩ : ∃ kd, acts[k].kind = kd := ⟨_, rfl⟩
          obtain ⟨d, hdd⟩ : ∃ d, acts[k].data = d := ⟨_, rfl⟩
          rw [hkd] at e2
          rw [hdd] at e3 g4 hsucc
          obtain ⟨W, hW⟩ : ∃ W, wt (acts.take k) = W := ⟨_, rfl⟩
          obtain ⟨W1, hW1⟩ : ∃ W1, wt (acts.take (k + 1)) = W1 := ⟨_, rfl⟩
          rw [hW] at hls hst hsucc
          rw [hW1] at hsucc hwl
          have hbA : Below wr.heap.size wr (wr.alloc (.cells #[.int .i64 kd, .slice ad d.length cd, .string nm, .int .i64 n, .int .i64 m] 54)) := (Below.refl _ wr).alloc (Nat.le_refl _) _
          have HLA := Lib.hid (hls.below hbA)
          have HDA := Lib.hid (RS.below g4 hbA HB.out.size)
          have HACT := Lib.hid (hp_new wr (.cells #[.int .i64 kd, .slice ad d.length cd, .string nm, .int .i64 n, .int .i64 m] 54))
          have HBA := Lib.hid (HB.out.trans (hbA.mono HB.out.size))
          obtain ⟨ac, cc, rfl⟩ := hls.bc.form2
          obtain ⟨as', cs', rfl⟩ := hls.so.form
          obtain ⟨at', ct', rfl⟩ := hls.wo.form
          have HW1 := Lib.hid hW1
          have hsr : (sealsL ([] : List (List UInt8))).length = 0 := rfl
          have HSR := Lib.hid hsr
          clear hls g4 hx hbA hkd hdd hW hW1 hsr
          by_cases h0 : kd = 0
          · have t0 : (kd == 0) = true := by rw [h0]; rfl
            have C4 := Lib.hid (law_add HLA.out HDA.out (by omega) (by omega))
            clear h0
            go_wp2_with fail
            generalize wr.alloc (.cells #[.int .i64 kd, .slice ad d.length cd, .string nm, .int .i64 n, .int .i64 m] 54) = wa at *
            refine C4.out.mono ?_
            rintro e w4 ⟨rfl, H4, B4, K4⟩
            have e8 : w4.cell? ⟨wr.heap.size, 1, none⟩ = some (.slice ad d.length cd) := cell_of (K4.out _ _ _ HACT.out) 1
            have hb8 : Below w4.heap.size w4 (w4.alloc (.cells #[.slice ad d.length cd] 27)) := (Below.refl _ w4).alloc (Nat.le_refl _) _
            have hl5 := H4.out.1.below hb8
            have hd5 := RS.below H4.out.2 hb8 H4.out.1.le
            obtain ⟨xs, hx1, hx2⟩ := hl5.wo
            have hsz := hl5.le
            have HX1 := Lib.hid hx1; have HX2 := Lib.hid hx2; have HL5 := Lib.hid hl5; have HD5 := Lib.hid hd5
            have HB5 := Lib.hid ((HBA.out.trans B4.out).trans (hb8.mono H4.out.1.le))
            clear hb8 hl5 hd5 hx1 hx2
            go_wp2_with (at_builtin; refine wpList_append_rs2 slT22 rfl (.tmp 54) (.tmp 57) rfl w1.heap.size w1.heap.size _ st.length xs rfl HX1.out _ rfl [.slice ad d.length cd] (rs_new w4 27 _ _) (by simp [Value.oneCell']) (by simp only [List.length_singleton]; unfold maxLen; omega) (by simp only [List.length_singleton]; omega) hsz ?_; intro v5 wz ho hg hk5; have P5 := Lib.hid (LawS.push HL5.out HX1.out HX2.out HD5.out ho hg hk5); clear ho hg hk5)
            obtain ⟨stz, hstz⟩ : ∃ stz, st ++ [d] = stz := ⟨_, rfl⟩
            have hsl : (sealsL stz).length = (sealsL st).length + (d.length + 8) := by rw [← hstz, sealsL_app, List.length_append, sealsL_sum [d]]; simp
            have hln : stz.length = st.length + 1 := by rw [← hstz]; simp
            rw [hstz] at P5
            obtain ⟨a5, c5, rfl⟩ := P5.out.1.wo.form
            have HZ : Hid (LawS w1.heap.size wz p pl (1 + (q : Int)) sc ss stz 1048576 (16 + 100 * W1 - (sealsL stz).length) (1 + 2 * W1) False (.slice ac sc.length cc) (.slice as' ss.length cs') (.slice a5 stz.length c5) sc ss stz) := Lib.hid (P5.out.1.weaken (by omega) (by omega) id)
            have BZ := Lib.hid (HB5.out.trans P5.out.2)
            have hcnt : ss.length + stz.length ≤ W1 := by omega
            clear hstz hsl hln
            go_wp2_with fail
            refine (law_pending HZ.out).mono ?_
            rintro e w6 ⟨rfl, rfl⟩
            have CO := Lib.hid (law_open (HE1.out.below BZ.out HB6.out) HZ.out HB6.out (part2 := 1 + (q : Int)) (by omega))
            go_wp2_with fail
            refine CO.out.mono ?_
            rintro e w7 ⟨pl2, v1, v2, rfl, hv1, hv2, H7, B7⟩
            obtain ⟨a1', c1', rfl⟩ := hv1.form2
            have CS := same21_t hv1 H7.out.bc
            rw [decide_eq_true rfl] at CS
            have CR := same16_t (B := w1.heap.size) (BZ.out.trans B7.out).size hv2 H7.out.so.ls
            rw [decide_eq_true rfl] at CR
            obtain ⟨vs2, hv2r, -⟩ := hv2
            obtain ⟨a2', c2', rfl, -⟩ := hv2r
            have HCS := Lib.hid CS; have HCR := Lib.hid CR
            clear hv1 CS CR
            go_wp2_with fail
            refine HCS.out.mono ?_
            rintro e w8 ⟨rfl, rfl⟩
            go_wp2_with fail
            refine HCR.out.mono ?_
            rintro e w9 ⟨rfl, hb9⟩
            have H9 := Lib.hid (H7.out.below hb9)
            have B9 := Lib.hid ((BZ.out.trans B7.out).trans (hb9.mono (BZ.out.trans B7.out).size))
            clear hb9
            go_wp2_with fail
            go_roundw
            case rel => exact ⟨k + 1, hlt, by go_num, Lib.hid ⟨⟨_, _, _, by rw [HW1.out]; exact H9.out, by rw [HW1.out]; exact hcnt⟩, B9.out⟩⟩
            case measure => simp [intOf]; omega
          · have t0 : (kd == 0) = false := beq_eq_false_iff_ne.2 h0
            by_cases h1 : kd = 1
            · have t1 : (kd == 1) = true := by rw [h1]; rfl
              clear h0 h1
              have C4 := Lib.hid (law_flush (HE1.out.below HBA.out HB6.out) HLA.out HB6.out (by omega) (by omega))
              go_wp2_with fail
              generalize wr.alloc (.cells #[.int .i64 kd, .slice ad d.length cd, .string nm, .int .i64 n, .int .i64 m] 54) = wa at *
              refine C4.out.mono ?_
              rintro e w4 ⟨rfl, H4, B4, K4⟩
              obtain ⟨xs, hx1, hx2⟩ := H4.out.so
              obtain ⟨ys, hy1, hy2⟩ := H4.out.wo
              have hyl := hy2.1
              have hsz := H4.out.le
              have HX1 := Lib.hid hx1; have HX2 := Lib.hid hx2; have HY1 := Lib.hid (RS.of_owns (B := w1.heap.size) hy1); have HY2 := Lib.hid hy2
              have HB5 := Lib.hid (HBA.out.trans B4.out)
              clear hx1 hx2 hy1 hy2
              go_wp2_with (at_builtin; refine wpList_append_rs2 slT22 rfl (.tmp 64) (.tmp 65) rfl w1.heap.size w1.heap.size _ ss.length xs rfl HX1.out _ rfl ys HY1.out HY2.out.one (by unfold maxLen; omega) (by omega) hsz ?_; intro v5 wz ho hg hk5; have P5 := Lib.hid (LawS.move H4.out HX1.out HX2.out HY2.out ho hg hk5); clear ho hg hk5)
              obtain ⟨ssz, hssz⟩ : ∃ ssz, ss ++ st = ssz := ⟨_, rfl⟩
              have hln : ssz.length = ss.length + st.length := by rw [← hssz]; simp
              rw [hssz] at P5
              obtain ⟨a5, c5, rfl⟩ := P5.out.1.so.form
              have HZ : Hid (LawS w1.heap.size wz p pl (1 + (q : Int)) sc ssz [] 1048576 (16 + 100 * W1 - (sealsL []).length) (1 + 2 * W1) False (.slice ac sc.length cc) (.slice a5 ssz.length c5) (.slice none 0 0) sc ssz []) := Lib.hid (P5.out.1.weaken (by rw [HSR.out]; omega) (by omega) id)
              have BZ := Lib.hid (HB5.out.trans P5.out.2)
              have hcnt : ssz.length + ([] : List (List UInt8)).length ≤ W1 := by simp only [List.length_nil]; omega
              clear hssz hln
              go_wp2_with fail
              refine (law_pending HZ.out).mono ?_
              rintro e w6 ⟨rfl, rfl⟩
              have CO := Lib.hid (law_open (HE1.out.below BZ.out HB6.out) HZ.out HB6.out (part2 := 1 + (q : Int)) (by omega))
              go_wp2_with fail
              refine CO.out.mono ?_
              rintro e w7 ⟨pl2, v1, v2, rfl, hv1, hv2, H7, B7⟩
              obtain ⟨a1', c1', rfl⟩ := hv1.form2
              have CS := same21_t hv1 H7.out.bc
              rw [decide_eq_true rfl] at CS
              have CR := same16_t (B := w1.heap.size) (BZ.out.trans B7.out).size hv2 H7.out.so.ls
              rw [decide_eq_true rfl] at CR
              obtain ⟨vs2, hv2r, -⟩ := hv2
              obtain ⟨a2', c2', rfl, -⟩ := hv2r
              have HCS := Lib.hid CS; have HCR := Lib.hid CR
              clear hv1 CS CR
              go_wp2_with fail
              refine HCS.out.mono ?_
              rintro e w8 ⟨rfl, rfl⟩
              go_wp2_with fail
              refine HCR.out.mono ?_
              rintro e w9 ⟨rfl, hb9⟩
              have H9 := Lib.hid (H7.out.below hb9)
              have B9 := Lib.hid ((BZ.out.trans B7.out).trans (hb9.mono (BZ.out.trans B7.out).size))
              clear hb9
              go_wp2_with fail
              go_roundw
              case rel => exact ⟨k + 1, hlt, by go_num, Lib.hid ⟨⟨_, _, _, by rw [HW1.out]; exact H9.out, by rw [HW1.out]; exact hcnt⟩, B9.out⟩⟩
              case measure => simp [intOf]; omega
            · have t1 : (kd == 1) = false := beq_eq_false_iff_ne.2 h1
              by_cases h2 : kd = 2
              · have t2 : (kd == 2) = true := by rw [h2]; rfl
                clear h0 h1 h2
                have C4 := Lib.hid (law_mark (HE1.out.below HBA.out HB6.out) HLA.out HB6.out HDA.out (by omega) (by omega) (by omega))
                go_wp2_with fail
                generalize wr.alloc (.cells #[.int .i64 kd, .slice ad d.length cd, .string nm, .int .i64 n, .int .i64 m] 54) = wa at *
                refine C4.out.mono ?_
                rintro e w4 ⟨rfl, H4, B4, K4⟩
                have C5 := Lib.hid (law_parts (HE1.out.below (HBA.out.trans B4.out) HB6.out) H4.out.1 HB6.out H4.out.2)
                go_wp2_with fail
                refine C5.out.mono ?_
                rintro e wz ⟨⟨a5, c5, rfl⟩, H5, D5, B5, K5⟩
                have e8 : wz.cell? ⟨wr.heap.size, 1, none⟩ = some (.slice ad d.length cd) := cell_of (K5.out _ _ _ (K4.out _ _ _ HACT.out)) 1
                have hdl : d.length ≤ 50 * (d.length / 50) + 49 := by omega
                have HZ : Hid (LawS w1.heap.size wz p pl (1 + (q : Int)) d [] [] 1048576 (16 + 100 * W1 - (sealsL []).length) (1 + 2 * W1) False (.slice ad d.length cd) (.slice none 0 0) (.slice none 0 0) d [] []) := Lib.hid ((H5.out.reset D5.out).weaken (by rw [HSR.out]; omega) (by omega) id)
                have BZ := Lib.hid ((HBA.out.trans B4.out).trans B5.out)
                have hcnt : ([] : List (List UInt8)).length + ([] : List (List UInt8)).length ≤ W1 := by simp
                clear hdl
                go_wp2_with fail
                refine (law_pending HZ.out).mono ?_
                rintro e w6 ⟨rfl, rfl⟩
                have CO := Lib.hid (law_open (HE1.out.below BZ.out HB6.out) HZ.out HB6.out (part2 := 1 + (q : Int)) (by omega))
                go_wp2_with fail
                refine CO.out.mono ?_
                rintro e w7 ⟨pl2, v1, v2, rfl, hv1, hv2, H7, B7⟩
                obtain ⟨a1', c1', rfl⟩ := hv1.form2
                have CS := same21_t hv1 H7.out.bc
                rw [decide_eq_true rfl] at CS
                have CR := same16_t (B := w1.heap.size) (BZ.out.trans B7.out).size hv2 H7.out.so.ls
                rw [decide_eq_true rfl] at CR
                obtain ⟨vs2, hv2r, -⟩ := hv2
                obtain ⟨a2', c2', rfl, -⟩ := hv2r
                have HCS := Lib.hid CS; have HCR := Lib.hid CR
                clear hv1 CS CR
                go_wp2_with fail
                refine HCS.out.mono ?_
                rintro e w8 ⟨rfl, rfl⟩
                go_wp2_with fail
                refine HCR.out.mono ?_
                rintro e w9 ⟨rfl, hb9⟩
                have H9 := Lib.hid (H7.out.below hb9)
                have B9 := Lib.hid ((BZ.out.trans B7.out).trans (hb9.mono (BZ.out.trans B7.out).size))
                clear hb9
                go_wp2_with fail
                go_roundw
                case rel => exact ⟨k + 1, hlt, by go_num, Lib.hid ⟨⟨_, _, _, by rw [HW1.out]; exact H9.out, by rw [HW1.out]; exact hcnt⟩, B9.out⟩⟩
                case measure => simp [intOf]; omega
              · have t2 : (kd == 2) = false := beq_eq_false_iff_ne.2 h2
                clear h0 h1 h2
                have HZ0 : Hid (LawS w1.heap.size (wr.alloc (.cells #[.int .i64 kd, .slice ad d.length cd, .string nm, .int .i64 n, .int .i64 m] 54)) p pl (1 + (q : Int)) sc ss st 1048576 (16 + 100 * W1 - (sealsL st).length) (1 + 2 * W1) False (.slice ac sc.length cc) (.slice as' ss.length cs') (.slice at' st.length ct') sc ss st) := Lib.hid (HLA.out.weaken (by omega) (by omega) id)
                have hcnt : ss.length + st.length ≤ W1 := by omega
                go_wp2_with fail
                generalize wr.alloc (.cells #[.int .i64 kd, .slice ad d.length cd, .string nm, .int .i64 n, .int .i64 m] 54) = wz at *
                have HZ := HZ0
                have BZ := HBA
                refine (law_pending HZ.out).mono ?_
                rintro e w6 ⟨rfl, rfl⟩
                have CO := Lib.hid (law_open (HE1.out.below BZ.out HB6.out) HZ.out HB6.out (part2 := 1 + (q : Int)) (by omega))
                go_wp2_with fail
                refine CO.out.mono ?_
                rintro e w7 ⟨pl2, v1, v2, rfl, hv1, hv2, H7, B7⟩
                obtain ⟨a1', c1', rfl⟩ := hv1.form2
                have CS := same21_t hv1 H7.out.bc
                rw [decide_eq_true rfl] at CS
                have CR := same16_t (B := w1.heap.size) (BZ.out.trans B7.out).size hv2 H7.out.so.ls
                rw [decide_eq_true rfl] at CR
                obtain ⟨vs2, hv2r, -⟩ := hv2
                obtain ⟨a2', c2', rfl, -⟩ := hv2r
                have HCS := Lib.hid CS; have HCR := Lib.hid CR
                clear hv1 CS CR
                go_wp2_with fail
                refine HCS.out.mono ?_
                rintro e w8 ⟨rfl, rfl⟩
                go_wp2_with fail
                refine HCR.out.mono ?_
                rintro e w9 ⟨rfl, hb9⟩
                have H9 := Lib.hid (H7.out.below hb9)
                have B9 := Lib.hid ((BZ.out.trans B7.out).trans (hb9.mono (BZ.out.trans B7.out).size))
                clear hb9
                go_wp2_with fail
                go_roundw
                case rel => exact ⟨k + 1, hlt, by go_num, Lib.hid ⟨⟨_, _, _, by rw [HW1.out]; exact H9.out, by rw [HW1.out]; exact hcnt⟩, B9.out⟩⟩
                case measure => simp [intOf]; omega
      · go_wp2_with fail
        refine (lives_t (HE1.out.below HI.out.below HB6.out) (Nat.le_trans HB6.out HI.out.below.size)).mono ?_
        rintro e w9 ⟨rfl, hb9⟩
        go_wp2
        go_ret
        exact ⟨rfl, B1.out.trans ((HI.out.below.trans (hb9.mono HI.out.below.size)).mono B1.out.size)⟩
  · have hd : decide (wt acts ≤ 200) = false := decide_eq_false hw
    rw [hd] at HLI
    clear hE hd hw
    go_enter Tryz.func6, Tryz.ntmps6
    go_wp2_with fail
    refine HLI.out.mono ?_
    rintro e w1 ⟨rfl, hb1⟩
    go_wp2_with fail
    refine (lives_t (HE.out.below hb1 hB) (Nat.le_trans hB hb1.size)).mono ?_
    rintro e w3 ⟨rfl, hb3⟩
    go_wp2
    go_ret
    exact ⟨rfl, hb1.trans (hb3.mono hb1.size)⟩
end Go.Proofs.YthjilhjdnefmdaaGreatDoor
/- LedgerTells: whatever the input, the law answers true and leaves what came in as it was. Conditions: the row's own (the listed variables hold what the text lays). -/
namespace Go.Proofs.YthjilhjdnefmdaaGreatDoor
open Go.ChangeShapes Go.WideShapes Go.ChangeAt Go.WideMaps Go.WideElems Go.RowKit
set_option maxRecDepth 100000
theorem ledgerTells_lifted (os : Os) (started : os.Started) (H : Type) (enc : TypeId × Value → H) :
    ReturnsInHanded {} Tryz.checked os 6 .any (fun w args => (Rows.ledgerTellsSpec.pre enc Tryz.prog Tryz.f6 [] false w args ∧ laidMetH Tryz.prog laidL w) ∧ sizedMet enc Tryz.prog Tryz.f6 (OpenSpec.ofChange Rows.ledgerTellsSpec) false w args)
      (Rows.ledgerTellsSpec.post enc Tryz.prog Tryz.f6 false true false false) := by
  refine returnsInHanded_of_change_and (C := Tryz.checked) (X := fun w _ => laidMetH Tryz.prog laidL w) (fun _ _ _ hh h => h.of_heap hh) own started (by kernel_rfl) Tryz.func6
    (ChangeSpec.witness_shaped (enc := enc) (C := Tryz.checked) (os := os) (X := fun w _ => laidMetH Tryz.prog laidL w) false (World.doorLaid Tryz.prog 67 os) #[.slice none 0 0, .int .u64 0] 8 rfl (World.shaped_of_RefB (by kernel_rfl) (by kernel_rfl)) (by kernel_rfl) (by kernel_rfl) (by kernel_rfl) (door_met os _)) ?_
  intro W base args ds gs before hval0 hW _ _ hL _
  have hval : ∀ (j : Nat) t v, Tryz.f6.params[j]? = some t → args[j]? = some v → Value.okWide Tryz.prog W .any base t v := hval0
  have hW' := hW
  obtain ⟨p, q, hA0, hV, rfl, hfz, hnd⟩ := hW
  have hA : DataW.TrodAll enc Tryz.prog W 0 (fun _ => true) true Tryz.f6.params.toList args.toList ds p := hA0
  rw [Tryz.params6] at hA hval
  obtain ⟨v0, v1, d0, d1, p0, p1, rfl, rfl, rfl, h0, h1⟩ := trodAll_two hA
  obtain ⟨rfl, rfl⟩ := trodVars_none hV
  obtain ⟨acts, hb⟩ := as_of_trod (hval 0 51 v0 rfl rfl) h0
  obtain ⟨n, rfl, rfl, rfl, hn⟩ := open_int Tryz.underlying23 (hval 1 23 v1 rfl rfl) h1
  have hE := env_of_laid hL
  have hB := door_size W hL
  clear hA0 hval0
  simp only [List.append_nil] at hW'
  obtain ⟨n0, n1⟩ := wf_u64 hn
  refine (ledgerTells_t hE hB hb n n0 (by omega)).mono fun e W' ⟨he, hbw⟩ => ?_
  subst he
  refine ⟨_, rfl, ?_⟩
  have hlt : ∀ x ∈ p0, x.block < W.heap.size := fun x hx => by simpa using hW'.lt x (by simpa using hx)
  exact post_of_below hW' (fun _ _ _ => trodAll_mk1 (shut_bool Tryz.underlying4 _))
    (fun sp hsp => trodAll_mk2 (trod_after laidOut (by kernel_rfl) (of_decide_eq_true (by kernel_rfl)) h0 hbw hlt sp (fun x hx => hsp x (by simpa using hx))) (shut_int Tryz.underlying23 hn))
    (fun _ _ => rfl) (by simp) hbw (ok_one (by kernel_rfl) rfl (okWide_bool_mk Tryz.underlying4 _))
theorem ledgerTells_holds : Rows.LedgerTellsSaid :=
  OpenClaim.holds_of_wide 6 Tryz.f6 rfl rfl rfl rfl rfl rfl rfl ⟨rfl, rfl, rfl, rfl, rfl⟩ rfl rfl rfl rfl rfl (by kernel_rfl) Tryz.func6 (by kernel_rfl)
    (of_decide_eq_true (by kernel_rfl)) (by unfold Func.isWrapper; first | (rw [if_pos (by decide +kernel)]; kernel_rfl) | (rw [if_neg (by decide +kernel)]; exact ⟨rfl, rfl⟩))
    (fun os started H enc _ => ledgerTells_lifted os started H enc)
theorem ledgerTells_card : Rows.LedgerTellsCardSaid :=
  Claim7.holds_tied_plain_at .later [] [.data, .data, .data, .data, .sentinel, .sentinel] true (true, "0ab7c83c1672bf8c850f1051b57ddf953dceb826234ee46c8015e3da2cec6e5c") true
    ledgerTells_holds (fun _ h => by cases h) (by kernel_rfl) (fun _ h => by cases h) ledgerTells_row_tie rfl ⟨rfl, rfl⟩ (by kernel_rfl) rfl
    (fun f fn hf hfn => by
      obtain rfl : f = 6 := Option.some.inj ((show Tryz.prog.funcNamed "staith/staithlaw12.LedgerTells" = some 6 by kernel_rfl).symm.trans hf) |>.symm
      obtain rfl : fn = Tryz.f6 := (Option.some.inj (Tryz.func6.symm.trans hfn)).symm
      exact ⟨by kernel_rfl, fun j t ht => by
        rw [Tryz.params6] at ht
        have h3 : t = 51 ∨ t = 23 := by
          rcases j with _ | _ | j
          · left; simpa using ht.symm
          · right; simpa using ht.symm
          · simp at ht
        rcases h3 with rfl | rfl
        · exact (show Tryz.prog.wantsStandIn 51 = false by kernel_rfl)
        · exact (show Tryz.prog.wantsStandIn 23 = false by kernel_rfl)⟩)
    (by kernel_rfl)
#print axioms ledgerTells_card
end Go.Proofs.YthjilhjdnefmdaaGreatDoor
