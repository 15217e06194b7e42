/- Joined texts: Plain laws: numbers and names of parts. Conditions: none. Plain laws: what was sealed is opened. Conditions: none. Plain laws: which parts are on a store. Conditions: none. Plain laws: what a name is on a store, behind each call that does not fail. Conditions: none. Plain laws: calls of a calm store. Conditions: none. Plain laws: calls of a calm store that drop and move; the room that is used. Conditions: none. Plain laws: a log on a calm store is told by Open. Conditions: none. Plain laws: the first Open; what Add does. Conditions: none. Plain laws: Flush of a log on a calm store. Conditions: none. Plain laws: the next part of a log on a calm store. Conditions: none. Plain laws: a checkpoint of a log on a calm store. Conditions: none. Plain laws: elder parts go from a calm store. Conditions: none. Plain laws: behind Mark there is a log with the new checkpoint. Conditions: none. Plain laws: the room a log uses. Conditions: none. Plain laws: Flush whole. Conditions: none. Plain laws: the room while a checkpoint is made. Conditions: none. Plain laws: Mark whole. Conditions: none. Plain laws: Mark with its Flush. Conditions: none. Plain laws: what every call of the store leaves true. Conditions: none. A ledger on a calm store, call by call. Conditions: none. -/
import Derived.Test.YthjilhjdnefmdaaGreatDoorMG
import Derived.Lib.AtoiTie
/- Plain laws: numbers and names of parts. Conditions: none. -/
namespace Go.Proofs.YthjilhjdnefmdaaGreatDoor
open Go.RowKit
theorem digitVal_mk (d : Nat) (h : d < 10) : Lib.digitVal (UInt8.ofNat (48 + d)) = some d := by
  unfold Lib.digitVal
  have e : (UInt8.ofNat (48 + d)).toNat = 48 + d := by simp; omega
  rw [e, if_pos (by omega)]; simp
theorem decFrom_append (l r : List UInt8) : ∀ (acc m : Nat), Lib.decFrom acc l = some m → Lib.decFrom acc (l ++ r) = Lib.decFrom m r := by
  induction l with
  | nil => intro acc m h; simp [Lib.decFrom] at h; rw [h]; rfl
  | cons b l ih =>
    intro acc m h
    unfold Lib.decFrom at h
    rw [List.cons_append]
    conv => lhs; unfold Lib.decFrom
    cases hd : Lib.digitVal b with
    | none => rw [hd] at h; cases h
    | some d => rw [hd] at h; exact ih _ _ h
theorem decDigits_ne (u : Nat) : Lib.decDigits u ≠ [] := by
  intro h
  have := Lib.decDigits_length u
  rw [h] at this
  have := Lib.nDigits_pos u
  simp at *; omega
theorem decFrom_digits (u : Nat) : Lib.decFrom 0 (Lib.decDigits u) = some u := by
  induction u using Nat.strongRecOn with
  | ind u ih =>
    by_cases h : u < 10
    · rw [Lib.decDigits_one h]
      unfold Lib.decFrom
      rw [digitVal_mk u h]; simp [Lib.decFrom]
    · rw [Lib.decDigits, dif_neg h, decFrom_append _ _ 0 (u / 10) (ih (u / 10) (by omega))]
      unfold Lib.decFrom
      rw [digitVal_mk (u % 10) (by omega)]
      simp [Lib.decFrom]; omega
theorem digits_head (u : Nat) : ∃ b r, Lib.decDigits u = b :: r ∧ 48 ≤ b.toNat ∧ b.toNat ≤ 57 := by
  cases h : Lib.decDigits u with
  | nil => exact absurd h (decDigits_ne u)
  | cons b r =>
    obtain ⟨d, hd⟩ := Lib.digit_of_decFrom _ _ _ (decFrom_digits u) 0 b (by rw [h]; rfl)
    unfold Lib.digitVal at hd
    split at hd
    · rename_i hh; exact ⟨b, r, rfl, hh.1, hh.2⟩
    · cases hd
theorem atoi_digits (u : Nat) : Lib.atoi (Lib.decDigits u) = some (u : Int) := by
  have hdf := decFrom_digits u
  obtain ⟨b, r, he, h1, h2⟩ := digits_head u
  rw [he] at hdf ⊢
  unfold Lib.atoi
  have e1 : (b == 45) = false := by rw [beq_eq_false_iff_ne]; rintro rfl; simp at h1
  have e2 : (b == 43) = false := by rw [beq_eq_false_iff_ne]; rintro rfl; simp at h1
  simp only [e1, e2, Bool.false_eq_true, if_false]
  unfold Lib.decNat
  simp [hdf]
theorem itoa_len9 (n : Int) (h1 : 1 ≤ n) (h2 : n ≤ 999999999) : (Lib.itoa n).length ≤ 9 ∧ Lib.itoa n = Lib.decDigits n.toNat := by
  have e : Lib.itoa n = Lib.decDigits n.toNat := by unfold Lib.itoa; rw [if_neg (by omega)]
  refine ⟨?_, e⟩
  rw [e, Lib.decDigits_length]
  have : ∀ k u : Nat, u < 10 ^ (k + 1) → Lib.nDigits u ≤ k + 1 := by
    intro k
    induction k with
    | zero => intro u hu; rw [Lib.nDigits_small (by simpa using hu)]; omega
    | succ k ih =>
      intro u hu
      by_cases h : u < 10
      · rw [Lib.nDigits_small h]; omega
      · rw [Lib.nDigits_big h]
        have := ih (u / 10) (by rw [Nat.div_lt_iff_lt_mul (by decide)]; rw [Nat.pow_succ] at hu; exact hu)
        omega
  exact this 8 n.toNat (by have : (10 : Nat) ^ (8 + 1) = 1000000000 := rfl; omega)
theorem atoiAll_itoa (n : Int) (h1 : 1 ≤ n) (h2 : n ≤ 999999999) : Lib.atoiAll (Lib.itoa n) = .ok n := by
  obtain ⟨hl, he⟩ := itoa_len9 n h1 h2
  rw [Lib.atoiAll_short _ (by omega), he, atoi_digits]
  have : ((n.toNat : Nat) : Int) = n := by omega
  rw [this]; rfl
theorem nameL_eq (n : Int) (h1 : 1 ≤ n) (h2 : n ≤ 999999999) : nameL n = dotLog ++ Lib.itoa n := by unfold nameL; rw [if_neg (by omega)]
theorem nameL_inj {n m : Int} (h1 : 1 ≤ n) (h2 : n ≤ 999999999) (h3 : 1 ≤ m) (h4 : m ≤ 999999999) (h : nameL n = nameL m) : n = m := by
  rw [nameL_eq n h1 h2, nameL_eq m h3 h4] at h
  have e := List.append_cancel_left h
  have a := atoiAll_itoa n h1 h2
  rw [e, atoiAll_itoa m h3 h4] at a
  cases a; rfl
theorem hasPrefix_app (p r : List UInt8) : Lib.hasPrefix (p ++ r) p = true := by
  unfold Lib.hasPrefix; rw [List.isPrefixOf_iff_prefix]; exact List.prefix_append p r
theorem partOf_name (fr n : Int) (h1 : 1 ≤ n) (h2 : n ≤ 999999999) (h3 : fr ≤ n) : partOf fr (nameL n) = some n := by
  unfold partOf
  have hp : Lib.hasPrefix (nameL n) dotLog = true := by rw [nameL_eq n h1 h2]; exact hasPrefix_app _ _
  have ht : Lib.trimPrefix (nameL n) dotLog = Lib.itoa n := by
    unfold Lib.trimPrefix; rw [if_pos hp, nameL_eq n h1 h2]; simp
  rw [if_pos hp, ht, atoiAll_itoa n h1 h2]
  simp [h3]
theorem partOf_some {fr n : Int} {f : List UInt8} (h : partOf fr f = some n) : f = nameL n ∧ fr ≤ n ∧ 1 ≤ n ∧ n ≤ 999999999 := by
  unfold partOf at h
  split at h
  · rename_i hp
    split at h
    · split at h
      · rename_i hc
        cases h
        refine ⟨hc.1.symm, hc.2, ?_⟩
        have h1 := hc.1
        unfold nameL at h1
        split at h1
        · rw [← h1] at hp; simp [Lib.hasPrefix, dotLog] at hp
        · omega
      · cases h
    · cases h
  · cases h
/-- A part's name is a good one. -/
theorem goodN_name (n : Int) (h1 : 1 ≤ n) (h2 : n ≤ 999999999) : goodN (nameA n) = true := by
  obtain ⟨hl, he⟩ := itoa_len9 n h1 h2
  have hd : ∀ b ∈ Lib.itoa n, 48 ≤ b.toNat ∧ b.toNat ≤ 57 := by
    intro b hb
    rw [he] at hb
    obtain ⟨k, hk⟩ := List.mem_iff_getElem?.1 hb
    obtain ⟨d, hd⟩ := Lib.digit_of_decFrom _ _ _ (decFrom_digits n.toNat) k b hk
    unfold Lib.digitVal at hd
    split at hd
    · assumption
    · cases hd
  have hs : (nameA n).size = 4 + (Lib.itoa n).length := by
    show (nameL n).toArray.size = _
    rw [List.size_toArray, nameL_eq n h1 h2]; simp [dotLog]; omega
  unfold goodN
  simp only [Bool.and_eq_true, List.all_eq_true, List.mem_range, bne_iff_ne, decide_eq_true_eq]
  refine ⟨⟨fun i hi => ?_, by rw [hs]; omega⟩, by rw [hs]; omega⟩
  have hdl : (nameA n).data.toList = dotLog ++ Lib.itoa n := nameL_eq n h1 h2
  rw [hdl]
  rw [hs] at hi
  have h4 : i = 0 ∨ i = 1 ∨ i = 2 ∨ i = 3 ∨ 4 ≤ i := by omega
  rcases h4 with rfl | rfl | rfl | rfl | h4
  · rfl
  · rfl
  · rfl
  · rfl
  · have hg : (dotLog ++ Lib.itoa n).getD i 0 = (Lib.itoa n)[i - 4]'(by omega) := by
      have hlen : dotLog.length = 4 := rfl
      rw [List.getD_eq_getElem?_getD, List.getElem?_append_right (by rw [hlen]; exact h4), hlen, List.getElem?_eq_getElem (by omega)]; rfl
    rw [hg, goodC_iff]
    have := hd _ (List.getElem_mem (l := Lib.itoa n) (n := i - 4) (by omega))
    right
    exact ⟨by omega, .inr ⟨by omega, by omega⟩⟩
end Go.Proofs.YthjilhjdnefmdaaGreatDoor
/- Plain laws: what was sealed is opened. Conditions: none. -/
namespace Go.Proofs.YthjilhjdnefmdaaGreatDoor
open Go.RowKit
theorem getB_putB_take (n : Nat) (v : Int) (_h0 : 0 ≤ v) (h1 : v.toNat < 2 ^ (8 * n)) : ∀ k, k ≤ n → getB ((putB n v).take k) = ((v.toNat / 2 ^ (8 * (n - k)) : Nat) : Int) := by
  intro k
  induction k with
  | zero =>
    intro _
    rw [List.take_zero, Nat.sub_zero, Nat.div_eq_of_lt h1]; rfl
  | succ k ih =>
    intro hk
    have hl : k < (putB n v).length := by rw [putB_len]; omega
    rw [List.take_succ_eq_append_getElem hl, getB_snoc, ih (by omega)]
    have hg : (putB n v)[k].toNat = (v.toNat / 2 ^ (8 * (n - 1 - k))) % 256 := by
      simp only [putB, List.getElem_map, List.getElem_range]
      exact UInt8.toNat_ofNat'
    rw [hg]
    have e1 : 8 * (n - k) = 8 * (n - 1 - k) + 8 := by omega
    have e2 : n - (k + 1) = n - 1 - k := by omega
    rw [e1, e2, Nat.pow_add, ← Nat.div_div_eq_div_mul]
    have : (2 : Nat) ^ 8 = 256 := rfl
    rw [this]
    generalize v.toNat / 2 ^ (8 * (n - 1 - k)) = A
    omega
theorem getB_putB (n : Nat) (v : Int) (h0 : 0 ≤ v) (h1 : v.toNat < 2 ^ (8 * n)) : getB (putB n v) = v := by
  have := getB_putB_take n v h0 h1 n (Nat.le_refl _)
  rw [List.take_of_length_le (by rw [putB_len]; exact Nat.le_refl _)] at this
  rw [this]; simp; omega
theorem openA_seal (l r : List UInt8) (hl : l.length ≤ 1048576) : openA (sealL l ++ r) = (l, (l.length : Int) + 8, 0) := by
  have hp : (2 : Nat) ^ (8 * 4) = 4294967296 := rfl
  have e0 : sealL l ++ r = putB 4 l.length ++ (l ++ (putB 4 (sumF (putB 4 l.length ++ l)) ++ r)) := by unfold sealL; simp [List.append_assoc]
  have t4 : (sealL l ++ r).take 4 = putB 4 l.length := by
    rw [e0, List.take_left' (putB_len _ _)]
  have hg : getB ((sealL l ++ r).take 4) = l.length := by rw [t4, getB_putB 4 _ (by omega) (by omega)]
  have hlen : (sealL l ++ r).length = l.length + 8 + r.length := by rw [List.length_append, sealL_len]
  unfold openA
  rw [if_neg (by omega), hg, if_neg (by omega), if_neg (by omega)]
  have hn : (4 + (l.length : Int)).toNat = 4 + l.length := by omega
  rw [hn]
  have hx : (putB 4 (l.length : Int) ++ l).length = 4 + l.length := by rw [List.length_append, putB_len]
  have e1 : sealL l ++ r = (putB 4 l.length ++ l) ++ (putB 4 (sumF (putB 4 l.length ++ l)) ++ r) := by unfold sealL; simp [List.append_assoc]
  have hd : (sealL l ++ r).drop (4 + l.length) = putB 4 (sumF (putB 4 l.length ++ l)) ++ r := by rw [e1, List.drop_left' hx]
  have ht : (sealL l ++ r).take (4 + l.length) = putB 4 l.length ++ l := by rw [e1, List.take_left' hx]
  obtain ⟨s0, s1⟩ := sumF_ok (putB 4 (l.length : Int) ++ l)
  rw [hd, ht, List.take_left' (putB_len _ _), getB_putB 4 _ s0 (by omega), if_neg (by simp), List.drop_left' (putB_len _ _)]
  simp only [Prod.mk.injEq, true_and, and_true]
  omega
theorem openA_nil : (openA []).2.2 = 8 := rfl
theorem sealsL_cons (x : List UInt8) (ws : List (List UInt8)) : sealsL (x :: ws) = sealL x ++ sealsL ws := rfl
theorem wholeA_seals (ws : List (List UInt8)) (t : List UInt8) (h : ∀ l ∈ ws, l.length ≤ 1048576) : wholeA (sealsL ws ++ t) = (ws ++ (wholeA t).1, (sealsL ws).length + (wholeA t).2) := by
  induction ws with
  | nil => simp [sealsL]
  | cons x ws ih =>
    have ho : openA (sealsL (x :: ws) ++ t) = (x, (x.length : Int) + 8, 0) := by
      rw [sealsL_cons, List.append_assoc]; exact openA_seal x _ (h x (List.mem_cons_self ..))
    rw [wholeA_step (by rw [ho]), ho]
    have hd : (sealsL (x :: ws) ++ t).drop ((x.length : Int) + 8).toNat = sealsL ws ++ t := by
      rw [sealsL_cons, List.append_assoc]
      exact List.drop_left' (by rw [sealL_len]; omega)
    simp only
    rw [hd, ih (fun l hl => h l (List.mem_cons_of_mem _ hl)), sealsL_cons, List.length_append, sealL_len]
    simp only [List.cons_append, Prod.mk.injEq, true_and]
    omega
theorem wholeA_all (ws : List (List UInt8)) (h : ∀ l ∈ ws, l.length ≤ 1048576) : wholeA (sealsL ws) = (ws, (sealsL ws).length) := by
  have := wholeA_seals ws [] h
  have h0 : wholeA [] = ([], 0) := wholeA_stop (by rw [openA_nil]; decide)
  rw [h0] at this
  simpa using this
/-- A checkpoint is found again. -/
theorem foundB_mark (n : Int) (h1 : 1 ≤ n) (h2 : n ≤ 999999999) (check : List UInt8) (hc : check.length ≤ 1048512) : foundB (markB n check) = (n, check, 0) := by
  have ho : openA (markB n check) = (putB 8 n ++ check, ((putB 8 n ++ check).length : Int) + 8, 0) := by
    have := openA_seal (putB 8 n ++ check) [] (by rw [List.length_append, putB_len]; omega)
    rw [List.append_nil] at this; exact this
  have hp : (2 : Nat) ^ (8 * 8) = 18446744073709551616 := rfl
  have hg : getA 8 (putB 8 n ++ check) = (n, true) := by
    unfold getA
    rw [if_neg (by rw [List.length_append, putB_len]; omega), List.take_left' (putB_len _ _), getB_putB 8 n (by omega) (by omega)]
  unfold foundB
  have hb : ¬ foundBad (markB n check) := by
    unfold foundBad
    rw [ho, hg]
    have hl : (markB n check).length = (putB 8 n ++ check).length + 8 := sealL_len _
    simp only [hl, not_or]
    refine ⟨by simp, by omega, by simp, by omega, by omega⟩
  rw [if_neg hb, ho, hg, List.drop_left' (putB_len _ _)]
end Go.Proofs.YthjilhjdnefmdaaGreatDoor
/- Plain laws: which parts are on a store. Conditions: none. -/
namespace Go.Proofs.YthjilhjdnefmdaaGreatDoor
open Go.RowKit
theorem nm_ext {a b : Nm} (h : a.data.toList = b.data.toList) : a = b := by
  cases a; cases b
  simp at h
  rw [h]
theorem nameA_data (n : Int) : (nameA n).data.toList = nameL n := rfl
theorem mem_partsA (st : St) (fr n : Int) : n ∈ partsA st fr ↔ st.dark = false ∧ fr ≤ n ∧ 1 ≤ n ∧ n ≤ 999999999 ∧ ∃ q ∈ st.now, q.1 = nameA n := by
  unfold partsA partsOf
  rw [List.mem_mergeSort, List.mem_filterMap]
  constructor
  · rintro ⟨f, hf, hp⟩
    obtain ⟨h1, h2, h3, h4⟩ := partOf_some hp
    unfold namesA at hf
    split at hf
    · cases hf
    · rename_i hd
      unfold namesOf at hf
      rw [List.mem_mergeSort] at hf
      obtain ⟨q, hq, he⟩ := List.mem_map.1 hf
      refine ⟨by simpa using hd, h2, h3, h4, q, hq, nm_ext ?_⟩
      rw [he, h1]; rfl
  · rintro ⟨hd, h2, h3, h4, q, hq, he⟩
    refine ⟨nameL n, ?_, partOf_name fr n h3 h4 h2⟩
    unfold namesA namesOf
    rw [hd]
    simp only [Bool.false_eq_true, if_false]
    rw [List.mem_mergeSort]
    exact List.mem_map.2 ⟨q, hq, by rw [he]; rfl⟩
theorem nodup_filterMap {α β : Type} {f : α → Option β} (hf : ∀ a a' b, f a = some b → f a' = some b → a = a') : ∀ {l : List α}, l.Nodup → (l.filterMap f).Nodup := by
  intro l
  induction l with
  | nil => intro _; simp
  | cons a l ih =>
    intro h
    rw [List.nodup_cons] at h
    cases hfa : f a with
    | none => rw [List.filterMap_cons_none hfa]; exact ih h.2
    | some b =>
      rw [List.filterMap_cons_some hfa, List.nodup_cons]
      refine ⟨fun hm => ?_, ih h.2⟩
      obtain ⟨a', ha', he⟩ := List.mem_filterMap.1 hm
      rw [hf a a' b hfa he] at h
      exact h.1 ha'
theorem partsA_nodup (st : St) (fr : Int) (hn : (st.now.map (·.1)).Nodup) : (partsA st fr).Nodup := by
  unfold partsA partsOf
  refine (List.mergeSort_perm _ _).nodup_iff.2 (nodup_filterMap (fun a a' b h h' => ?_) ?_)
  · rw [(partOf_some h).1, (partOf_some h').1]
  · unfold namesA
    split
    · simp
    · unfold namesOf
      refine (List.mergeSort_perm _ _).nodup_iff.2 ?_
      have : st.now.map (fun q => q.1.data.toList) = (st.now.map (·.1)).map (fun a => a.data.toList) := by rw [List.map_map]; rfl
      rw [this]
      exact List.Pairwise.map _ (fun a b hab h => hab (nm_ext h)) hn
theorem partsA_sorted (st : St) (fr : Int) : (partsA st fr).Pairwise (· ≤ ·) := by
  unfold partsA
  have := List.pairwise_mergeSort (le := fun x y : Int => decide (x ≤ y)) (by intro a b c h1 h2; simp at *; omega) (by intro a b; simp; omega) (partsOf (namesA st) fr)
  exact this.imp (by intro a b h; simpa using h)
/-- The numbers from a on, k of them. -/
def run (a : Int) : Nat → List Int
  | 0 => []
  | k + 1 => a :: run (a + 1) k
theorem mem_run (k : Nat) : ∀ (a n : Int), n ∈ run a k ↔ a ≤ n ∧ n < a + k := by
  induction k with
  | zero => intro a n; simp only [run, List.not_mem_nil, false_iff]; omega
  | succ k ih => intro a n; simp only [run, List.mem_cons, ih]; omega
theorem run_sorted (k : Nat) : ∀ a : Int, (run a k).Pairwise (· < ·) := by
  induction k with
  | zero => intro a; simp [run]
  | succ k ih =>
    intro a
    rw [run, List.pairwise_cons]
    exact ⟨fun n hn => by have := (mem_run k (a + 1) n).1 hn; omega, ih _⟩
theorem sorted_eq {l r : List Int} (h1 : l.Pairwise (· ≤ ·)) (h2 : l.Nodup) (h3 : r.Pairwise (· < ·)) (h : ∀ n, n ∈ l ↔ n ∈ r) : l = r := by
  have hr : r.Nodup := h3.imp (by intro a b h; omega)
  have hp : l.Perm r := (List.perm_ext_iff_of_nodup h2 hr).2 h
  exact List.Perm.eq_of_pairwise (le := (· ≤ ·)) (fun a b _ _ x y => by omega) h1 (h3.imp (by intro a b h; omega)) hp
/-- Just the parts from a on lie there. -/
theorem partsA_run (st : St) (fr a : Int) (k : Nat) (hd : st.dark = false) (hn : (st.now.map (·.1)).Nodup) (h1 : 1 ≤ a) (h2 : a + k ≤ 1000000000) (hfr : fr ≤ a)
    (h : ∀ n, fr ≤ n → 1 ≤ n → n ≤ 999999999 → ((∃ q ∈ st.now, q.1 = nameA n) ↔ a ≤ n ∧ n < a + k)) : partsA st fr = run a k := by
  refine sorted_eq (partsA_sorted st fr) (partsA_nodup st fr hn) (run_sorted k a) (fun n => ?_)
  rw [mem_partsA, mem_run]
  constructor
  · rintro ⟨_, h3, h4, h5, h6⟩
    exact (h n h3 h4 h5).1 h6
  · rintro ⟨h3, h4⟩
    exact ⟨hd, by omega, by omega, by omega, (h n (by omega) (by omega) (by omega)).2 ⟨h3, h4⟩⟩
end Go.Proofs.YthjilhjdnefmdaaGreatDoor
/- Plain laws: what a name is on a store, behind each call that does not fail. Conditions: none. -/
namespace Go.Proofs.YthjilhjdnefmdaaGreatDoor
open Go.RowKit
theorem dget_some_iff (d : Dr) (n : Nm) : (dget d n).isSome = true ↔ ∃ q ∈ d, q.1 = n := by
  unfold dget
  rw [Option.isSome_map, List.find?_isSome]
  simp
theorem dget_nil (n : Nm) : dget [] n = none := rfl
theorem dget_cons (q : Nm × Nat) (d : Dr) (n : Nm) : dget (q :: d) n = if q.1 = n then some q.2 else dget d n := by
  unfold dget
  rw [List.find?_cons]
  by_cases h : q.1 = n
  · rw [if_pos h]; simp [h]
  · rw [if_neg h]; simp [h]
theorem dget_append (d e : Dr) (n : Nm) : dget (d ++ e) n = (dget d n).or (dget e n) := by
  induction d with
  | nil => simp [dget_nil]
  | cons q d ih =>
    rw [List.cons_append, dget_cons, dget_cons, ih]
    split <;> simp
theorem dget_dset (d : Dr) (n m : Nm) (i : Nat) : dget (dset d n i) m = if m = n then some i else dget d m := by
  unfold dset
  by_cases hs : (dget d n).isSome = true
  · rw [if_pos hs]
    have key : ∀ d : Dr, dget (d.map (fun p => if p.1 = n then (n, i) else p)) m = if m = n then (if (dget d n).isSome then some i else none) else dget d m := by
      intro d
      induction d with
      | nil => simp [dget_nil]
      | cons q d ih =>
        rw [List.map_cons, dget_cons, ih, dget_cons, dget_cons]
        by_cases hq : q.1 = n
        · by_cases hm : m = n
          · simp [hq, hm]
          · have : ¬ n = m := fun h => hm h.symm
            simp [hq, hm, this]
        · by_cases hm : m = n
          · subst hm; simp [hq]
          · simp [hq, hm]
    rw [key, hs]; simp
  · rw [if_neg hs, dget_append, dget_cons, dget_nil]
    have hn : dget d n = none := by simpa using hs
    by_cases hm : m = n
    · subst hm; simp [hn]
    · have : ¬ n = m := fun h => hm h.symm
      simp [hm, this]
theorem dget_ddel (d : Dr) (n m : Nm) : dget (ddel d n) m = if m = n then none else dget d m := by
  unfold ddel
  induction d with
  | nil => simp [dget_nil]
  | cons q d ih =>
    by_cases hq : q.1 = n
    · rw [List.filter_cons_of_neg (by simp [hq]), ih, dget_cons]
      by_cases hm : m = n
      · simp [hm]
      · have : ¬ q.1 = m := by rw [hq]; exact fun h => hm h.symm
        simp [hm, this]
    · rw [List.filter_cons_of_pos (by simp [hq]), dget_cons, ih, dget_cons]
      by_cases hm : m = n
      · subst hm; simp [hq]
      · simp [hm]
theorem dset_keys (d : Dr) (n : Nm) (i : Nat) (h : (d.map (·.1)).Nodup) : ((dset d n i).map (·.1)).Nodup := by
  unfold dset
  split
  · have : (d.map (fun p => if p.1 = n then (n, i) else p)).map (·.1) = d.map (·.1) := by
      rw [List.map_map]
      apply List.map_congr_left
      intro q _
      simp only [Function.comp]
      split
      · rename_i hq; exact hq.symm
      · rfl
    rw [this]; exact h
  · rename_i hs
    rw [List.map_append, List.map_cons, List.map_nil, List.nodup_append]
    refine ⟨h, by simp, fun a ha b hb => ?_⟩
    simp at hb
    subst hb
    rintro rfl
    obtain ⟨q, hq, he⟩ := List.mem_map.1 ha
    exact hs ((dget_some_iff d _).2 ⟨q, hq, he⟩)
theorem ddel_keys (d : Dr) (n : Nm) (h : (d.map (·.1)).Nodup) : ((ddel d n).map (·.1)).Nodup :=
  List.Pairwise.sublist ((List.filter_sublist (l := d)).map _) h

/-- What a name is on a store. -/
def view (st : St) (n : Nm) : Option (List UInt8) := (dget st.now n).map fun i => (fl st i).now
/-- Well formed: no name twice, no file under two names. -/
structure WF (st : St) : Prop where
  keys : (st.now.map (·.1)).Nodup
  inj : ∀ n m i, dget st.now n = some i → dget st.now m = some i → n = m
  idx : ∀ n i, dget st.now n = some i → i < st.files.length
  good : ∀ q ∈ st.now, goodN q.1 = true
structure Calm (st : St) : Prop extends WF st where
  dark : st.dark = false
  left : st.left ≤ 0
theorem goodN_size {n : Nm} (h : goodN n = true) : n.size ≤ 30 := by
  unfold goodN at h
  simp only [Bool.and_eq_true, decide_eq_true_eq] at h
  exact h.2
theorem calm_counted {st : St} (h : Calm st) (does : St → St) : countedA st does = (does (tick st), 0) := by
  unfold countedA; rw [if_neg (by have := h.left; omega)]
theorem calm_err {st : St} (h : Calm st) (n : Nm) (hg : goodN n = true) : kErr st n = if (view st n).isSome then 0 else 3 := by
  unfold kErr knownA view
  rw [h.dark, hg]
  cases hk : dget st.now n <;> simp
end Go.Proofs.YthjilhjdnefmdaaGreatDoor
/- Plain laws: calls of a calm store. Conditions: none. -/
namespace Go.Proofs.YthjilhjdnefmdaaGreatDoor
open Go.RowKit
theorem fl_setFl (st : St) (i j : Nat) (f : Fl) (hi : i < st.files.length) : fl (setFl st i f) j = if j = i then f else fl st j := by
  unfold fl setFl
  simp only [List.getD_eq_getElem?_getD, List.getElem?_set]
  by_cases h : j = i
  · subst h; simp [hi]
  · have : ¬ i = j := fun e => h e.symm
    simp [h, this]
theorem fl_tick (st : St) (j : Nat) : fl (tick st) j = fl st j := rfl
theorem view_tick (st : St) (n : Nm) : view (tick st) n = view st n := rfl
theorem wf_set {st : St} (h : WF st) (i : Nat) (f : Fl) : WF (setFl (tick st) i f) :=
  ⟨h.keys, h.inj, fun n j hj => by
    have := h.idx n j hj
    show j < ((tick st).files.set i f).length
    rw [List.length_set]; exact this, h.good⟩
/-- The call went well; what the names are behind it. -/
structure Went (r : St × Int) (st : St) (v : Nm → Option (List UInt8)) : Prop where
  ok : r.2 = 0
  calm : Calm r.1
  view : ∀ m, view r.1 m = v m
  room : r.1.room = st.room
theorem view_set {st : St} (h : WF st) {n : Nm} {i : Nat} (hi : dget st.now n = some i) (f : Fl) (m : Nm) : view (setFl (tick st) i f) m = if m = n then some f.now else view st m := by
  have hlt := h.idx n i hi
  unfold view
  show (dget st.now m).map _ = _
  by_cases hm : m = n
  · subst hm
    rw [hi, if_pos rfl, Option.map_some, fl_setFl (tick st) i i f hlt, if_pos rfl]
  · rw [if_neg hm]
    cases hk : dget st.now m with
    | none => rfl
    | some j =>
      have hj : j ≠ i := by rintro rfl; exact hm (h.inj m n j hk hi)
      rw [Option.map_some, Option.map_some, fl_setFl (tick st) i j f hlt, if_neg hj]; rfl
theorem calm_idx {st : St} {n : Nm} {x : List UInt8} (hv : view st n = some x) : ∃ i, dget st.now n = some i ∧ (fl st i).now = x ∧ kIdx st n = i := by
  unfold view at hv
  cases hk : dget st.now n with
  | none => rw [hk] at hv; cases hv
  | some i => rw [hk] at hv; exact ⟨i, rfl, by simpa using hv, by unfold kIdx; rw [hk]; rfl⟩
theorem calm_write {st : St} (h : Calm st) {n : Nm} (hg : goodN n = true) (l : List UInt8) {x : List UInt8} (hv : view st n = some x) (hf : (l.length : Int) ≤ freeA st) :
    Went (writeA st n l) st (fun m => if m = n then some (x ++ l) else view st m) := by
  obtain ⟨i, hi, hx, hk⟩ := calm_idx hv
  have he : kErr st n = 0 := by rw [calm_err h n hg, hv]; rfl
  have e : writeA st n l = (setFl (tick st) i ⟨(fl st i).now ++ l, (fl st i).sure⟩, 0) := by
    unfold writeA; rw [if_pos he, if_neg (by omega), calm_counted h, hk]; rfl
  rw [e]
  refine ⟨rfl, ⟨wf_set h.toWF i _, h.dark, h.left⟩, fun m => ?_, rfl⟩
  rw [view_set h.toWF hi, hx]
theorem calm_sync {st : St} (h : Calm st) {n : Nm} (hg : goodN n = true) {x : List UInt8} (hv : view st n = some x) : Went (syncA st n) st (view st) := by
  obtain ⟨i, hi, hx, hk⟩ := calm_idx hv
  have he : kErr st n = 0 := by rw [calm_err h n hg, hv]; rfl
  have e : syncA st n = (setFl (tick st) i ⟨(fl st i).now, (fl st i).now⟩, 0) := by
    unfold syncA; rw [if_pos he, calm_counted h, hk]; rfl
  rw [e]
  refine ⟨rfl, ⟨wf_set h.toWF i _, h.dark, h.left⟩, fun m => ?_, rfl⟩
  rw [view_set h.toWF hi, hx]
  split
  · rename_i hm; rw [hm, hv]
  · rfl
theorem calm_cut {st : St} (h : Calm st) {n : Nm} (hg : goodN n = true) {x : List UInt8} (hv : view st n = some x) (k : Nat) (hk' : k ≤ x.length) : Went (cutA st n k) st (fun m => if m = n then some (x.take k) else view st m) := by
  obtain ⟨i, hi, hx, hk⟩ := calm_idx hv
  have he : kErr st n = 0 := by rw [calm_err h n hg, hv]; rfl
  have e : cutA st n k = (setFl (tick st) i ⟨(fl st i).now.take k, (fl st i).sure⟩, 0) := by
    unfold cutA; rw [if_pos he, hk, hx, if_neg (by omega), calm_counted h]
    have : ((k : Int)).toNat = k := by omega
    rw [this]
    show (setFl (tick st) i ⟨(fl st i).now.take k, (fl st i).sure⟩, (0 : Int)) = _
    rw [hx]
  rw [e]
  refine ⟨rfl, ⟨wf_set h.toWF i _, h.dark, h.left⟩, fun m => ?_, rfl⟩
  rw [view_set h.toWF hi, hx]
theorem calm_commit {st : St} (h : Calm st) : Went (commitA st) st (view st) := by
  have e : commitA st = (commitD (tick st), 0) := by
    unfold commitA; rw [h.dark, calm_counted h]; rfl
  rw [e]
  exact ⟨rfl, ⟨⟨h.keys, h.inj, h.idx, h.good⟩, h.dark, h.left⟩, fun m => rfl, rfl⟩
theorem calm_make {st : St} (h : Calm st) {n : Nm} (hg : goodN n = true) (hv : view st n = none) (hf : 16 ≤ freeA st) : Went (makeA st n) st (fun m => if m = n then some [] else view st m) := by
  have hk : dget st.now n = none := by
    unfold view at hv; simpa using hv
  have he : (knownA st n).2 = 3 := by
    have := calm_err h n hg
    rw [hv] at this; exact this
  have e : makeA st n = (newFile (tick st) n, 0) := by
    unfold makeA; rw [if_neg (by rw [he]; decide), if_neg (by rw [he]; simp), if_neg (by omega), calm_counted h]
  rw [e]
  have hidx : ∀ m i, dget (dset st.now n st.files.length) m = some i → (m = n ∧ i = st.files.length) ∨ (m ≠ n ∧ dget st.now m = some i) := by
    intro m i hm
    rw [dget_dset] at hm
    split at hm
    · rename_i h'; cases hm; exact .inl ⟨h', rfl⟩
    · rename_i h'; exact .inr ⟨h', hm⟩
  refine ⟨rfl, ⟨⟨dset_keys _ _ _ h.keys, ?_, ?_, ?_⟩, h.dark, h.left⟩, fun m => ?_, rfl⟩
  · intro a b i ha hb
    rcases hidx a i ha with ⟨h1, h2⟩ | ⟨h1, h2⟩ <;> rcases hidx b i hb with ⟨h3, h4⟩ | ⟨h3, h4⟩
    · rw [h1, h3]
    · have := h.idx b i h4; omega
    · have := h.idx a i h2; omega
    · exact h.inj a b i h2 h4
  · intro m i hm
    show i < (st.files ++ [(⟨[], []⟩ : Fl)]).length
    rw [List.length_append]
    rcases hidx m i hm with ⟨_, h2⟩ | ⟨_, h2⟩
    · simp; omega
    · have := h.idx m i h2; simp; omega
  · intro q hq
    rcases dset_mem (m := q.1) (j := q.2) hq with ⟨h1, _⟩ | h2
    · rw [h1]; exact hg
    · exact h.good q h2
  · unfold view
    show (dget (dset st.now n st.files.length) m).map _ = _
    rw [dget_dset]
    by_cases hm : m = n
    · rw [if_pos hm, if_pos hm, Option.map_some]
      have : fl (newFile (tick st) n) st.files.length = ⟨[], []⟩ := by
        unfold fl newFile
        show (st.files ++ [(⟨[], []⟩ : Fl)]).getD st.files.length _ = _
        rw [List.getD_eq_getElem?_getD, List.getElem?_append_right (Nat.le_refl _)]
        simp
      rw [this]
    · rw [if_neg hm, if_neg hm]
      cases hk' : dget st.now m with
      | none => rfl
      | some j =>
        have hj := h.idx m j hk'
        rw [Option.map_some, Option.map_some]
        have : fl (newFile (tick st) n) j = fl st j := by
          unfold fl newFile
          show (st.files ++ [(⟨[], []⟩ : Fl)]).getD j _ = _
          rw [List.getD_eq_getElem?_getD, List.getElem?_append_left hj, ← List.getD_eq_getElem?_getD]
        rw [this]
end Go.Proofs.YthjilhjdnefmdaaGreatDoor
/- Plain laws: calls of a calm store that drop and move; the room that is used. Conditions: none. -/
namespace Go.Proofs.YthjilhjdnefmdaaGreatDoor
open Go.RowKit
theorem ddel_mem {d : Dr} {n : Nm} {q : Nm × Nat} (h : q ∈ ddel d n) : q ∈ d := (List.mem_filter.1 h).1
theorem calm_drop {st : St} (h : Calm st) {n : Nm} (hg : goodN n = true) {x : List UInt8} (hv : view st n = some x) : Went (dropA st n) st (fun m => if m = n then none else view st m) := by
  have he : kErr st n = 0 := by rw [calm_err h n hg, hv]; rfl
  have e : dropA st n = (dropD n (tick st), 0) := by
    unfold dropA; rw [if_pos he, calm_counted h]
  rw [e]
  have hd : ∀ m i, dget (ddel st.now n) m = some i → dget st.now m = some i := by
    intro m i hm; rw [dget_ddel] at hm; split at hm
    · cases hm
    · exact hm
  refine ⟨rfl, ⟨⟨ddel_keys _ _ h.keys, fun a b i ha hb => h.inj a b i (hd a i ha) (hd b i hb), fun m i hm => h.idx m i (hd m i hm), fun q hq => h.good q (ddel_mem hq)⟩, h.dark, h.left⟩, fun m => ?_, rfl⟩
  unfold view
  show (dget (ddel st.now n) m).map _ = _
  rw [dget_ddel]
  by_cases hm : m = n
  · simp [hm]
  · rw [if_neg hm, if_neg hm]; rfl
theorem calm_move {st : St} (h : Calm st) {a b : Nm} (_hab : a ≠ b) (hga : goodN a = true) (hgb : goodN b = true) {x : List UInt8} (hv : view st a = some x) : Went (moveA st a b) st (fun m => if m = b then some x else if m = a then none else view st m) := by
  obtain ⟨i, hi, hx, hk⟩ := calm_idx hv
  have he : kErr st a = 0 := by rw [calm_err h a hga, hv]; rfl
  have e : moveA st a b = (moveD i a b (tick st), 0) := by
    unfold moveA; rw [if_neg (by rw [hgb]; simp), if_pos he, calm_counted h, hk]
  rw [e]
  have hd : ∀ m j, dget (dset (ddel st.now a) b i) m = some j → (m = b ∧ j = i) ∨ (m ≠ b ∧ m ≠ a ∧ dget st.now m = some j) := by
    intro m j hm
    rw [dget_dset] at hm
    split at hm
    · rename_i h'; cases hm; exact .inl ⟨h', rfl⟩
    · rename_i h'
      rw [dget_ddel] at hm
      split at hm
      · cases hm
      · rename_i h''; exact .inr ⟨h', h'', hm⟩
  refine ⟨rfl, ⟨⟨dset_keys _ _ _ (ddel_keys _ _ h.keys), ?_, ?_, ?_⟩, h.dark, h.left⟩, fun m => ?_, rfl⟩
  · intro m n j hm hn
    rcases hd m j hm with ⟨h1, h2⟩ | ⟨h1, h2, h3⟩ <;> rcases hd n j hn with ⟨h4, h5⟩ | ⟨h4, h5, h6⟩
    · rw [h1, h4]
    · rw [h2] at h6; exact absurd (h.inj n a i h6 hi) h5
    · rw [h5] at h3; exact absurd (h.inj m a i h3 hi) h2
    · exact h.inj m n j h3 h6
  · intro m j hm
    rcases hd m j hm with ⟨_, h2⟩ | ⟨_, _, h3⟩
    · rw [h2]; exact h.idx a i hi
    · exact h.idx m j h3
  · intro q hq
    rcases dset_mem (m := q.1) (j := q.2) hq with ⟨h1, _⟩ | h2
    · rw [h1]; exact hgb
    · exact h.good q (ddel_mem h2)
  · unfold view
    show (dget (dset (ddel st.now a) b i) m).map _ = _
    rw [dget_dset]
    by_cases hm : m = b
    · rw [if_pos hm, if_pos hm, Option.map_some]
      show some (fl st i).now = _
      rw [hx]
    · rw [if_neg hm, if_neg hm, dget_ddel]
      by_cases hma : m = a
      · rw [if_pos hma, if_pos hma]; rfl
      · rw [if_neg hma, if_neg hma]; rfl

/-- The room that is used goes by what the names are. -/
def costV (v : Nm → Option (List UInt8)) (ks : List Nm) : Int := (ks.map fun n => match v n with | some x => (16 : Int) + x.length | none => 0).sum
theorem used_view {st : St} (h : WF st) : usedA st = costV (view st) (st.now.map (·.1)) := by
  unfold usedA costV
  rw [List.map_map]
  congr 1
  apply List.map_congr_left
  intro q hq
  have hk : dget st.now q.1 = some q.2 := by
    have : ∀ d : Dr, (d.map (·.1)).Nodup → ∀ q ∈ d, dget d q.1 = some q.2 := by
      intro d
      induction d with
      | nil => intro _ q hq; cases hq
      | cons p d ih =>
        intro hn q hq
        rw [List.map_cons, List.nodup_cons] at hn
        rw [dget_cons]
        rcases List.mem_cons.1 hq with rfl | hq
        · simp
        · have hne : ¬ p.1 = q.1 := fun e => hn.1 (by rw [e]; exact List.mem_map_of_mem hq)
          rw [if_neg hne]; exact ih hn.2 q hq
    exact this st.now h.keys q hq
  simp only [Function.comp, view, hk, Option.map_some]
theorem costV_nonneg (v : Nm → Option (List UInt8)) (l : List Nm) : 0 ≤ costV v l := by
  unfold costV
  induction l with
  | nil => simp
  | cons a l ih =>
    rw [List.map_cons, List.sum_cons]
    cases v a with
    | none => simp only; omega
    | some x => simp only; omega
theorem costV_app (v : Nm → Option (List UInt8)) (l r : List Nm) : costV v (l ++ r) = costV v l + costV v r := by
  unfold costV; rw [List.map_append, List.sum_append]
theorem costV_cons (v : Nm → Option (List UInt8)) (a : Nm) (l : List Nm) : costV v (a :: l) = (match v a with | some x => (16 : Int) + x.length | none => 0) + costV v l := by
  unfold costV; rw [List.map_cons, List.sum_cons]
/-- .. and by which keys there are, in whatever order, with others that are none. -/
theorem costV_sub (v : Nm → Option (List UInt8)) : ∀ (ks ls : List Nm), ks.Nodup → (∀ n ∈ ks, (v n).isSome = true → n ∈ ls) → costV v ks ≤ costV v ls := by
  intro ks
  induction ks with
  | nil => intro ls _ _; exact costV_nonneg v ls
  | cons a ks ih =>
    intro ls hk h
    rw [List.nodup_cons] at hk
    rw [costV_cons]
    cases hva : v a with
    | none =>
      have := ih ls hk.2 (fun n hn hs => h n (List.mem_cons_of_mem _ hn) hs)
      simp only
      omega
    | some x =>
      have hm : a ∈ ls := h a (List.mem_cons_self ..) (by rw [hva]; rfl)
      obtain ⟨l1, l2, rfl⟩ := List.append_of_mem hm
      have := ih (l1 ++ l2) hk.2 (fun n hn hs => by
        have hn' := h n (List.mem_cons_of_mem _ hn) hs
        have hne : n ≠ a := by rintro rfl; exact hk.1 hn
        simp only [List.mem_append, List.mem_cons] at hn' ⊢
        rcases hn' with h1 | h1 | h1
        · exact .inl h1
        · exact absurd h1 hne
        · exact .inr h1)
      rw [costV_app] at this
      rw [costV_app, costV_cons, hva]
      simp only
      omega
/-- The room used is at most what the names in a list that holds all of them need. -/
theorem used_le {st : St} (h : WF st) (ls : List Nm) (hl : ∀ n, (view st n).isSome = true → n ∈ ls) : usedA st ≤ costV (view st) ls := by
  rw [used_view h]
  exact costV_sub _ _ _ h.keys (fun n _ hs => hl n hs)
end Go.Proofs.YthjilhjdnefmdaaGreatDoor
/- Plain laws: a log on a calm store is told by Open. Conditions: none. -/
namespace Go.Proofs.YthjilhjdnefmdaaGreatDoor
open Go.RowKit
theorem goodN_check : goodN kCheck = true := by decide
theorem goodN_new : goodN kNew = true := by decide
theorem readA_view {st : St} (h : Calm st) {n : Nm} (hg : goodN n = true) : readA st n = (view st n).getD [] := by
  unfold readA
  rw [calm_err h n hg]
  cases hv : view st n with
  | none => simp
  | some x =>
    obtain ⟨i, hi, hx, hk⟩ := calm_idx hv
    simp [hk, hx]
/-- A log: its first part, the checkpoint, and what each part from the first on holds. -/
structure Log (st : St) (fst : Int) (chk : Option (List UInt8)) (segs : List (List (List UInt8))) : Prop where
  calm : Calm st
  pos : 1 ≤ fst
  ne : segs ≠ []
  few : fst + segs.length ≤ 1000000000
  chk0 : chk = none → fst = 1 ∧ view st kCheck = none
  chk1 : ∀ c, chk = some c → c.length ≤ 1048512 ∧ view st kCheck = some (markB fst c)
  new : view st kNew = none
  segv : ∀ (i : Nat) s, segs[i]? = some s → view st (nameA (fst + (i : Int))) = some (sealsL s)
  none : ∀ n, 1 ≤ n → n ≤ 999999999 → ¬ (fst ≤ n ∧ n < fst + segs.length) → view st (nameA n) = none
  small : ∀ s ∈ segs, ∀ l ∈ s, l.length ≤ 1048512
  only : ∀ m, (view st m).isSome = true → m = kCheck ∨ m = kNew ∨ ∃ n : Int, 1 ≤ n ∧ n ≤ 999999999 ∧ m = nameA n
theorem view_some_iff (st : St) (n : Nm) : (view st n).isSome = true ↔ ∃ q ∈ st.now, q.1 = n := by
  unfold view; rw [Option.isSome_map, dget_some_iff]
theorem Log.found {st : St} {fst : Int} {chk : Option (List UInt8)} {segs : List (List (List UInt8))} (h : Log st fst chk segs) : foundA st = (fst, chk.getD [], 0) := by
  unfold foundA
  rw [calm_err h.calm kCheck goodN_check]
  cases hc : chk with
  | none =>
    obtain ⟨h1, h2⟩ := h.chk0 hc
    rw [h2, h1]; simp
  | some c =>
    obtain ⟨h1, h2⟩ := h.chk1 c hc
    have hp := List.length_pos_iff.2 h.ne
    have hf := h.few
    have := h.pos
    rw [readA_view h.calm goodN_check, h2]
    simp only [Option.isSome_some, if_true, Option.getD_some]
    exact foundB_mark fst h.pos (by omega) c h1
theorem Log.parts {st : St} {fst : Int} {chk : Option (List UInt8)} {segs : List (List (List UInt8))} (h : Log st fst chk segs) (fr : Int) (hfr : fr ≤ fst) : partsA st fr = run fst segs.length := by
  refine partsA_run st fr fst segs.length h.calm.dark h.calm.keys h.pos h.few hfr (fun n _ h1 h2 => ?_)
  rw [← view_some_iff]
  constructor
  · intro hs
    rcases Decidable.em (fst ≤ n ∧ n < fst + segs.length) with hc | hc
    · exact hc
    · rw [h.none n h1 h2 hc] at hs; cases hs
  · rintro ⟨h3, h4⟩
    have hi : (n - fst).toNat < segs.length := by omega
    have := h.segv (n - fst).toNat _ (List.getElem?_eq_getElem hi)
    have e : fst + ((n - fst).toNat : Int) = n := by omega
    rw [e] at this
    rw [this]; rfl
theorem Log.gather {st : St} {fst : Int} {chk : Option (List UInt8)} {segs : List (List (List UInt8))} (h : Log st fst chk segs) : gatherA st (run fst segs.length) fst = (segs.flatten, -1, 0) := by
  have hlen : ∀ k a, (run a k).length = k := by
    intro k
    induction k with
    | zero => intro a; rfl
    | succ k ih => intro a; rw [run, List.length_cons, ih]
  unfold gatherA
  rw [hlen]
  have key : ∀ (k i : Nat) (acc : List (List UInt8)), i + k = segs.length → gatherF st fst segs.length i (run (fst + i) k) acc (-1) = (acc ++ (segs.drop i).flatten, -1, 0) := by
    intro k
    induction k with
    | zero =>
      intro i acc hi
      rw [run, gatherF, List.drop_eq_nil_of_le (by omega)]; simp
    | succ k ih =>
      intro i acc hi
      have hlt : i < segs.length := by omega
      have hv := h.segv i _ (List.getElem?_eq_getElem hlt)
      have hpos := h.pos
      have hfew := h.few
      have hg := goodN_name (fst + i) (by omega) (by omega)
      have hr : readA st (nameA (fst + i)) = sealsL segs[i] := by rw [readA_view h.calm hg, hv]; rfl
      have hw := wholeA_all segs[i] (fun l hl => Nat.le_trans (h.small _ (List.getElem_mem hlt) l hl) (by decide))
      rw [run, gatherF, hr, hw, if_neg (by simp), if_pos rfl]
      have e : fst + (i : Int) + 1 = fst + ((i + 1 : Nat) : Int) := by omega
      rw [e, ih (i + 1) _ (by omega), List.drop_eq_getElem_cons hlt, List.flatten_cons, List.append_assoc]
  have := key segs.length 0 [] (by omega)
  simpa using this
theorem lastOf_run (a : Int) (k : Nat) (f : Int) : lastOf (run a (k + 1)) f = a + k := by
  unfold lastOf
  induction k generalizing a with
  | zero => simp [run]
  | succ k ih =>
    have e : run a (k + 1 + 1) = a :: run (a + 1) (k + 1) := rfl
    rw [e]
    have hne : run (a + 1) (k + 1) ≠ [] := by simp [run]
    rw [List.getLast?_cons_of_ne_nil hne, ih]
    omega
/-- **Open tells the checkpoint and the records, and leaves the store as it was.** -/
theorem Log.opens {st : St} {fst : Int} {chk : Option (List UInt8)} {segs : List (List (List UInt8))} (h : Log st fst chk segs) (part : Int) (hp : 1 ≤ part ∧ part ≤ 1048576) :
    openL st part = ⟨st, fst + segs.length - 1, chk.getD [], segs.flatten, 0⟩ := by
  have hk : kErr st kCheck ≠ 9 := by
    rw [calm_err h.calm kCheck goodN_check]; split <;> decide
  obtain ⟨k, hk1⟩ : ∃ k, segs.length = k + 1 := ⟨segs.length - 1, by have := List.length_pos_iff.2 h.ne; omega⟩
  have hga := h.gather
  have hpa := h.parts fst (Int.le_refl _)
  have hm : mendA st (run fst segs.length) fst (-1) = (st, 0) := by
    unfold mendA; rw [if_neg (by omega), if_neg (by rw [hk1]; simp [run])]
  unfold openL
  rw [if_neg hk, if_neg (by omega), h.found]
  simp only
  rw [hpa, hga]
  simp only
  rw [hm, if_neg (by simp), if_neg (by simp), if_neg (by simp), hk1, lastOf_run]
  simp only [LRes.mk.injEq, true_and, and_true]
  omega
end Go.Proofs.YthjilhjdnefmdaaGreatDoor
/- Plain laws: the first Open; what Add does. Conditions: none. -/
namespace Go.Proofs.YthjilhjdnefmdaaGreatDoor
open Go.RowKit
theorem calm_new (room : Int) : Calm (newA room) :=
  ⟨⟨by simp [newA], fun n m i h => by simp [newA, dget_nil] at h, fun n i h => by simp [newA, dget_nil] at h, fun q hq => by simp [newA] at hq⟩, rfl, by simp [newA]⟩
theorem view_new (room : Int) (n : Nm) : view (newA room) n = none := by simp [view, newA, dget_nil]
theorem name_ne_check (n : Int) : nameA n ≠ kCheck := by
  intro h
  have h2 : nameL n = [99, 104, 101, 99, 107] := by
    have := congrArg (fun a : Nm => a.data.toList) h
    exact this
  unfold nameL at h2
  split at h2
  · cases h2
  · simp [dotLog] at h2
theorem name_ne_new (n : Int) : nameA n ≠ kNew := by
  intro h
  have h2 : nameL n = [99, 104, 101, 99, 107, 46, 110, 101, 119] := by
    have := congrArg (fun a : Nm => a.data.toList) h
    exact this
  unfold nameL at h2
  split at h2
  · cases h2
  · simp [dotLog] at h2
theorem name_inj {n m : Int} (h1 : 1 ≤ n) (h2 : n ≤ 999999999) (h3 : 1 ≤ m) (h4 : m ≤ 999999999) (h : nameA n = nameA m) : n = m :=
  nameL_inj h1 h2 h3 h4 (congrArg (fun a : Nm => a.data.toList) h)
theorem open_new (room : Int) (hr : 16 ≤ room) (part : Int) (hp : 1 ≤ part ∧ part ≤ 1048576) : ∃ st1, openL (newA room) part = ⟨st1, 1, [], [], 0⟩ ∧ Log st1 1 none [[]] ∧ st1.room = room := by
  have hc := calm_new room
  have hk : kErr (newA room) kCheck = 3 := by rw [calm_err hc kCheck goodN_check, view_new]; rfl
  have hf : foundA (newA room) = (1, [], 0) := by unfold foundA; rw [hk]; rfl
  have hpa : partsA (newA room) 1 = [] := by
    unfold partsA namesA namesOf partsOf
    simp [newA]
  have hga : gatherA (newA room) [] 1 = ([], -1, 0) := rfl
  have g1 := goodN_name 1 (by omega) (by omega)
  have hm := calm_make hc g1 (view_new room _) (by unfold freeA usedA; simp [newA]; exact hr)
  have hcm := calm_commit hm.calm
  refine ⟨(commitA (makeA (newA room) (nameA 1)).1).1, ?_, ?_, ?_⟩
  · have hmend : mendA (newA room) [] 1 (-1) = ((commitA (makeA (newA room) (nameA 1)).1).1, 0) := by
      unfold mendA
      rw [if_neg (by omega), if_pos rfl]
      unfold eachA
      rw [if_pos hm.ok]
      unfold eachA
      rw [if_pos hcm.ok]
      rfl
    unfold openL
    rw [hk, if_neg (by decide), if_neg (by omega), hf]
    simp only
    rw [hpa, hga]
    simp only
    rw [hmend, if_neg (by simp), if_neg (by simp), if_neg (by simp)]
    rfl
  · have hv : ∀ m, view (commitA (makeA (newA room) (nameA 1)).1).1 m = if m = nameA 1 then some [] else none := by
      intro m
      rw [hcm.view, hm.view, view_new]
    refine ⟨hcm.calm, by omega, by simp, by simp, fun _ => ⟨rfl, ?_⟩, (fun c h => by cases h), ?_, ?_, ?_, ?_, ?_⟩
    · rw [hv, if_neg (fun h => name_ne_check 1 h.symm)]
    · rw [hv, if_neg (fun h => name_ne_new 1 h.symm)]
    · intro i s hs
      cases i with
      | zero =>
        simp at hs
        subst hs
        rw [hv, if_pos (by simp)]; rfl
      | succ i => simp at hs
    · intro n h1 h2 h3
      rw [hv, if_neg (fun h => by
        have := name_inj h1 h2 (by omega) (by omega) h
        apply h3; simp; omega)]
    · intro s hs l hl
      simp at hs
      subst hs
      cases hl
    · intro m hs
      rw [hv] at hs
      split at hs
      · rename_i hm'; exact .inr (.inr ⟨1, by omega, by omega, hm'⟩)
      · cases hs
  · rw [hcm.room, hm.room]; rfl
end Go.Proofs.YthjilhjdnefmdaaGreatDoor
/- Plain laws: Flush of a log on a calm store. Conditions: none. -/
namespace Go.Proofs.YthjilhjdnefmdaaGreatDoor
open Go.RowKit
theorem sealsL_app (a b : List (List UInt8)) : sealsL (a ++ b) = sealsL a ++ sealsL b := by unfold sealsL; simp
theorem Log.last_view {st : St} {fst : Int} {chk : Option (List UInt8)} {pre : List (List (List UInt8))} {s : List (List UInt8)} (h : Log st fst chk (pre ++ [s])) : view st (nameA (fst + pre.length)) = some (sealsL s) :=
  h.segv pre.length s (by rw [List.getElem?_append_right (Nat.le_refl _)]; simp)
/-- The last part turns: what was a log is one with that part's records. -/
theorem Log.turnLast {st st' : St} {fst : Int} {chk : Option (List UInt8)} {pre : List (List (List UInt8))} {s s' : List (List UInt8)} (h : Log st fst chk (pre ++ [s])) (hc : Calm st')
    (hv : ∀ m, view st' m = if m = nameA (fst + pre.length) then some (sealsL s') else view st m) (hs : ∀ l ∈ s', l.length ≤ 1048512) : Log st' fst chk (pre ++ [s']) := by
  have hf := h.few
  have hp := h.pos
  rw [List.length_append, List.length_singleton] at hf
  have hlen : (pre ++ [s']).length = (pre ++ [s]).length := by simp
  have hnc : ∀ n : Int, kCheck ≠ nameA n := fun n e => name_ne_check n e.symm
  have hnn : ∀ n : Int, kNew ≠ nameA n := fun n e => name_ne_new n e.symm
  refine ⟨hc, hp, by simp, by rw [hlen]; exact h.few, (fun hn => ⟨(h.chk0 hn).1, ?_⟩), (fun c hcc => ⟨(h.chk1 c hcc).1, ?_⟩), ?_, ?_, ?_, ?_, ?_⟩
  · rw [hv, if_neg (hnc _)]; exact (h.chk0 hn).2
  · rw [hv, if_neg (hnc _)]; exact (h.chk1 c hcc).2
  · rw [hv, if_neg (hnn _)]; exact h.new
  · intro i t ht
    have hlt : i < pre.length + 1 := by
      have := (List.getElem?_eq_some_iff.1 ht).1; simpa using this
    rw [hv]
    by_cases hi : i = pre.length
    · subst hi
      rw [List.getElem?_append_right (Nat.le_refl _)] at ht
      simp at ht
      subst ht
      rw [if_pos rfl]
    · have hi' : i < pre.length := by omega
      rw [List.getElem?_append_left hi'] at ht
      rw [if_neg (fun e => by
        have := name_inj (by omega) (by omega) (by omega) (by omega) e
        omega)]
      exact h.segv i t (by rw [List.getElem?_append_left hi']; exact ht)
  · intro n h1 h2 h3
    rw [hlen] at h3
    rw [hv, if_neg (fun e => by
      have := name_inj h1 h2 (by omega) (by omega) e
      apply h3
      rw [List.length_append, List.length_singleton]
      omega)]
    exact h.none n h1 h2 h3
  · intro t ht l hl
    rcases List.mem_append.1 ht with ht | ht
    · exact h.small t (List.mem_append_left _ ht) l hl
    · simp at ht; subst ht; exact hs l hl
  · intro m hm
    rw [hv] at hm
    split at hm
    · rename_i hm'; exact .inr (.inr ⟨fst + pre.length, by omega, by omega, hm'⟩)
    · exact h.only m hm
theorem Log.flushE {st : St} {fst : Int} {chk : Option (List UInt8)} {pre : List (List (List UInt8))} {s : List (List UInt8)} (h : Log st fst chk (pre ++ [s])) (L : LM) (hl : L.last = fst + pre.length) (hw : ∀ l ∈ L.waits, l.length ≤ 1048512)
    (hroom : ((sealsL L.waits).length : Int) ≤ freeA st) : (flushE st L).2 = 0 ∧ Log (flushE st L).1 fst chk (pre ++ [s ++ L.waits]) ∧ (flushE st L).1.room = st.room ∧ (∀ m, view (flushE st L).1 m = if m = nameA (fst + pre.length) then some (sealsL (s ++ L.waits)) else view st m) := by
  have hf := h.few
  have hp := h.pos
  rw [List.length_append, List.length_singleton] at hf
  have hg := goodN_name (fst + pre.length) (by omega) (by omega)
  have h1 := calm_write h.calm hg (sealsL L.waits) h.last_view hroom
  have hv2 : view (writeA st (nameA (fst + pre.length)) (sealsL L.waits)).1 (nameA (fst + pre.length)) = some (sealsL s ++ sealsL L.waits) := by rw [h1.view, if_pos rfl]
  have h2 := calm_sync h1.calm hg hv2
  have e : Go.Proofs.YthjilhjdnefmdaaGreatDoor.flushE st L = ((syncA (writeA st (nameA (fst + pre.length)) (sealsL L.waits)).1 (nameA (fst + pre.length))).1, 0) := by
    unfold Go.Proofs.YthjilhjdnefmdaaGreatDoor.flushE
    rw [hl]
    unfold eachA
    rw [if_pos h1.ok]
    unfold eachA
    rw [if_pos h2.ok]
    rfl
  have hv : ∀ m, view (syncA (writeA st (nameA (fst + pre.length)) (sealsL L.waits)).1 (nameA (fst + pre.length))).1 m = if m = nameA (fst + pre.length) then some (sealsL (s ++ L.waits)) else view st m := by
    intro m; rw [h2.view, h1.view, sealsL_app]
  rw [e]
  refine ⟨rfl, h.turnLast h2.calm hv ?_, by rw [h2.room, h1.room], hv⟩
  intro l hl'
  rcases List.mem_append.1 hl' with hl' | hl'
  · exact h.small s (by simp) l hl'
  · exact hw l hl'
end Go.Proofs.YthjilhjdnefmdaaGreatDoor
/- Plain laws: the next part of a log on a calm store. Conditions: none. -/
namespace Go.Proofs.YthjilhjdnefmdaaGreatDoor
open Go.RowKit
/-- One part more, with nothing in it. -/
theorem Log.more {st st' : St} {fst : Int} {chk : Option (List UInt8)} {segs : List (List (List UInt8))} (h : Log st fst chk segs) (hc : Calm st') (hm : fst + segs.length ≤ 999999999)
    (hv : ∀ m, view st' m = if m = nameA (fst + segs.length) then some [] else view st m) : Log st' fst chk (segs ++ [[]]) := by
  have hf := h.few
  have hp := h.pos
  have hlen : ((segs ++ [[]]).length : Int) = segs.length + 1 := by simp
  have hnc : ∀ n : Int, kCheck ≠ nameA n := fun n e => name_ne_check n e.symm
  have hnn : ∀ n : Int, kNew ≠ nameA n := fun n e => name_ne_new n e.symm
  refine ⟨hc, hp, by simp, by omega, (fun hn => ⟨(h.chk0 hn).1, ?_⟩), (fun c hcc => ⟨(h.chk1 c hcc).1, ?_⟩), ?_, ?_, ?_, ?_, ?_⟩
  · rw [hv, if_neg (hnc _)]; exact (h.chk0 hn).2
  · rw [hv, if_neg (hnc _)]; exact (h.chk1 c hcc).2
  · rw [hv, if_neg (hnn _)]; exact h.new
  · intro i t ht
    rw [hv]
    by_cases hi : i = segs.length
    · subst hi
      rw [List.getElem?_append_right (Nat.le_refl _)] at ht
      simp at ht
      subst ht
      rw [if_pos rfl]; rfl
    · have hlt : i < segs.length := by
        have := (List.getElem?_eq_some_iff.1 ht).1
        simp at this; omega
      rw [List.getElem?_append_left hlt] at ht
      rw [if_neg (fun e => by
        have := name_inj (by omega) (by omega) (by omega) (by omega) e
        omega)]
      exact h.segv i t ht
  · intro n h1 h2 h3
    rw [hv, if_neg (fun e => by
      have := name_inj h1 h2 (by omega) (by omega) e
      apply h3; omega)]
    exact h.none n h1 h2 (fun hh => h3 (by omega))
  · intro t ht l hl
    rcases List.mem_append.1 ht with ht | ht
    · exact h.small t ht l hl
    · simp at ht; subst ht; cases hl
  · intro m hs
    rw [hv] at hs
    split at hs
    · rename_i hm'; exact .inr (.inr ⟨fst + segs.length, by omega, by omega, hm'⟩)
    · exact h.only m hs
theorem Log.turnA {st : St} {fst : Int} {chk : Option (List UInt8)} {segs : List (List (List UInt8))} (h : Log st fst chk segs) (L : LM) (hl : L.last + 1 = fst + segs.length) (hm : L.last < 999999999) (hroom : 16 ≤ freeA st) :
    ∃ st2, Go.Proofs.YthjilhjdnefmdaaGreatDoor.turnA st L = (st2, { L with last := L.last + 1 }, 0) ∧ Log st2 fst chk (segs ++ [[]]) ∧ st2.room = st.room ∧ (∀ m, view st2 m = if m = nameA (fst + segs.length) then some [] else view st m) := by
  have hp := h.pos
  have hg := goodN_name (fst + segs.length) (by omega) (by omega)
  have hn := h.none (fst + segs.length) (by omega) (by omega) (by omega)
  have h1 := calm_make h.calm hg hn hroom
  have h2 := calm_commit h1.calm
  have hv : ∀ m, view (commitA (makeA st (nameA (fst + segs.length))).1).1 m = if m = nameA (fst + segs.length) then some [] else view st m := by
    intro m; rw [h2.view, h1.view]
  refine ⟨(commitA (makeA st (nameA (fst + segs.length))).1).1, ?_, h.more h2.calm (by omega) hv, by rw [h2.room, h1.room], hv⟩
  unfold Go.Proofs.YthjilhjdnefmdaaGreatDoor.turnA
  rw [hl, if_neg (by rw [h1.ok]; decide), if_neg (by rw [h1.ok]; simp), if_neg (by rw [h2.ok]; simp)]
end Go.Proofs.YthjilhjdnefmdaaGreatDoor
/- Plain laws: a checkpoint of a log on a calm store. Conditions: none. -/
namespace Go.Proofs.YthjilhjdnefmdaaGreatDoor
open Go.RowKit
/-- Each step of a row went well: so did the row. -/
theorem eachA_step {f : St → St × Int} {r : List (St → St × Int)} {st : St} (h : (f st).2 = 0) : eachA (f :: r) st = eachA r (f st).1 := by
  conv => lhs; unfold eachA
  rw [if_pos h]
theorem eachA_nil (st : St) : eachA [] st = (st, 0) := rfl
theorem kNew_ne_kCheck : kNew ≠ kCheck := by decide
/-- Mark's steps: the checkpoint is the new one, the next part is there. -/
theorem calm_mark {st : St} (h : Calm st) {n : Int} (h1 : 1 ≤ n) (h2 : n ≤ 999999999) (b : List UInt8) (hn : view st kNew = none) (hp : view st (nameA n) = none)
    (hr1 : 16 ≤ freeA st) (hr2 : ∀ s, (∀ m, view s m = if m = kNew then some [] else view st m) → Calm s → s.room = st.room → (b.length : Int) ≤ freeA s)
    (hr3 : ∀ s, (∀ m, view s m = if m = kNew then some b else view st m) → Calm s → s.room = st.room → 16 ≤ freeA s) :
    Went (markE st n b) st (fun m => if m = kCheck then some b else if m = kNew then none else if m = nameA n then some [] else view st m) := by
  have hg := goodN_name n h1 h2
  have m1 : mark1A st = (st, 0) := by
    unfold mark1A
    rw [if_pos (by rw [calm_err h kNew goodN_new, hn]; decide)]
  have g2 := calm_make h goodN_new hn hr1
  have v2 := g2.view
  have x2 : view (makeA st kNew).1 kNew = some [] := by rw [v2, if_pos rfl]
  have g3 := calm_write g2.calm goodN_new b x2 (hr2 _ v2 g2.calm g2.room)
  have v3 : ∀ m, view (writeA (makeA st kNew).1 kNew b).1 m = if m = kNew then some b else view st m := by
    intro m; rw [g3.view, v2]; split
    · rw [List.nil_append]
    · rfl
  have x3 : view (writeA (makeA st kNew).1 kNew b).1 kNew = some b := by rw [v3, if_pos rfl]
  have g4 := calm_sync g3.calm goodN_new x3
  have v4 : ∀ m, view (syncA (writeA (makeA st kNew).1 kNew b).1 kNew).1 m = if m = kNew then some b else view st m := fun m => by rw [g4.view, v3]
  have r4 : (syncA (writeA (makeA st kNew).1 kNew b).1 kNew).1.room = st.room := by rw [g4.room, g3.room, g2.room]
  have x4 : view (syncA (writeA (makeA st kNew).1 kNew b).1 kNew).1 (nameA n) = none := by rw [v4, if_neg (name_ne_new n), hp]
  have g5 := calm_make g4.calm hg x4 (hr3 _ v4 g4.calm r4)
  generalize hs5 : makeA (syncA (writeA (makeA st kNew).1 kNew b).1 kNew).1 (nameA n) = s5 at g5
  have v5 : ∀ m, view s5.1 m = if m = nameA n then some [] else if m = kNew then some b else view st m := fun m => by rw [g5.view, v4]
  have x5 : view s5.1 kNew = some b := by rw [v5, if_neg (fun e => name_ne_new n e.symm), if_pos rfl]
  have g6 := calm_move g5.calm kNew_ne_kCheck goodN_new goodN_check x5
  have g7 := calm_commit g6.calm
  have e : markE st n b = ((commitA (moveA s5.1 kNew kCheck).1).1, 0) := by
    unfold markE
    rw [eachA_step (by rw [m1]), m1, eachA_step g2.ok, eachA_step g3.ok, eachA_step g4.ok]
    rw [eachA_step (by rw [hs5]; exact g5.ok), hs5, eachA_step g6.ok, eachA_step g7.ok, eachA_nil]
  rw [e]
  refine ⟨rfl, g7.calm, fun m => ?_, by rw [g7.room, g6.room, g5.room, r4]⟩
  rw [g7.view, g6.view]
  by_cases c1 : m = kCheck
  · rw [if_pos c1, if_pos c1]
  · rw [if_neg c1, if_neg c1]
    by_cases c2 : m = kNew
    · rw [if_pos c2, if_pos c2]
    · rw [if_neg c2, if_neg c2, v5]
      split
      · rfl
      · first | rfl | rw [if_neg c2]
end Go.Proofs.YthjilhjdnefmdaaGreatDoor
/- Plain laws: elder parts go from a calm store. Conditions: none. -/
namespace Go.Proofs.YthjilhjdnefmdaaGreatDoor
open Go.RowKit
/-- Of a row of parts that all lie there, all but the last one go; then the directory is committed. -/
theorem calm_clean {last : Int} : ∀ (all : List Int) (st : St), Calm st → all.Nodup → (∀ n ∈ all, 1 ≤ n ∧ n ≤ 999999999 ∧ (view st (nameA n)).isSome = true) →
    Went (cleanF last all st) st (fun m => if ∃ n ∈ all, n ≠ last ∧ m = nameA n then none else view st m) := by
  intro all
  induction all with
  | nil =>
    intro st h _ _
    have g := calm_commit h
    rw [cleanF]
    exact ⟨g.ok, g.calm, fun m => by rw [g.view, if_neg (by simp)], g.room⟩
  | cons a r ih =>
    intro st h hn hv
    rw [List.nodup_cons] at hn
    obtain ⟨a1, a2, a3⟩ := hv a (List.mem_cons_self ..)
    rw [cleanF]
    by_cases ha : a = last
    · rw [if_pos ha]
      have g := ih st h hn.2 (fun n hm => hv n (List.mem_cons_of_mem _ hm))
      refine ⟨g.ok, g.calm, fun m => ?_, g.room⟩
      rw [g.view]
      have : (∃ n ∈ r, n ≠ last ∧ m = nameA n) ↔ (∃ n ∈ a :: r, n ≠ last ∧ m = nameA n) := by
        constructor
        · rintro ⟨n, h1, h2⟩; exact ⟨n, List.mem_cons_of_mem _ h1, h2⟩
        · rintro ⟨n, h1, h2, h3⟩
          rcases List.mem_cons.1 h1 with rfl | h1
          · exact absurd ha h2
          · exact ⟨n, h1, h2, h3⟩
      simp only [this]
    · rw [if_neg ha]
      obtain ⟨x, hx⟩ := Option.isSome_iff_exists.1 a3
      have g := calm_drop h (goodN_name a a1 a2) hx
      rw [if_neg (by rw [g.ok]; simp)]
      have g2 := ih _ g.calm hn.2 (fun n hm => by
        obtain ⟨b1, b2, b3⟩ := hv n (List.mem_cons_of_mem _ hm)
        refine ⟨b1, b2, ?_⟩
        rw [g.view, if_neg (fun e => by
          have := name_inj b1 b2 a1 a2 e
          subst this; exact hn.1 hm)]
        exact b3)
      refine ⟨g2.ok, g2.calm, fun m => ?_, by rw [g2.room, g.room]⟩
      rw [g2.view, g.view]
      by_cases c1 : ∃ n ∈ r, n ≠ last ∧ m = nameA n
      · rw [if_pos c1, if_pos (by obtain ⟨n, h1, h2⟩ := c1; exact ⟨n, List.mem_cons_of_mem _ h1, h2⟩)]
      · rw [if_neg c1]
        by_cases c2 : m = nameA a
        · rw [if_pos c2, if_pos ⟨a, List.mem_cons_self .., ha, c2⟩]
        · rw [if_neg c2, if_neg (by
            rintro ⟨n, h1, h2, h3⟩
            rcases List.mem_cons.1 h1 with rfl | h1
            · exact c2 h3
            · exact c1 ⟨n, h1, h2, h3⟩)]
end Go.Proofs.YthjilhjdnefmdaaGreatDoor
/- Plain laws: behind Mark there is a log with the new checkpoint. Conditions: none. -/
namespace Go.Proofs.YthjilhjdnefmdaaGreatDoor
open Go.RowKit
theorem run_nodup (a : Int) (k : Nat) : (run a k).Nodup := (run_sorted k a).imp (by intro x y h; omega)
theorem Log.marked {st st1 : St} {fst : Int} {chk : Option (List UInt8)} {segs : List (List (List UInt8))} (h : Log st fst chk segs) (c : List UInt8) (hc : c.length ≤ 1048512) (hm : fst + segs.length ≤ 999999999) (h1 : Calm st1)
    (hv : ∀ m, view st1 m = if m = kCheck then some (markB (fst + segs.length) c) else if m = kNew then Option.none else if m = nameA (fst + segs.length) then some [] else view st m) :
    (cleanA st1 (fst + segs.length)).2 = 0 ∧ Log (cleanA st1 (fst + segs.length)).1 (fst + segs.length) (some c) [[]] ∧ (cleanA st1 (fst + segs.length)).1.room = st1.room ∧ partsA (cleanA st1 (fst + segs.length)).1 1 = [fst + segs.length] := by
  have hp := h.pos
  have hcn : ∀ n : Int, nameA n ≠ kCheck := name_ne_check
  have hnn : ∀ n : Int, nameA n ≠ kNew := name_ne_new
  have vp : ∀ n, 1 ≤ n → n ≤ 999999999 → ((view st1 (nameA n)).isSome = true ↔ fst ≤ n ∧ n < fst + ((segs.length + 1 : Nat) : Int)) := by
    intro n n1 n2
    rw [hv, if_neg (hcn n), if_neg (hnn n)]
    by_cases e : nameA n = nameA (fst + segs.length)
    · have := name_inj n1 n2 (by omega) (by omega) e
      rw [if_pos e]; simp; omega
    · rw [if_neg e]
      have hne : n ≠ fst + segs.length := by rintro rfl; exact e rfl
      by_cases hr : fst ≤ n ∧ n < fst + segs.length
      · have hi : (n - fst).toNat < segs.length := by omega
        have := h.segv (n - fst).toNat _ (List.getElem?_eq_getElem hi)
        have e2 : fst + ((n - fst).toNat : Int) = n := by omega
        rw [e2] at this
        rw [this]; simp; omega
      · rw [h.none n n1 n2 hr]; simp; omega
  have hpa : partsA st1 1 = run fst (segs.length + 1) := by
    refine partsA_run st1 1 fst (segs.length + 1) h1.dark h1.keys hp (by omega) hp (fun n _ n1 n2 => ?_)
    rw [← view_some_iff]; exact vp n n1 n2
  have g := calm_clean (last := fst + segs.length) (run fst (segs.length + 1)) st1 h1 (run_nodup _ _) (fun n hn => by
    have := (mem_run _ _ _).1 hn
    exact ⟨by omega, by omega, (vp n (by omega) (by omega)).2 this⟩)
  have e : cleanA st1 (fst + segs.length) = cleanF (fst + segs.length) (run fst (segs.length + 1)) st1 := by unfold cleanA; rw [hpa]
  rw [e]
  have hkeep : ∀ m, (∀ n : Int, m ≠ nameA n) → view (cleanF (fst + segs.length) (run fst (segs.length + 1)) st1).1 m = view st1 m := by
    intro m hm'
    rw [g.view, if_neg (by rintro ⟨n, _, _, h3⟩; exact hm' n h3)]
  have hlog : Log (cleanF (fst + segs.length) (run fst (segs.length + 1)) st1).1 (fst + segs.length) (some c) [[]] := by
    refine ⟨g.calm, by omega, by simp, by simp; omega, (fun hn => by cases hn), (fun c' hc' => ?_), ?_, ?_, ?_, ?_, ?_⟩
    · cases hc'
      refine ⟨hc, ?_⟩
      rw [hkeep _ (fun n e => hcn n e.symm), hv, if_pos rfl]
    · rw [hkeep _ (fun n e => hnn n e.symm), hv, if_neg kNew_ne_kCheck, if_pos rfl]
    · intro i s hs
      cases i with
      | zero =>
        simp at hs
        subst hs
        rw [g.view, if_neg (by
          rintro ⟨n, h2, h3, h4⟩
          have hr := (mem_run _ _ _).1 h2
          have := name_inj (by omega) (by omega) (by omega) (by omega) h4
          apply h3; simp at this; omega), hv, if_neg (hcn _), if_neg (hnn _), if_pos (by simp)]
        rfl
      | succ i => simp at hs
    · intro n n1 n2 n3
      rw [g.view]
      split
      · rfl
      · rename_i hx
        have hnr : ¬ (fst ≤ n ∧ n < fst + ((segs.length + 1 : Nat) : Int)) := by
          intro hr
          apply hx
          exact ⟨n, (mem_run _ _ _).2 hr, (by rintro rfl; apply n3; constructor <;> simp <;> omega), rfl⟩
        cases hvv : view st1 (nameA n) with
        | none => rfl
        | some x =>
          have := (vp n n1 n2).1 (by rw [hvv]; rfl)
          exact absurd this hnr
    · intro s hs l hl
      simp at hs
      subst hs
      cases hl
    · intro m hs
      rw [g.view] at hs
      split at hs
      · cases hs
      · rw [hv] at hs
        split at hs
        · rename_i hm'; exact .inl hm'
        · split at hs
          · cases hs
          · split at hs
            · rename_i hm'; exact .inr (.inr ⟨fst + segs.length, by omega, by omega, hm'⟩)
            · exact h.only m hs
  refine ⟨g.ok, hlog, g.room, ?_⟩
  have := hlog.parts 1 (by omega)
  rw [this]; rfl
end Go.Proofs.YthjilhjdnefmdaaGreatDoor
/- Plain laws: the room a log uses. Conditions: none. -/
namespace Go.Proofs.YthjilhjdnefmdaaGreatDoor
open Go.RowKit
/-- What a log's parts need. -/
def segCost (segs : List (List (List UInt8))) : Int := (segs.map fun s => (16 : Int) + (sealsL s).length).sum
theorem segCost_app (a b : List (List (List UInt8))) : segCost (a ++ b) = segCost a + segCost b := by unfold segCost; rw [List.map_append, List.sum_append]
theorem segCost_one (s : List (List UInt8)) : segCost [s] = 16 + (sealsL s).length := by simp [segCost]
theorem Log.segs_cost {st : St} {fst : Int} {chk : Option (List UInt8)} {segs : List (List (List UInt8))} (h : Log st fst chk segs) : costV (view st) ((run fst segs.length).map nameA) = segCost segs := by
  have key : ∀ (k i : Nat), i + k = segs.length → costV (view st) ((run (fst + i) k).map nameA) = segCost (segs.drop i) := by
    intro k
    induction k with
    | zero =>
      intro i hi
      rw [List.drop_eq_nil_of_le (by omega)]; rfl
    | succ k ih =>
      intro i hi
      have hlt : i < segs.length := by omega
      have hv := h.segv i _ (List.getElem?_eq_getElem hlt)
      have e : fst + (i : Int) + 1 = fst + ((i + 1 : Nat) : Int) := by omega
      rw [run, List.map_cons, costV_cons, hv, e, ih (i + 1) (by omega), List.drop_eq_getElem_cons hlt]
      simp only [segCost, List.map_cons, List.sum_cons]
  have := key segs.length 0 (by omega)
  simpa using this
def chkCost (fst : Int) (chk : Option (List UInt8)) : Int := match chk with | some c => 16 + (markB fst c).length | none => 0
theorem Log.used {st : St} {fst : Int} {chk : Option (List UInt8)} {segs : List (List (List UInt8))} (h : Log st fst chk segs) : usedA st ≤ chkCost fst chk + segCost segs := by
  have hu := used_le h.calm.toWF (kCheck :: (run fst segs.length).map nameA) (fun m hm => by
    rcases h.only m hm with rfl | rfl | ⟨n, n1, n2, rfl⟩
    · exact List.mem_cons_self ..
    · rw [h.new] at hm; cases hm
    · rcases Decidable.em (fst ≤ n ∧ n < fst + segs.length) with hr | hr
      · exact List.mem_cons_of_mem _ (List.mem_map_of_mem ((mem_run _ _ _).2 hr))
      · rw [h.none n n1 n2 hr] at hm; cases hm)
  rw [costV_cons, h.segs_cost] at hu
  cases hc : chk with
  | none => rw [(h.chk0 hc).2] at hu; exact hu
  | some c => rw [(h.chk1 c hc).2] at hu; exact hu
end Go.Proofs.YthjilhjdnefmdaaGreatDoor
/- Plain laws: Flush whole. Conditions: none. -/
namespace Go.Proofs.YthjilhjdnefmdaaGreatDoor
open Go.RowKit
theorem calm_may {st : St} (h : Calm st) {L : LM} (hd : L.dead = false) : mayA st L = 0 := by unfold mayA; rw [hd, h.dark]; rfl
theorem segCost_snoc (pre : List (List (List UInt8))) (s ws : List (List UInt8)) : segCost (pre ++ [s ++ ws]) = segCost (pre ++ [s]) + (sealsL ws).length := by
  rw [segCost_app, segCost_app, segCost_one, segCost_one, sealsL_app, List.length_append]; omega
/-- Flush of a log that is not dead: what waited is behind what was. -/
theorem Log.flush {st : St} {fst : Int} {chk : Option (List UInt8)} {pre : List (List (List UInt8))} {s : List (List UInt8)} (h : Log st fst chk (pre ++ [s])) (L : LM) (hl : L.last = fst + pre.length) (hd : L.dead = false) (hw : ∀ l ∈ L.waits, l.length ≤ 1048512)
    (hm : fst + pre.length + 1 ≤ 999999999) (hroom : chkCost fst chk + segCost (pre ++ [s]) + (sealsL L.waits).length + 16 ≤ st.room) :
    ∃ st2 L2 pre2 s2, flushA st L = (st2, L2, 0) ∧ Log st2 fst chk (pre2 ++ [s2]) ∧ (pre2 ++ [s2]).flatten = (pre ++ [s]).flatten ++ L.waits ∧ L2 = { L with waits := [], last := L2.last } ∧ L2.last = fst + pre2.length ∧ st2.room = st.room ∧
      pre2.length ≤ pre.length + 1 ∧ segCost (pre2 ++ [s2]) ≤ segCost (pre ++ [s]) + (sealsL L.waits).length + 16 := by
  have hmay := calm_may h.calm hd
  obtain ⟨part, last, waits, dead⟩ := L
  simp only at hl hd hw hroom
  subst hl hd
  by_cases hwe : waits = []
  · subst hwe
    refine ⟨st, ⟨part, fst + pre.length, [], false⟩, pre, s, ?_, h, by simp, rfl, rfl, rfl, by omega, by simp [sealsL]; omega⟩
    unfold flushA
    rw [if_neg (by rw [hmay]; simp), if_pos rfl]
  · have hu := h.used
    obtain ⟨f1, f2, f3, f4⟩ := h.flushE ⟨part, fst + pre.length, waits, false⟩ rfl hw (by unfold freeA; simp only; omega)
    have e0 : flushA st ⟨part, fst + pre.length, waits, false⟩ = flushT (Go.Proofs.YthjilhjdnefmdaaGreatDoor.flushE st ⟨part, fst + pre.length, waits, false⟩).1 ⟨part, fst + pre.length, waits, false⟩ := by
      unfold flushA
      rw [if_neg (by rw [hmay]; simp), if_neg hwe, if_neg (by rw [f1]; simp)]
    rw [e0]
    generalize Go.Proofs.YthjilhjdnefmdaaGreatDoor.flushE st ⟨part, fst + pre.length, waits, false⟩ = T at *
    simp only at f2 f4
    have hu2 := f2.used
    rw [segCost_snoc] at hu2
    unfold flushT
    simp only
    by_cases hc : ((readA T.1 (nameA (fst + pre.length))).length : Int) ≤ part ∨ 999999999 ≤ fst + (pre.length : Int)
    · rw [if_pos hc]
      exact ⟨T.1, ⟨part, fst + pre.length, [], false⟩, pre, s ++ waits, rfl, f2, by simp, rfl, rfl, f3, by omega, by rw [segCost_snoc]; omega⟩
    · rw [if_neg hc]
      obtain ⟨st2, t1, t2, t3, t4⟩ := f2.turnA ⟨part, fst + pre.length, [], false⟩ (by simp; omega) (by simp only; omega) (by unfold freeA; omega)
      refine ⟨st2, _, pre ++ [s ++ waits], [], t1, t2, by simp, rfl, by simp; omega, by rw [t3, f3], by simp, ?_⟩
      rw [segCost_app, segCost_snoc, segCost_one]; simp [sealsL]
end Go.Proofs.YthjilhjdnefmdaaGreatDoor
/- Plain laws: the room while a checkpoint is made. Conditions: none. -/
namespace Go.Proofs.YthjilhjdnefmdaaGreatDoor
open Go.RowKit
theorem costV_congr (v v' : Nm → Option (List UInt8)) (l : List Nm) (h : ∀ n ∈ l, v n = v' n) : costV v l = costV v' l := by
  unfold costV
  congr 1
  exact List.map_congr_left (fun n hn => by rw [h n hn])
/-- The room of a log beside which the coming checkpoint lies. -/
theorem Log.used_new {st s : St} {fst : Int} {chk : Option (List UInt8)} {segs : List (List (List UInt8))} (h : Log st fst chk segs) (hs : Calm s) (x : List UInt8) (hv : ∀ m, view s m = if m = kNew then some x else view st m) :
    usedA s ≤ 16 + x.length + chkCost fst chk + segCost segs := by
  have hu := used_le hs.toWF (kNew :: kCheck :: (run fst segs.length).map nameA) (fun m hm => by
    rw [hv] at hm
    split at hm
    · rename_i e; rw [e]; exact List.mem_cons_self ..
    · rcases h.only m hm with rfl | rfl | ⟨n, n1, n2, rfl⟩
      · exact List.mem_cons_of_mem _ (List.mem_cons_self ..)
      · exact List.mem_cons_self ..
      · rcases Decidable.em (fst ≤ n ∧ n < fst + segs.length) with hr | hr
        · exact List.mem_cons_of_mem _ (List.mem_cons_of_mem _ (List.mem_map_of_mem ((mem_run _ _ _).2 hr)))
        · rw [h.none n n1 n2 hr] at hm; cases hm)
  have e1 : costV (view s) ((run fst segs.length).map nameA) = segCost segs := by
    rw [← h.segs_cost]
    apply costV_congr
    intro m hm
    obtain ⟨n, _, rfl⟩ := List.mem_map.1 hm
    rw [hv, if_neg (name_ne_new n)]
  have e2 : view s kNew = some x := by rw [hv, if_pos rfl]
  have e3 : view s kCheck = view st kCheck := by rw [hv, if_neg (fun e => kNew_ne_kCheck e.symm)]
  rw [costV_cons, costV_cons, e1, e2, e3] at hu
  cases hc : chk with
  | none => rw [(h.chk0 hc).2] at hu; simp only [chkCost] at hu ⊢; omega
  | some c => rw [(h.chk1 c hc).2] at hu; simp only [chkCost] at hu ⊢; omega
end Go.Proofs.YthjilhjdnefmdaaGreatDoor
/- Plain laws: Mark whole. Conditions: none. -/
namespace Go.Proofs.YthjilhjdnefmdaaGreatDoor
open Go.RowKit
/-- Mark's own part, behind its Flush. -/
theorem Log.markF {st : St} {fst : Int} {chk : Option (List UInt8)} {segs : List (List (List UInt8))} (h : Log st fst chk segs) (L : LM) (hl : L.last + 1 = fst + segs.length) (hm : fst + segs.length ≤ 999999999) (hd : L.dead = false) (c : List UInt8) (hc : c.length ≤ 1048512)
    (hroom : chkCost fst chk + segCost segs + (c.length + 16) + 32 ≤ st.room) :
    ∃ st2, Go.Proofs.YthjilhjdnefmdaaGreatDoor.markF st L c = (st2, { L with last := L.last + 1 }, 0) ∧ Log st2 (L.last + 1) (some c) [[]] ∧ st2.room = st.room ∧ partsA st2 1 = [L.last + 1] := by
  have hp := h.pos
  have hu := h.used
  have hb : (markB (L.last + 1) c).length = c.length + 16 := by
    unfold markB; rw [sealL_len, List.length_append, putB_len]; omega
  have g := calm_mark h.calm (n := L.last + 1) (by omega) (by omega) (markB (L.last + 1) c) h.new (by rw [hl]; exact h.none _ (by omega) (by omega) (by omega)) (by unfold freeA; omega)
    (fun s hv hs hr => by have := h.used_new hs [] hv; simp only [List.length_nil] at this; unfold freeA; rw [hr, hb]; omega)
    (fun s hv hs hr => by have := h.used_new hs _ hv; rw [hb] at this; unfold freeA; rw [hr]; omega)
  have hv := g.view
  rw [hl] at hv
  obtain ⟨q1, q2, q3, q4⟩ := h.marked c hc hm g.calm (by intro m; have := hv m; rw [hl]; exact this)
  rw [← hl] at q1 q2 q3 q4
  refine ⟨_, ?_, q2, by rw [q3, g.room], q4⟩
  unfold Go.Proofs.YthjilhjdnefmdaaGreatDoor.markF
  rw [if_neg (by rw [g.ok]; simp)]
  unfold markT
  rw [q1]
  unfold toldM
  simp [hd]
end Go.Proofs.YthjilhjdnefmdaaGreatDoor
/- Plain laws: Mark with its Flush. Conditions: none. -/
namespace Go.Proofs.YthjilhjdnefmdaaGreatDoor
open Go.RowKit
theorem Log.mark {st : St} {fst : Int} {chk : Option (List UInt8)} {pre : List (List (List UInt8))} {s : List (List UInt8)} (h : Log st fst chk (pre ++ [s])) (L : LM) (hl : L.last = fst + pre.length) (hd : L.dead = false) (hw : ∀ l ∈ L.waits, l.length ≤ 1048512)
    (hm : fst + pre.length + 2 ≤ 999999999) (c : List UInt8) (hc : c.length ≤ 1048512) (hroom : chkCost fst chk + segCost (pre ++ [s]) + (sealsL L.waits).length + 16 + (c.length + 16) + 32 ≤ st.room) :
    ∃ st2 n, markA st L c = (st2, { L with waits := [], last := n }, 0) ∧ Log st2 n (some c) [[]] ∧ st2.room = st.room ∧ partsA st2 1 = [n] ∧ n ≤ fst + pre.length + 2 := by
  obtain ⟨st1, L1, pre2, s2, e1, h1, -, e3, e4, e5, e6, e7⟩ := h.flush L hl hd hw (by omega) (by omega)
  have hmay := calm_may h.calm hd
  have hd1 : L1.dead = false := by rw [e3]; exact hd
  have hlen : ((pre2 ++ [s2]).length : Int) = pre2.length + 1 := by simp
  obtain ⟨st2, f1, f2, f3, f4⟩ := h1.markF L1 (by omega) (by omega) hd1 c hc (by rw [e5]; omega)
  refine ⟨st2, L1.last + 1, ?_, f2, by rw [f3, e5], f4, by omega⟩
  unfold markA
  rw [if_neg (by rw [hmay]; simp), if_neg (by omega), e1, if_neg (by simp)]
  simp only
  rw [if_neg (by omega), f1, e3]
end Go.Proofs.YthjilhjdnefmdaaGreatDoor
/- Plain laws: what every call of the store leaves true. Conditions: none. -/
namespace Go.Proofs.YthjilhjdnefmdaaGreatDoor
open Go.RowKit
/-- What every call of the store leaves true. -/
structure Closed (P : St → Prop) : Prop where
  make : ∀ st n, P st → P (makeA st n).1
  write : ∀ st n l, P st → P (writeA st n l).1
  cut : ∀ st n k, P st → P (cutA st n k).1
  sync : ∀ st n, P st → P (syncA st n).1
  move : ∀ st a b, P st → P (moveA st a b).1
  drop : ∀ st n, P st → P (dropA st n).1
  commit : ∀ st, P st → P (commitA st).1
section
variable {P : St → Prop}
theorem closed_each : ∀ (l : List (St → St × Int)) (st : St), (∀ f ∈ l, ∀ s, P s → P (f s).1) → P st → P (eachA l st).1
  | [], _, _, hp => hp
  | f :: r, st, hl, hp => by
    have h1 := hl f (List.mem_cons_self ..) st hp
    unfold eachA
    split
    · exact closed_each r _ (fun g hg => hl g (List.mem_cons_of_mem _ hg)) h1
    · exact h1
theorem Closed.flushE (h : Closed P) (st : St) (L : LM) (hp : P st) : P (flushE st L).1 := by
  unfold Go.Proofs.YthjilhjdnefmdaaGreatDoor.flushE
  refine closed_each _ _ (fun f hf s hs => ?_) hp
  simp only [List.mem_cons, List.not_mem_nil, or_false] at hf
  rcases hf with rfl | rfl
  · exact h.write _ _ _ hs
  · exact h.sync _ _ hs
theorem Closed.turn (h : Closed P) (st : St) (L : LM) (hp : P st) : P (turnA st L).1 := by
  have h1 := h.make st (nameA (L.last + 1)) hp
  have h2 := h.commit _ h1
  unfold turnA
  split
  · exact h1
  · split
    · exact h1
    · split
      · exact h2
      · exact h2
theorem Closed.flush (h : Closed P) (st : St) (L : LM) (hp : P st) : P (flushA st L).1 := by
  have h1 := h.flushE st L hp
  unfold flushA
  split
  · exact hp
  · split
    · exact hp
    · split
      · exact h1
      · unfold flushT
        split
        · exact h1
        · exact h.turn _ _ h1
theorem Closed.markE (h : Closed P) (st : St) (n : Int) (b : List UInt8) (hp : P st) : P (markE st n b).1 := by
  unfold Go.Proofs.YthjilhjdnefmdaaGreatDoor.markE
  refine closed_each _ _ (fun f hf s hs => ?_) hp
  simp only [List.mem_cons, List.not_mem_nil, or_false] at hf
  rcases hf with rfl | rfl | rfl | rfl | rfl | rfl | rfl
  · unfold mark1A
    split
    · exact hs
    · exact h.drop _ _ hs
  · exact h.make _ _ hs
  · exact h.write _ _ _ hs
  · exact h.sync _ _ hs
  · exact h.make _ _ hs
  · exact h.move _ _ _ hs
  · exact h.commit _ hs
theorem Closed.cleanF (h : Closed P) (last : Int) : ∀ (all : List Int) (st : St), P st → P (cleanF last all st).1
  | [], st, hp => h.commit _ hp
  | n :: r, st, hp => by
    unfold Go.Proofs.YthjilhjdnefmdaaGreatDoor.cleanF
    split
    · exact Closed.cleanF h last r st hp
    · split
      · exact h.drop _ _ hp
      · exact Closed.cleanF h last r _ (h.drop _ _ hp)
theorem Closed.markF (h : Closed P) (st : St) (L : LM) (c : List UInt8) (hp : P st) : P (markF st L c).1 := by
  unfold Go.Proofs.YthjilhjdnefmdaaGreatDoor.markF
  split
  · exact h.markE _ _ _ hp
  · exact h.cleanF _ _ _ (h.markE _ _ _ hp)
theorem Closed.mark (h : Closed P) (st : St) (L : LM) (c : List UInt8) (hp : P st) : P (markA st L c).1 := by
  have h1 := h.flush st L hp
  unfold markA
  split
  · exact hp
  · split
    · exact hp
    · split
      · exact h1
      · split
        · exact h1
        · exact h.markF _ _ _ h1
theorem Closed.mend (h : Closed P) (st : St) (all : List Int) (first torn : Int) (hp : P st) : P (mendA st all first torn).1 := by
  unfold mendA
  split
  · refine closed_each _ _ (fun f hf s hs => ?_) hp
    simp only [List.mem_cons, List.not_mem_nil, or_false] at hf
    rcases hf with rfl | rfl
    · exact h.cut _ _ _ hs
    · exact h.sync _ _ hs
  · split
    · refine closed_each _ _ (fun f hf s hs => ?_) hp
      simp only [List.mem_cons, List.not_mem_nil, or_false] at hf
      rcases hf with rfl | rfl
      · exact h.make _ _ hs
      · exact h.commit _ hs
    · exact hp
theorem Closed.openL (h : Closed P) (st : St) (part : Int) (hp : P st) : P (openL st part).st := by
  have h1 := fun all first torn => h.mend st all first torn hp
  unfold Go.Proofs.YthjilhjdnefmdaaGreatDoor.openL
  split
  · exact hp
  · split
    · exact hp
    · split
      · exact hp
      · split
        · exact hp
        · split
          · exact h1 _ _ _
          · exact h1 _ _ _
theorem counted_keeps (hl : ∀ st st', Like st st' → P st → P st') (hf : ∀ st k, P st → P (failA st k)) (st : St) (does : St → St) (hd : ∀ st', Like st st' → P st' → P (does st')) (hp : P st) : P (countedA st does).1 := by
  unfold countedA
  split
  · split
    · exact hf _ _ (hl st _ ⟨rfl, rfl, rfl, rfl, rfl⟩ hp)
    · exact hd _ ⟨rfl, rfl, rfl, rfl, rfl⟩ (hl st _ ⟨rfl, rfl, rfl, rfl, rfl⟩ hp)
  · exact hd _ ⟨rfl, rfl, rfl, rfl, rfl⟩ (hl st _ ⟨rfl, rfl, rfl, rfl, rfl⟩ hp)
end
/-- Bounds that every call keeps. -/
structure Tame (st : St) : Prop where
  room : 0 ≤ st.room ∧ st.room ≤ 1048576
  nown : st.now.length ≤ 65536
  suren : st.sure.length ≤ 65536
  big : ∀ f ∈ st.files, f.now.length ≤ 1048576 ∧ f.sure.length ≤ 1048576
  good : ∀ q ∈ st.now ++ st.sure, goodN q.1 = true
theorem Tame.like {st st' : St} (l : Like st st') (h : Tame st) : Tame st' :=
  ⟨by rw [l.room]; exact h.room, by rw [l.now]; exact h.nown, by rw [l.sure]; exact h.suren, by rw [l.files]; exact h.big, by rw [l.now, l.sure]; exact h.good⟩
theorem afterFail_len (k : Int) (f : Fl) (n : Nat) (h : f.now.length ≤ n ∧ f.sure.length ≤ n) : (afterFail k f).now.length ≤ n ∧ (afterFail k f).sure.length ≤ n := by
  unfold afterFail
  split
  · have : (f.now.take (f.sure.length + (min (max k 0) ((f.now.length : Int) - f.sure.length)).toNat)).length ≤ n := by
      rw [List.length_take]; omega
    exact ⟨this, this⟩
  · exact ⟨h.2, h.2⟩
theorem Tame.fail {st : St} (k : Int) (h : Tame st) : Tame (failA st k) := by
  unfold failA
  split
  · exact h
  · refine ⟨h.room, h.suren, h.suren, fun f hf => ?_, fun q hq => ?_⟩
    · obtain ⟨i, hi, rfl⟩ := List.mem_mapIdx.1 hf
      split
      · exact afterFail_len _ _ _ (h.big _ (List.getElem_mem hi))
      · exact h.big _ (List.getElem_mem hi)
    · refine h.good q (List.mem_append_right _ ?_)
      rcases List.mem_append.1 hq with hq | hq <;> exact hq
theorem Tame.set {st : St} (h : Tame st) (i : Nat) (f : Fl) (hf : f.now.length ≤ 1048576 ∧ f.sure.length ≤ 1048576) : Tame (setFl st i f) :=
  ⟨h.room, h.nown, h.suren, fun g hg => by
    rcases List.mem_or_eq_of_mem_set hg with hg | rfl
    · exact h.big g hg
    · exact hf, h.good⟩
theorem Tame.fl {st : St} (h : Tame st) (i : Nat) : (fl st i).now.length ≤ 1048576 ∧ (fl st i).sure.length ≤ 1048576 := by
  unfold Go.Proofs.YthjilhjdnefmdaaGreatDoor.fl
  cases hf : st.files[i]? with
  | none => simp [List.getD, hf]
  | some f => simp only [List.getD, hf, Option.getD_some]; exact h.big f (List.mem_of_getElem? hf)
theorem like_free {st st' : St} (l : Like st st') : freeA st' = freeA st := by
  unfold freeA usedA
  rw [l.room, l.now]
  simp only [l.fl]
theorem usedA_ge (st : St) : (st.now.length : Int) * 16 ≤ usedA st := usedL_ge st st.now
theorem usedA_mem (st : St) {n : Nm} {i : Nat} (h : dget st.now n = some i) : 16 + ((fl st i).now.length : Int) ≤ usedA st := usedL_mem st st.now (n, i) (dget_mem h)
theorem kErr_good {st : St} {n : Nm} (h : kErr st n = 3) : goodN n = true := by
  unfold kErr knownA at h
  split at h
  · simp at h
  · split at h
    · simp at h
    · rename_i hg
      simpa using hg
theorem tame_closed : Closed Tame where
  make := fun st n hp => by
    unfold makeA
    split
    · exact hp
    · split
      · exact hp
      · rename_i h3
        have hg : goodN n = true := kErr_good (st := st) (by unfold kErr; omega)
        split
        · exact hp
        · rename_i hfr
          refine counted_keeps (fun _ _ => Tame.like) (fun _ k => Tame.fail k) st _ (fun st' hl h' => ?_) hp
          have hu := usedA_ge st
          have hrm := hp.room
          have hfr2 : freeA st = st.room - usedA st := rfl
          have hlen := hl.now
          refine ⟨h'.room, ?_, h'.suren, fun f hf => ?_, fun q hq => ?_⟩
          · have := dset_len st'.now n st'.files.length
            rw [hlen] at this
            show (dset st'.now n st'.files.length).length ≤ _
            rw [hlen]
            omega
          · rcases List.mem_append.1 hf with hf | hf
            · exact h'.big f hf
            · simp at hf; subst hf; simp
          · rcases List.mem_append.1 hq with hq | hq
            · rcases dset_mem (m := q.1) (j := q.2) hq with ⟨h1, _⟩ | h1
              · rw [h1]; exact hg
              · exact h'.good q (List.mem_append_left _ h1)
            · exact h'.good q (List.mem_append_right _ hq)
  write := fun st n l hp => by
    unfold writeA
    split
    · rename_i h0
      split
      · exact hp
      · rename_i hfr
        refine counted_keeps (fun _ _ => Tame.like) (fun _ k => Tame.fail k) st _ (fun st' hl h' => ?_) hp
        have hm := usedA_mem st (known_zero h0).2.1
        have hrm := hp.room
        have hfr2 : freeA st = st.room - usedA st := rfl
        refine h'.set _ _ ⟨?_, (h'.fl _).2⟩
        rw [List.length_append, hl.fl]
        omega
    · exact hp
  cut := fun st n k hp => by
    unfold cutA
    split
    · split
      · exact hp
      · refine counted_keeps (fun _ _ => Tame.like) (fun _ k => Tame.fail k) st _ (fun st' hl h' => ?_) hp
        refine h'.set _ _ ⟨?_, (h'.fl _).2⟩
        have := (h'.fl (kIdx st n)).1
        rw [List.length_take]; omega
    · exact hp
  sync := fun st n hp => by
    unfold syncA
    split
    · refine counted_keeps (fun _ _ => Tame.like) (fun _ k => Tame.fail k) st _ (fun st' hl h' => ?_) hp
      exact h'.set _ _ ⟨(h'.fl _).1, (h'.fl _).1⟩
    · exact hp
  move := fun st a b hp => by
    unfold moveA
    split
    · exact hp
    · rename_i h1
      split
      · rename_i h0
        have hg : goodN b = true := by
          cases hb : goodN b with
          | true => rfl
          | false => exact absurd ⟨by omega, by omega, hb⟩ h1
        refine counted_keeps (fun _ _ => Tame.like) (fun _ k => Tame.fail k) st _ (fun st' hl h' => ?_) hp
        have hd := (known_zero h0).2.1
        have hlt := ddel_lt hd
        have hlen := hl.now
        refine ⟨h'.room, ?_, h'.suren, h'.big, fun q hq => ?_⟩
        · have h2 := dset_len (ddel st'.now a) b (kIdx st a)
          have h3 := h'.nown
          show (dset (ddel st'.now a) b (kIdx st a)).length ≤ _
          rw [hlen] at h2 h3 ⊢
          omega
        · rcases List.mem_append.1 hq with hq | hq
          · rcases dset_mem (m := q.1) (j := q.2) hq with ⟨h1, _⟩ | h1
            · rw [h1]; exact hg
            · exact h'.good q (List.mem_append_left _ (ddel_mem h1))
          · exact h'.good q (List.mem_append_right _ hq)
      · exact hp
  drop := fun st n hp => by
    unfold dropA
    split
    · refine counted_keeps (fun _ _ => Tame.like) (fun _ k => Tame.fail k) st _ (fun st' hl h' => ?_) hp
      refine ⟨h'.room, Nat.le_trans (ddel_sub st'.now n).1 h'.nown, h'.suren, h'.big, fun q hq => ?_⟩
      rcases List.mem_append.1 hq with hq | hq
      · exact h'.good q (List.mem_append_left _ (ddel_mem hq))
      · exact h'.good q (List.mem_append_right _ hq)
    · exact hp
  commit := fun st hp => by
    unfold commitA
    split
    · exact hp
    · refine counted_keeps (fun _ _ => Tame.like) (fun _ k => Tame.fail k) st _ (fun st' hl h' => ?_) hp
      refine ⟨h'.room, h'.nown, h'.nown, h'.big, fun q hq => ?_⟩
      refine h'.good q (List.mem_append_left _ ?_)
      rcases List.mem_append.1 hq with hq | hq <;> exact hq
theorem Tame.names {st : St} (h : Tame st) : ∀ q ∈ st.now, q.1.size ≤ 30 := fun q hq => goodN_size (h.good q (List.mem_append_left _ hq))
theorem Tame.new {room : Int} (h0 : 0 ≤ room) (h1 : room ≤ 1048576) : Tame (newA room) :=
  ⟨⟨h0, h1⟩, by simp [newA], by simp [newA], fun f hf => by simp [newA] at hf, fun q hq => by simp [newA] at hq⟩
theorem Tame.plan {st : St} (h : Tame st) (n k : Int) : Tame (planA st n k).1 := by
  unfold planA
  split
  · exact h
  · split
    · exact h
    · exact Tame.like (st := st) ⟨rfl, rfl, rfl, rfl, rfl⟩ h
theorem Tame.power {st : St} (h : Tame st) : Tame (powerA st) := ⟨h.room, h.nown, h.suren, h.big, h.good⟩
theorem partsA_few {st : St} (h : Tame st) (fr : Int) : (partsA st fr).length ≤ 65536 := by
  unfold partsA partsOf
  rw [List.length_mergeSort]
  refine Nat.le_trans (List.length_filterMap_le _ _) ?_
  unfold namesA; split
  · simp
  · unfold namesOf; rw [List.length_mergeSort, List.length_map]; exact h.nown
theorem sum_le_all : ∀ (l : List Nat) (m : Nat), (∀ x ∈ l, x ≤ m) → l.sum ≤ l.length * m
  | [], _, _ => by simp
  | x :: l, m, h => by
    have h1 := h x (List.mem_cons_self ..)
    have h2 := sum_le_all l m (fun y hy => h y (List.mem_cons_of_mem _ hy))
    rw [List.sum_cons, List.length_cons, Nat.add_mul]
    omega
theorem Tame.bytes {st : St} (h : Tame st) (fr : Int) : bytesOf st (partsA st fr) ≤ 100000000000 := by
  have h1 := partsA_few h fr
  unfold bytesOf
  refine Nat.le_trans (sum_le_all _ 1048576 (fun x hx => ?_)) ?_
  · obtain ⟨n, _, rfl⟩ := List.mem_map.1 hx
    unfold readA
    split
    · exact (h.fl _).1
    · simp
  · rw [List.length_map]
    have := Nat.mul_le_mul_right 1048576 h1
    omega
end Go.Proofs.YthjilhjdnefmdaaGreatDoor
/- A ledger on a calm store, call by call. Conditions: none. -/
namespace Go.Proofs.YthjilhjdnefmdaaGreatDoor
open Go.RowKit
/-- A ledger of a store on which nothing fails: what Open would tell, what the parts need, how many there were. -/
structure Live (st : St) (L : LM) (chk : List UInt8) (sure : List (List UInt8)) (C N : Int) : Prop where
  ex : ∃ fst ck pre s, Log st fst ck (pre ++ [s]) ∧ L.last = fst + (pre.length : Int) ∧ ck.getD [] = chk ∧ (pre ++ [s]).flatten = sure ∧ chkCost fst ck + segCost (pre ++ [s]) ≤ C ∧ L.last ≤ N
  dead : L.dead = false
  small : ∀ l ∈ L.waits, l.length ≤ 1048512
section
variable {st : St} {L : LM} {chk : List UInt8} {sure : List (List UInt8)} {C N : Int}
theorem Live.may (h : Live st L chk sure C N) : mayA st L = 0 := by
  obtain ⟨fst, ck, pre, s, hl, -⟩ := h.ex
  exact calm_may hl.calm h.dead
theorem Live.add (h : Live st L chk sure C N) (b : List UInt8) (hb : b.length ≤ 1048512) (hw : L.waits.length < 1000) :
    addA st L b = ({ L with waits := L.waits ++ [b] }, 0) ∧ Live st { L with waits := L.waits ++ [b] } chk sure C N := by
  refine ⟨?_, h.ex, h.dead, fun l hl => ?_⟩
  · unfold addA
    rw [if_neg (by rw [h.may]; simp), if_neg (by omega)]
  · rcases List.mem_append.1 hl with hl | hl
    · exact h.small l hl
    · simp at hl; rw [hl]; exact hb
theorem Live.flush (h : Live st L chk sure C N) (hC : C + (sealsL L.waits).length + 16 ≤ st.room) (hN : N + 1 ≤ 999999999) :
    ∃ st2 L2, flushA st L = (st2, L2, 0) ∧ Live st2 L2 chk (sure ++ L.waits) (C + (sealsL L.waits).length + 16) (N + 1) ∧ st2.room = st.room ∧ L2.waits = [] ∧ L2.part = L.part := by
  obtain ⟨fst, ck, pre, s, hl, h1, h2, h3, h4, h5⟩ := h.ex
  obtain ⟨st2, L2, pre2, s2, e1, e2, e3, e4, e5, e6, e7, e8⟩ := hl.flush L h1 h.dead h.small (by omega) (by omega)
  refine ⟨st2, L2, e1, ⟨⟨fst, ck, pre2, s2, e2, e5, h2, by rw [e3, h3], by omega, by omega⟩, by rw [e4]; exact h.dead, fun l hl => ?_⟩, e6, by rw [e4], by rw [e4]⟩
  rw [e4] at hl; cases hl
theorem markB_len (n : Int) (c : List UInt8) : (markB n c).length = c.length + 16 := by
  unfold markB; rw [sealL_len, List.length_append, putB_len]; omega
theorem Live.mark (h : Live st L chk sure C N) (c : List UInt8) (hc : c.length ≤ 1048512) (hC : C + (sealsL L.waits).length + 16 + (c.length + 16) + 32 ≤ st.room) (hN : N + 2 ≤ 999999999) :
    ∃ st2 L2, markA st L c = (st2, L2, 0) ∧ Live st2 L2 c [] (c.length + 48) (N + 2) ∧ st2.room = st.room ∧ L2.waits = [] ∧ L2.part = L.part ∧ (partsA st2 1).length = 1 := by
  obtain ⟨fst, ck, pre, s, hl, h1, h2, h3, h4, h5⟩ := h.ex
  obtain ⟨st2, n, e1, e2, e3, e4, e5⟩ := hl.mark L h1 h.dead h.small (by omega) c hc (by omega)
  refine ⟨st2, _, e1, ⟨⟨n, some c, [], [], e2, by simp, rfl, rfl, ?_, by simp only; omega⟩, h.dead, by simp⟩, e3, rfl, rfl, by rw [e4]; rfl⟩
  unfold chkCost segCost
  simp only [markB_len]
  simp [sealsL]
  omega
theorem Live.opens (h : Live st L chk sure C N) (part : Int) (hp : 1 ≤ part ∧ part ≤ 1048576) : ∃ n, openL st part = ⟨st, n, chk, sure, 0⟩ := by
  obtain ⟨fst, ck, pre, s, hl, h1, h2, h3, h4, h5⟩ := h.ex
  exact ⟨_, by rw [hl.opens part hp, h2, h3]⟩
theorem Live.new {room : Int} (hr : 16 ≤ room) {part : Int} (hp : 1 ≤ part ∧ part ≤ 1048576) :
    ∃ st1, openL (newA room) part = ⟨st1, 1, [], [], 0⟩ ∧ Live st1 ⟨part, 1, [], false⟩ [] [] 16 1 ∧ st1.room = room := by
  obtain ⟨st1, h1, h2, h3⟩ := open_new room hr part hp
  refine ⟨st1, h1, ⟨⟨1, none, [], [], h2, by simp, rfl, rfl, ?_, by simp⟩, rfl, by simp⟩, h3⟩
  unfold chkCost segCost
  simp [sealsL]
end
/-- A ledger in memory, on a calm store; 'one': there is one part. -/
def Ses (B : Nat) (w : World) (p pl : Nat) (vw : Value) (part : Int) (chk : List UInt8) (sure waits : List (List UInt8)) (R C N : Int) (one : Prop) : Prop :=
  ∃ mn ms bl st L vs, RepC B w p mn ms bl st ∧ LRepC B w pl p L vw vs ∧ Live st L chk sure C N ∧ Tame st ∧ L.waits = waits ∧ L.part = part ∧ st.room = R ∧ (one → (partsA st 1).length = 1)
section
variable {B : Nat} {w w' : World} {p pl : Nat} {vw : Value} {part : Int} {chk : List UInt8} {sure waits : List (List UInt8)} {R C N : Int} {one : Prop}
theorem Ses.below (h : Ses B w p pl vw part chk sure waits R C N one) (hb : Below w.heap.size w w') : Ses B w' p pl vw part chk sure waits R C N one := by
  obtain ⟨mn, ms, bl, st, L, vs, h1, h2, h3⟩ := h
  exact ⟨mn, ms, bl, st, L, vs, h1.below hb, h2.below hb, h3⟩
theorem Ses.le (h : Ses B w p pl vw part chk sure waits R C N one) : B ≤ w.heap.size := by
  obtain ⟨mn, ms, bl, st, L, vs, h1, h2, h3⟩ := h
  exact h1.le
theorem Ses.plt (h : Ses B w p pl vw part chk sure waits R C N one) : pl < w.heap.size := by
  obtain ⟨mn, ms, bl, st, L, vs, h1, h2, h3⟩ := h
  exact hp_lt h2.blk
theorem Ses.few (h : Ses B w p pl vw part chk sure waits R C N one) : waits.length ≤ 1000 := by
  obtain ⟨mn, ms, bl, st, L, vs, h1, h2, h3, h4, rfl, h6⟩ := h
  exact h2.few
def SesNew (B p : Nat) (part room : Int) (w : World) (e : Ending) (w' : World) : Prop :=
  ∃ pl a1 n1 c1 a2 n2 c2, e = .returned (.tuple #[.pointer (some ⟨pl, 0, none⟩), .slice a1 n1 c1, .slice a2 n2 c2, .int .i64 0]) ∧ Ses B w' p pl (.slice none 0 0) part [] [] [] room 16 1 False ∧ Stp [] B w w' ∧ w.heap.size ≤ pl
theorem first_ses (hE : Env w) (h : Rep B w p (newA R)) (hB : 6 ≤ B) (hr : 16 ≤ R ∧ R ≤ 1048576) (hp : 1 ≤ part ∧ part ≤ 1048576) :
    Calls Tryz.prog 9 #[.pointer (some ⟨p, 0, none⟩), .int .i64 part] w (SesNew B p part R w) := by
  obtain ⟨mn, ms, bl, h⟩ := h
  obtain ⟨st1, e1, e2, e3⟩ := Live.new hr.1 hp
  have ht : Tame (newA R) := Tame.new (by omega) hr.2
  refine (openL_t (fun h => by simp [newA] at h) hE h hB ht.names ht.bytes part).mono ?_
  have ht1 := tame_closed.openL (newA R) part ht
  rw [e1] at ht1
  rw [e1]
  rintro e w' ⟨vp, vc, vr, rfl, hc, hr', ⟨mn', ms', bl', hrep⟩, hs, ⟨h0, -⟩ | ⟨-, pl, rfl, hpl, hblk⟩⟩
  · exact absurd rfl h0
  · obtain ⟨a1, c1, rfl, -⟩ := hc.form
    obtain ⟨vs, hvs, -⟩ := hr'
    obtain ⟨a2, c2, rfl, -⟩ := hvs
    refine ⟨pl, a1, _, c1, a2, _, c2, rfl, ⟨mn', ms', bl', st1, ⟨part, 1, [], false⟩, [], hrep, ⟨hblk, World.ownsRow_nil _ _ _ _, ⟨rfl, fun i h => by simp at h⟩, by have := h.le; omega, by simp, by simp, by simp, hp⟩, e2, ht1, rfl, rfl, e3, fun h => h.elim⟩, hs, hpl⟩
def SesOpen (B p pl : Nat) (vw : Value) (part : Int) (chk : List UInt8) (sure waits : List (List UInt8)) (R C N : Int) (one : Prop) (w : World) (e : Ending) (w' : World) : Prop :=
  ∃ pl2 vc vr, e = .returned (.tuple #[.pointer (some ⟨pl2, 0, none⟩), vc, vr, .int .i64 0]) ∧ BS B w' vc chk ∧ LS B w' vr sure ∧ Ses B w' p pl vw part chk sure waits R C N one ∧ Stp [] B w w'
theorem open_ses (hE : Env w) (h : Ses B w p pl vw part chk sure waits R C N one) (hB : 6 ≤ B) {part2 : Int} (hp : 1 ≤ part2 ∧ part2 ≤ 1048576) :
    Calls Tryz.prog 9 #[.pointer (some ⟨p, 0, none⟩), .int .i64 part2] w (SesOpen B p pl vw part chk sure waits R C N one w) := by
  obtain ⟨mn, ms, bl, st, L, vs, h1, h2, h3, h4, rfl, rfl, rfl, h5⟩ := h
  obtain ⟨n, e1⟩ := h3.opens part2 hp
  have hleft : ¬ 0 < st.left := by
    obtain ⟨fst, ck, pre, s, hl, -⟩ := h3.ex
    have := hl.calm.left; omega
  refine (openL_t (fun h => absurd h hleft) hE h1 hB h4.names h4.bytes part2).mono ?_
  rw [e1]
  rintro e w' ⟨vp, vc, vr, rfl, hc, hr', ⟨mn', ms', bl', hrep⟩, hs, ⟨h0, -⟩ | ⟨-, pl2, rfl, hpl, hblk⟩⟩
  · exact absurd rfl h0
  · exact ⟨pl2, vc, vr, rfl, hc, hr', ⟨mn', ms', bl', st, L, vs, hrep, h2.stp hs, h3, h4, rfl, rfl, rfl, h5⟩, hs⟩
def SesAdd (B p pl : Nat) (vw : Value) (part : Int) (chk : List UInt8) (sure waits : List (List UInt8)) (R C N : Int) (one : Prop) (w : World) (e : Ending) (w' : World) : Prop :=
  e = .returned (.int .i64 0) ∧ ∃ vw', Ses B w' p pl vw' part chk sure waits R C N one ∧ (∀ k, vw'.ownBlock = some k → vw.ownBlock = some k ∨ w.heap.size ≤ k) ∧ Stp (pl :: vw.ownBlock.toList) B w w'
theorem add_ses (h : Ses B w p pl vw part chk sure waits R C N one) {vb : Value} {lb : List UInt8} (hb : BS B w vb lb) (hl : lb.length ≤ 1048512) (hw : waits.length < 1000) :
    Calls Tryz.prog 11 #[.pointer (some ⟨pl, 0, none⟩), vb] w (SesAdd B p pl vw part chk sure (waits ++ [lb]) R C N one w) := by
  obtain ⟨mn, ms, bl, st, L, vs, h1, h2, h3, h4, rfl, rfl, rfl, h5⟩ := h
  obtain ⟨e1, e2⟩ := h3.add lb hl hw
  refine (add_t h1 h2 hb).mono ?_
  rw [e1]
  rintro e w' ⟨rfl, g1, ⟨vw', vs', g2, g3⟩, g4⟩
  exact ⟨rfl, vw', ⟨mn, ms, bl, st, _, vs', g1, g2, e2, h4, rfl, rfl, rfl, h5⟩, g3, g4⟩
def SesStep (B p pl : Nat) (vw : Value) (part : Int) (chk : List UInt8) (sure waits : List (List UInt8)) (R C N : Int) (one : Prop) (w : World) (e : Ending) (w' : World) : Prop :=
  e = .returned (.int .i64 0) ∧ ∃ vw', Ses B w' p pl vw' part chk sure waits R C N one ∧ (∀ k, vw'.ownBlock = some k → vw.ownBlock = some k) ∧ Stp [pl] B w w'
theorem flush_ses (hE : Env w) (h : Ses B w p pl vw part chk sure waits R C N one) (hB : 6 ≤ B) (hC : C + (sealsL waits).length + 16 ≤ R) (hN : N + 1 ≤ 999999999) :
    Calls Tryz.prog 13 #[.pointer (some ⟨pl, 0, none⟩)] w (SesStep B p pl vw part chk (sure ++ waits) [] R (C + (sealsL waits).length + 16) (N + 1) False w) := by
  obtain ⟨mn, ms, bl, st, L, vs, h1, h2, h3, h4, rfl, rfl, rfl, h5⟩ := h
  obtain ⟨st2, L2, e1, e2, e3, e4, e5⟩ := h3.flush hC hN
  have hleft : ¬ 0 < st.left := by
    obtain ⟨fst, ck, pre, s, hl, -⟩ := h3.ex
    have := hl.calm.left; omega
  have ht := tame_closed.flush st L h4
  refine (flush_t (fun h => absurd h hleft) hE h1 hB h2).mono ?_
  rw [e1] at ht ⊢
  rintro e w' ⟨rfl, ⟨mn', ms', bl', g1⟩, ⟨vw', vs', g2, g3⟩, g4⟩
  exact ⟨rfl, vw', ⟨mn', ms', bl', st2, L2, vs', g1, g2, e2, ht, e4, e5, e3, fun h => h.elim⟩, g3, g4⟩
theorem mark_ses (hE : Env w) (h : Ses B w p pl vw part chk sure waits R C N one) (hB : 6 ≤ B) {vb : Value} {c : List UInt8} (hv : BS B w vb c) (hc : c.length ≤ 1048512) (hC : C + (sealsL waits).length + 16 + (c.length + 16) + 32 ≤ R) (hN : N + 2 ≤ 999999999) :
    Calls Tryz.prog 19 #[.pointer (some ⟨pl, 0, none⟩), vb] w (SesStep B p pl vw part c [] [] R (c.length + 48) (N + 2) True w) := by
  obtain ⟨mn, ms, bl, st, L, vs, h1, h2, h3, h4, rfl, rfl, rfl, h5⟩ := h
  obtain ⟨st2, L2, e1, e2, e3, e4, e5, e6⟩ := h3.mark c hc hC hN
  have hleft : ¬ 0 < st.left := by
    obtain ⟨fst, ck, pre, s, hl, -⟩ := h3.ex
    have := hl.calm.left; omega
  have ht := tame_closed.mark st L c h4
  refine (mark_t (fun h => absurd h hleft) hE h1 hB h2 hv (tame_closed.markE _ _ _ (tame_closed.flush st L h4)).names).mono ?_
  rw [e1] at ht ⊢
  rintro e w' ⟨rfl, ⟨mn', ms', bl', g1⟩, ⟨vw', vs', g2, g3⟩, g4⟩
  exact ⟨rfl, vw', ⟨mn', ms', bl', st2, L2, vs', g1, g2, e2, ht, e4, e5, e3, fun _ => e6⟩, g3, g4⟩
theorem pending_ses (h : Ses B w p pl vw part chk sure waits R C N one) : Calls Tryz.prog 22 #[.pointer (some ⟨pl, 0, none⟩)] w fun e w' => e = .returned (.int .i64 (waits.length : Int)) ∧ w = w' := by
  obtain ⟨mn, ms, bl, st, L, vs, h1, h2, h3, h4, rfl, rfl, rfl, h5⟩ := h
  exact pending_t h2
theorem parts_ses (hE : Env w) (h : Ses B w p pl vw part chk sure waits R C N True) (hB : 6 ≤ B) : Calls Tryz.prog 20 #[.pointer (some ⟨pl, 0, none⟩)] w fun e w' => (∃ a c, e = .returned (.slice a 1 c)) ∧ Below w.heap.size w w' := by
  obtain ⟨mn, ms, bl, st, L, vs, h1, h2, h3, h4, rfl, rfl, rfl, h5⟩ := h
  refine (ledParts_t hE h1 hB h2 h4.names).mono ?_
  rintro e w' ⟨v, rfl, ⟨a, c, rfl, -⟩, g2⟩
  refine ⟨⟨a, c, ?_⟩, g2⟩
  rw [List.length_map, h5 trivial]
end
end Go.Proofs.YthjilhjdnefmdaaGreatDoor
