/- LedgerNames: whatever the input, the law answers true and leaves what came in as it was. Conditions: the row's own (the listed variables hold what the text lays). -/
import Derived.Test.YthjilhjdnefmdaaGreatDoorMR
/- Names, and one part behind a mark: the law's walk. Conditions: none. -/
namespace Go.Proofs.YthjilhjdnefmdaaGreatDoor
open Go.RowKit
open Go.ChangeMaps (setBlock)
theorem nameA_none {n : Int} (h : n < 1 ∨ 999999999 < n) : nameA n = ByteArray.empty := by unfold nameA nameL; rw [if_pos h]; rfl
theorem nameA_some {n : Int} (h1 : 1 ≤ n) (h2 : n ≤ 999999999) : nameA n ≠ ByteArray.empty := by
  intro h
  have := congrArg (fun a : Nm => a.data.toList.length) h
  have e : (nameA n).data.toList = dotLog ++ Lib.itoa n := nameL_eq n h1 h2
  simp only [e] at this
  simp [dotLog] at this
section
variable {B : Nat} {w w' : World} {p pl : Nat} {vw : Value} {part : Int} {chk : List UInt8} {sure waits : List (List UInt8)} {R C N : Int} {one : Prop}
theorem add_x (h : SesX B w p pl part chk sure waits R C N) {vb : Value} {lb : List UInt8} (hb : BS B w vb lb) (hl : lb.length ≤ 1048512) (hw : waits.length < 1000) :
    Calls Tryz.prog 11 #[.pointer (some ⟨pl, 0, none⟩), vb] w (OkPost B w fun w' => SesX B w' p pl part chk sure (waits ++ [lb]) R C N ∧ BS B w' vb lb) := by
  obtain ⟨vw, h⟩ := h
  refine (add_ses h hb hl hw).mono ?_
  rintro e w' ⟨rfl, vw', h1, -, h3⟩
  exact ⟨rfl, ⟨⟨vw', h1⟩, RS.stp hb h3 (by decide) (by decide) (fun _ h => absurd rfl h)⟩, h3.below⟩
theorem flush_b (hE : Env w) (h : SesX B w p pl part chk sure waits R C N) (hB : 6 ≤ B) (hC : C + (sealsL waits).length + 16 ≤ R) (hN : N + 1 ≤ 999999999) {vb : Value} {lb : List UInt8} (hb : BS B w vb lb) :
    Calls Tryz.prog 13 #[.pointer (some ⟨pl, 0, none⟩)] w (OkPost B w fun w' => SesX B w' p pl part chk (sure ++ waits) [] R (C + (sealsL waits).length + 16) (N + 1) ∧ BS B w' vb lb) := by
  obtain ⟨vw, h⟩ := h
  refine (flush_ses hE h hB hC hN).mono ?_
  rintro e w' ⟨rfl, vw', h1, -, h3⟩
  exact ⟨rfl, ⟨⟨vw', h1⟩, RS.stp hb h3 (by decide) (by decide) (fun _ h => absurd rfl h)⟩, h3.below⟩
theorem mark_x (hE : Env w) (h : SesX B w p pl part chk sure waits R C N) (hB : 6 ≤ B) {vb : Value} {c : List UInt8} (hv : BS B w vb c) (hc : c.length ≤ 1048512) (hC : C + (sealsL waits).length + 16 + (c.length + 16) + 32 ≤ R) (hN : N + 2 ≤ 999999999) :
    Calls Tryz.prog 19 #[.pointer (some ⟨pl, 0, none⟩), vb] w (OkPost B w fun w' => (∃ vw', Ses B w' p pl vw' part c [] [] R (c.length + 48) (N + 2) True) ∧ BS B w' vb c) := by
  obtain ⟨vw, h⟩ := h
  refine (mark_ses hE h hB hv hc hC hN).mono ?_
  rintro e w' ⟨rfl, vw', h1, -, h3⟩
  exact ⟨rfl, ⟨⟨vw', h1⟩, RS.stp hv h3 (by decide) (by decide) (fun _ h => absurd rfl h)⟩, h3.below⟩
end
/-- What stands between the rounds. -/
structure NamesInv (B p pl : Nat) (vb : Value) (lb : List UInt8) (w0 : World) (k : Nat) (w : World) : Prop where
  ses : SesX B w p pl 64 [] (List.replicate k lb) [] 100000 (16 + 1100 * k) (1 + k)
  bs : BS B w vb lb
  below : Below B w0 w
theorem names_add {B p pl : Nat} {vb : Value} {lb : List UInt8} {w0 w : World} {k : Nat} (h : NamesInv B p pl vb lb w0 k w) (hl : lb.length ≤ 1000) (hE : Env w0) (hB : 6 ≤ B) (hk : k < 5) :
    Calls Tryz.prog 11 #[.pointer (some ⟨pl, 0, none⟩), vb] w fun e w2 => e = .returned (.int .i64 0) ∧ Hid (Calls Tryz.prog 13 #[.pointer (some ⟨pl, 0, none⟩)] w2 fun e w3 => e = .returned (.int .i64 0) ∧ Hid (NamesInv B p pl vb lb w0 (k + 1) w3)) := by
  refine (add_x h.ses h.bs (by omega) (by simp)).mono ?_
  rintro e w2 ⟨rfl, ⟨h1, h2⟩, h3⟩
  refine ⟨rfl, Lib.hid ?_⟩
  have hsum : (sealsL ([] ++ [lb])).length = lb.length + 8 := by rw [sealsL_sum]; simp
  refine (flush_b (hE.below (h.below.trans h3) hB) h1 hB (by rw [hsum]; omega) (by omega) h2).mono ?_
  rintro e w3 ⟨rfl, ⟨⟨vw3, g1⟩, g2⟩, g3⟩
  refine ⟨rfl, Lib.hid ⟨⟨vw3, ?_⟩, g2, (h.below.trans h3).trans g3⟩⟩
  rw [List.nil_append, ← List.replicate_succ'] at g1
  refine g1.weaken ?_ (by omega) id
  rw [← List.nil_append [lb], hsum]
  omega
theorem names_mark {B p pl : Nat} {vb : Value} {lb : List UInt8} {w0 w : World} (h : NamesInv B p pl vb lb w0 5 w) (hl : lb.length ≤ 1000) (hE : Env w0) (hB : 6 ≤ B) :
    Calls Tryz.prog 19 #[.pointer (some ⟨pl, 0, none⟩), vb] w fun e w2 => e = .returned (.int .i64 0) ∧ Hid (Calls Tryz.prog 20 #[.pointer (some ⟨pl, 0, none⟩)] w2 fun e w3 => (∃ a c, e = .returned (.slice a 1 c)) ∧
      Hid (Calls Tryz.prog 9 #[.pointer (some ⟨p, 0, none⟩), .int .i64 64] w3 fun e w4 => ∃ pl2 a1 c1 a2 c2, e = .returned (.tuple #[.pointer (some ⟨pl2, 0, none⟩), .slice a1 lb.length c1, .slice a2 0 c2, .int .i64 0]) ∧
        Hid (Calls Tryz.prog 21 #[.slice a1 lb.length c1, vb] w4 fun e w5 => e = .returned (.bool true) ∧ w4 = w5) ∧ Hid (Below B w0 w4))) := by
  refine (mark_x (hE.below h.below hB) h.ses hB h.bs (by omega) (by simp [sealsL]; omega) (by omega)).mono ?_
  rintro e w2 ⟨rfl, ⟨⟨vw2, h1⟩, h2⟩, h3⟩
  refine ⟨rfl, Lib.hid ?_⟩
  refine (parts_ses (hE.below (h.below.trans h3) hB) h1 hB).mono ?_
  rintro e w3 ⟨he, h4⟩
  refine ⟨he, Lib.hid ?_⟩
  have hb3 : Below B w0 w3 := (h.below.trans h3).trans (h4.mono h1.le)
  refine (open_ses (part2 := 64) (hE.below hb3 hB) (h1.below h4) hB (by omega)).mono ?_
  rintro e w4 ⟨pl2, vc, vr, rfl, hc, ⟨vs, hr1, hr2⟩, g1, g2⟩
  obtain ⟨a1, c1, rfl, -⟩ := id hc.form
  obtain ⟨a2, c2, rfl, -⟩ := hr1
  refine ⟨pl2, a1, c1, a2, c2, ?_, Lib.hid ?_, Lib.hid (hb3.trans g2.below)⟩
  · rw [hr2.1]; rfl
  · have hb4 : BS B w4 vb lb := RS.stp (RS.below h2 h4 h1.le) g2 (by decide) (by decide) (fun _ h => absurd rfl h)
    refine (same21_t hc hb4).mono ?_
    rintro e w5 ⟨rfl, rfl⟩
    exact ⟨by simp, rfl⟩
/-- The names' test, as the walk spells it. -/
def NamesBool (n m : Int) (x y : Nm) : Prop :=
  (decide (n < 1) = true ∧ x.toList.isEmpty = true) ∨ (decide (n < 1) = false ∧ decide (999999999 < n) = true ∧ x.toList.isEmpty = true) ∨
  (decide (n < 1) = false ∧ decide (999999999 < n) = false ∧ x.toList.isEmpty = false ∧ (x.toList == y.toList) = true ∧ (n == m) = true ∧ goodN x = true) ∨
  (decide (n < 1) = false ∧ decide (999999999 < n) = false ∧ x.toList.isEmpty = false ∧ (x.toList == y.toList) = false ∧ (n == m) = false ∧ goodN x = true)
theorem empty_list : ByteArray.empty.toList.isEmpty = true := by rw [ByteArray.toList_eq]; rfl
theorem list_inj {x y : Nm} (h : x.toList = y.toList) : x = y := by
  rw [ByteArray.toList_eq, ByteArray.toList_eq] at h
  exact nm_ext h
theorem namesBool (n m : Int) : NamesBool n m (nameA n) (nameA m) := by
  by_cases h1 : n < 1
  · exact .inl ⟨decide_eq_true h1, by rw [nameA_none (.inl h1)]; exact empty_list⟩
  · by_cases h2 : 999999999 < n
    · exact .inr (.inl ⟨decide_eq_false h1, decide_eq_true h2, by rw [nameA_none (.inr h2)]; exact empty_list⟩)
    · have hx := nameA_some (n := n) (by omega) (by omega)
      have hg := goodN_name n (by omega) (by omega)
      have he : (nameA n).toList.isEmpty = false := by
        cases hh : (nameA n).toList with
        | nil => exact absurd (list_inj (hh.trans (by rw [ByteArray.toList_eq]; rfl))) hx
        | cons _ _ => rfl
      by_cases h3 : n = m
      · exact .inr (.inr (.inl ⟨decide_eq_false h1, decide_eq_false h2, he, by rw [h3]; simp, by rw [h3]; simp, hg⟩))
      · refine .inr (.inr (.inr ⟨decide_eq_false h1, decide_eq_false h2, he, beq_eq_false_iff_ne.2 (fun hl => ?_), beq_eq_false_iff_ne.2 h3, hg⟩))
        have hq := list_inj hl
        by_cases h4 : 1 ≤ m ∧ m ≤ 999999999
        · exact h3 (name_inj (by omega) (by omega) h4.1 h4.2 hq)
        · exact hx (by rw [hq]; exact nameA_none (by omega))
set_option maxRecDepth 100000 in
set_option maxHeartbeats 8000000 in
theorem ledgerNames_t {w : World} (hE : Env w) (hB : 6 ≤ w.heap.size) (n m : Int) (hn : -9223372036854775808 ≤ n ∧ n ≤ 9223372036854775807) (hm : -9223372036854775808 ≤ m ∧ m ≤ 9223372036854775807) {a : Option Addr} {c : Nat} {lb : List UInt8} (hb : BS w.heap.size w (.slice a lb.length c) lb) :
    Calls Tryz.prog 4 #[.int .i64 n, .int .i64 m, .slice a lb.length c] w (LivesPost w) := by
  have HE := Lib.hid hE; have HBS := Lib.hid hb
  clear hE hb
  by_cases hl : 1000 < lb.length
  · have t0 : decide ((1000 : Int) < (lb.length : Int)) = true := decide_eq_true (by omega)
    clear hl
    go_enter Tryz.func4, Tryz.ntmps4
    go_wp2_with fail
    refine (lives_t HE.out hB).mono ?_
    rintro e w3 ⟨rfl, hb3⟩
    go_wp2
    go_ret
    exact ⟨rfl, hb3⟩
  · have t0 : decide ((1000 : Int) < (lb.length : Int)) = false := decide_eq_false (by omega)
    have HL : Hid (lb.length ≤ 1000) := Lib.hid (by omega)
    have HX := Lib.hid (namesBool n m)
    have HN1 := Lib.hid (fun w1 (hb1 : Below w.heap.size w w1) => name_t (HE.out.below hb1 hB) n hn.1 hn.2)
    have HN2 := Lib.hid (fun w1 (hb1 : Below w.heap.size w w1) => name_t (HE.out.below hb1 hB) m hm.1 hm.2)
    have HG := Lib.hid (fun w1 => good_t (nameA n) w1 (Nat.le_trans (nameA_size n) (by decide)))
    generalize nameA n = x at *
    generalize nameA m = y at *
    clear hl hn hm
    go_enter Tryz.func4, Tryz.ntmps4
    go_wp2_with fail
    refine (HN1.out _ (Below.refl _ _)).mono ?_
    rintro e w1 ⟨rfl, hb1⟩
    have B1 := Lib.hid hb1
    clear hb1
    go_wp2_with fail
    refine (HN2.out _ B1.out).mono ?_
    rintro e w2 ⟨rfl, hb2⟩
    have B2 := Lib.hid (B1.out.trans (hb2.mono B1.out.size))
    clear hb2
    rcases HX.out with ⟨c0, c1⟩ | ⟨c0, c1, c2⟩ | ⟨c0, c1, c2, c3, c4, c5⟩ | ⟨c0, c1, c2, c3, c4, c5⟩
    case' inl => go_wp2_with fail
    case' inr.inl => go_wp2_with fail
    case' inr.inr.inl =>
      rw [c5] at HG
      clear c5
      go_wp2_with fail
      refine (HG.out _).mono ?_
      rintro e w2 ⟨rfl, hb2⟩
      have B2 := Lib.hid (B2.out.trans (hb2.mono B2.out.size))
      clear hb2
      go_wp2_with fail
    case' inr.inr.inr =>
      rw [c5] at HG
      clear c5
      go_wp2_with fail
      refine (HG.out _).mono ?_
      rintro e w2 ⟨rfl, hb2⟩
      have B2 := Lib.hid (B2.out.trans (hb2.mono B2.out.size))
      clear hb2
      go_wp2_with fail
    all_goals
      have HE2 := Lib.hid (HE.out.below B2.out hB)
      have HB6 : Hid (6 ≤ w2.heap.size) := Lib.hid (Nat.le_trans hB B2.out.size)
      refine (new_t w2 100000 (by omega) (by omega)).mono ?_
      rintro e w3 ⟨p, rfl, hr1, hs1⟩
      have B3 := Lib.hid hs1.below
      have C3 := Lib.hid (first_ses (part := 64) (HE2.out.below B3.out HB6.out) hr1 HB6.out (by omega) (by omega))
      clear hr1 hs1
      go_wp2_with fail
      refine C3.out.mono ?_
      rintro e w4 ⟨pl, a1, n1, c1, a2, n2, c2, rfl, h4, hs4, -⟩
      have H4 : Hid (NamesInv w2.heap.size p pl (.slice a lb.length c) lb w2 0 w4) := Lib.hid ⟨⟨_, h4.weaken (by simp) (by simp) id⟩, RS.stp (RS.below (RS.low (RS.below HBS.out B2.out (Nat.le_refl _)) B2.out.size) B3.out (Nat.le_refl _)) hs4 (by decide) (by decide) (fun _ h => absurd rfl h), B3.out.trans hs4.below⟩
      clear h4 hs4
      go_wp2_with fail
      go_loopw [14] (fun i wr => ∃ k : Nat, k ≤ 5 ∧ i = .int .i64 k ∧ Hid (NamesInv w2.heap.size p pl (.slice a lb.length c) lb w2 k wr)) (fun i _ => 5 - (intOf i).toNat)
      case atStart => exact ⟨0, by omega, rfl, H4⟩
      case round =>
        obtain ⟨k, hk, rfl, HI⟩ := hrel
        by_cases hlt : k < 5
        · have C5 := Lib.hid (names_add HI.out HL.out HE2.out HB6.out hlt)
          go_wp2_with fail
          refine C5.out.mono ?_
          rintro e w5 ⟨rfl, C6⟩
          go_wp2_with fail
          refine C6.out.mono ?_
          rintro e w6 ⟨rfl, C7⟩
          go_wp2
          go_roundw
          case rel => exact ⟨k + 1, by omega, by go_num, C7⟩
          case measure => simp [intOf]; omega
        · have hk5 : k = 5 := by omega
          subst hk5
          have C5 := Lib.hid (names_mark HI.out HL.out HE2.out HB6.out)
          go_wp2_with fail
          refine C5.out.mono ?_
          rintro e w5 ⟨rfl, C6⟩
          go_wp2_with fail
          refine C6.out.mono ?_
          rintro e w6 ⟨⟨a6, c6, rfl⟩, C7⟩
          go_wp2_with fail
          refine C7.out.mono ?_
          rintro e w7 ⟨pl2, a7, c7, a8, c8, rfl, C8, B7⟩
          go_wp2_with fail
          refine C8.out.mono ?_
          rintro e w8 ⟨rfl, rfl⟩
          go_wp2_with fail
          refine (lives_t (HE2.out.below B7.out HB6.out) (Nat.le_trans HB6.out B7.out.size)).mono ?_
          rintro e w9 ⟨rfl, hb9⟩
          go_wp2
          go_ret
          exact ⟨rfl, B2.out.trans ((B7.out.trans (hb9.mono B7.out.size)).mono B2.out.size)⟩
end Go.Proofs.YthjilhjdnefmdaaGreatDoor
/- LedgerNames: whatever the input, the law answers true and leaves what came in as it was. Conditions: the row's own (the listed variables hold what the text lays). -/
namespace Go.Proofs.YthjilhjdnefmdaaGreatDoor
open Go.ChangeShapes Go.WideShapes Go.ChangeAt Go.WideMaps Go.WideElems Go.RowKit
set_option maxRecDepth 100000
theorem ledgerNames_lifted (os : Os) (started : os.Started) (H : Type) (enc : TypeId × Value → H) :
    ReturnsInHanded {} Tryz.checked os 4 .any (fun w args => (Rows.ledgerNamesSpec.pre enc Tryz.prog Tryz.f4 [] false w args ∧ laidMetH Tryz.prog laidL w) ∧ sizedMet enc Tryz.prog Tryz.f4 (OpenSpec.ofChange Rows.ledgerNamesSpec) false w args)
      (Rows.ledgerNamesSpec.post enc Tryz.prog Tryz.f4 false true false false) := by
  refine returnsInHanded_of_change_and (C := Tryz.checked) (X := fun w _ => laidMetH Tryz.prog laidL w) (fun _ _ _ hh h => h.of_heap hh) own started (by kernel_rfl) Tryz.func4
    (ChangeSpec.witness_shaped (enc := enc) (C := Tryz.checked) (os := os) (X := fun w _ => laidMetH Tryz.prog laidL w) false (World.doorLaid Tryz.prog 67 os) #[.int .i64 0, .int .i64 0, .slice none 0 0] 8 rfl (World.shaped_of_RefB (by kernel_rfl) (by kernel_rfl)) (by kernel_rfl) (by kernel_rfl) (by kernel_rfl) (door_met os _)) ?_
  intro W base args ds gs before hval0 hW _ _ hL _
  have hval : ∀ (j : Nat) t v, Tryz.f4.params[j]? = some t → args[j]? = some v → Value.okWide Tryz.prog W .any base t v := hval0
  have hW' := hW
  obtain ⟨p, q, hA0, hV, rfl, hfz, hnd⟩ := hW
  have hA : DataW.TrodAll enc Tryz.prog W 0 (fun _ => true) true Tryz.f4.params.toList args.toList ds p := hA0
  rw [Tryz.params4] at hA hval
  obtain ⟨v0, v1, v2, d0, d1, d2, p0, p1, p2, rfl, rfl, rfl, h0, h1, h2⟩ := trodAll_three hA
  obtain ⟨rfl, rfl⟩ := trodVars_none hV
  obtain ⟨n, rfl, rfl, rfl, hn⟩ := open_int Tryz.underlying3 (hval 0 3 v0 rfl rfl) h0
  obtain ⟨m, rfl, rfl, rfl, hm⟩ := open_int Tryz.underlying3 (hval 1 3 v1 rfl rfl) h1
  obtain ⟨a, c, l, rfl, hb⟩ := bs_of_trod (hval 2 27 v2 rfl rfl) h2
  have hE := env_of_laid hL
  have hB := door_size W hL
  clear hA0 hval0
  simp only [List.append_nil] at hW'
  refine (ledgerNames_t hE hB n m (wf_i64 hn) (wf_i64 hm) hb).mono fun e W' ⟨he, hbw⟩ => ?_
  subst he
  refine ⟨_, rfl, ?_⟩
  have hlt : ∀ x ∈ p2, x.block < W.heap.size := fun x hx => by simpa using hW'.lt x (by simpa using hx)
  exact post_of_below hW' (fun _ _ _ => trodAll_mk1 (shut_bool Tryz.underlying4 _))
    (fun sp hsp => trodAll_mk3 (shut_int Tryz.underlying3 hn) (shut_int Tryz.underlying3 hm) (trod_after laidOut (by kernel_rfl) (of_decide_eq_true (by kernel_rfl)) h2 hbw hlt sp (fun x hx => hsp x (by simpa using hx))))
    (fun _ _ => rfl) (by simp) hbw (ok_one (by kernel_rfl) rfl (okWide_bool_mk Tryz.underlying4 _))
theorem ledgerNames_holds : Rows.LedgerNamesSaid :=
  OpenClaim.holds_of_wide 4 Tryz.f4 rfl rfl rfl rfl rfl rfl rfl ⟨rfl, rfl, rfl, rfl, rfl⟩ rfl rfl rfl rfl rfl (by kernel_rfl) Tryz.func4 (by kernel_rfl)
    (of_decide_eq_true (by kernel_rfl)) (by unfold Func.isWrapper; first | (rw [if_pos (by decide +kernel)]; kernel_rfl) | (rw [if_neg (by decide +kernel)]; exact ⟨rfl, rfl⟩))
    (fun os started H enc _ => ledgerNames_lifted os started H enc)
theorem ledgerNames_card : Rows.LedgerNamesCardSaid :=
  Claim7.holds_tied_plain_at .later [] [.data, .data, .data, .data, .sentinel, .sentinel] true (true, "0ab7c83c1672bf8c850f1051b57ddf953dceb826234ee46c8015e3da2cec6e5c") true
    ledgerNames_holds (fun _ h => by cases h) (by kernel_rfl) (fun _ h => by cases h) ledgerNames_row_tie rfl ⟨rfl, rfl⟩ (by kernel_rfl) rfl
    (fun f fn hf hfn => by
      obtain rfl : f = 4 := Option.some.inj ((show Tryz.prog.funcNamed "staith/staithlaw12.LedgerNames" = some 4 by kernel_rfl).symm.trans hf) |>.symm
      obtain rfl : fn = Tryz.f4 := (Option.some.inj (Tryz.func4.symm.trans hfn)).symm
      exact ⟨by kernel_rfl, fun j t ht => by
        rw [Tryz.params4] at ht
        have h3 : t = 27 ∨ t = 3 := by
          rcases j with _ | _ | _ | j
          · right; simpa using ht.symm
          · right; simpa using ht.symm
          · left; simpa using ht.symm
          · simp at ht
        rcases h3 with rfl | rfl
        · exact (show Tryz.prog.wantsStandIn 27 = false by kernel_rfl)
        · exact (show Tryz.prog.wantsStandIn 3 = false by kernel_rfl)⟩)
    (by kernel_rfl)
#print axioms ledgerNames_card
end Go.Proofs.YthjilhjdnefmdaaGreatDoor
