/- LedgerNone: whatever the input, the law answers true and leaves what came in as it was. Conditions: the row's own (the listed variables hold what the text lays). -/
import Derived.Test.YthjilhjdnefmdaaGreatDoorMR
/- A ledger that no call made: the law's walk. Conditions: none. -/
namespace Go.Proofs.YthjilhjdnefmdaaGreatDoor
open Go.RowKit
open Go.ChangeMaps (setBlock)
theorem idx48_0 (w : World) (x : Option Addr) : (Instr.index 48 (.agg #[.pointer none, .pointer x]) (.int .i64 0)).run Tryz.prog w = .ok (.pointer none) w := by kernel_rfl
theorem idx48_1 (w : World) (x : Option Addr) : (Instr.index 48 (.agg #[.pointer none, .pointer x]) (.int .i64 1)).run Tryz.prog w = .ok (.pointer x) w := by kernel_rfl
attribute [local go_sem] idx48_0 idx48_1
/-- The four calls of a round. -/
structure NoneCalls (wr : World) (v vb : Value) : Prop where
  a : Calls Tryz.prog 11 #[v, vb] wr fun e w' => e = .returned (.int .i64 1) ∧ wr = w'
  f : Calls Tryz.prog 13 #[v] wr fun e w' => e = .returned (.int .i64 1) ∧ Hid (Below wr.heap.size wr w')
theorem none_f {wr w' : World} {v : Value} (h : NoLed wr v) (hb : Below wr.heap.size wr w') (vb : Value) : Calls Tryz.prog 19 #[v, vb] w' fun e w2 => e = .returned (.int .i64 1) ∧ Hid (Below wr.heap.size wr w2) := by
  refine (nomark_t (h.below hb) vb).mono ?_
  rintro e w2 ⟨rfl, h2⟩
  exact ⟨rfl, Lib.hid (hb.trans (h2.mono hb.size))⟩
set_option maxRecDepth 100000 in
set_option maxHeartbeats 2000000 in
theorem ledgerNone_t {w : World} (hE : Env w) (hB : 6 ≤ w.heap.size) (a : Option Addr) (n c : Nat) (k : Int) (hk : -9223372036854775808 ≤ k ∧ k ≤ 9223372036854775807) : Calls Tryz.prog 5 #[.slice a n c, .int .i64 k] w (LivesPost w) := by
  have HE := Lib.hid hE
  have hb1 : Below w.heap.size w (w.alloc (.cells #[.pointer none, .int .i64 0, .int .i64 0, .slice none 0 0, .bool false] 47)) := (Below.refl _ w).alloc (Nat.le_refl _) _
  have HB1 := Lib.hid hb1
  have HN : Hid (NoLed (w.alloc (.cells #[.pointer none, .int .i64 0, .int .i64 0, .slice none 0 0, .bool false] 47)) (.pointer (some ⟨w.heap.size, 0, none⟩))) := Lib.hid (.inr ⟨_, _, rfl, hp_new _ _⟩)
  clear hE hb1
  go_enter Tryz.func5, Tryz.ntmps5
  go_wp2_with fail
  generalize w.alloc (.cells #[.pointer none, .int .i64 0, .int .i64 0, .slice none 0 0, .bool false] 47) = w1 at *
  go_loopw [13] (fun i wr => ∃ k : Nat, k ≤ 2 ∧ i = .int .i64 k ∧ Hid (Below w1.heap.size w1 wr)) (fun i _ => 2 - (intOf i).toNat)
  case atStart => exact ⟨0, by omega, rfl, Lib.hid (Below.refl _ _)⟩
  case round =>
    obtain ⟨j, hj, rfl, hbw⟩ := hrel
    have hj3 : j = 0 ∨ j = 1 ∨ j = 2 := by omega
    rcases hj3 with rfl | rfl | rfl
    · have hn : NoLed wr (.pointer none) := .inl rfl
      have HN0 := Lib.hid hn
      clear hn
      go_wp2_with fail
      refine (noadd_t HN0.out _).mono ?_
      rintro e w2 ⟨rfl, rfl⟩
      unfold errv
      go_wp2_with fail
      refine (noflush_t HN0.out).mono ?_
      rintro e w3 ⟨rfl, hb3⟩
      have HB3 := Lib.hid hb3
      unfold errv
      clear hb3
      go_wp2_with fail
      refine (none_f HN0.out HB3.out _).mono ?_
      rintro e w4 ⟨rfl, hb4⟩
      go_wp2_with fail
      refine (nopending_t (HN0.out.below hb4.out)).mono ?_
      rintro e w5 ⟨rfl, rfl⟩
      go_wp2_with fail
      refine (noparts_t (HN0.out.below hb4.out)).mono ?_
      rintro e w5 ⟨rfl, rfl⟩
      go_wp2
      go_roundw
      case rel => exact ⟨1, by omega, by go_num, Lib.hid (hbw.out.trans (hb4.out.mono hbw.out.size))⟩
      case measure => simp [intOf]
    · have HN0 := Lib.hid (HN.out.below hbw.out)
      go_wp2_with fail
      refine (noadd_t HN0.out _).mono ?_
      rintro e w2 ⟨rfl, rfl⟩
      unfold errv
      go_wp2_with fail
      refine (noflush_t HN0.out).mono ?_
      rintro e w3 ⟨rfl, hb3⟩
      have HB3 := Lib.hid hb3
      unfold errv
      clear hb3
      go_wp2_with fail
      refine (none_f HN0.out HB3.out _).mono ?_
      rintro e w4 ⟨rfl, hb4⟩
      go_wp2_with fail
      refine (nopending_t (HN0.out.below hb4.out)).mono ?_
      rintro e w5 ⟨rfl, rfl⟩
      go_wp2_with fail
      refine (noparts_t (HN0.out.below hb4.out)).mono ?_
      rintro e w5 ⟨rfl, rfl⟩
      go_wp2
      go_roundw
      case rel => exact ⟨2, by omega, by go_num, Lib.hid (hbw.out.trans (hb4.out.mono hbw.out.size))⟩
      case measure => simp [intOf]
    · have HBW := Lib.hid (HB1.out.trans (hbw.out.mono HB1.out.size))
      go_wp2_with fail
      refine (noopen_t wr k hk).mono ?_
      rintro e w2 ⟨rfl, hb2⟩
      have HB2 := Lib.hid (HBW.out.trans (hb2.mono HBW.out.size))
      clear hb2
      go_wp2_with fail
      refine (lives_t (HE.out.below HB2.out hB) (Nat.le_trans hB HB2.out.size)).mono ?_
      rintro e w3 ⟨rfl, hb3⟩
      go_wp2
      go_ret
      exact ⟨rfl, HB2.out.trans (hb3.mono HB2.out.size)⟩
end Go.Proofs.YthjilhjdnefmdaaGreatDoor
/- LedgerNone: whatever the input, the law answers true and leaves what came in as it was. Conditions: the row's own (the listed variables hold what the text lays). -/
namespace Go.Proofs.YthjilhjdnefmdaaGreatDoor
open Go.ChangeShapes Go.WideShapes Go.ChangeAt Go.WideMaps Go.WideElems Go.RowKit
set_option maxRecDepth 100000
theorem ledgerNone_lifted (os : Os) (started : os.Started) (H : Type) (enc : TypeId × Value → H) :
    ReturnsInHanded {} Tryz.checked os 5 .any (fun w args => (Rows.ledgerNoneSpec.pre enc Tryz.prog Tryz.f5 [] false w args ∧ laidMetH Tryz.prog laidL w) ∧ sizedMet enc Tryz.prog Tryz.f5 (OpenSpec.ofChange Rows.ledgerNoneSpec) false w args)
      (Rows.ledgerNoneSpec.post enc Tryz.prog Tryz.f5 false true false false) := by
  refine returnsInHanded_of_change_and (C := Tryz.checked) (X := fun w _ => laidMetH Tryz.prog laidL w) (fun _ _ _ hh h => h.of_heap hh) own started (by kernel_rfl) Tryz.func5
    (ChangeSpec.witness_shaped (enc := enc) (C := Tryz.checked) (os := os) (X := fun w _ => laidMetH Tryz.prog laidL w) false (World.doorLaid Tryz.prog 67 os) #[.slice none 0 0, .int .i64 0] 8 rfl (World.shaped_of_RefB (by kernel_rfl) (by kernel_rfl)) (by kernel_rfl) (by kernel_rfl) (by kernel_rfl) (door_met os _)) ?_
  intro W base args ds gs before hval0 hW _ _ hL _
  have hval : ∀ (j : Nat) t v, Tryz.f5.params[j]? = some t → args[j]? = some v → Value.okWide Tryz.prog W .any base t v := hval0
  have hW' := hW
  obtain ⟨p, q, hA0, hV, rfl, hfz, hnd⟩ := hW
  have hA : DataW.TrodAll enc Tryz.prog W 0 (fun _ => true) true Tryz.f5.params.toList args.toList ds p := hA0
  rw [Tryz.params5] at hA hval
  obtain ⟨v0, v1, d0, d1, p0, p1, rfl, rfl, rfl, h0, h1⟩ := trodAll_two hA
  obtain ⟨rfl, rfl⟩ := trodVars_none hV
  obtain ⟨a, c, l, rfl, hb⟩ := bs_of_trod (hval 0 27 v0 rfl rfl) h0
  obtain ⟨n, rfl, rfl, rfl, hn⟩ := open_int Tryz.underlying3 (hval 1 3 v1 rfl rfl) h1
  have hE := env_of_laid hL
  have hB := door_size W hL
  clear hA0 hval0
  simp only [List.append_nil] at hW'
  refine (ledgerNone_t hE hB a l.length c n (wf_i64 hn)).mono fun e W' ⟨he, hbw⟩ => ?_
  subst he
  refine ⟨_, rfl, ?_⟩
  have hlt : ∀ x ∈ p0, x.block < W.heap.size := fun x hx => by simpa using hW'.lt x (by simpa using hx)
  exact post_of_below hW' (fun _ _ _ => trodAll_mk1 (shut_bool Tryz.underlying4 _))
    (fun sp hsp => trodAll_mk2 (trod_after laidOut (by kernel_rfl) (of_decide_eq_true (by kernel_rfl)) h0 hbw hlt sp (fun x hx => hsp x (by simpa using hx))) (shut_int Tryz.underlying3 hn))
    (fun _ _ => rfl) (by simp) hbw (ok_one (by kernel_rfl) rfl (okWide_bool_mk Tryz.underlying4 _))
theorem ledgerNone_holds : Rows.LedgerNoneSaid :=
  OpenClaim.holds_of_wide 5 Tryz.f5 rfl rfl rfl rfl rfl rfl rfl ⟨rfl, rfl, rfl, rfl, rfl⟩ rfl rfl rfl rfl rfl (by kernel_rfl) Tryz.func5 (by kernel_rfl)
    (of_decide_eq_true (by kernel_rfl)) (by unfold Func.isWrapper; first | (rw [if_pos (by decide +kernel)]; kernel_rfl) | (rw [if_neg (by decide +kernel)]; exact ⟨rfl, rfl⟩))
    (fun os started H enc _ => ledgerNone_lifted os started H enc)
theorem ledgerNone_card : Rows.LedgerNoneCardSaid :=
  Claim7.holds_tied_plain_at .later [] [.data, .data, .data, .data, .sentinel, .sentinel] true (true, "0ab7c83c1672bf8c850f1051b57ddf953dceb826234ee46c8015e3da2cec6e5c") true
    ledgerNone_holds (fun _ h => by cases h) (by kernel_rfl) (fun _ h => by cases h) ledgerNone_row_tie rfl ⟨rfl, rfl⟩ (by kernel_rfl) rfl
    (fun f fn hf hfn => by
      obtain rfl : f = 5 := Option.some.inj ((show Tryz.prog.funcNamed "staith/staithlaw12.LedgerNone" = some 5 by kernel_rfl).symm.trans hf) |>.symm
      obtain rfl : fn = Tryz.f5 := (Option.some.inj (Tryz.func5.symm.trans hfn)).symm
      exact ⟨by kernel_rfl, fun j t ht => by
        rw [Tryz.params5] at ht
        have h3 : t = 27 ∨ t = 3 := by
          rcases j with _ | _ | j
          · left; simpa using ht.symm
          · right; simpa using ht.symm
          · simp at ht
        rcases h3 with rfl | rfl
        · exact (show Tryz.prog.wantsStandIn 27 = false by kernel_rfl)
        · exact (show Tryz.prog.wantsStandIn 3 = false by kernel_rfl)⟩)
    (by kernel_rfl)
#print axioms ledgerNone_card
end Go.Proofs.YthjilhjdnefmdaaGreatDoor
