/- Joined texts: The document's examples. Conditions: none. From what a row reads to what the walks ask: the laid variables, slices of bytes. Conditions: none. -/
import Derived.Test.YthjilhjdnefmdaaGreatDoorMP
import Derived.Lib.SlBytesConst
import Derived.Test.YthjilhjdnefmdaaGreatDoorCards
import Derived.Test.YthjilhjdnefmdaaGreatDoorTie
import Derived.ProofKit
import Derived.LaidMore
import Derived.OpenShut
import Derived.Stop.Joined
import Derived.Stop.LaidErr
import Derived.SevenTiedAt
import Derived.Carry
import Derived.ChangeSame
import Derived.Deep.Slices
/- The document's examples. Conditions: none. -/
namespace Go.Proofs.YthjilhjdnefmdaaGreatDoor
open Go.RowKit
open Go.ChangeMaps (setBlock)
theorem sealsL_sum (ws : List (List UInt8)) : (sealsL ws).length = (ws.map fun l => l.length + 8).sum := by
  unfold sealsL
  rw [List.length_flatten, List.map_map]
  congr 1
  apply List.map_congr_left
  intro l _
  exact sealL_len l
section
variable {B : Nat} {w w' : World} {p pl : Nat} {vw : Value} {part : Int} {chk : List UInt8} {sure waits : List (List UInt8)} {R C N : Int} {one : Prop}
theorem Ses.weaken (h : Ses B w p pl vw part chk sure waits R C N one) {C' N' : Int} (hC : C ≤ C') (hN : N ≤ N') {one' : Prop} (ho : one' → one) : Ses B w p pl vw part chk sure waits R C' N' one' := by
  obtain ⟨mn, ms, bl, st, L, vs, h1, h2, ⟨⟨fst, ck, pre, s, g1, g2, g3, g4, g5, g6⟩, h3, h4⟩, h5, h6, h7, h8, h9⟩ := h
  exact ⟨mn, ms, bl, st, L, vs, h1, h2, ⟨⟨fst, ck, pre, s, g1, g2, g3, g4, by omega, by omega⟩, h3, h4⟩, h5, h6, h7, h8, fun h => h9 (ho h)⟩
theorem conv_lit (w : World) (z : Int) : (convert 27 27 (.slice (some ⟨w.heap.size, 0, none⟩) 1 1)).run Tryz.prog (w.alloc (.cells #[.int .u8 z] 5)) = .ok (.slice (some ⟨w.heap.size, 0, none⟩) 1 1) (w.alloc (.cells #[.int .u8 z] 5 (1, 2))) :=
  Lib.run_convert_bytes_const w 27 5 #[.int .u8 z] 1 1 (by kernel_rfl) (by kernel_rfl)
theorem lit_bs (B : Nat) (w : World) (x : UInt8) (fr : Nat × Nat) : BS B (w.alloc (.cells #[.int .u8 (x.toNat : Int)] 5 fr)) (.slice (some ⟨w.heap.size, 0, none⟩) 1 1) [x] := by
  refine ⟨_, _, rfl, Nat.le_refl _, by unfold maxLen; simp, .inr ⟨_, _, rfl, .inr ⟨_, _, hp_new _ _⟩, fun i z hz => ?_⟩⟩
  rw [Nat.zero_add, cell_of (hp_new _ _)]
  simpa [bv] using hz
theorem name12 : nameA 12 = ⟨#[108, 111, 103, 46, 49, 50]⟩ := by
  unfold nameA
  congr 1
  simp [nameL, dotLog, Lib.itoa, Lib.decDigits]
/-- .. whatever its own block is. -/
def SesX (B : Nat) (w : World) (p pl : Nat) (part : Int) (chk : List UInt8) (sure waits : List (List UInt8)) (R C N : Int) : Prop := ∃ vw, Ses B w p pl vw part chk sure waits R C N False
def OkPost (B : Nat) (w : World) (P : World → Prop) (e : Ending) (w' : World) : Prop := e = .returned (.int .i64 0) ∧ P w' ∧ Below B w w'
theorem lit_x (h : SesX B w p pl part chk sure waits R C N) (x : UInt8) (z : Int) (hz : z = x.toNat) (hw : waits.length < 1000) :
    Calls Tryz.prog 11 #[.pointer (some ⟨pl, 0, none⟩), .slice (some ⟨w.heap.size, 0, none⟩) 1 1] (w.alloc (.cells #[.int .u8 z] 5 (1, 2))) (OkPost B w fun w' => SesX B w' p pl part chk sure (waits ++ [[x]]) R C N) := by
  subst hz
  obtain ⟨vw, h⟩ := h
  have hb : Below w.heap.size w (w.alloc (.cells #[.int .u8 (x.toNat : Int)] 5 (1, 2))) := (Below.refl _ w).alloc (Nat.le_refl _) _
  have hx := lit_bs B w x (1, 2)
  refine (add_ses (h.below hb) hx (by simp) hw).mono ?_
  rintro e w' ⟨rfl, vw', h1, -, h3⟩
  exact ⟨rfl, ⟨vw', h1⟩, (hb.mono h.le).trans h3.below⟩
theorem markLit_x (hE : Env w) (h : SesX B w p pl part chk sure waits R C N) (hB : 6 ≤ B) (x : UInt8) (z : Int) (hz : z = x.toNat) (hC : C + (sealsL waits).length + 100 ≤ R) (hN : N + 2 ≤ 999999999) :
    Calls Tryz.prog 19 #[.pointer (some ⟨pl, 0, none⟩), .slice (some ⟨w.heap.size, 0, none⟩) 1 1] (w.alloc (.cells #[.int .u8 z] 5 (1, 2))) (OkPost B w fun w' => SesX B w' p pl part [x] [] [] R 49 (N + 2)) := by
  subst hz
  obtain ⟨vw, h⟩ := h
  have hb : Below w.heap.size w (w.alloc (.cells #[.int .u8 (x.toNat : Int)] 5 (1, 2))) := (Below.refl _ w).alloc (Nat.le_refl _) _
  have hx := lit_bs B w x (1, 2)
  refine (mark_ses (hE.below hb (Nat.le_trans hB h.le)) (h.below hb) hB hx (by simp) (by simp only [List.length_cons, List.length_nil]; omega) hN).mono ?_
  rintro e w' ⟨rfl, vw', h1, -, h3⟩
  exact ⟨rfl, ⟨vw', h1.weaken (by simp) (Int.le_refl _) (fun h => trivial)⟩, (hb.mono h.le).trans h3.below⟩
theorem flush_x (hE : Env w) (h : SesX B w p pl part chk sure waits R C N) (hB : 6 ≤ B) (hC : C + (sealsL waits).length + 16 ≤ R) (hN : N + 1 ≤ 999999999) :
    Calls Tryz.prog 13 #[.pointer (some ⟨pl, 0, none⟩)] w (OkPost B w fun w' => SesX B w' p pl part chk (sure ++ waits) [] R (C + (sealsL waits).length + 16) (N + 1)) := by
  obtain ⟨vw, h⟩ := h
  refine (flush_ses hE h hB hC hN).mono ?_
  rintro e w' ⟨rfl, vw', h1, -, h3⟩
  exact ⟨rfl, ⟨vw', h1⟩, h3.below⟩
end
attribute [local go_sem] conv_lit
def LivesPost (w : World) (e : Ending) (w' : World) : Prop := e = .returned (.bool true) ∧ Below w.heap.size w w'
set_option maxRecDepth 100000 in
set_option maxHeartbeats 2000000 in
theorem lives_t {w : World} (hE : Env w) (hB : 6 ≤ w.heap.size) : Calls Tryz.prog 10 #[] w (LivesPost w) := by
  have HE := Lib.hid hE
  clear hE
  go_enter Tryz.func10, Tryz.ntmps10
  go_wp2_with fail
  refine (new_t w 10000 (by omega) (by omega)).mono ?_
  rintro e w1 ⟨p, rfl, hr1, hs1⟩
  have B1 := Lib.hid hs1.below
  have C1 := Lib.hid (first_ses (part := 100) (HE.out.below B1.out hB) hr1 hB (by omega) (by omega))
  clear hr1 hs1
  go_wp2_with fail
  refine C1.out.mono ?_
  rintro e w2 ⟨pl, a1, n1, c1, a2, n2, c2, rfl, h2, hs2, -⟩
  have B2 := Lib.hid (B1.out.trans hs2.below)
  have C2 := Lib.hid (lit_x ⟨_, h2⟩ 97 97 (by decide) (by simp))
  clear h2 hs2
  go_wp2_with fail
  refine C2.out.mono ?_
  rintro e w3 ⟨rfl, h3, hb3⟩
  have B3 := Lib.hid (B2.out.trans hb3)
  have C3 := Lib.hid (lit_x h3 98 98 (by decide) (by simp))
  clear h3 hb3
  go_wp2_with fail
  refine C3.out.mono ?_
  rintro e w4 ⟨rfl, ⟨vw4, h4⟩, hb4⟩
  have B4 := Lib.hid (B3.out.trans hb4)
  have H4 := Lib.hid h4
  clear h4 hb4
  go_wp2_with fail
  refine (pending_ses H4.out).mono ?_
  rintro e w5 ⟨rfl, rfl⟩
  have C5 := Lib.hid (flush_x (HE.out.below B4.out hB) ⟨_, H4.out⟩ hB (by rw [sealsL_sum]; simp) (by omega))
  simp only [List.nil_append, List.cons_append, List.length_cons, List.length_nil]
  go_wp2_with fail
  refine C5.out.mono ?_
  rintro e w6 ⟨rfl, ⟨vw6, h6⟩, hb6⟩
  have B6 := Lib.hid (B4.out.trans hb6)
  have h6' : SesX w.heap.size w6 p pl 100 [] [[97], [98]] [] 10000 1000 2 := ⟨vw6, h6.weaken (by rw [sealsL_sum]; simp) (by omega) id⟩
  have C6 := Lib.hid (markLit_x (HE.out.below B6.out hB) h6' hB 99 99 (by decide) (by simp [sealsL]) (by omega))
  clear h6 h6' hb6
  go_wp2_with fail
  refine C6.out.mono ?_
  rintro e w7 ⟨rfl, h7, hb7⟩
  have B7 := Lib.hid (B6.out.trans hb7)
  have C7 := Lib.hid (lit_x h7 100 100 (by decide) (by simp))
  clear h7 hb7
  go_wp2_with fail
  refine C7.out.mono ?_
  rintro e w8 ⟨rfl, h8, hb8⟩
  have B8 := Lib.hid (B7.out.trans hb8)
  have C8 := Lib.hid (flush_x (HE.out.below B8.out hB) h8 hB (by rw [sealsL_sum]; simp) (by omega))
  clear h8 hb8
  go_wp2_with fail
  refine C8.out.mono ?_
  rintro e w9 ⟨rfl, ⟨vw9, h9⟩, hb9⟩
  have B9 := Lib.hid (B8.out.trans hb9)
  have C9 := Lib.hid (open_ses (part2 := 100) (HE.out.below B9.out hB) h9 hB (by omega))
  clear h9 hb9
  go_wp2_with fail
  refine C9.out.mono ?_
  rintro e w10 ⟨pl2, vc, vr, rfl, hvc, ⟨vs, hvs, hrows⟩, h10, hs10⟩
  have B10 := Lib.hid (B9.out.trans hs10.below)
  have k1 := conv_bs hvc
  obtain ⟨vx, rfl⟩ : ∃ vx, vs = [vx] := by
    have := hrows.1
    match vs, this with
    | [vx], _ => exact ⟨vx, rfl⟩
  have hvx := hrows.2 0 (by simp) (by simp)
  have k2 := conv_bs hvx
  obtain ⟨ar, cr, rfl, -, -⟩ := id hvs
  obtain ⟨br, or, rfl, e1⟩ := hvs.at.2.2.2 0 (by simp)
  obtain ⟨ac, cc, rfl, -, -⟩ := hvc.form
  have C10 := Lib.hid (name_t (HE.out.below B10.out hB) 12 (by omega) (by omega))
  rw [name12] at C10
  obtain ⟨ax, cx, hv, -, -⟩ := hvx.form
  have he : ([] ++ ([] ++ [[100]]) : List (List UInt8))[0] = [100] := rfl
  subst hv
  clear hvc hvs hrows h10 hs10 hvx
  simp only [List.nil_append, List.getElem_cons_zero, List.length_cons, List.length_nil, Nat.add_zero, Nat.zero_add] at e1 k1 k2 ⊢
  go_wp2_with fail
  refine C10.out.mono ?_
  rintro e w11 ⟨rfl, hb11⟩
  go_wp2
  go_ret
  exact ⟨rfl, B10.out.trans (hb11.mono B10.out.size)⟩
end Go.Proofs.YthjilhjdnefmdaaGreatDoor
/- From what a row reads to what the walks ask: the laid variables, slices of bytes. Conditions: none. -/
namespace Go.Proofs.YthjilhjdnefmdaaGreatDoor
open Go.ChangeShapes Go.WideShapes Go.ChangeAt Go.WideMaps Go.WideElems Go.RowKit
set_option maxRecDepth 100000
theorem own : ownKnob Tryz.prog.godebug = none := by kernel_rfl
theorem laidOut : laidOutB Tryz.prog = true := by kernel_rfl
theorem cells5 : Tryz.prog.cellsOf 5 = 1 := by kernel_rfl
theorem cells27 : Tryz.prog.cellsOf 27 = 1 := by kernel_rfl
/-- What every row lists. -/
abbrev laidL : List (String × DataW Unit) := [("math/bits.deBruijn32tab", Rows.laid_math_bits_deBruijn32tab), ("math/bits.deBruijn64tab", Rows.laid_math_bits_deBruijn64tab), ("internal/strconv.uint64pow10", Rows.laid_internal_strconv_uint64pow10), ("staith/word.widths", Rows.laid_staith_word_widths), ("strconv.ErrRange", Rows.laid_strconv_ErrRange), ("strconv.ErrSyntax", Rows.laid_strconv_ErrSyntax)]
theorem starErr : "*" ++ "errors.errorString" = "*errors.errorString" := by decide
theorem typ_errStr (u : TypeId) (h : Tryz.prog.typeName? 3 u = some "*errors.errorString") : u = 170 :=
  typeName_ptr_named (nm := "errors.errorString") (by rw [starErr]; kernel_rfl) (by kernel_rfl) (by decide) u (by rw [starErr]; exact h)
theorem env_of_laid {W : World} (h : laidMetH Tryz.prog laidL W) : Env W := by
  rw [MakeChecks.laidMetH_plain _ _ _ (by kernel_rfl)] at h
  have h3 := laidMet.tail (laidMet.tail h)
  have h4 := laidMet.tail h3
  have h5 := laidMet.tail h4
  have h6 := laidMet.tail h5
  have p10 : Lib.TabIs Tryz.prog W "internal/strconv.uint64pow10" .u64 Lib.pow10Tab :=
    Lib.tabIs_of_head (g := 3) (t := 161) (e := 73) (n := 20) (by kernel_rfl) (by kernel_rfl) (by kernel_rfl) (by kernel_rfl) (by kernel_rfl) (by kernel_rfl) h3
  have wd : Lib.TabIs Tryz.prog W "staith/word.widths" .i64 [1, 2, 4, 8] :=
    Lib.tabIs_of_head (g := 0) (t := 121) (e := 3) (n := 4) (by kernel_rfl) (by kernel_rfl) (by kernel_rfl) (by kernel_rfl) (by kernel_rfl) (by kernel_rfl) h4
  have g0 : Tryz.prog.globalNamed "staith/word.widths" = some 0 := by kernel_rfl
  have gR : Tryz.prog.globalNamed "strconv.ErrRange" = some 2 := by kernel_rfl
  have gS : Tryz.prog.globalNamed "strconv.ErrSyntax" = some 1 := by kernel_rfl
  obtain ⟨aR, sR, hR, -⟩ := laid_sentinel h5 gR (by kernel_rfl) Tryz.underlying98 typ_errStr Tryz.underlying170 Tryz.underlying172 rfl rfl Tryz.underlying9 (by kernel_rfl) (by kernel_rfl)
  obtain ⟨aS, sS, hS, -⟩ := laid_sentinel h6 gS (by kernel_rfl) Tryz.underlying98 typ_errStr Tryz.underlying170 Tryz.underlying172 rfl rfl Tryz.underlying9 (by kernel_rfl) (by kernel_rfl)
  refine ⟨⟨?_, ?_, ?_, ?_⟩, ⟨_, by simpa using World.var?_cell gS hS 0, .inr ⟨_, _, rfl⟩⟩, ⟨_, by simpa using World.var?_cell gR hR 0, .inr ⟨_, _, rfl⟩⟩, p10⟩
  · simpa using wd.cell g0 0 (by decide)
  · simpa using wd.cell g0 1 (by decide)
  · simpa using wd.cell g0 2 (by decide)
  · simpa using wd.cell g0 3 (by decide)
theorem door_met (os : Os) (args : Array Value) : laidMetH Tryz.prog laidL ((World.doorLaid Tryz.prog 67 os).forCall (fun _ _ => 0) ⟨#[], args, []⟩).memory :=
  laidMetH_of_parts3 (fuel := 8) (laidMet_of_run' 8 (by kernel_rfl) (by kernel_rfl)) (by kernel_rfl) (by kernel_rfl)
theorem door_size (W : World) (h : laidMetH Tryz.prog laidL W) : 6 ≤ W.heap.size := by
  rw [MakeChecks.laidMetH_plain _ _ _ (by kernel_rfl)] at h
  have h2 := laidMet.tail h
  have w5 : ∃ cs, W.var? Tryz.prog "math/bits.deBruijn64tab" = some cs := by
    obtain ⟨ps, ⟨g', t', cs, fuel, p, q, hg', ht', hvar, hd, _, _⟩, _⟩ := h2
    exact ⟨cs, hvar⟩
  obtain ⟨cs, hv⟩ := w5
  have hg : Tryz.prog.globalNamed "math/bits.deBruijn64tab" = some 5 := by kernel_rfl
  unfold World.var? at hv
  rw [hg] at hv
  simp only [Option.bind_some] at hv
  rcases Nat.lt_or_ge 5 W.heap.size with hlt | hge
  · exact hlt
  · rw [Array.getElem?_eq_none hge] at hv
    cases hv
theorem wf_i64 {n : Int} (h : (Lit.int .i64 n).wf = true) : -9223372036854775808 ≤ n ∧ n ≤ 9223372036854775807 := by
  have e1 : IntKind.i64.min = -9223372036854775808 := by decide
  have e2 : IntKind.i64.max = 9223372036854775807 := by decide
  simp only [Lit.wf, Bool.and_eq_true, decide_eq_true_eq, e1, e2] at h
  exact h
theorem wf_u64 {n : Int} (h : (Lit.int .u64 n).wf = true) : 0 ≤ n ∧ n ≤ 18446744073709551615 := by
  have e1 : IntKind.u64.min = 0 := by decide
  have e2 : IntKind.u64.max = 18446744073709551615 := by decide
  simp only [Lit.wf, Bool.and_eq_true, decide_eq_true_eq, e1, e2] at h
  exact h
section
variable {H : Type} {enc : TypeId × Value → H}
/-- A slice of bytes that came in. -/
theorem bs_of_cs {W : World} {fuel : Nat} {cs : List Value} {x : DataW H × List MemPlace} (h : DataW.trod enc Tryz.prog W 0 (fun _ => true) true fuel 27 cs = some x) :
    ∃ a c l, cs = [.slice a (l : List UInt8).length c] ∧ BS W.heap.size W (.slice a l.length c) l := by
  rcases open_ints (by kernel_rfl) (by kernel_rfl) cells5 h with ⟨rfl, -⟩ | ⟨a, len, cap, zs, rfl, _, hl, hm, hz, -, hcell, hwz⟩
  · exact ⟨none, 0, [], rfl, RS.nil _ _ _⟩
  · simp only [if_true] at hz
    have hlen : ((zs.take len).map fun n => UInt8.ofNat n.toNat).length = len := by simp; omega
    refine ⟨some a, cap, (zs.take len).map fun n => UInt8.ofNat n.toNat, by rw [hlen], some a, cap, ?_, ?_, hm, ?_⟩
    · simp
    · rw [List.length_map, hlen]; exact hl
    · rcases Nat.eq_zero_or_pos len with h0 | h0
      · left
        subst h0
        simp
      · right
        obtain ⟨ab, ao, spot⟩ := a
        have hspot : spot = none := by simpa [Addr.add] using World.cell?_spot (hcell 0 (by omega))
        subst hspot
        refine ⟨ab, ao, rfl, .inl ?_, fun i y hy => ?_⟩
        · exact World.block_lt_of_cell? W ((⟨ab, ao, none⟩ : Addr).add 0) (hcell 0 (by omega))
        · have hi : i < len := by
            have := (List.getElem?_eq_some_iff.1 hy).1
            rw [List.length_map, hlen] at this; exact this
          have hc := hcell i (by omega)
          rw [Addr.add_lit] at hc
          rw [hc]
          have hb := range_u8 hwz i
          rw [List.getElem?_map, List.getElem?_map, List.getElem?_take, if_pos hi, List.getElem?_eq_getElem (show i < zs.length by omega)] at hy
          simp only [Option.map_some, Option.some.injEq] at hy
          have e : zs.getD i 0 = zs[i]'(by omega) := by simp [List.getD, List.getElem?_eq_getElem (show i < zs.length by omega)]
          rw [e]
          rw [List.getD_eq_getElem?_getD] at e
          rw [e] at hb
          rw [← hy]
          unfold bv
          congr 2
          simp only [UInt8.toNat_ofNat']
          omega
theorem bs_of_trod {W : World} {base : Nat} {v : Value} {d : DataW H} {p : List MemPlace} (hval : Value.okWide Tryz.prog W .any base 27 v) (h : DataW.Trod enc Tryz.prog W 0 (fun _ => true) true 27 v d p) :
    ∃ a c l, v = .slice a (l : List UInt8).length c ∧ BS W.heap.size W (.slice a l.length c) l := by
  obtain ⟨a1, len, cap, rfl⟩ := okWide_slice Tryz.underlying27 hval
  obtain ⟨fuel, hf⟩ := h
  obtain ⟨a, c, l, hcs, hb⟩ := bs_of_cs hf
  simp [Value.cells] at hcs
  obtain ⟨rfl, rfl, rfl⟩ := hcs
  exact ⟨a1, cap, l, rfl, hb⟩
end
section
variable {H : Type} {enc : TypeId × Value → H} {P : Program}
/-- The row's last step where below the old heap nothing turned. -/
theorem post_of_below {f : Func} {s : ChangeSpec} {apart fresh handsOn again : Bool} {W W' : World} {args : Array Value} {v : Value} {ds gs : List (DataW H)} {before pa pv : List MemPlace}
    (hW : DataW.Whole enc P f.params.toList s.vars apart W args.toList ds gs before)
    (hres : ∀ (b : Nat) (sp : Nat → Bool) (hd : Bool), DataW.TrodAll enc P W' b sp hd f.resultTypes.toList (v.resultList f.resultTypes.size) (s.fn H (ds ++ gs)).results [])
    (hargs : ∀ sp : Nat → Bool, (∀ p ∈ before, sp p.block = true) → DataW.TrodAll enc P W' 0 sp true f.params.toList args.toList (s.fn H (ds ++ gs)).args pa)
    (hvars : ∀ sp : Nat → Bool, (∀ p ∈ before, sp p.block = true) → DataW.TrodVars enc P W' sp s.vars (s.fn H (ds ++ gs)).vars pv)
    (hps : before = pa ++ pv) (hb : Below W.heap.size W W')
    (hok : ∀ (j : Nat) (t : TypeId) (r : Value), f.resultTypes[j]? = some t → (v.resultList f.resultTypes.size)[j]? = some r → Value.okWide P W' .any 0 t r) :
    s.post enc P f apart fresh handsOn again W args v W' := by
  have hlt : ∀ p ∈ before, p.block < W.heap.size := fun p hp => hW.lt p hp
  have hold : ∀ p ∈ before, (fun b => decide (b < W.heap.size)) p.block = true := fun p hp => by simpa using hlt p hp
  refine ⟨ds, gs, before, [], pa, pv, hW, hres _ _ _, hargs _ hold, hvars _ hold, World.keptBut_mono (fun p hp => ⟨hp, ?_⟩) (hb.frame (· ∈ before)), fun _ => ?_⟩
  · rw [hps, List.mem_append] at hp
    exact Or.inr hp
  · obtain ⟨_, _, _, _, _, hz, hn⟩ := hW
    refine ⟨hok, _, _, ([] ++ pa) ++ pv, ⟨[] ++ pa, pv, trodAll_append (hargs _ (fun _ _ => rfl)) (hres _ _ _), hvars _ (fun _ _ => rfl), rfl, ?_, ?_⟩, ?_⟩
    · intro b off hp
      have hin : MemPlace.cell b off ∈ before := by rw [hps]; simpa using hp
      rw [hb.frozen (hlt _ hin)]
      exact hz b off hin
    · intro ha
      have := hn ha
      rw [hps] at this
      simpa using this
    · intro p hp _
      rw [hps]
      simpa using hp
/-- An argument reads behind the call as it did, whatever spare is read. -/
theorem trod_after {t : TypeId} (hl : laidOutB P = true) (hr : P.readableRec t = true) (hrow : t < P.types.size) {W W' : World} {v : Value} {d : DataW H} {ps : List MemPlace}
    (h : DataW.Trod enc P W 0 (fun _ => true) true t v d ps) (hb : Below W.heap.size W W') (hlt : ∀ x ∈ ps, x.block < W.heap.size) (sp : Nat → Bool) (hsp : ∀ x ∈ ps, sp x.block = true) :
    DataW.Trod enc P W' 0 sp true t v d ps :=
  WideElems.Trod_stays hl hr hrow h (fun x hx => hb.same (hlt x hx)) hsp
end
end Go.Proofs.YthjilhjdnefmdaaGreatDoor
