/- Joined texts: Whole numbers in bytes. Conditions: none. A number put behind bytes. Conditions: none. A number of eight bytes put behind bytes. Conditions: none. A number that bytes begin with. Conditions: none. The sum of bytes. Conditions: none. Bytes sealed and opened. Conditions: none. All that was sealed, one behind the other. Conditions: none. All that was sealed, walked. Conditions: none. -/
import Derived.Test.YthjilhjdnefmdaaGreatDoorMA
import Derived.Lib.LaidTab
import Derived.Laws.CopyOwn
import Derived.Test.YthjilhjdnefmdaaGreatDoorMB
import Derived.WalkMore
import Derived.BigQuiet
/- Whole numbers in bytes. Conditions: none. -/
namespace Go.Proofs.YthjilhjdnefmdaaGreatDoor
open Go.RowKit
open Go.ChangeMaps (setBlock)

/-- The four widths lie in the variable's cells. -/
structure Env0 (w : World) : Prop where
  c0 : w.cell? ⟨0, 0, none⟩ = some (.int .i64 1)
  c1 : w.cell? ⟨0, 1, none⟩ = some (.int .i64 2)
  c2 : w.cell? ⟨0, 2, none⟩ = some (.int .i64 4)
  c3 : w.cell? ⟨0, 3, none⟩ = some (.int .i64 8)

theorem Env0.below {w w' : World} (h : Env0 w) {B : Nat} (hb : Below B w w') (hB : 0 < B) : Env0 w' :=
  ⟨(hb.cell (p := ⟨0, 0, none⟩) hB).trans h.c0, (hb.cell (p := ⟨0, 1, none⟩) hB).trans h.c1, (hb.cell (p := ⟨0, 2, none⟩) hB).trans h.c2, (hb.cell (p := ⟨0, 3, none⟩) hB).trans h.c3⟩

theorem idx_w (w : World) : (Instr.index 121 (.agg #[.int .i64 1, .int .i64 2, .int .i64 4, .int .i64 8]) (.int .i64 0)).run Tryz.prog w = .ok (.int .i64 1) w := by kernel_rfl
theorem idx_w1 (w : World) : (Instr.index 121 (.agg #[.int .i64 1, .int .i64 2, .int .i64 4, .int .i64 8]) (.int .i64 1)).run Tryz.prog w = .ok (.int .i64 2) w := by kernel_rfl
theorem idx_w2 (w : World) : (Instr.index 121 (.agg #[.int .i64 1, .int .i64 2, .int .i64 4, .int .i64 8]) (.int .i64 2)).run Tryz.prog w = .ok (.int .i64 4) w := by kernel_rfl
theorem idx_w3 (w : World) : (Instr.index 121 (.agg #[.int .i64 1, .int .i64 2, .int .i64 4, .int .i64 8]) (.int .i64 3)).run Tryz.prog w = .ok (.int .i64 8) w := by kernel_rfl
attribute [local go_sem] idx_w idx_w1 idx_w2 idx_w3
set_option maxRecDepth 100000 in
set_option maxHeartbeats 400000 in
theorem wgood4_t (w : World) (h : Env0 w) : Calls Tryz.prog 82 #[.int .i64 4] w fun e w' => e = .returned (.bool true) ∧ w = w' := by
  obtain ⟨c0, c1, c2, c3⟩ := h
  go_enter Tryz.func82, Tryz.ntmps82
  go_wp2
  go_loop [6] (fun i => ∃ k : Nat, k ≤ 2 ∧ i = .int .i64 k) (fun i => 4 - (intOf i).toNat)
  case atStart => exact ⟨0, Nat.zero_le _, rfl⟩
  case round =>
    obtain ⟨k, hk, rfl⟩ := hrel
    have hk' : k = 0 ∨ k = 1 ∨ k = 2 := by omega
    rcases hk' with rfl | rfl | rfl
    all_goals go_wp2
    all_goals first
      | (go_round
         case rel => exact ⟨_ + 1, by omega, rfl⟩
         case measure => simp [intOf])
      | (go_ret; exact ⟨rfl, rfl⟩)

set_option maxRecDepth 100000 in
set_option maxHeartbeats 400000 in
theorem wgood8_t (w : World) (h : Env0 w) : Calls Tryz.prog 82 #[.int .i64 8] w fun e w' => e = .returned (.bool true) ∧ w = w' := by
  obtain ⟨c0, c1, c2, c3⟩ := h
  go_enter Tryz.func82, Tryz.ntmps82
  go_wp2
  go_loop [6] (fun i => ∃ k : Nat, k ≤ 3 ∧ i = .int .i64 k) (fun i => 4 - (intOf i).toNat)
  case atStart => exact ⟨0, Nat.zero_le _, rfl⟩
  case round =>
    obtain ⟨k, hk, rfl⟩ := hrel
    have hk' : k = 0 ∨ k = 1 ∨ k = 2 ∨ k = 3 := by omega
    rcases hk' with rfl | rfl | rfl | rfl
    all_goals go_wp2
    all_goals first
      | (go_round
         case rel => exact ⟨_ + 1, by omega, rfl⟩
         case measure => simp [intOf])
      | (go_ret; exact ⟨rfl, rfl⟩)

end Go.Proofs.YthjilhjdnefmdaaGreatDoor
/- A number put behind bytes. Conditions: none. -/
namespace Go.Proofs.YthjilhjdnefmdaaGreatDoor
open Go.RowKit
open Go.ChangeMaps (setBlock)
def putB (n : Nat) (v : Int) : List UInt8 := (List.range n).map fun k => UInt8.ofNat (v.toNat / 2 ^ (8 * (n - 1 - k)))

theorem wpList_copy_run {ops : Array Oper} {rest : List Oper} {o : Oper} {a : Act} {Q : Exit → Act → World → Prop} {w w' : World} (hgd : o.guard = none) (s x : Operand) (t tx : TypeId)
    (ho : o.op = .call { callee := .builtin .copy, args := #[s, x], argTypes := #[t, tx] }) (v src v' : Value) (hs : a.eval s = v) (hx : a.eval x = src)
    (hr : (Builtin.copy_ #[t, tx] o.type #[v, src]).run Tryz.prog w = .ok v' w')
    (h : wpList Tryz.prog ops Q rest (a.put o.dst v') w') : wpList Tryz.prog ops Q (o :: rest) a w :=
  wpList_plain hgd fun _ hK => by
    unfold Oper.wp execOp
    simp only [ho, resolve, invoke, builtin, Sem.run_bind, Sem.run_pure, Result.andThen_ok, List.map_toArray, List.map_cons, List.map_nil, hs, hx, hr]
    exact hK _ _ h

theorem run_make_room (w : World) (L : Nat) (hL : L ≤ 140737488355320) : ∃ C : Array Value, C.size = L + 8 ∧
    (Instr.makeSlice 27 (.int .i64 (L : Int)) (.int .i64 ((L : Int) + 8))).run Tryz.prog w = .ok (.slice (some ⟨w.heap.size, 0, none⟩) L (L + 8)) (w.alloc (.cells C 5)) := by
  obtain ⟨i, hi, hz, hs, hb⟩ := slT27.hi
  refine ⟨madeCells #[.int .u8 0] ((L + 8) * 1), by simp [madeCells], ?_⟩
  have := run_make (P := Tryz.prog) w 27 5 i (.int .u8 0) slT27.ht hi hz .i64 .i64 (L : Int) ((L : Int) + 8) (by omega) (by omega) (by rw [hb]; omega) (by omega)
  rw [this, hs]
  have e : ((L : Int) + 8).toNat = L + 8 := by omega
  rw [e, Int.toNat_natCast]
  rfl

theorem run_copy_bytes {w : World} {base B g L : Nat} {C : Array Value} (hC : C.size = L + 8) (hg : w.heap[g]? = some (.cells C 5 (0, 0))) (hbase : base ≤ g) {v : Value} {l : List UInt8} (hl : l.length = L) (hv : BS B w v l) (hm : L ≤ 140737488355320) (ty : TypeId) :
    ∃ v' w', (Builtin.copy_ #[27, 27] ty #[.slice (some ⟨g, 0, none⟩) L (L + 8), v]).run Tryz.prog w = .ok v' w' ∧ w'.ownsRow base 5 1 (.slice (some ⟨g, 0, none⟩) L (L + 8)) L (l.map bv) ∧ w.grownBy w' (some g) := by
  have hsz : (Tryz.prog.info? 5).map (·.size) = some 1 := by kernel_rfl
  obtain ⟨a, c, rfl, hc1, hc2, hc3⟩ := hv
  rw [List.length_map] at *
  subst hl
  by_cases h0 : l.length = 0
  · have hl : l = [] := List.eq_nil_of_length_eq_zero h0
    subst hl
    have hr := run_copy_none (P := Tryz.prog) w 27 27 ty 5 (some ⟨g, 0, none⟩) a 0 (0 + 8) 0 c (by kernel_rfl) hsz rfl
    exact ⟨_, w, hr, ⟨rfl, .inr ⟨g, 8, C, rfl, hbase, hg, by omega, by decide, by simpa using hC, by simp⟩⟩, ⟨rfl, rfl, rfl, Nat.le_refl _, fun _ _ _ => rfl⟩⟩
  · obtain ⟨b, o, rfl, hcell⟩ : ∃ b o, a = some ⟨b, o, none⟩ ∧ ∀ i x, (l.map bv)[i]? = some x → w.cell? ⟨b, o + i, none⟩ = some x := by
      rcases hc3 with h | ⟨b, o, h1, _, h2⟩
      · simp at h; rw [h] at h0; simp at h0
      · exact ⟨b, o, h1, h2⟩
    have hr := run_copy_row (P := Tryz.prog) w 27 27 ty 5 g 0 l.length (l.length + 8) ⟨b, o, none⟩ l.length c C 5 (l.map bv) (by kernel_rfl) hsz hg (by simp) (fun j u hu => by
      have hadd : (⟨b, o, none⟩ : Addr).add j = ⟨b, o + j, none⟩ := by unfold Addr.add; split <;> simp_all
      rw [hadd]; exact hcell j u hu) (by simp; omega) (bv_one l)
    refine ⟨_, _, hr, ⟨by simp, .inr ⟨g, l.length + 8, _, rfl, hbase, setRow_heap w g _ _ 5 _ hg, by omega, by unfold maxLen; omega, ?_, ?_⟩⟩, ?_⟩
    · simp; omega
    · simp
    · exact ⟨rfl, rfl, rfl, by simp [World.setRow], fun k hk hne => setRow_other w g k _ (by intro e; exact hne (by rw [e]))⟩

theorem rs_one (e : TypeId) (B : Nat) (w : World) (x : Value) : RS e B (w.alloc (.cells #[x] e)) (.slice (some ⟨w.heap.size, 0, none⟩) 1 1) [x] := by
  refine ⟨_, 1, rfl, Nat.le_refl _, by decide, .inr ⟨w.heap.size, 0, rfl, .inr ⟨_, _, hp_new w _⟩, fun j y hj => ?_⟩⟩
  rw [cell_of (hp_new w _), Nat.zero_add]
  simpa using hj
theorem bv_div (v : Int) (h : 0 ≤ v) (m : Nat) : bv (UInt8.ofNat (v.toNat / m)) = .int .u8 (v / (m : Int) % 256) := by
  obtain ⟨n, rfl⟩ := Int.eq_ofNat_of_zero_le h
  unfold bv
  have e : (UInt8.ofNat (n / m)).toNat = (n / m) % 256 := UInt8.toNat_ofNat'
  rw [Int.toNat_natCast, e]
  rfl
theorem putB_succ (n : Nat) (v : Int) (h0 : 0 ≤ v) (k : Nat) (hk : k < n) : ((putB n v).take (k + 1)).map bv = ((putB n v).take k).map bv ++ [.int .u8 (v / ((2 ^ (8 * (n - 1 - k)) : Nat) : Int) % 256)] := by
  have hl : k < (putB n v).length := by simp [putB, hk]
  rw [List.take_succ_eq_append_getElem hl, List.map_append]
  congr 1
  simp only [List.map_cons, List.map_nil, putB, List.getElem_map, List.getElem_range]
  rw [bv_div v h0]
theorem own_row_alloc {w : World} {base : Nat} {e : TypeId} {v : Value} {n : Nat} {xs : List Value} (h : w.ownsRow base e 1 v n xs) (o : Obj) : (w.alloc o).ownsRow base e 1 v n xs := h.alloc o

set_option maxRecDepth 100000 in
set_option maxHeartbeats 1000000 in
theorem put4_t {B : Nat} {w : World} {vb : Value} {lb : List UInt8} (hE : Env0 w) (h : BS B w vb lb) (hl : lb.length ≤ 140737488355000) (hB : B ≤ w.heap.size) (hB0 : 0 < w.heap.size) (v : Int) (hv0 : 0 ≤ v) (_hv1 : v < 18446744073709551616) :
    Calls Tryz.prog 52 #[vb, .int .i64 4, .int .u64 v] w fun e w' => ∃ v', e = .returned v' ∧ w'.ownsRow w.heap.size 5 1 v' (lb.length + 4) ((lb ++ putB 4 v).map bv) ∧ Below w.heap.size w w' := by
  obtain ⟨C, hC, hmk⟩ := run_make_room w lb.length (by omega)
  have hb1 : Below w.heap.size w (w.alloc (.cells C 5)) := (Below.refl _ _).alloc (Nat.le_refl _) _
  have hv2 := RS.below h hb1 hB
  obtain ⟨v2, w2, hcp, hown, hg⟩ := run_copy_bytes (base := w.heap.size) (B := B) hC (hp_new w (.cells C 5)) (Nat.le_refl _) rfl hv2 (by omega) 3
  have hb2 : Below w.heap.size w w2 := hb1.grown hg (by simp) (fun k hk => by cases hk; exact Nat.le_refl _)
  have HE2 := Lib.hid (hE.below hb2 hB0)
  obtain ⟨a, c, rfl, -, -⟩ : ∃ a c, vb = .slice a lb.length c ∧ lb.length ≤ c ∧ c ≤ maxLen := by
    obtain ⟨a, c, h1, h2, h3, -⟩ := h
    rw [List.length_map] at h1 h2
    exact ⟨a, c, h1, h2, h3⟩
  have HCP := Lib.hid hcp; have HO := Lib.hid hown; have HB := Lib.hid hb2
  clear hcp hown hg hb1 hb2 h hE hC hv2
  go_enter Tryz.func52, Tryz.ntmps52
  go_wp2_with (refine wpList_copy_run rfl _ _ 27 27 rfl _ _ _ rfl rfl HCP.out ?_)
  refine (wgood4_t w2 HE2.out).mono ?_
  rintro e w3 ⟨rfl, rfl⟩
  have hpl : (putB 4 v).length = 4 := by simp [putB]
  have HPL := Lib.hid hpl; clear hpl hmk
  go_wp2_with fail
  go_loopw [7, 23] (fun d i wr => ∃ k : Nat, k ≤ 4 ∧ i = .int .i64 k ∧ wr.ownsRow w.heap.size 5 1 d (lb.length + k) ((lb ++ (putB 4 v).take k).map bv) ∧ Below w.heap.size w wr) (fun _ i _ => 4 - (intOf i).toNat)
  case atStart => exact ⟨0, Nat.zero_le _, rfl, by simpa using HO.out, HB.out⟩
  case round =>
    obtain ⟨k, hk, rfl, hown, hb⟩ := hrel
    have HO' := Lib.hid hown; clear hown
    have HB' := Lib.hid hb; clear hb
    by_cases h4 : k < 4
    · have hk' : k = 0 ∨ k = 1 ∨ k = 2 ∨ k = 3 := by omega
      rcases hk' with rfl | rfl | rfl | rfl
      · have hs := putB_succ 4 v hv0 0 (by omega)
        have hst : Hid (((putB 4 v).take (0 + 1)).map bv = ((putB 4 v).take 0).map bv ++ [.int .u8 (v / 16777216 % 256)]) := Lib.hid (by
          rw [hs]; congr 3)
        clear hs
        go_wp2_with (at_builtin; refine wpList_append_rs slT27 rfl (.tmp 26) (.tmp 35) rfl w.heap.size B _ _ _ rfl (own_row_alloc HO'.out _) _ rfl [.int .u8 (v / 16777216 % 256)] (rs_one 5 B wr _) (by simp [Value.oneCell']) (by unfold maxLen; simp only [List.length_cons, List.length_nil]; omega) (by simp only [List.length_cons, List.length_nil]; omega) (by have := HB'.out.size; simp; omega) ?_; intro v' w' hown hg)
        have HO2 := Lib.hid hown; have HG := Lib.hid hg; clear hown hg
        go_wp2
        go_roundw
        case rel =>
          refine ⟨0 + 1, by omega, rfl, ?_, below_grown (HB'.out.alloc HB'.out.size _) HG.out (own_row_alloc HO'.out _) (Nat.le_refl _)⟩
          have := HO2.out
          rw [List.map_append, hst.out, ← List.append_assoc, ← List.map_append]
          exact this
        case measure => simp [intOf]
      · have hs := putB_succ 4 v hv0 1 (by omega)
        have hst : Hid (((putB 4 v).take (1 + 1)).map bv = ((putB 4 v).take 1).map bv ++ [.int .u8 (v / 65536 % 256)]) := Lib.hid (by
          rw [hs]; congr 3)
        clear hs
        go_wp2_with (at_builtin; refine wpList_append_rs slT27 rfl (.tmp 26) (.tmp 35) rfl w.heap.size B _ _ _ rfl (own_row_alloc HO'.out _) _ rfl [.int .u8 (v / 65536 % 256)] (rs_one 5 B wr _) (by simp [Value.oneCell']) (by unfold maxLen; simp only [List.length_cons, List.length_nil]; omega) (by simp only [List.length_cons, List.length_nil]; omega) (by have := HB'.out.size; simp; omega) ?_; intro v' w' hown hg)
        have HO2 := Lib.hid hown; have HG := Lib.hid hg; clear hown hg
        go_wp2
        go_roundw
        case rel =>
          refine ⟨1 + 1, by omega, rfl, ?_, below_grown (HB'.out.alloc HB'.out.size _) HG.out (own_row_alloc HO'.out _) (Nat.le_refl _)⟩
          have := HO2.out
          rw [List.map_append, hst.out, ← List.append_assoc, ← List.map_append]
          exact this
        case measure => simp [intOf]
      · have hs := putB_succ 4 v hv0 2 (by omega)
        have hst : Hid (((putB 4 v).take (2 + 1)).map bv = ((putB 4 v).take 2).map bv ++ [.int .u8 (v / 256 % 256)]) := Lib.hid (by
          rw [hs]; congr 3)
        clear hs
        go_wp2_with (at_builtin; refine wpList_append_rs slT27 rfl (.tmp 26) (.tmp 35) rfl w.heap.size B _ _ _ rfl (own_row_alloc HO'.out _) _ rfl [.int .u8 (v / 256 % 256)] (rs_one 5 B wr _) (by simp [Value.oneCell']) (by unfold maxLen; simp only [List.length_cons, List.length_nil]; omega) (by simp only [List.length_cons, List.length_nil]; omega) (by have := HB'.out.size; simp; omega) ?_; intro v' w' hown hg)
        have HO2 := Lib.hid hown; have HG := Lib.hid hg; clear hown hg
        go_wp2
        go_roundw
        case rel =>
          refine ⟨2 + 1, by omega, rfl, ?_, below_grown (HB'.out.alloc HB'.out.size _) HG.out (own_row_alloc HO'.out _) (Nat.le_refl _)⟩
          have := HO2.out
          rw [List.map_append, hst.out, ← List.append_assoc, ← List.map_append]
          exact this
        case measure => simp [intOf]
      · have hs := putB_succ 4 v hv0 3 (by omega)
        have hst : Hid (((putB 4 v).take (3 + 1)).map bv = ((putB 4 v).take 3).map bv ++ [.int .u8 (v % 256)]) := Lib.hid (by
          rw [hs]; congr 3; simp)
        clear hs
        go_wp2_with (at_builtin; refine wpList_append_rs slT27 rfl (.tmp 26) (.tmp 35) rfl w.heap.size B _ _ _ rfl (own_row_alloc HO'.out _) _ rfl [.int .u8 (v % 256)] (rs_one 5 B wr _) (by simp [Value.oneCell']) (by unfold maxLen; simp only [List.length_cons, List.length_nil]; omega) (by simp only [List.length_cons, List.length_nil]; omega) (by have := HB'.out.size; simp; omega) ?_; intro v' w' hown hg)
        have HO2 := Lib.hid hown; have HG := Lib.hid hg; clear hown hg
        go_wp2
        go_roundw
        case rel =>
          refine ⟨3 + 1, by omega, rfl, ?_, below_grown (HB'.out.alloc HB'.out.size _) HG.out (own_row_alloc HO'.out _) (Nat.le_refl _)⟩
          have := HO2.out
          rw [List.map_append, hst.out, ← List.append_assoc, ← List.map_append]
          exact this
        case measure => simp [intOf]
    · have : k = 4 := by omega
      subst this
      go_wp2
      go_ret
      refine ⟨_, rfl, ?_, HB'.out⟩
      have := HO'.out
      rw [List.take_of_length_le (by rw [HPL.out]; omega)] at this
      exact this

end Go.Proofs.YthjilhjdnefmdaaGreatDoor
/- A number of eight bytes put behind bytes. Conditions: none. -/
namespace Go.Proofs.YthjilhjdnefmdaaGreatDoor
open Go.RowKit
open Go.ChangeMaps (setBlock)
set_option maxRecDepth 100000 in
set_option maxHeartbeats 1000000 in
theorem put8_t {B : Nat} {w : World} {vb : Value} {lb : List UInt8} (hE : Env0 w) (h : BS B w vb lb) (hl : lb.length ≤ 140737488355000) (hB : B ≤ w.heap.size) (hB0 : 0 < w.heap.size) (v : Int) (hv0 : 0 ≤ v) (hv1 : v < 18446744073709551616) :
    Calls Tryz.prog 52 #[vb, .int .i64 8, .int .u64 v] w fun e w' => ∃ v', e = .returned v' ∧ w'.ownsRow w.heap.size 5 1 v' (lb.length + 8) ((lb ++ putB 8 v).map bv) ∧ Below w.heap.size w w' := by
  obtain ⟨C, hC, hmk⟩ := run_make_room w lb.length (by omega)
  have hb1 : Below w.heap.size w (w.alloc (.cells C 5)) := (Below.refl _ _).alloc (Nat.le_refl _) _
  have hv2 := RS.below h hb1 hB
  obtain ⟨v2, w2, hcp, hown, hg⟩ := run_copy_bytes (base := w.heap.size) (B := B) hC (hp_new w (.cells C 5)) (Nat.le_refl _) rfl hv2 (by omega) 3
  have hb2 : Below w.heap.size w w2 := hb1.grown hg (by simp) (fun k hk => by cases hk; exact Nat.le_refl _)
  have HE2 := Lib.hid (hE.below hb2 hB0)
  obtain ⟨a, c, rfl, -, -⟩ : ∃ a c, vb = .slice a lb.length c ∧ lb.length ≤ c ∧ c ≤ maxLen := by
    obtain ⟨a, c, h1, h2, h3, -⟩ := h
    rw [List.length_map] at h1 h2
    exact ⟨a, c, h1, h2, h3⟩
  have HCP := Lib.hid hcp; have HO := Lib.hid hown; have HB := Lib.hid hb2
  clear hcp hown hg hb1 hb2 h hE hC hv2
  go_enter Tryz.func52, Tryz.ntmps52
  go_wp2_with (refine wpList_copy_run rfl _ _ 27 27 rfl _ _ _ rfl rfl HCP.out ?_)
  refine (wgood8_t w2 HE2.out).mono ?_
  rintro e w3 ⟨rfl, rfl⟩
  have hpl : (putB 8 v).length = 8 := by simp [putB]
  have HPL := Lib.hid hpl; clear hpl hmk
  go_wp2_with fail
  go_loopw [7, 23] (fun d i wr => ∃ k : Nat, k ≤ 8 ∧ i = .int .i64 k ∧ wr.ownsRow w.heap.size 5 1 d (lb.length + k) ((lb ++ (putB 8 v).take k).map bv) ∧ Below w.heap.size w wr) (fun _ i _ => 8 - (intOf i).toNat)
  case atStart => exact ⟨0, Nat.zero_le _, rfl, by simpa using HO.out, HB.out⟩
  case round =>
    obtain ⟨k, hk, rfl, hown, hb⟩ := hrel
    have HO' := Lib.hid hown; clear hown
    have HB' := Lib.hid hb; clear hb
    by_cases h4 : k < 8
    · have hk' : k = 0 ∨ k = 1 ∨ k = 2 ∨ k = 3 ∨ k = 4 ∨ k = 5 ∨ k = 6 ∨ k = 7 := by omega
      rcases hk' with rfl | rfl | rfl | rfl | rfl | rfl | rfl | rfl
      · have hs := putB_succ 8 v hv0 0 (by omega)
        have hst : Hid (((putB 8 v).take (0 + 1)).map bv = ((putB 8 v).take 0).map bv ++ [.int .u8 (v / 72057594037927936)]) := Lib.hid (by
          rw [hs]; congr 3; show v / (72057594037927936 : Int) % 256 = v / 72057594037927936; omega)
        clear hs
        go_wp2_with (at_builtin; refine wpList_append_rs slT27 rfl (.tmp 26) (.tmp 35) rfl w.heap.size B _ _ _ rfl (own_row_alloc HO'.out _) _ rfl [.int .u8 (v / 72057594037927936)] (rs_one 5 B wr _) (by simp [Value.oneCell']) (by unfold maxLen; simp only [List.length_cons, List.length_nil]; omega) (by simp only [List.length_cons, List.length_nil]; omega) (by have := HB'.out.size; simp; omega) ?_; intro v' w' hown hg)
        have HO2 := Lib.hid hown; have HG := Lib.hid hg; clear hown hg
        go_wp2
        go_roundw
        case rel =>
          refine ⟨0 + 1, by omega, rfl, ?_, below_grown (HB'.out.alloc HB'.out.size _) HG.out (own_row_alloc HO'.out _) (Nat.le_refl _)⟩
          have := HO2.out
          rw [List.map_append, hst.out, ← List.append_assoc, ← List.map_append]
          exact this
        case measure => simp [intOf]
      · have hs := putB_succ 8 v hv0 1 (by omega)
        have hst : Hid (((putB 8 v).take (1 + 1)).map bv = ((putB 8 v).take 1).map bv ++ [.int .u8 (v / 281474976710656 % 256)]) := Lib.hid (by
          rw [hs]; congr 3)
        clear hs
        go_wp2_with (at_builtin; refine wpList_append_rs slT27 rfl (.tmp 26) (.tmp 35) rfl w.heap.size B _ _ _ rfl (own_row_alloc HO'.out _) _ rfl [.int .u8 (v / 281474976710656 % 256)] (rs_one 5 B wr _) (by simp [Value.oneCell']) (by unfold maxLen; simp only [List.length_cons, List.length_nil]; omega) (by simp only [List.length_cons, List.length_nil]; omega) (by have := HB'.out.size; simp; omega) ?_; intro v' w' hown hg)
        have HO2 := Lib.hid hown; have HG := Lib.hid hg; clear hown hg
        go_wp2
        go_roundw
        case rel =>
          refine ⟨1 + 1, by omega, rfl, ?_, below_grown (HB'.out.alloc HB'.out.size _) HG.out (own_row_alloc HO'.out _) (Nat.le_refl _)⟩
          have := HO2.out
          rw [List.map_append, hst.out, ← List.append_assoc, ← List.map_append]
          exact this
        case measure => simp [intOf]
      · have hs := putB_succ 8 v hv0 2 (by omega)
        have hst : Hid (((putB 8 v).take (2 + 1)).map bv = ((putB 8 v).take 2).map bv ++ [.int .u8 (v / 1099511627776 % 256)]) := Lib.hid (by
          rw [hs]; congr 3)
        clear hs
        go_wp2_with (at_builtin; refine wpList_append_rs slT27 rfl (.tmp 26) (.tmp 35) rfl w.heap.size B _ _ _ rfl (own_row_alloc HO'.out _) _ rfl [.int .u8 (v / 1099511627776 % 256)] (rs_one 5 B wr _) (by simp [Value.oneCell']) (by unfold maxLen; simp only [List.length_cons, List.length_nil]; omega) (by simp only [List.length_cons, List.length_nil]; omega) (by have := HB'.out.size; simp; omega) ?_; intro v' w' hown hg)
        have HO2 := Lib.hid hown; have HG := Lib.hid hg; clear hown hg
        go_wp2
        go_roundw
        case rel =>
          refine ⟨2 + 1, by omega, rfl, ?_, below_grown (HB'.out.alloc HB'.out.size _) HG.out (own_row_alloc HO'.out _) (Nat.le_refl _)⟩
          have := HO2.out
          rw [List.map_append, hst.out, ← List.append_assoc, ← List.map_append]
          exact this
        case measure => simp [intOf]
      · have hs := putB_succ 8 v hv0 3 (by omega)
        have hst : Hid (((putB 8 v).take (3 + 1)).map bv = ((putB 8 v).take 3).map bv ++ [.int .u8 (v / 4294967296 % 256)]) := Lib.hid (by
          rw [hs]; congr 3)
        clear hs
        go_wp2_with (at_builtin; refine wpList_append_rs slT27 rfl (.tmp 26) (.tmp 35) rfl w.heap.size B _ _ _ rfl (own_row_alloc HO'.out _) _ rfl [.int .u8 (v / 4294967296 % 256)] (rs_one 5 B wr _) (by simp [Value.oneCell']) (by unfold maxLen; simp only [List.length_cons, List.length_nil]; omega) (by simp only [List.length_cons, List.length_nil]; omega) (by have := HB'.out.size; simp; omega) ?_; intro v' w' hown hg)
        have HO2 := Lib.hid hown; have HG := Lib.hid hg; clear hown hg
        go_wp2
        go_roundw
        case rel =>
          refine ⟨3 + 1, by omega, rfl, ?_, below_grown (HB'.out.alloc HB'.out.size _) HG.out (own_row_alloc HO'.out _) (Nat.le_refl _)⟩
          have := HO2.out
          rw [List.map_append, hst.out, ← List.append_assoc, ← List.map_append]
          exact this
        case measure => simp [intOf]
      · have hs := putB_succ 8 v hv0 4 (by omega)
        have hst : Hid (((putB 8 v).take (4 + 1)).map bv = ((putB 8 v).take 4).map bv ++ [.int .u8 (v / 16777216 % 256)]) := Lib.hid (by
          rw [hs]; congr 3)
        clear hs
        go_wp2_with (at_builtin; refine wpList_append_rs slT27 rfl (.tmp 26) (.tmp 35) rfl w.heap.size B _ _ _ rfl (own_row_alloc HO'.out _) _ rfl [.int .u8 (v / 16777216 % 256)] (rs_one 5 B wr _) (by simp [Value.oneCell']) (by unfold maxLen; simp only [List.length_cons, List.length_nil]; omega) (by simp only [List.length_cons, List.length_nil]; omega) (by have := HB'.out.size; simp; omega) ?_; intro v' w' hown hg)
        have HO2 := Lib.hid hown; have HG := Lib.hid hg; clear hown hg
        go_wp2
        go_roundw
        case rel =>
          refine ⟨4 + 1, by omega, rfl, ?_, below_grown (HB'.out.alloc HB'.out.size _) HG.out (own_row_alloc HO'.out _) (Nat.le_refl _)⟩
          have := HO2.out
          rw [List.map_append, hst.out, ← List.append_assoc, ← List.map_append]
          exact this
        case measure => simp [intOf]
      · have hs := putB_succ 8 v hv0 5 (by omega)
        have hst : Hid (((putB 8 v).take (5 + 1)).map bv = ((putB 8 v).take 5).map bv ++ [.int .u8 (v / 65536 % 256)]) := Lib.hid (by
          rw [hs]; congr 3)
        clear hs
        go_wp2_with (at_builtin; refine wpList_append_rs slT27 rfl (.tmp 26) (.tmp 35) rfl w.heap.size B _ _ _ rfl (own_row_alloc HO'.out _) _ rfl [.int .u8 (v / 65536 % 256)] (rs_one 5 B wr _) (by simp [Value.oneCell']) (by unfold maxLen; simp only [List.length_cons, List.length_nil]; omega) (by simp only [List.length_cons, List.length_nil]; omega) (by have := HB'.out.size; simp; omega) ?_; intro v' w' hown hg)
        have HO2 := Lib.hid hown; have HG := Lib.hid hg; clear hown hg
        go_wp2
        go_roundw
        case rel =>
          refine ⟨5 + 1, by omega, rfl, ?_, below_grown (HB'.out.alloc HB'.out.size _) HG.out (own_row_alloc HO'.out _) (Nat.le_refl _)⟩
          have := HO2.out
          rw [List.map_append, hst.out, ← List.append_assoc, ← List.map_append]
          exact this
        case measure => simp [intOf]
      · have hs := putB_succ 8 v hv0 6 (by omega)
        have hst : Hid (((putB 8 v).take (6 + 1)).map bv = ((putB 8 v).take 6).map bv ++ [.int .u8 (v / 256 % 256)]) := Lib.hid (by
          rw [hs]; congr 3)
        clear hs
        go_wp2_with (at_builtin; refine wpList_append_rs slT27 rfl (.tmp 26) (.tmp 35) rfl w.heap.size B _ _ _ rfl (own_row_alloc HO'.out _) _ rfl [.int .u8 (v / 256 % 256)] (rs_one 5 B wr _) (by simp [Value.oneCell']) (by unfold maxLen; simp only [List.length_cons, List.length_nil]; omega) (by simp only [List.length_cons, List.length_nil]; omega) (by have := HB'.out.size; simp; omega) ?_; intro v' w' hown hg)
        have HO2 := Lib.hid hown; have HG := Lib.hid hg; clear hown hg
        go_wp2
        go_roundw
        case rel =>
          refine ⟨6 + 1, by omega, rfl, ?_, below_grown (HB'.out.alloc HB'.out.size _) HG.out (own_row_alloc HO'.out _) (Nat.le_refl _)⟩
          have := HO2.out
          rw [List.map_append, hst.out, ← List.append_assoc, ← List.map_append]
          exact this
        case measure => simp [intOf]
      · have hs := putB_succ 8 v hv0 7 (by omega)
        have hst : Hid (((putB 8 v).take (7 + 1)).map bv = ((putB 8 v).take 7).map bv ++ [.int .u8 (v % 256)]) := Lib.hid (by
          rw [hs]; congr 3; simp)
        clear hs
        go_wp2_with (at_builtin; refine wpList_append_rs slT27 rfl (.tmp 26) (.tmp 35) rfl w.heap.size B _ _ _ rfl (own_row_alloc HO'.out _) _ rfl [.int .u8 (v % 256)] (rs_one 5 B wr _) (by simp [Value.oneCell']) (by unfold maxLen; simp only [List.length_cons, List.length_nil]; omega) (by simp only [List.length_cons, List.length_nil]; omega) (by have := HB'.out.size; simp; omega) ?_; intro v' w' hown hg)
        have HO2 := Lib.hid hown; have HG := Lib.hid hg; clear hown hg
        go_wp2
        go_roundw
        case rel =>
          refine ⟨7 + 1, by omega, rfl, ?_, below_grown (HB'.out.alloc HB'.out.size _) HG.out (own_row_alloc HO'.out _) (Nat.le_refl _)⟩
          have := HO2.out
          rw [List.map_append, hst.out, ← List.append_assoc, ← List.map_append]
          exact this
        case measure => simp [intOf]
    · have : k = 8 := by omega
      subst this
      go_wp2
      go_ret
      refine ⟨_, rfl, ?_, HB'.out⟩
      have := HO'.out
      rw [List.take_of_length_le (by rw [HPL.out]; omega)] at this
      exact this

end Go.Proofs.YthjilhjdnefmdaaGreatDoor
/- A number that bytes begin with. Conditions: none. -/
namespace Go.Proofs.YthjilhjdnefmdaaGreatDoor
open Go.RowKit
open Go.ChangeMaps (setBlock)
def getB (l : List UInt8) : Int := l.foldl (fun v b => v * 256 + b.toNat) 0
theorem getB_snoc (l : List UInt8) (b : UInt8) : getB (l ++ [b]) = getB l * 256 + b.toNat := by simp [getB]
def GetPost (w : World) (r : Int × Bool) (e : Ending) (w' : World) : Prop := e = .returned (.tuple #[.int .u64 r.1, .bool r.2]) ∧ w = w'
def getA (n : Nat) (l : List UInt8) : Int × Bool := if l.length < n then (0, false) else (getB (l.take n), true)
theorem getB_lt (l : List UInt8) : 0 ≤ getB l ∧ getB l < ((256 ^ l.length : Nat) : Int) := by
  have key : ∀ (l : List UInt8) (v : Int) (m : Nat), 0 ≤ v → v < (m : Int) → 0 ≤ l.foldl (fun v b => v * 256 + (b.toNat : Int)) v ∧ l.foldl (fun v b => v * 256 + (b.toNat : Int)) v < ((m * 256 ^ l.length : Nat) : Int) := by
    intro l
    induction l with
    | nil => intro v m h0 h1; simpa using ⟨h0, h1⟩
    | cons b l ih =>
      intro v m h0 h1
      have hb := b.toNat_lt
      have := ih (v * 256 + (b.toNat : Int)) (m * 256) (by omega) (by omega)
      simp only [List.foldl_cons, List.length_cons]
      have e : m * 256 * 256 ^ l.length = m * 256 ^ (l.length + 1) := by rw [Nat.pow_succ', Nat.mul_assoc]
      rw [e] at this
      exact this
  have := key l 0 1 (by omega) (by omega)
  rw [Nat.one_mul] at this
  exact this
theorem or_byte (V : Int) (x : UInt8) (h0 : 0 ≤ V) (h1 : V * 256 ≤ 18446744073709551615) : bits .or .u64 (V * 256) (x.toNat : Int) = V * 256 + x.toNat := by
  have hb := x.toNat_lt
  obtain ⟨n, rfl⟩ := Int.eq_ofNat_of_zero_le h0
  have e : ((n : Int) * 256) = ((n * 256 : Nat) : Int) := by omega
  rw [e, u64_or_nat (n * 256) x.toNat (by omega) (by omega)]
  have := Nat.two_pow_add_eq_or_of_lt (i := 8) (b := x.toNat) (by omega) n
  have e2 : 2 ^ 8 * n = n * 256 := by omega
  rw [e2] at this
  rw [← this]
  omega
set_option maxRecDepth 100000 in
set_option maxHeartbeats 1000000 in
theorem get4_t {B : Nat} {w : World} {vb : Value} {lb : List UInt8} (hE : Env0 w) (h : BS B w vb lb) : Calls Tryz.prog 67 #[vb, .int .i64 4] w (GetPost w (getA 4 lb)) := by
  obtain ⟨a, c, rfl, g1, g2, -⟩ := id h
  rw [List.length_map] at *
  unfold maxLen at g2
  obtain ⟨-, -, -, hcell⟩ := h.at
  simp only [List.length_map, List.getElem_map] at hcell
  by_cases hl : lb.length < 4
  · have hA : getA 4 lb = (0, false) := by unfold getA; rw [if_pos hl]
    have HA := Lib.hid hA; clear hA
    have hd : decide ((lb.length : Int) < 4) = true := decide_eq_true (by omega)
    clear h hcell
    go_enter Tryz.func67, Tryz.ntmps67
    go_wp2_with fail
    refine (wgood4_t w hE).mono ?_
    rintro e w3 ⟨rfl, rfl⟩
    go_wp2
    go_ret2
    unfold GetPost
    rw [HA.out]
    exact ⟨rfl, rfl⟩
  · have hA : getA 4 lb = (getB (lb.take 4), true) := by unfold getA; rw [if_neg hl]
    have HA := Lib.hid hA; clear hA
    have hd : decide ((lb.length : Int) < 4) = false := decide_eq_false (by omega)
    have HC := Lib.hid hcell
    clear h hcell
    go_enter Tryz.func67, Tryz.ntmps67
    go_wp2_with fail
    refine (wgood4_t w hE).mono ?_
    rintro e w3 ⟨rfl, rfl⟩
    go_wp2_with fail
    go_loop [6, 18] (fun v i => ∃ k : Nat, k ≤ 4 ∧ i = .int .i64 k ∧ v = .int .u64 (getB (lb.take k))) (fun _ i => 4 - (intOf i).toNat)
    case atStart => exact ⟨0, Nat.zero_le _, rfl, rfl⟩
    case round =>
      obtain ⟨k, hk, rfl, rfl⟩ := hrel
      by_cases h4 : k < 4
      · obtain ⟨b, o, rfl, e1⟩ := HC.out k (by omega)
        unfold bv at e1
        have hlt : k < lb.length := by omega
        have hs : getB (lb.take (k + 1)) = getB (lb.take k) * 256 + (lb[k].toNat : Int) := by rw [List.take_succ_eq_append_getElem hlt, getB_snoc]
        obtain ⟨v0, v1⟩ := getB_lt (lb.take k)
        have hkl : (lb.take k).length ≤ 7 := by rw [List.length_take]; omega
        have hpw : 256 ^ (lb.take k).length ≤ 256 ^ 7 := Nat.pow_le_pow_right (by decide) hkl
        have hV : getB (lb.take k) * 256 ≤ 18446744073709551615 := by
          have : (256 : Nat) ^ 7 = 72057594037927936 := rfl
          omega
        have hx := lb[k].toNat_lt
        have hor := or_byte (getB (lb.take k)) lb[k] v0 hV
        have HS := Lib.hid (hor.trans hs.symm)
        clear hs hor hpw v1 hkl
        have hx' : (lb[k].toNat : Int) < 256 := by omega
        clear hx
        generalize lb[k] = x at *
        generalize getB (lb.take k) = V at *
        go_wp2
        go_round
        case rel => exact ⟨k + 1, by omega, by go_num, by rw [HS.out]⟩
        case measure => simp [intOf]; omega
      · have : k = 4 := by omega
        subst this
        go_wp2
        go_ret2
        unfold GetPost
        rw [HA.out]
        exact ⟨rfl, rfl⟩
set_option maxRecDepth 100000 in
set_option maxHeartbeats 1000000 in
theorem get8_t {B : Nat} {w : World} {vb : Value} {lb : List UInt8} (hE : Env0 w) (h : BS B w vb lb) : Calls Tryz.prog 67 #[vb, .int .i64 8] w (GetPost w (getA 8 lb)) := by
  obtain ⟨a, c, rfl, g1, g2, -⟩ := id h
  rw [List.length_map] at *
  unfold maxLen at g2
  obtain ⟨-, -, -, hcell⟩ := h.at
  simp only [List.length_map, List.getElem_map] at hcell
  by_cases hl : lb.length < 8
  · have hA : getA 8 lb = (0, false) := by unfold getA; rw [if_pos hl]
    have HA := Lib.hid hA; clear hA
    have hd : decide ((lb.length : Int) < 8) = true := decide_eq_true (by omega)
    clear h hcell
    go_enter Tryz.func67, Tryz.ntmps67
    go_wp2_with fail
    refine (wgood8_t w hE).mono ?_
    rintro e w3 ⟨rfl, rfl⟩
    go_wp2
    go_ret2
    unfold GetPost
    rw [HA.out]
    exact ⟨rfl, rfl⟩
  · have hA : getA 8 lb = (getB (lb.take 8), true) := by unfold getA; rw [if_neg hl]
    have HA := Lib.hid hA; clear hA
    have hd : decide ((lb.length : Int) < 8) = false := decide_eq_false (by omega)
    have HC := Lib.hid hcell
    clear h hcell
    go_enter Tryz.func67, Tryz.ntmps67
    go_wp2_with fail
    refine (wgood8_t w hE).mono ?_
    rintro e w3 ⟨rfl, rfl⟩
    go_wp2_with fail
    go_loop [6, 18] (fun v i => ∃ k : Nat, k ≤ 8 ∧ i = .int .i64 k ∧ v = .int .u64 (getB (lb.take k))) (fun _ i => 8 - (intOf i).toNat)
    case atStart => exact ⟨0, Nat.zero_le _, rfl, rfl⟩
    case round =>
      obtain ⟨k, hk, rfl, rfl⟩ := hrel
      by_cases h4 : k < 8
      · obtain ⟨b, o, rfl, e1⟩ := HC.out k (by omega)
        unfold bv at e1
        have hlt : k < lb.length := by omega
        have hs : getB (lb.take (k + 1)) = getB (lb.take k) * 256 + (lb[k].toNat : Int) := by rw [List.take_succ_eq_append_getElem hlt, getB_snoc]
        obtain ⟨v0, v1⟩ := getB_lt (lb.take k)
        have hkl : (lb.take k).length ≤ 7 := by rw [List.length_take]; omega
        have hpw : 256 ^ (lb.take k).length ≤ 256 ^ 7 := Nat.pow_le_pow_right (by decide) hkl
        have hV : getB (lb.take k) * 256 ≤ 18446744073709551615 := by
          have : (256 : Nat) ^ 7 = 72057594037927936 := rfl
          omega
        have hx := lb[k].toNat_lt
        have hor := or_byte (getB (lb.take k)) lb[k] v0 hV
        have HS := Lib.hid (hor.trans hs.symm)
        clear hs hor hpw v1 hkl
        have hx' : (lb[k].toNat : Int) < 256 := by omega
        clear hx
        generalize lb[k] = x at *
        generalize getB (lb.take k) = V at *
        go_wp2
        go_round
        case rel => exact ⟨k + 1, by omega, by go_num, by rw [HS.out]⟩
        case measure => simp [intOf]; omega
      · have : k = 8 := by omega
        subst this
        go_wp2
        go_ret2
        unfold GetPost
        rw [HA.out]
        exact ⟨rfl, rfl⟩
end Go.Proofs.YthjilhjdnefmdaaGreatDoor
/- The sum of bytes. Conditions: none. -/
namespace Go.Proofs.YthjilhjdnefmdaaGreatDoor
open Go.RowKit
open Go.ChangeMaps (setBlock)
def crcBit (S : Int) : Int := bits .xor .u32 (S * 2 % 4294967296) (bits .and .u32 1947962583 (wrap32 S / 2147483648 % 4294967296))
def crcRun : Nat → Int → Int
  | 0, S => S
  | n + 1, S => crcBit (crcRun n S)
def crcByte (R : Int) (x : UInt8) : Int := crcRun 8 (bits .xor .u32 R ((x.toNat : Int) * 16777216))
def sumF (l : List UInt8) : Int := l.foldl crcByte 4294967295
theorem xor_u32_ok (a b : Int) (a0 : 0 ≤ a) (a1 : a < 4294967296) (b0 : 0 ≤ b) (b1 : b < 4294967296) : 0 ≤ bits .xor .u32 a b ∧ bits .xor .u32 a b < 4294967296 := by
  rw [u32_xor a b a0 a1 b0 b1]
  have := Nat.xor_lt_two_pow (n := 32) (x := a.toNat) (y := b.toNat) (by omega) (by omega)
  omega
theorem crcBit_ok (S : Int) : 0 ≤ crcBit S ∧ crcBit S < 4294967296 := by
  unfold crcBit
  have hy : 0 ≤ wrap32 S / 2147483648 % 4294967296 ∧ wrap32 S / 2147483648 % 4294967296 < 4294967296 := by omega
  generalize wrap32 S / 2147483648 % 4294967296 = y at *
  have hand : 0 ≤ bits .and .u32 1947962583 y ∧ bits .and .u32 1947962583 y < 4294967296 := by
    rw [u32_and 1947962583 y (by omega) (by omega) hy.1 hy.2]
    have := Nat.and_le_left (n := (1947962583 : Int).toNat) (m := y.toNat)
    omega
  exact xor_u32_ok _ _ (by omega) (by omega) hand.1 hand.2
theorem crcRun_ok (S : Int) (h0 : 0 ≤ S) (h1 : S < 4294967296) (n : Nat) : 0 ≤ crcRun n S ∧ crcRun n S < 4294967296 := by
  cases n with
  | zero => exact ⟨h0, h1⟩
  | succ n => exact crcBit_ok _
theorem crcByte_start (R : Int) (x : UInt8) (h0 : 0 ≤ R) (h1 : R < 4294967296) : 0 ≤ bits .xor .u32 R ((x.toNat : Int) * 16777216) ∧ bits .xor .u32 R ((x.toNat : Int) * 16777216) < 4294967296 := by
  have := x.toNat_lt
  exact xor_u32_ok _ _ h0 h1 (by omega) (by omega)
theorem sumF_ok (l : List UInt8) : 0 ≤ sumF l ∧ sumF l < 4294967296 := by
  have key : ∀ (l : List UInt8) (R : Int), 0 ≤ R → R < 4294967296 → 0 ≤ l.foldl crcByte R ∧ l.foldl crcByte R < 4294967296 := by
    intro l
    induction l with
    | nil => intro R h0 h1; exact ⟨h0, h1⟩
    | cons x l ih =>
      intro R h0 h1
      have h := crcByte_start R x h0 h1
      have h2 := crcRun_ok _ h.1 h.2 8
      exact ih _ h2.1 h2.2
  exact key l _ (by omega) (by omega)

set_option maxRecDepth 100000 in
set_option maxHeartbeats 1000000 in
theorem sum_t {B : Nat} {w : World} {vb : Value} {lb : List UInt8} (h : BS B w vb lb) : Calls Tryz.prog 78 #[vb] w fun e w' => e = .returned (.int .u32 (sumF lb)) ∧ w = w' := by
  obtain ⟨a, c, rfl, g1, g2, -⟩ := id h
  rw [List.length_map] at *
  unfold maxLen at g2
  obtain ⟨-, -, -, hcell⟩ := h.at
  simp only [List.length_map, List.getElem_map] at hcell
  have HC := Lib.hid hcell
  clear h hcell
  go_enter Tryz.func78, Tryz.ntmps78
  go_wp2
  go_loop [3, 9] (fun r i => ∃ (k : Nat), k ≤ lb.length ∧ i = .int .i64 k ∧ r = .int .u32 (sumF (lb.take k))) (fun _ i => lb.length - (intOf i).toNat)
  case atStart => exact ⟨0, Nat.zero_le _, rfl, rfl⟩
  case round =>
    obtain ⟨k, hk, rfl, rfl⟩ := hrel
    by_cases h4 : k < lb.length
    · obtain ⟨b, o, rfl, e1⟩ := HC.out k (by omega)
      unfold bv at e1
      have hx := lb[k].toNat_lt
      have hx' : (lb[k].toNat : Int) < 256 := by omega
      clear hx
      have HS : Hid (sumF (lb.take (k + 1)) = crcRun 8 (bits .xor .u32 (sumF (lb.take k)) ((lb[k].toNat : Int) * 16777216))) := Lib.hid (by
        rw [List.take_succ_eq_append_getElem h4]; unfold sumF; rw [List.foldl_append]; rfl)
      obtain ⟨r0, r1⟩ := sumF_ok (lb.take k)
      have HQ := Lib.hid (crcByte_start (sumF (lb.take k)) lb[k] r0 r1)
      generalize lb[k] = x at *
      generalize sumF (lb.take k) = R at *
      go_wp2
      go_loop [3, 18] (fun r i => ∃ (j : Nat), j ≤ 8 ∧ i = .int .i64 j ∧ r = .int .u32 (crcRun j (bits .xor .u32 R ((x.toNat : Int) * 16777216)))) (fun _ i => 8 - (intOf i).toNat)
      case atStart => exact ⟨0, Nat.zero_le _, rfl, rfl⟩
      case round =>
        obtain ⟨j, hj, rfl, rfl⟩ := hrel
        obtain ⟨q0, q1⟩ := crcRun_ok _ HQ.out.1 HQ.out.2 j
        by_cases h8 : j < 8
        · have HN : Hid (crcRun (j + 1) (bits .xor .u32 R ((x.toNat : Int) * 16777216)) = bits .xor .u32 (crcRun j (bits .xor .u32 R ((x.toNat : Int) * 16777216)) * 2 % 4294967296) (bits .and .u32 1947962583 (wrap32 (crcRun j (bits .xor .u32 R ((x.toNat : Int) * 16777216))) / 2147483648 % 4294967296))) := Lib.hid rfl
          generalize crcRun j (bits .xor .u32 R ((x.toNat : Int) * 16777216)) = S at *
          go_wp2
          go_round
          case rel => exact ⟨j + 1, by omega, by go_num, by rw [HN.out]⟩
          case measure => simp [intOf]; omega
        · have : j = 8 := by omega
          subst this
          rw [← HS.out]
          clear q0 q1 HQ
          go_wp2
          go_round
          case rel => exact ⟨k + 1, by omega, by go_num, rfl⟩
          case measure => simp [intOf]; omega
    · have : k = lb.length := by omega
      subst this
      rw [List.take_length]
      go_wp2
      go_ret
      exact ⟨rfl, rfl⟩
end Go.Proofs.YthjilhjdnefmdaaGreatDoor
/- Bytes sealed and opened. Conditions: none. -/
namespace Go.Proofs.YthjilhjdnefmdaaGreatDoor
open Go.RowKit
open Go.ChangeMaps (setBlock)
def sealL (l : List UInt8) : List UInt8 := (putB 4 l.length ++ l) ++ putB 4 (sumF (putB 4 l.length ++ l))
def openA (b : List UInt8) : List UInt8 × Int × Int :=
  if b.length < 4 then ([], 0, 8)
  else if 1048576 < getB (b.take 4) then ([], 0, 5)
  else if (b.length : Int) < getB (b.take 4) + 8 then ([], 0, 8)
  else if getB ((b.drop (4 + getB (b.take 4)).toNat).take 4) ≠ sumF (b.take (4 + getB (b.take 4)).toNat) then ([], 0, 7)
  else ((b.take (4 + getB (b.take 4)).toNat).drop 4, 4 + getB (b.take 4) + 4, 0)
theorem BS.nil (B : Nat) (w : World) : BS B w (.slice none 0 0) [] := RS.nil 5 B w
theorem putB_len (n : Nat) (v : Int) : (putB n v).length = n := by simp [putB]
theorem sealL_len (l : List UInt8) : (sealL l).length = l.length + 8 := by unfold sealL; simp only [List.length_append, putB_len]; omega

set_option maxRecDepth 100000 in
set_option maxHeartbeats 1000000 in
theorem seal_t {B : Nat} {w : World} {vb : Value} {lb : List UInt8} (hE : Env0 w) (h : BS B w vb lb) (hl : lb.length ≤ 1048576) (hB : B ≤ w.heap.size) (hB0 : 0 < w.heap.size) :
    Calls Tryz.prog 42 #[vb] w fun e w' => ∃ v', e = .returned v' ∧ BS B w' v' (sealL lb) ∧ Below w.heap.size w w' := by
  obtain ⟨a, c, rfl, g1, g2⟩ := h.form
  unfold maxLen at g2
  have hd : decide ((1048576 : Int) < lb.length) = false := decide_eq_false (by omega)
  have H := Lib.hid h; clear h
  have HE := Lib.hid hE; clear hE
  go_enter Tryz.func42, Tryz.ntmps42
  go_wp2_with fail
  refine (put4_t (B := B) HE.out (BS.nil B w) (by simp) hB hB0 (lb.length : Int) (by omega) (by omega)).mono ?_
  rintro e w1 ⟨v1, rfl, ho1, hb1⟩
  have HO1 := Lib.hid ho1; have HB1 := Lib.hid hb1; clear ho1 hb1
  have HS1 := Lib.hid (RS.below H.out HB1.out hB)
  have hsz := HB1.out.size
  go_wp2_with (at_builtin; refine wpList_append_rs slT27 rfl (.tmp 10) (.tmp 11) rfl w.heap.size B _ _ _ rfl HO1.out _ rfl (lb.map bv) HS1.out (bv_one lb) (by rw [List.length_map]; unfold maxLen; simp only [List.length_nil]; omega) (by rw [List.length_map]; simp only [List.length_nil]; omega) hsz ?_; intro v2 w2 hown hg)
  have HO2 := Lib.hid hown; have HB2 := Lib.hid (below_grown HB1.out hg HO1.out (Nat.le_refl _)); clear hown hg
  have e1 : (([] : List UInt8) ++ putB 4 (lb.length : Int)).map bv ++ lb.map bv = (putB 4 (lb.length : Int) ++ lb).map bv := by simp
  have e2 : ([] : List UInt8).length + 4 + (lb.map bv).length = lb.length + 4 := by simp; omega
  have ho2 := HO2.out
  rw [e1, e2] at ho2
  have hbs : BS B w2 v2 (putB 4 (lb.length : Int) ++ lb) := RS.of_owns ho2
  have hplen : (putB 4 (lb.length : Int) ++ lb).length = lb.length + 4 := by rw [List.length_append, putB_len]; omega
  have HBS := Lib.hid hbs; have HPL := Lib.hid hplen
  obtain ⟨s0, s1⟩ := sumF_ok (putB 4 (lb.length : Int) ++ lb)
  have hsl : sealL lb = (putB 4 (lb.length : Int) ++ lb) ++ putB 4 (sumF (putB 4 (lb.length : Int) ++ lb)) := rfl
  have HSL := Lib.hid hsl
  have HE2 := Lib.hid (HE.out.below HB2.out hB0)
  have hB2 : B ≤ w2.heap.size := Nat.le_trans hB HB2.out.size
  have hB02 : 0 < w2.heap.size := Nat.lt_of_lt_of_le hB0 HB2.out.size
  clear e1 e2 ho2 hbs hplen hsl hsz
  generalize (putB 4 (lb.length : Int) ++ lb) = X at *
  go_wp2_with fail
  refine (sum_t HBS.out).mono ?_
  rintro e w3 ⟨rfl, rfl⟩
  generalize sumF X = S at *
  go_wp2_with fail
  refine (put4_t (B := B) HE2.out HBS.out (by rw [HPL.out]; omega) hB2 hB02 S s0 (by omega)).mono ?_
  rintro e w4 ⟨v4, rfl, ho4, hb4⟩
  have HO4 := Lib.hid ho4; have HB4 := Lib.hid hb4; clear ho4 hb4
  go_wp2
  go_ret
  rw [HSL.out]
  exact ⟨_, rfl, RS.of_owns HO4.out, HB2.out.trans (HB4.out.mono HB2.out.size)⟩

theorem RS.dropS {e : TypeId} {B : Nat} {w : World} {b o n c : Nat} {xs : List Value} (h : RS e B w (.slice (some ⟨b, o, none⟩) n c) xs) (k : Nat) (hk : k ≤ xs.length) : RS e B w (.slice (some ⟨b, o + k, none⟩) (n - k) (c - k)) (xs.drop k) := by
  obtain ⟨a', c', he, h1, h2, h3⟩ := h
  cases he
  refine ⟨some ⟨b, o + k, none⟩, c - k, by rw [List.length_drop], by rw [List.length_drop]; omega, by omega, ?_⟩
  rcases h3 with h3 | ⟨b', o', he, h4, h5⟩
  · exact .inl (by rw [h3]; simp)
  · cases he
    exact .inr ⟨b, o + k, rfl, h4, fun i x hx => by
      rw [List.getElem?_drop] at hx
      have := h5 (k + i) x hx
      rw [show o + (k + i) = o + k + i by omega] at this
      exact this⟩
theorem BS.dropS {B : Nat} {w : World} {b o n c : Nat} {l : List UInt8} (h : BS B w (.slice (some ⟨b, o, none⟩) n c) l) (k : Nat) (hk : k ≤ l.length) : BS B w (.slice (some ⟨b, o + k, none⟩) (n - k) (c - k)) (l.drop k) := by
  have := RS.dropS h k (by simpa using hk)
  rw [← List.map_drop] at this; exact this

def OpenPost (B : Nat) (w : World) (r : List UInt8 × Int × Int) (e : Ending) (w' : World) : Prop := ∃ v, e = .returned (.tuple #[v, .int .i64 r.2.1, .int .i64 r.2.2]) ∧ BS B w' v r.1 ∧ Below w.heap.size w w'

set_option maxRecDepth 100000 in
set_option maxHeartbeats 2000000 in
theorem open_t {B : Nat} {w : World} {vb : Value} {lb : List UInt8} (hE : Env0 w) (h : BS B w vb lb) (hl : lb.length ≤ 140737488355328) (_hB : B ≤ w.heap.size) (_hB0 : 0 < w.heap.size) :
    Calls Tryz.prog 66 #[vb] w (OpenPost B w (openA lb)) := by
  have HE := Lib.hid hE; clear hE
  have H := Lib.hid h
  obtain ⟨a, c, rfl, g1, g2⟩ := h.form
  unfold maxLen at g2
  clear h
  by_cases h4 : lb.length < 4
  · have hA : openA lb = ([], 0, 8) := by unfold openA; rw [if_pos h4]
    have hG : getA 4 lb = (0, false) := by unfold getA; rw [if_pos h4]
    have HA := Lib.hid hA; have HG := Lib.hid hG; clear hA hG
    go_enter Tryz.func66, Tryz.ntmps66
    go_wp2_with fail
    refine (get4_t HE.out H.out).mono ?_
    rw [HG.out]
    rintro e w1 ⟨rfl, rfl⟩
    go_wp2
    go_ret3
    unfold OpenPost
    rw [HA.out]
    exact ⟨_, rfl, BS.nil _ _, Below.refl _ _⟩
  · have hG : getA 4 lb = (getB (lb.take 4), true) := by unfold getA; rw [if_neg h4]
    have HG := Lib.hid hG; clear hG
    obtain ⟨n0, n1⟩ := getB_lt (lb.take 4)
    have hn2 : getB (lb.take 4) < 4294967296 := by
      have e : (lb.take 4).length = 4 := by rw [List.length_take]; omega
      rw [e] at n1
      have : (256 : Nat) ^ 4 = 4294967296 := rfl
      omega
    clear n1
    have hA0 : openA lb = if 1048576 < getB (lb.take 4) then ([], 0, 5) else if (lb.length : Int) < getB (lb.take 4) + 8 then ([], 0, 8) else if getB ((lb.drop (4 + getB (lb.take 4)).toNat).take 4) ≠ sumF (lb.take (4 + getB (lb.take 4)).toNat) then ([], 0, 7) else ((lb.take (4 + getB (lb.take 4)).toNat).drop 4, 4 + getB (lb.take 4) + 4, 0) := by unfold openA; rw [if_neg h4]
    generalize getB (lb.take 4) = n at *
    have HA0 := Lib.hid hA0; clear hA0
    by_cases h5 : 1048576 < n
    · have hd5 : decide (1048576 < n) = true := decide_eq_true h5
      have hA := HA0.out
      rw [if_pos h5] at hA
      have HA := Lib.hid hA; clear hA h5 h4
      go_enter Tryz.func66, Tryz.ntmps66
      go_wp2_with fail
      refine (get4_t HE.out H.out).mono ?_
      rw [HG.out]
      rintro e w1 ⟨rfl, rfl⟩
      go_wp2
      go_ret3
      unfold OpenPost
      rw [HA.out]
      exact ⟨_, rfl, BS.nil _ _, Below.refl _ _⟩
    · have hd5 : decide (1048576 < n) = false := decide_eq_false h5
      have hA1 := HA0.out
      rw [if_neg h5] at hA1
      by_cases h8 : (lb.length : Int) < n + 8
      · have hd8 : decide ((lb.length : Int) < n + 8) = true := decide_eq_true h8
        rw [if_pos h8] at hA1
        have HA := Lib.hid hA1; clear hA1 h8 h4
        go_enter Tryz.func66, Tryz.ntmps66
        go_wp2_with fail
        refine (get4_t HE.out H.out).mono ?_
        rw [HG.out]
        rintro e w1 ⟨rfl, rfl⟩
        go_wp2
        go_ret3
        unfold OpenPost
        rw [HA.out]
        exact ⟨_, rfl, BS.nil _ _, Below.refl _ _⟩
      · have hd8 : decide ((lb.length : Int) < n + 8) = false := decide_eq_false h8
        rw [if_neg h8] at hA1
        have HA1 := Lib.hid hA1; clear hA1
        obtain ⟨m, rfl⟩ := Int.eq_ofNat_of_zero_le n0
        have hm : (4 + (m : Int)).toNat = 4 + m := by omega
        have HM := Lib.hid hm; clear hm
        have hle : 4 + m + 4 ≤ lb.length := by omega
        obtain ⟨b, o, rfl⟩ : ∃ b o, a = some ⟨b, o, none⟩ := by
          obtain ⟨b, o, h1, _⟩ := H.out.at.2.2.2 0 (by rw [List.length_map]; omega)
          exact ⟨b, o, h1⟩
        have HD := Lib.hid (BS.dropS H.out (4 + m) (by omega))
        have HT := Lib.hid (BS.take H.out (4 + m) (by omega))
        have hG2 : getA 4 (lb.drop (4 + m)) = (getB ((lb.drop (4 + m)).take 4), true) := by unfold getA; rw [if_neg (by rw [List.length_drop]; omega)]
        have HG2 := Lib.hid hG2; clear hG2
        obtain ⟨x0, x1⟩ := getB_lt ((lb.drop (4 + m)).take 4)
        have x2 : getB ((lb.drop (4 + m)).take 4) < 4294967296 := by
          have e : ((lb.drop (4 + m)).take 4).length = 4 := by rw [List.length_take, List.length_drop]; omega
          rw [e] at x1
          have : (256 : Nat) ^ 4 = 4294967296 := rfl
          omega
        clear x1
        have hA2 := HA1.out
        rw [HM.out] at hA2
        have HMM := Lib.hid (sumF_ok (lb.take (4 + m)))
        have HSUM := Lib.hid (sum_t HT.out)
        by_cases hs : getB ((lb.drop (4 + m)).take 4) = sumF (lb.take (4 + m))
        · have hne : (getB ((lb.drop (4 + m)).take 4) != sumF (lb.take (4 + m))) = false := by rw [hs]; exact bne_self_eq_false' _
          rw [if_neg (fun h => h hs)] at hA2
          have HA2 := Lib.hid hA2; clear hA2 hs
          have hcc := BS.dropS HT.out 4 (by rw [List.length_take]; omega)
          rw [Nat.add_sub_cancel_left] at hcc
          have HC := Lib.hid hcc; clear hcc
          generalize getB ((lb.drop (4 + m)).take 4) = X at *
          generalize sumF (lb.take (4 + m)) = Y at *
          have hcl : ((lb.take (4 + m)).drop 4).length = m := by rw [List.length_drop, List.length_take]; omega
          have HCL := Lib.hid hcl; clear hcl
          go_enter Tryz.func66, Tryz.ntmps66
          go_wp2_with fail
          refine (get4_t HE.out H.out).mono ?_
          rw [HG.out]
          rintro e w1 ⟨rfl, rfl⟩
          go_wp2_with fail
          refine (get4_t HE.out HD.out).mono ?_
          rw [HG2.out]
          rintro e w1 ⟨rfl, rfl⟩
          go_wp2_with fail
          refine HSUM.out.mono ?_
          rintro e w1 ⟨rfl, rfl⟩
          have hm0 : (m : Int) ≤ 1048576 := by omega
          have HMB := Lib.hid hm0
          have hmc : 4 + m ≤ c := by omega
          have hc4 : ¬c = 4 := by omega
          have hc40 : ¬(c - 4 = 0) := by omega
          clear g2 g1 hl h5 h8 hle n0 hn2 x0 x2 h4 hd8 hd5
          go_wp2_with (at_builtin; (refine wpList_append_rs slT27 rfl (.const (.slice none 0 0)) (.tmp 47) rfl w.heap.size B (.slice none 0 0) 0 [] rfl (World.ownsRow_nil _ _ _ _) (Value.slice (some { block := b, off := o + 4 }) m (c - 4)) (by simp [Act.eval]) (((lb.take (4 + m)).drop 4).map bv) HC.out (bv_one _) (by have := HMB.out; rw [List.length_map, HCL.out]; unfold maxLen; omega) (by have := HMB.out; rw [List.length_map, HCL.out]; omega) (Nat.le_refl _) ?_); intro v2 w2 hown hg)
          have HO := Lib.hid hown; have HGR := Lib.hid hg; clear hown hg
          go_wp2
          go_ret3
          unfold OpenPost
          rw [HA2.out]
          refine ⟨_, rfl, ?_, below_grown (Below.refl _ _) HGR.out (World.ownsRow_nil _ _ 5 _) (Nat.le_refl _)⟩
          have := RS.of_owns (B := B) HO.out
          rw [List.nil_append] at this
          exact this
        · have hne : (getB ((lb.drop (4 + m)).take 4) != sumF (lb.take (4 + m))) = true := bne_iff_ne.2 hs
          rw [if_pos hs] at hA2
          have HA2 := Lib.hid hA2; clear hA2 hs
          generalize getB ((lb.drop (4 + m)).take 4) = X at *
          generalize sumF (lb.take (4 + m)) = Y at *
          go_enter Tryz.func66, Tryz.ntmps66
          go_wp2_with fail
          refine (get4_t HE.out H.out).mono ?_
          rw [HG.out]
          rintro e w1 ⟨rfl, rfl⟩
          go_wp2_with fail
          refine (get4_t HE.out HD.out).mono ?_
          rw [HG2.out]
          rintro e w1 ⟨rfl, rfl⟩
          go_wp2_with fail
          refine HSUM.out.mono ?_
          rintro e w1 ⟨rfl, rfl⟩
          go_wp2
          go_ret3
          unfold OpenPost
          rw [HA2.out]
          exact ⟨_, rfl, BS.nil _ _, Below.refl _ _⟩
end Go.Proofs.YthjilhjdnefmdaaGreatDoor
/- All that was sealed, one behind the other. Conditions: none. -/
namespace Go.Proofs.YthjilhjdnefmdaaGreatDoor
open Go.RowKit
open Go.ChangeMaps (setBlock)
theorem openA_ok {b c : List UInt8} {k : Int} (h : openA b = (c, k, 0)) : 8 ≤ k ∧ k ≤ b.length ∧ (c.length : Int) = k - 8 := by
  unfold openA at h
  have hg := getB_lt (b.take 4)
  split at h
  · simp at h
  · split at h
    · simp at h
    · split at h
      · simp at h
      · split at h
        · simp at h
        · simp only [Prod.mk.injEq] at h
          obtain ⟨rfl, rfl, -⟩ := h
          rw [List.length_drop, List.length_take]
          omega
def wholeN : Nat → List UInt8 → List (List UInt8) × Nat
  | 0, _ => ([], 0)
  | n + 1, b => if (openA b).2.2 = 0 then ((openA b).1 :: (wholeN n (b.drop (openA b).2.1.toNat)).1, (openA b).2.1.toNat + (wholeN n (b.drop (openA b).2.1.toNat)).2) else ([], 0)
def wholeA (b : List UInt8) : List (List UInt8) × Nat := wholeN (b.length + 1) b
theorem openA_ok' {b : List UInt8} (h : (openA b).2.2 = 0) : 8 ≤ (openA b).2.1 ∧ (openA b).2.1 ≤ b.length ∧ ((openA b).1.length : Int) = (openA b).2.1 - 8 :=
  openA_ok (b := b) (c := (openA b).1) (k := (openA b).2.1) (by rw [← h])
theorem wholeN_stable (n : Nat) : ∀ (m : Nat) (b : List UInt8), b.length < n → b.length < m → wholeN n b = wholeN m b := by
  induction n with
  | zero => intro m b h; omega
  | succ n ih =>
    intro m b h1 h2
    cases m with
    | zero => omega
    | succ m =>
      unfold wholeN
      by_cases he : (openA b).2.2 = 0
      · rw [if_pos he, if_pos he]
        have := openA_ok' he
        rw [ih m _ (by rw [List.length_drop]; omega) (by rw [List.length_drop]; omega)]
      · rw [if_neg he, if_neg he]
theorem wholeA_step {b : List UInt8} (he : (openA b).2.2 = 0) : wholeA b = ((openA b).1 :: (wholeA (b.drop (openA b).2.1.toNat)).1, (openA b).2.1.toNat + (wholeA (b.drop (openA b).2.1.toNat)).2) := by
  have := openA_ok' he
  have hs : wholeN b.length (b.drop (openA b).2.1.toNat) = wholeA (b.drop (openA b).2.1.toNat) := wholeN_stable _ _ _ (by rw [List.length_drop]; omega) (by omega)
  rw [← hs]
  conv => lhs; unfold wholeA wholeN
  rw [if_pos he]
theorem wholeA_stop {b : List UInt8} (he : (openA b).2.2 ≠ 0) : wholeA b = ([], 0) := by
  unfold wholeA wholeN; rw [if_neg he]
theorem wholeA_le (n : Nat) : ∀ b : List UInt8, b.length ≤ n → (wholeA b).2 ≤ b.length ∧ 8 * (wholeA b).1.length ≤ (wholeA b).2 := by
  induction n with
  | zero =>
    intro b hb
    by_cases he : (openA b).2.2 = 0
    · have := openA_ok' he; omega
    · rw [wholeA_stop he]; simp
  | succ n ih =>
    intro b hb
    by_cases he : (openA b).2.2 = 0
    · have h := openA_ok' he
      rw [wholeA_step he]
      have := ih (b.drop (openA b).2.1.toNat) (by rw [List.length_drop]; omega)
      rw [List.length_drop] at this
      simp only [List.length_cons]
      omega
    · rw [wholeA_stop he]; simp

theorem Stp.grown {M : List Nat} {B : Nat} {a w w' : World} {row : Option Nat} (h : Stp M B a w) (hg : w.grownBy w' row) (hsz : B ≤ w.heap.size) (hr : ∀ k, row = some k → B ≤ k ∧ ∀ cs e fr, a.heap[k]? = some (.cells cs e fr) → e ≠ 5 ∧ k ∈ M) : Stp M B a w' := by
  have hb : Below B a w' := h.below.grown hg hsz (fun k hk => (hr k hk).1)
  refine ⟨hb.os, hb.tape, hb.output, hb.size, hb.block, fun k cs e fr hc h1 h2 h3 => ?_⟩
  have hne : some k ≠ row := by
    intro e'
    have := (hr k e'.symm).2 cs e fr hc
    exact h3 this.1 this.2
  have hw := h.fix k cs e fr hc h1 h2 h3
  exact (hg.block k (hp_lt hw) hne).trans hw

/-- A slice of byte slices. -/
def Rows (B : Nat) (w : World) (vs : List Value) (L : List (List UInt8)) : Prop := vs.length = L.length ∧ ∀ i (h1 : i < vs.length) (h2 : i < L.length), BS B w vs[i] L[i]
def LS (B : Nat) (w : World) (v : Value) (L : List (List UInt8)) : Prop := ∃ vs, RS 27 B w v vs ∧ Rows B w vs L
theorem Rows.stp {B : Nat} {w w' : World} {vs : List Value} {L : List (List UInt8)} (h : Rows B w vs L) (s : ∀ v l, BS B w v l → BS B w' v l) : Rows B w' vs L :=
  ⟨h.1, fun i h1 h2 => s _ _ (h.2 i h1 h2)⟩
theorem Rows.snoc {B : Nat} {w : World} {vs : List Value} {L : List (List UInt8)} (h : Rows B w vs L) {v : Value} {l : List UInt8} (hv : BS B w v l) : Rows B w (vs ++ [v]) (L ++ [l]) := by
  refine ⟨by simp [h.1], fun i h1 h2 => ?_⟩
  by_cases hi : i < vs.length
  · have hi2 : i < L.length := by rw [← h.1]; exact hi
    rw [List.getElem_append_left hi, List.getElem_append_left hi2]
    exact h.2 i hi hi2
  · have e1 : i = vs.length := by simp at h1; omega
    have e2 : i = L.length := by rw [← h.1]; exact e1
    have q1 : (vs ++ [v])[i] = v := by simp [e1]
    have q2 : (L ++ [l])[i] = l := by simp [e2]
    rw [q1, q2]; exact hv

theorem own_alloc {w : World} {base : Nat} {e : TypeId} {v : Value} {n : Nat} {xs : List Value} (h : w.ownsRow base e 1 v n xs) (o : Obj) : (w.alloc o).ownsRow base e 1 v n xs := by
  refine ⟨h.1, h.2.imp id ?_⟩
  rintro ⟨g, cap, cur, h1, h2, h3, h4⟩
  exact ⟨g, cap, cur, h1, h2, hp_old h3, h4⟩
theorem own_form {w : World} {base : Nat} {e : TypeId} {v : Value} {n : Nat} {xs : List Value} (h : w.ownsRow base e 1 v n xs) : ∃ a c, v = .slice a n c := by
  rcases h.2 with ⟨rfl, rfl⟩ | ⟨g, cap, cur, rfl, _⟩
  · exact ⟨_, _, rfl⟩
  · exact ⟨_, _, rfl⟩
structure WI (B b4 b5 base : Nat) (L : List (List UInt8)) (n : Nat) (w : World) (v : Value) (vs : List Value) : Prop where
  h4 : w.heap[b4]? = some (.cells #[v] 22 (0, 0))
  h5 : w.heap[b5]? = some (.cells #[.int .i64 (n : Int)] 3 (0, 0))
  own : w.ownsRow base 27 1 v L.length vs
  rows : Rows B w vs L
  l4 : B ≤ b4 ∧ b4 < base
  l5 : B ≤ b5 ∧ b5 < base
  ne : b4 ≠ b5
def TakePost (B b4 b5 base : Nat) (L : List (List UInt8)) (n : Nat) (w : World) (e : Ending) (w' : World) : Prop := e = .returned (.tuple #[]) ∧ ∃ v vs, WI B b4 b5 base L n w' v vs ∧ ∀ W, Below W.heap.size W w → W.heap.size ≤ b4 → W.heap.size ≤ b5 → Below W.heap.size W w'

theorem take_end {B b4 b5 base : Nat} {L : List (List UInt8)} {n m : Nat} {w : World} {v : Value} {vs : List Value} {vc : Value} {c : List UInt8} (h : WI B b4 b5 base L n w v vs) (hc : BS B w vc c) (hb : base ≤ w.heap.size)
    {v2 : Value} {w2 : World} (hown : w2.ownsRow base 27 1 v2 (L.length + 1) (vs ++ [vc])) (hg : (w.alloc (.cells #[vc] 27)).grownBy w2 v.ownBlock) :
    ∃ a2 c2, v2 = .slice a2 (L.length + 1) c2 ∧ w2.cell? ⟨b4, 0, none⟩ = some v ∧ w2.frozen? ⟨b4, 0, none⟩ = false ∧ (w2.setCell ⟨b4, 0, none⟩ v2).cell? ⟨b5, 0, none⟩ = some (.int .i64 (n : Int)) ∧ (w2.setCell ⟨b4, 0, none⟩ v2).frozen? ⟨b5, 0, none⟩ = false ∧
      Hid (TakePost B b4 b5 base (L ++ [c]) (n + m) w (.returned (.tuple #[])) ((w2.setCell ⟨b4, 0, none⟩ v2).setCell ⟨b5, 0, none⟩ (.int .i64 ((n + m : Nat) : Int)))) := by
  obtain ⟨hl4, hl4'⟩ := h.l4
  obtain ⟨hl5, hl5'⟩ := h.l5
  have hB : B ≤ w.heap.size := by omega
  have bl : Below w.heap.size w (w.alloc (.cells #[vc] 27)) := (Below.refl _ w).alloc (Nat.le_refl _) _
  have hnb4 : some b4 ≠ v.ownBlock := fun he => by have := (h.own.lt b4 he.symm).1; omega
  have hnb5 : some b5 ≠ v.ownBlock := fun he => by have := (h.own.lt b5 he.symm).1; omega
  have k4 : w2.heap[b4]? = some (.cells #[v] 22 (0, 0)) := (hg.block b4 (hp_lt (hp_old h.h4)) hnb4).trans (hp_old h.h4)
  have k5 : w2.heap[b5]? = some (.cells #[.int .i64 (n : Int)] 3 (0, 0)) := (hg.block b5 (hp_lt (hp_old h.h5)) hnb5).trans (hp_old h.h5)
  have hne := h.ne
  have j4 : (w2.setCell ⟨b4, 0, none⟩ v2).heap[b4]? = some (.cells #[v2] 22 (0, 0)) := hp_set k4 0 v2
  have j5 : (w2.setCell ⟨b4, 0, none⟩ v2).heap[b5]? = some (.cells #[.int .i64 (n : Int)] 3 (0, 0)) := hp_set_ne k5 (Ne.symm hne)
  obtain ⟨a2, c2, hv2⟩ := own_form hown
  refine ⟨a2, c2, hv2, cell_of k4 0, free_of k4 0, cell_of j5 0, free_of j5 0, Lib.hid ⟨rfl, v2, vs ++ [vc], ⟨hp_set_ne j4 hne, ?_, ?_, ?_, h.l4, h.l5, hne⟩, ?_⟩⟩
  · rw [hp_set j5 0]; rfl
  · rw [List.length_append]
    exact ownsRow_setCell_below (ownsRow_setCell_below hown (a := ⟨b4, 0, none⟩) hl4' _) (a := ⟨b5, 0, none⟩) hl5' _
  · have hs : ∀ v l, BS B w v l → BS B ((w2.setCell ⟨b4, 0, none⟩ v2).setCell ⟨b5, 0, none⟩ (.int .i64 ((n + m : Nat) : Int))) v l := by
      intro v' l' hv
      have s1 : Stp (b4 :: b5 :: (v.ownBlock.toList)) B w w2 := (Stp.of_below (M := _) bl hB).grown hg (by simp; omega) (fun k hk => ⟨by have := (h.own.lt k hk).1; omega, fun cs e fr hcs => by
        rcases h.own.2 with ⟨rfl, _⟩ | ⟨g, cap, cur, rfl, _, hg, _⟩
        · simp [Value.ownBlock] at hk
        · simp [Value.ownBlock] at hk
          subst hk
          rw [hg] at hcs
          cases hcs
          exact ⟨by decide, by simp [Value.ownBlock]⟩⟩)
      have s2 := (s1.setCell (p := ⟨b4, 0, none⟩) hl4 v2 (fun cs e fr hcs => .inr (.inr (by
        have hcs' : w.heap[b4]? = some (.cells cs e fr) := hcs
        rw [h.h4] at hcs'; cases hcs'; exact ⟨by decide, by simp⟩))))
      have s3 := (s2.setCell (p := ⟨b5, 0, none⟩) hl5 (.int .i64 ((n + m : Nat) : Int)) (fun cs e fr hcs => .inr (.inr (by
        have hcs' : w.heap[b5]? = some (.cells cs e fr) := hcs
        rw [h.h5] at hcs'; cases hcs'; exact ⟨by decide, by simp⟩))))
      exact RS.stp hv s3 (by decide) (by decide) (fun _ h => absurd rfl h)
    exact (h.rows.stp hs).snoc (hs _ _ hc)
  · intro W hW h1 h2
    have hWB : W.heap.size ≤ w.heap.size := hW.size
    have := (hW.alloc hWB (.cells #[vc] 27)).grown hg (by simp; omega) (fun k hk => by have := (h.own.lt k hk).1; omega)
    exact (this.setCell (by show W.heap.size ≤ b4; exact h1) _).setCell (by show W.heap.size ≤ b5; exact h2) _

set_option maxRecDepth 100000 in
set_option maxHeartbeats 1000000 in
theorem take_t {B b4 b5 base : Nat} {L : List (List UInt8)} {n : Nat} {w : World} {v : Value} {vs : List Value} (h : WI B b4 b5 base L n w v vs) (vc : Value) (c : List UInt8) (m : Nat) (hc : BS B w vc c) (hL : L.length ≤ 100000000000) (hn : n + m ≤ 140737488355328) (hb : base ≤ w.heap.size) :
    Calls Tryz.prog 94 #[vc, .int .i64 (m : Int), .pointer (some ⟨b4, 0, none⟩), .pointer (some ⟨b5, 0, none⟩)] w (TakePost B b4 b5 base (L ++ [c]) (n + m) w) := by
  obtain ⟨av, cv, hvc, gv1, gv2⟩ := hc.form
  clear gv1 gv2
  have hrs : RS 27 B (w.alloc (.cells #[vc] 27)) (.slice (some ⟨w.heap.size, 0, none⟩) 1 1) [vc] := by
    refine ⟨_, _, rfl, Nat.le_refl _, by decide, .inr ⟨_, _, rfl, .inr ⟨_, _, hp_new _ _⟩, fun i x hx => ?_⟩⟩
    rw [Nat.zero_add, cell_of (hp_new _ _)]
    cases i with
    | zero => simpa using hx
    | succ i => simp at hx
  have hown : (w.alloc (.cells #[vc] 27)).ownsRow base 27 1 v L.length vs := by
    refine ⟨h.own.1, h.own.2.imp id ?_⟩
    rintro ⟨g, cap, cur, h1, h2, h3, h4⟩
    exact ⟨g, cap, cur, h1, h2, hp_old h3, h4⟩
  have hone : ∀ u ∈ [vc], u.oneCell' = true := by rw [hvc]; simp [Value.oneCell']
  have c4 : w.cell? ⟨b4, 0, none⟩ = some v := cell_of h.h4 0
  have hbs : base ≤ (w.alloc (.cells #[vc] 27)).heap.size := by simp; omega
  have HK := Lib.hid (fun v2 w2 => take_end h hc hb (m := m) (v2 := v2) (w2 := w2))
  have HO := Lib.hid hown; have HR := Lib.hid hrs; have HN := Lib.hid hone; have HB := Lib.hid hbs
  clear hown hrs hone h hc hb hbs
  subst hvc
  go_enter Tryz.func94, Tryz.ntmps94
  go_wp2_with (at_builtin; refine wpList_append_rs slT22 rfl (.tmp 6) (.tmp 8) rfl base B _ _ _ rfl HO.out _ rfl [Value.slice av c.length cv] HR.out HN.out (by simp only [List.length_singleton]; unfold maxLen; omega) (by simp only [List.length_singleton]; omega) HB.out ?_; intro v2 w2 hown hg; obtain ⟨a2, c2, rfl, q1, q2, q3, q4, q5⟩ := HK.out v2 w2 hown hg; clear hown hg)
  go_end0
  exact q5.out
end Go.Proofs.YthjilhjdnefmdaaGreatDoor
/- All that was sealed, walked. Conditions: none. -/
namespace Go.Proofs.YthjilhjdnefmdaaGreatDoor
open Go.RowKit
open Go.ChangeMaps (setBlock)
def WholePost (B : Nat) (w : World) (r : List (List UInt8) × Nat) (e : Ending) (w' : World) : Prop := ∃ v, e = .returned (.tuple #[v, .int .i64 (r.2 : Int)]) ∧ LS B w' v r.1 ∧ Below w.heap.size w w'
def atOf (w : World) (b5 : Nat) : Nat := match w.cell? ⟨b5, 0, none⟩ with | some (.int _ n) => n.toNat | _ => 0
def WInv (B b4 b5 base : Nat) (lb : List UInt8) (w wr : World) : Prop :=
  ∃ L n v vs, WI B b4 b5 base L n wr v vs ∧ n ≤ lb.length ∧ 8 * L.length ≤ n ∧ (wholeA lb) = (L ++ (wholeA (lb.drop n)).1, n + (wholeA (lb.drop n)).2) ∧ Below w.heap.size w wr
theorem WI.below {B b4 b5 base : Nat} {L : List (List UInt8)} {n : Nat} {w w' : World} {v : Value} {vs : List Value} (h : WI B b4 b5 base L n w v vs) (hb : Below w.heap.size w w') (hB : B ≤ w.heap.size) : WI B b4 b5 base L n w' v vs := by
  refine ⟨(hb.block _ (hp_lt h.h4)).trans h.h4, (hb.block _ (hp_lt h.h5)).trans h.h5, ⟨h.own.1, h.own.2.imp id ?_⟩, h.rows.stp (fun v l hv => RS.below hv hb hB), h.l4, h.l5, h.ne⟩
  rintro ⟨g, cap, cur, h1, h2, h3, h4⟩
  exact ⟨g, cap, cur, h1, h2, (hb.block _ (hp_lt h3)).trans h3, h4⟩

theorem slice_from {B : Nat} {w : World} {a : Option Addr} {c : Nat} {lb : List UInt8} (h : BS B w (.slice a lb.length c) lb) (n : Nat) (hn : n ≤ lb.length) :
    ∃ a', (∀ W, (Instr.slice 27 (.slice a lb.length c) (some (.int .i64 (n : Int))) none none).run Tryz.prog W = .ok (.slice a' (lb.length - n) (c - n)) W) ∧ BS B w (.slice a' (lb.length - n) (c - n)) (lb.drop n) := by
  have hu : Tryz.prog.underlying 27 = some (.slice 5) := by kernel_rfl
  obtain ⟨i, hi, hz, hs, hb⟩ := slT27.hi
  obtain ⟨a', c', he, h1, h2, h3⟩ := h
  rw [List.length_map] at he h1
  cases he
  have e1 : (n : Int) ≤ (lb.length : Int) := by omega
  have e2 : (lb.length : Int) ≤ (c : Int) := by omega
  have e3 : ¬ c < n := by omega
  by_cases hz0 : lb.drop n = []
  · rw [hz0]
    have hl : lb.length - n = 0 := by have := congrArg List.length hz0; simpa using this
    rw [hl]
    refine ⟨if c = n then a else a.map (fun ad => ad.add n), fun W => ?_, ⟨_, _, rfl, Nat.zero_le _, by omega, .inl rfl⟩⟩
    cases a <;> simp [Instr.slice, run_underlying hu, Instr.sliceBounds, Instr.sliceBound, asIntOf, sizeOf, typeInfo, hi, hs, Result.andThen, Addr.add, hl, hn] <;> (split <;> simp_all <;> (split <;> simp_all))
  · have hlt : n < lb.length := by
      rcases Nat.lt_or_ge n lb.length with h | h
      · exact h
      · exact absurd (List.drop_eq_nil_of_le h) hz0
    rcases h3 with h3 | ⟨b, o, rfl, h4, h5⟩
    · rw [List.map_eq_nil_iff] at h3; rw [h3] at hlt; simp at hlt
    · refine ⟨some ⟨b, o + n, none⟩, fun W => ?_, BS.dropS ⟨_, _, by rw [List.length_map], by rw [List.length_map]; omega, h2, .inr ⟨b, o, rfl, h4, h5⟩⟩ n hn⟩
      have e4 : ¬ c - n = 0 := by omega
      have e5 : ¬ c = n := by omega
      simp [Instr.slice, run_underlying hu, Instr.sliceBounds, Instr.sliceBound, asIntOf, sizeOf, typeInfo, hi, hs, Result.andThen, Addr.add, e5, hn]
set_option maxRecDepth 100000 in
set_option maxHeartbeats 1000000 in
theorem whole_t {B : Nat} {w : World} {vb : Value} {lb : List UInt8} (hE : Env0 w) (h : BS B w vb lb) (hl : lb.length ≤ 100000000000) (hB : B ≤ w.heap.size) (hB0 : 0 < w.heap.size) :
    Calls Tryz.prog 72 #[vb] w (WholePost B w (wholeA lb)) := by
  obtain ⟨a, c, rfl, g1, g2⟩ := h.form
  obtain ⟨w0, hw0⟩ : ∃ w0, w0 = (w.alloc (.cells #[.slice none 0 0] 22)).alloc (.cells #[.int .i64 0] 3) := ⟨_, rfl⟩
  have hb0 : Below w.heap.size w w0 := by rw [hw0]; exact ((Below.refl _ w).alloc (Nat.le_refl _) _).alloc (by simp) _
  have hi : WInv B w.heap.size (w.heap.size + 1) (w.heap.size + 2) lb w w0 := by
    refine ⟨[], 0, .slice none 0 0, [], ⟨?_, ?_, World.ownsRow_nil _ _ _ _, ⟨rfl, fun i h1 => by simp at h1⟩, by omega, by omega, by omega⟩, Nat.zero_le _, by simp, by simp, hb0⟩
    · rw [hw0]; exact hp_old (hp_new _ _)
    · rw [hw0]
      have := hp_new (w.alloc (.cells #[.slice none 0 0] 22)) (.cells #[.int .i64 0] 3)
      simpa using this
  have HI := Lib.hid hi
  have H := Lib.hid h; have HE := Lib.hid hE; have HB0 := Lib.hid hb0
  clear hi h hE hb0
  have HW := Lib.hid hw0
  clear hw0
  go_enter Tryz.func72, Tryz.ntmps72
  go_wp2
  go_step3
  go_wp2_with fail
  rw [← HW.out]
  go_step3
  go_wp2_with fail
  go_loopw [7] (fun _ wr => WInv B w.heap.size (w.heap.size + 1) (w.heap.size + 2) lb w wr) (fun _ wr => lb.length - atOf wr (w.heap.size + 1))
  case atStart => exact HI.out
  case round =>
    obtain ⟨L, n, v, vs, hwi, hn, h8, hwh, hbw⟩ := hrel
    have hB2 : B ≤ wr.heap.size := Nat.le_trans hB hbw.size
    have hB3 : 0 < wr.heap.size := Nat.lt_of_lt_of_le hB0 hbw.size
    obtain ⟨a', hsl, hbs⟩ := slice_from (RS.below H.out hbw hB) n hn
    have hop := open_t (HE.out.below hbw hB0) hbs (by rw [List.length_drop]; omega) hB2 hB3
    obtain ⟨cc, k, ee, hoe⟩ : ∃ cc k ee, openA (lb.drop n) = (cc, k, ee) := ⟨_, _, _, rfl⟩
    rw [hoe] at hop
    have c5 : wr.cell? ⟨w.heap.size + 1, 0, none⟩ = some (.int .i64 (n : Int)) := cell_of hwi.h5 0
    have c4 : wr.cell? ⟨w.heap.size, 0, none⟩ = some v := cell_of hwi.h4 0
    have hat : atOf wr (w.heap.size + 1) = n := by unfold atOf; rw [c5]; simp
    have HAT := Lib.hid hat
    have HOP := Lib.hid hop; have HBW := Lib.hid hbw; have HWI := Lib.hid hwi; have HWH := Lib.hid hwh
    clear hop hbw hwi hwh hbs g2 hat
    by_cases he : ee = 0
    · subst he
      obtain ⟨q0, q1, q2⟩ := openA_ok hoe
      rw [List.length_drop] at q1
      obtain ⟨m, rfl⟩ := Int.eq_ofNat_of_zero_le (a := k) (by omega)
      have hst := wholeA_step (b := lb.drop n) (by rw [hoe])
      rw [hoe, List.drop_drop] at hst
      have hmn : (Int.ofNat m).toNat = m := rfl
      have HST := Lib.hid hst; have HM := Lib.hid hmn
      clear hst hmn hoe
      go_wp2_with fail
      refine HOP.out.mono ?_
      rintro e w1 ⟨vc, rfl, hvc, hb1⟩
      have hwi1 := HWI.out.below hb1 hB2
      have HTK := Lib.hid (take_t hwi1 vc cc m hvc (by omega) (by omega) (by have := hp_lt hwi1.h5; omega))
      have HB1 := Lib.hid hb1
      clear hb1 hwi1 hvc c4 c5
      go_wp2_with fail
      refine HTK.out.mono ?_
      rintro e w2 ⟨rfl, v2, vs2, hw2, hb2⟩
      have c5 : w2.cell? ⟨w.heap.size + 1, 0, none⟩ = some (.int .i64 ((n + m : Nat) : Int)) := cell_of hw2.h5 0
      have hat2 : atOf w2 (w.heap.size + 1) = n + m := by unfold atOf; rw [c5]; simp; omega
      have HW2 := Lib.hid hw2; have HB2 := Lib.hid hb2; have HA2 := Lib.hid hat2
      clear hw2 hb2 hat2 c5
      go_wp2
      go_roundw
      case rel =>
        refine ⟨L ++ [cc], n + m, v2, vs2, HW2.out, by omega, by simp; omega, ?_, HB2.out w (HBW.out.trans (HB1.out.mono HBW.out.size)) (Nat.le_refl _) (by omega)⟩
        rw [HWH.out, HST.out]
        simp [Nat.add_assoc]
      case measure => rw [HA2.out, HAT.out]; omega
    · have hst := wholeA_stop (b := lb.drop n) (by rw [hoe]; exact he)
      have hne : (ee != 0) = true := bne_iff_ne.2 he
      have HST := Lib.hid hst
      clear hst hoe he
      go_wp2_with fail
      refine HOP.out.mono ?_
      rintro e w1 ⟨vc, rfl, hvc, hb1⟩
      have c4' : w1.cell? ⟨w.heap.size, 0, none⟩ = some v := cell_of ((hb1.block _ (hp_lt HWI.out.h4)).trans HWI.out.h4) 0
      have c5' : w1.cell? ⟨w.heap.size + 1, 0, none⟩ = some (.int .i64 (n : Int)) := cell_of ((hb1.block _ (hp_lt HWI.out.h5)).trans HWI.out.h5) 0
      have HB1 := Lib.hid hb1
      clear hb1 hvc c4 c5
      go_wp2_with fail
      go_quiet (fail)
      go_wp2
      rw [Exit.noGoto_ret]
      go_ret2
      refine ⟨v, ?_, ⟨vs, ?_, ?_⟩, ?_⟩
      · rw [HWH.out, HST.out]; rfl
      · exact RS.of_owns (HWI.out.below HB1.out hB2).own
      · rw [HWH.out, HST.out, List.append_nil]
        exact (HWI.out.below HB1.out hB2).rows
      · exact HBW.out.trans ((HB1.out.mono HBW.out.size).trans ⟨rfl, rfl, rfl, Nat.le_refl _, fun _ _ => rfl⟩)
end Go.Proofs.YthjilhjdnefmdaaGreatDoor
