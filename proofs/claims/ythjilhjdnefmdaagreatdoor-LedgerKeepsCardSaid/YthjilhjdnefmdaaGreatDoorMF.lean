/- Joined texts: The variables that are laid, names of parts, a directory's names. Conditions: none. The numbers of the parts on a store. Conditions: none. The checkpoint. Conditions: none. The records of parts. Conditions: none. Steps one behind the other. Conditions: none. The steps of Open. Conditions: none. Open. Conditions: none. Open, walked. Conditions: none. -/
import Derived.Test.YthjilhjdnefmdaaGreatDoorME
import Derived.Lib.ItoaLen
import Derived.Test.YthjilhjdnefmdaaGreatDoorMD
import Derived.Lib.AtoiAllCases
import Derived.Lib.AtoiErrMem
import Derived.Sort.OwnSortedInts
import Derived.Test.YthjilhjdnefmdaaGreatDoorMB
import Derived.BigQuiet
import Derived.Deep.RegionWith
/- The variables that are laid, names of parts, a directory's names. Conditions: none. -/
namespace Go.Proofs.YthjilhjdnefmdaaGreatDoor
open Go.RowKit
open Go.ChangeMaps (setBlock)
open Go.Sort (grow)

structure Env (w : World) : Prop where
  e0 : Env0 w
  e1 : ∃ ev, w.cell? ⟨1, 0, none⟩ = some ev ∧ (ev = .nilIface ∨ ∃ te pe, ev = .iface te pe)
  e2 : ∃ ev, w.cell? ⟨2, 0, none⟩ = some ev ∧ (ev = .nilIface ∨ ∃ te pe, ev = .iface te pe)
  e3 : Lib.TabIs Tryz.prog w "internal/strconv.uint64pow10" .u64 Lib.pow10Tab
theorem Env.below {w w' : World} (h : Env w) {B : Nat} (hb : Below B w w') (hB : 6 ≤ B) : Env w' := by
  refine ⟨h.e0.below hb (by omega), ?_, ?_, ?_⟩
  · obtain ⟨ev, h1, h2⟩ := h.e1
    exact ⟨ev, (hb.cell (p := ⟨1, 0, none⟩) (by show 1 < B; omega)).trans h1, h2⟩
  · obtain ⟨ev, h1, h2⟩ := h.e2
    exact ⟨ev, (hb.cell (p := ⟨2, 0, none⟩) (by show 2 < B; omega)).trans h1, h2⟩
  · have := h.e3
    unfold Lib.TabIs World.var? at *
    have hg : Tryz.prog.globalNamed "internal/strconv.uint64pow10" = some 3 := by kernel_rfl
    rw [hg] at this ⊢
    simp only [Option.bind_some] at this ⊢
    rw [hb.block 3 (by omega)]
    exact this
theorem below_growN (w : World) (k : Nat) (os : Array Obj) : Below w.heap.size w (grow (w.drewN k) os) := by
  refine ⟨rfl, rfl, rfl, ?_, fun j hj => ?_⟩
  · show w.heap.size ≤ (w.heap ++ os).size
    simp
  · show (w.heap ++ os)[j]? = _
    rw [Array.getElem?_append_left hj]

def dotLog : List UInt8 := [108, 111, 103, 46]
def nameL (n : Int) : List UInt8 := if n < 1 ∨ 999999999 < n then [] else dotLog ++ Lib.itoa n
def nameA (n : Int) : Nm := ⟨(nameL n).toArray⟩

set_option maxRecDepth 100000 in
theorem name_t {w : World} (hE : Env w) (n : Int) (hlo : -9223372036854775808 ≤ n) (hhi : n ≤ 9223372036854775807) :
    Calls Tryz.prog 17 #[.int .i64 n] w fun e w' => e = .returned (.string (nameA n)) ∧ Below w.heap.size w w' := by
  have hit := Tryz.strconv_Itoa n hlo hhi w hE.e3
  have HI := Lib.hid hit; clear hit hE
  by_cases h1 : n < 1
  · have hd1 : decide (n < 1) = true := decide_eq_true h1
    have hA : Hid (nameA n = ByteArray.empty) := Lib.hid (by unfold nameA nameL; rw [if_pos (.inl h1)]; rfl)
    clear h1
    go_enter Tryz.func17, Tryz.ntmps17
    go_wp2
    go_ret
    exact ⟨by rw [hA.out]; rfl, Below.refl _ _⟩
  · have hd1 : decide (n < 1) = false := decide_eq_false h1
    by_cases h2 : 999999999 < n
    · have hd2 : decide (999999999 < n) = true := decide_eq_true h2
      have hA : Hid (nameA n = ByteArray.empty) := Lib.hid (by unfold nameA nameL; rw [if_pos (.inr h2)]; rfl)
      clear h1 h2
      go_enter Tryz.func17, Tryz.ntmps17
      go_wp2
      go_ret
      exact ⟨by rw [hA.out]; rfl, Below.refl _ _⟩
    · have hd2 : decide (999999999 < n) = false := decide_eq_false h2
      have hA : Hid (nameA n = ⟨(dotLog ++ Lib.itoa n).toArray⟩) := Lib.hid (by unfold nameA nameL; rw [if_neg (by omega)])
      clear h1 h2
      have hle := Lib.itoa_length_le n hlo hhi
      obtain ⟨t, ht⟩ : ∃ t, Lib.itoa n = t := ⟨_, rfl⟩
      rw [ht] at hle
      have hsz : (⟨t.toArray⟩ : ByteArray).size = t.length := rfl
      rw [ht] at hA HI
      clear ht
      go_enter Tryz.func17, Tryz.ntmps17
      go_wp2_with fail
      refine HI.out.mono ?_
      rintro e w' ⟨rfl, k, os, rfl⟩
      have HB := Lib.hid (below_growN w k os)
      generalize grow (w.drewN k) os = w2 at *
      go_wp2
      go_ret
      refine ⟨?_, HB.out⟩
      rw [hA.out]
      congr 2

def keyR (_v : Value) : Option (DataW Unit × List MemPlace) := some (.nil, [])

def namesOf (d : Dr) : List (List UInt8) := (d.map (fun q => q.1.data.toList)).mergeSort leB
def namesA (st : St) : List (List UInt8) := if st.dark then [] else namesOf st.now

theorem insert_perm (x : Lit × DataW Unit) (l : List (Lit × DataW Unit)) : (DataW.insert x l).Perm (x :: l) := by
  induction l with
  | nil => exact List.Perm.refl _
  | cons y r ih =>
    unfold DataW.insert
    split
    · exact List.Perm.refl _
    · exact (ih.cons y).trans (List.Perm.swap x y r)
theorem foldr_insert_perm (l : List (Lit × DataW Unit)) : (l.foldr DataW.insert []).Perm l := by
  induction l with
  | nil => exact List.Perm.refl _
  | cons x r ih => exact (insert_perm x _).trans (ih.cons x)

theorem dir_owns_any {P : Program} (hu : P.underlying 9 = some .string) {w : World} {m : Nat} {d : Dr} (h : DirAt w m d) (hs : ∀ q ∈ d, q.1.size ≤ 30) (hl : d.length ≤ 67108864) :
    ∃ D, w.ownsMap P 9 keyR m d.length D ∧ (strKeys D).Perm (d.map fun q => q.1.data.toList) ∧ Maps.size D = d.length := by
  obtain ⟨es, clk, h1, h2, h3⟩ := h
  have hlen : es.toList.length = d.length := by have := congrArg List.length h3; simpa using this
  have hmem : ∀ x ∈ es.toList, ∃ q ∈ d, x.key = .string q.1 := by
    intro x hx
    have : (x.key, x.val) ∈ d.map (fun p => (Value.string p.1, ptr p.2)) := by rw [← h3]; exact List.mem_map_of_mem hx
    obtain ⟨q, hq, he⟩ := List.mem_map.1 this
    exact ⟨q, hq, by simpa using (congrArg Prod.fst he).symm⟩
  have hkey : ∀ q ∈ d, keyOf P 9 (.string q.1) = some (.string q.1.data.toList) := fun q hq => Go.WideMaps.keyOf_string_mk hu (Nat.le_trans (hs q hq) (by decide))
  have hrg : es.toList.map (Go.WideElems.rg P 9 keyR) = d.map (fun q => (Lit.string q.1.data.toList, DataW.nil)) := by
    have e1 : es.toList.map (Go.WideElems.rg P 9 keyR) = (es.toList.map (fun e => (e.key, e.val))).map (fun kv => Go.WideElems.rg P 9 keyR ⟨kv.1, kv.2, 0⟩) := by
      rw [List.map_map]; rfl
    rw [e1, h3, List.map_map]
    apply List.map_congr_left
    intro q hq
    exact Go.WideElems.rg_of (y := (Lit.string q.1.data.toList, DataW.nil)) (Go.WideElems.rd_mk (P := P) (R := keyR) (yv := (DataW.nil, [])) (val := ptr q.2) (born := 0) (hkey q hq) rfl)
  refine ⟨.map ((es.toList.map (Go.WideElems.rg P 9 keyR)).foldr DataW.insert []), ⟨es, clk, h1, ⟨?_, h2, ?_⟩, ?_, rfl⟩, ?_, ?_⟩
  · have : es.size = d.length := by simpa using hlen
    rw [this]; exact Nat.le_trans hl (by decide)
  · intro x hx
    obtain ⟨q, hq, he⟩ := hmem x hx
    refine ⟨(.string q.1.data.toList, .nil), ?_⟩
    unfold Go.WideElems.rd
    rw [he, hkey q hq]; rfl
  · have : es.size = d.length := by simpa using hlen
    omega
  · rw [hrg]
    unfold strKeys
    have := (foldr_insert_perm (d.map (fun q => (Lit.string q.1.data.toList, DataW.nil)))).map (fun p => strOf p.1)
    rw [List.map_map] at this
    exact this
  · rw [hrg, Maps.size_eq]
    rw [(foldr_insert_perm _).length_eq, List.length_map]

theorem dir_owns {w : World} {m : Nat} {d : Dr} (h : DirAt w m d) (hs : ∀ q ∈ d, q.1.size ≤ 30) (hl : d.length ≤ 67108864) :
    ∃ D, w.ownsMap Tryz.prog 9 keyR m d.length D ∧ (strKeys D).Perm (d.map fun q => q.1.data.toList) ∧ Maps.size D = d.length := dir_owns_any (by kernel_rfl) h hs hl
theorem sort_unique {a b : List (List UInt8)} (h : a.Perm b) : a.mergeSort leB = b.mergeSort leB := by
  have h1 := List.mergeSort_perm a leB
  have h2 := List.mergeSort_perm b leB
  have t : ∀ x y z : List UInt8, leB x y = true → leB y z = true → leB x z = true := by
    intro x y z h1 h2
    simp only [leB, decide_eq_true_eq] at *
    exact List.le_trans h1 h2
  have tot : ∀ x y : List UInt8, (leB x y || leB y x) = true := by
    intro x y
    simp only [leB, Bool.or_eq_true, decide_eq_true_eq]
    exact List.le_total x y
  exact List.Perm.eq_of_pairwise (le := fun x y => leB x y = true) (fun x y _ _ hx hy => by
    simp only [leB, decide_eq_true_eq] at hx hy
    exact List.le_antisymm hx hy) (List.pairwise_mergeSort t tot a) (List.pairwise_mergeSort t tot b) ((h1.trans h).trans h2.symm)


def NamesPost (B : Nat) (w : World) (l : List (List UInt8)) (e : Ending) (w' : World) : Prop := ∃ v, e = .returned v ∧ RS 9 B w' v (l.map encStr) ∧ Below w.heap.size w w'
section
variable {B : Nat} {w : World} {p mn ms : Nat} {bl : List Nat} {st : St}
set_option maxRecDepth 100000 in
theorem names_t (h : RepC B w p mn ms bl st) (hs : ∀ q ∈ st.now, q.1.size ≤ 30) : Calls Tryz.prog 68 #[.pointer (some ⟨p, 0, none⟩)] w (NamesPost B w (namesA st)) := by
  obtain ⟨c0, c1, c2, c3, c4, c5, c6⟩ := h.cells
  have HON := Lib.hid (on_t h)
  cases hd : st.dark
  · have hA : Hid (namesA st = namesOf st.now) := Lib.hid (by unfold namesA; rw [hd]; rfl)
    rw [hd] at HON
    obtain ⟨D, o1, o2, o3⟩ := dir_owns h.now (by intro q hq; obtain ⟨q', hq', rfl⟩ := List.mem_map.1 hq; exact hs q' hq') (by simp [toB]; exact h.inv.nown)
    have hsz : Maps.size D ≤ 67108864 := by rw [o3]; simp [toB]; exact h.inv.nown
    have HS := Lib.hid (callsIn_wide.1 (Tryz.slices_Sorted_keys_87_88 mn _ D keyR w o1 (Nat.le_trans hsz (by decide)) (by omega)))
    have HK := Lib.hid (callsIn_wide.1 (Tryz.maps_Keys_88 (some mn) w))
    have HP := Lib.hid o2
    clear o1 o2 o3 hsz h hd
    go_enter Tryz.func68, Tryz.ntmps68
    go_wp2_with fail
    refine HON.out.mono ?_
    rintro e w' ⟨rfl, rfl⟩
    go_wp2_with fail
    refine HK.out.mono ?_
    rintro e w' ⟨rfl, rfl⟩
    go_wp2_with fail
    refine HS.out.mono ?_
    rintro e w' ⟨v, ss, rfl, hp, hrow, -, hb⟩
    have HR := Lib.hid hrow; have HB := Lib.hid hb; have HP2 := Lib.hid hp
    clear hrow hb hp
    go_wp2
    go_ret
    refine ⟨v, rfl, ?_, ?_⟩
    · rw [hA.out]
      have e : ss.mergeSort leB = namesOf st.now := by
        have := sort_unique (HP2.out.trans HP.out)
        rw [this]
        unfold namesOf toB
        rw [List.map_map]; rfl
      rw [← e]
      exact RS.of_owns HR.out
    · exact ((Below.refl _ w).alloc (Nat.le_refl _) _).trans (HB.out.mono (by simp))
  · have hA : Hid (namesA st = []) := Lib.hid (by unfold namesA; rw [hd]; rfl)
    rw [hd] at HON
    clear h hd
    go_enter Tryz.func68, Tryz.ntmps68
    go_wp2_with fail
    refine HON.out.mono ?_
    rintro e w' ⟨rfl, rfl⟩
    go_wp2
    go_ret
    refine ⟨_, rfl, ?_, Below.refl _ _⟩
    rw [hA.out]
    exact RS.nil _ _ _
end
end Go.Proofs.YthjilhjdnefmdaaGreatDoor
/- The numbers of the parts on a store. Conditions: none. -/
namespace Go.Proofs.YthjilhjdnefmdaaGreatDoor
open Go.RowKit
open Go.ChangeMaps (setBlock)
open Go.Sort (grow)

def AtoiPost (w : World) (s : Nm) (e : Ending) (w' : World) : Prop :=
  ((∃ n, e = .returned (.tuple #[.int .i64 n, .nilIface]) ∧ Lib.atoiAll s.data.toList = .ok n ∧ -9223372036854775808 ≤ n ∧ n ≤ 9223372036854775807) ∨
   (∃ n N, e = .returned (.tuple #[.int .i64 n, .iface 127 (.pointer (some ⟨N, 0, none⟩))]) ∧ ∀ m, Lib.atoiAll s.data.toList ≠ .ok m)) ∧ Below w.heap.size w w'
theorem atoi_t {w : World} (hE : Env w) (s : Nm) (hs : s.size ≤ 100) : Calls Tryz.prog 70 #[.string s] w (AtoiPost w s) := by
  rcases ha : Lib.atoiAll s.data.toList with n | _ | _
  · refine (Tryz.strconv_Atoi_ok s (by omega) n ha w).mono ?_
    rintro e w' ⟨rfl, hw⟩
    obtain ⟨b0, b1⟩ := Lib.atoiAll_bounds ha
    refine ⟨.inl ⟨n, rfl, ha, b0, b1⟩, ?_⟩
    rcases hw with rfl | ⟨t, rfl⟩
    · exact Below.refl _ _
    · exact Lib.bytesWorld_below _ _ _
  · obtain ⟨ev, h1, h2⟩ := hE.e1
    refine (Tryz.strconv_Atoi_syntax s (by omega) ha ev w h1 h2).mono ?_
    rintro e w' ⟨N, rfl, -, -, hb⟩
    exact ⟨.inr ⟨_, N, rfl, by intro m hm; rw [ha] at hm; cases hm⟩, hb⟩
  · obtain ⟨ev, h1, h2⟩ := hE.e2
    refine (Tryz.strconv_Atoi_range s (by omega) ha ev w h1 h2).mono ?_
    rintro e w' ⟨N, rfl, -, -, hb⟩
    exact ⟨.inr ⟨_, N, rfl, by intro m hm; rw [ha] at hm; cases hm⟩, hb⟩

def partOf (fr : Int) (f : List UInt8) : Option Int :=
  if Lib.hasPrefix f dotLog = true then
    match Lib.atoiAll (Lib.trimPrefix f dotLog) with
    | .ok n => if nameL n = f ∧ fr ≤ n then some n else none
    | _ => none
  else none
def partsOf (l : List (List UInt8)) (fr : Int) : List Int := l.filterMap (partOf fr)
def partsA (st : St) (fr : Int) : List Int := (partsOf (namesA st) fr).mergeSort (fun x y => decide (x ≤ y))

theorem partsOf_snoc (l : List (List UInt8)) (k : Nat) (hk : k < l.length) (fr : Int) : partsOf (l.take (k + 1)) fr = partsOf (l.take k) fr ++ (partOf fr l[k]).toList := by
  unfold partsOf
  rw [List.take_succ_eq_append_getElem hk, List.filterMap_append]
  congr 1


theorem sort_own_t {w : World} {base : Nat} {v : Value} {zs : List Int} (h : w.ownsRow base 3 1 v zs.length (zs.map (Value.int .i64))) (hb : base ≤ w.heap.size) (hl : zs.length ≤ 1000000000) :
    Calls Tryz.prog 71 #[v] w fun e w' => e = .returned (.tuple #[]) ∧ w'.ownsRow base 3 1 v zs.length ((zs.mergeSort fun x y => decide (x ≤ y)).map (Value.int .i64)) ∧ Below base w w' := by
  rcases h.2 with ⟨rfl, h0⟩ | ⟨g, cap, cur, rfl, hg, hc, hn, hm, hs, ht⟩
  · have : zs = [] := List.eq_nil_of_length_eq_zero h0
    subst this
    refine (Tryz.slices_Sort_int_none none 0 w).mono ?_
    rintro e w' ⟨rfl, rfl⟩
    exact ⟨rfl, by simpa using h, Below.refl _ _⟩
  · rw [Nat.mul_one] at ht
    refine (Tryz.slices_Sort_int g 0 cap zs w (holds_of_blockI hc ht) (hp_lt hc) (by omega)).mono ?_
    rintro e w' ⟨rfl, n, os, rfl⟩
    have hlen : (zs.mergeSort fun x y => decide (x ≤ y)).length = zs.length := List.length_mergeSort _
    refine ⟨rfl, ownsRow_sortedI hlen hg hc hn hm hs, (Below.refl base w).grown (grownBy_sortedI _) hb (fun k hk => by cases hk; exact hg)⟩

def PartsPost (B : Nat) (w : World) (zs : List Int) (e : Ending) (w' : World) : Prop := ∃ v, e = .returned v ∧ RS 3 B w' v (zs.map (Value.int .i64)) ∧ Below w.heap.size w w'
def PInv (w1 : World) (base : Nat) (l : List (List UInt8)) (fr : Int) (v i : Value) (wr : World) : Prop :=
  ∃ k : Nat, k ≤ l.length ∧ i = .int .i64 k ∧ wr.ownsRow base 3 1 v (partsOf (l.take k) fr).length ((partsOf (l.take k) fr).map (Value.int .i64)) ∧ Below w1.heap.size w1 wr

theorem own_below {w w' : World} {base : Nat} {e : TypeId} {v : Value} {n : Nat} {xs : List Value} (h : w.ownsRow base e 1 v n xs) (hb : Below w.heap.size w w') : w'.ownsRow base e 1 v n xs := by
  refine ⟨h.1, h.2.imp id ?_⟩
  rintro ⟨g, cap, cur, h1, h2, h3, h4⟩
  exact ⟨g, cap, cur, h1, h2, (hb.block _ (hp_lt h3)).trans h3, h4⟩
theorem pinv_skip {w1 wr w2 : World} {base : Nat} {l : List (List UInt8)} {fr : Int} {v : Value} {k : Nat} {zs : List Int} {o : Option Int} (hk : k < l.length) (hs : partsOf (l.take (k + 1)) fr = zs ++ o.toList) (ho : o = none)
    (hown : wr.ownsRow base 3 1 v zs.length (zs.map (Value.int .i64))) (hb : Below w1.heap.size w1 wr) (hb2 : Below wr.heap.size wr w2) : PInv w1 base l fr v (.int .i64 ((k : Int) + 1)) w2 := by
  subst ho
  rw [Option.toList_none, List.append_nil] at hs
  refine ⟨k + 1, hk, by rfl, ?_, hb.trans (hb2.mono hb.size)⟩
  rw [hs]; exact own_below hown hb2
theorem nameA_list (n : Int) : (nameA n).toList = nameL n := by rw [ByteArray.toList_eq]; rfl
theorem pinv_push {w1 wr w3 w4 : World} {base : Nat} {l : List (List UInt8)} {fr : Int} {v v4 : Value} {k : Nat} {zs : List Int} {o : Option Int} {n : Int} (hk : k < l.length) (hs : partsOf (l.take (k + 1)) fr = zs ++ o.toList) (ho : o = some n)
    (hv : wr.ownsRow base 3 1 v zs.length (zs.map (Value.int .i64))) (hbase : base = w1.heap.size) (hb : Below w1.heap.size w1 wr) (hb2 : Below wr.heap.size wr w3) (hown : w4.ownsRow base 3 1 v4 (zs.length + 1) (zs.map (Value.int .i64) ++ [.int .i64 n])) (hg : (w3.alloc (.cells #[.int .i64 n] 3)).grownBy w4 v.ownBlock) :
    PInv w1 base l fr v4 (.int .i64 ((k : Int) + 1)) w4 := by
  subst ho hbase
  refine ⟨k + 1, hk, by rfl, ?_, ?_⟩
  · rw [hs]; simpa using hown
  · have hb3 := (hb.trans (hb2.mono hb.size))
    exact (hb3.alloc hb3.size _).grown hg (by simp; have := hb3.size; omega) (fun k hk => (hv.lt k hk).1)
theorem rs_new (w : World) (e : TypeId) (B : Nat) (x : Value) : RS e B (w.alloc (.cells #[x] e)) (.slice (some ⟨w.heap.size, 0, none⟩) 1 1) [x] := by
  refine ⟨_, _, rfl, Nat.le_refl _, by decide, .inr ⟨_, _, rfl, .inr ⟨_, _, hp_new _ _⟩, fun i y hy => ?_⟩⟩
  rw [Nat.zero_add, cell_of (hp_new _ _)]
  cases i with
  | zero => simpa using hy
  | succ i => simp at hy
section
variable {B : Nat} {w : World} {p mn ms : Nat} {bl : List Nat} {st : St}
set_option maxRecDepth 100000 in
set_option maxHeartbeats 1000000 in
theorem parts_t (hE : Env w) (h : RepC B w p mn ms bl st) (hB : 6 ≤ B) (hs : ∀ q ∈ st.now, q.1.size ≤ 30) (fr : Int) (_hfr : -9223372036854775808 ≤ fr ∧ fr ≤ 9223372036854775807) :
    Calls Tryz.prog 29 #[.pointer (some ⟨p, 0, none⟩), .int .i64 fr] w (PartsPost B w (partsA st fr)) := by
  have HN := Lib.hid (names_t h hs)
  have HE := Lib.hid hE
  have HBB := Lib.hid h.le
  have HBw := Lib.hid (show 6 ≤ w.heap.size from Nat.le_trans hB h.le)
  obtain ⟨l, hl⟩ : ∃ l, namesA st = l := ⟨_, rfl⟩
  have HP : Hid (partsA st fr = (partsOf l fr).mergeSort (fun x y => decide (x ≤ y))) := Lib.hid (by unfold partsA; rw [hl])
  have HM : Hid (∀ f ∈ l, f.length ≤ 30) := Lib.hid (by
    intro f hf
    rw [← hl] at hf
    unfold namesA at hf
    split at hf
    · cases hf
    · unfold namesOf at hf
      rw [List.mem_mergeSort] at hf
      obtain ⟨q, hq, rfl⟩ := List.mem_map.1 hf
      exact hs q hq)
  have hll : l.length ≤ 67108864 := by
    rw [← hl]; unfold namesA; split
    · simp
    · unfold namesOf; rw [List.length_mergeSort, List.length_map]; exact h.inv.nown
  rw [hl] at HN
  clear hl h hs hE
  go_enter Tryz.func29, Tryz.ntmps29
  go_wp2_with fail
  refine HN.out.mono ?_
  rintro e w1 ⟨v1, rfl, hv1, hb1⟩
  obtain ⟨a1, c1, rfl, g1, g2⟩ : ∃ a1 c1, v1 = .slice a1 l.length c1 ∧ l.length ≤ c1 ∧ c1 ≤ maxLen := by
    obtain ⟨a', c', h1, h2, h3, -⟩ := hv1
    rw [List.length_map] at h1 h2
    exact ⟨a', c', h1, h2, h3⟩
  unfold maxLen at g2
  have HQ : Hid (∀ wr, Below w1.heap.size w1 wr → ∀ k (hk : k < l.length), ∃ b o, a1 = some ⟨b, o, none⟩ ∧ wr.cell? ⟨b, o + k, none⟩ = some (encStr l[k])) := Lib.hid (fun wr hb k hk => by
    have := (RS.below hv1 hb (Nat.le_trans HBB.out hb1.size)).at.2.2.2 k (by rw [List.length_map]; exact hk)
    obtain ⟨b, o, e1, e2⟩ := this
    refine ⟨b, o, e1, ?_⟩
    rw [e2, List.getElem_map])
  have HB1 := Lib.hid hb1
  clear hv1 hb1 g2
  go_wp2_with fail
  go_loopw [5, 15] (fun v i wr => PInv w1 w1.heap.size l fr v i wr) (fun _ i _ => l.length - (intOf i).toNat)
  case atStart => exact ⟨0, Nat.zero_le _, rfl, World.ownsRow_nil _ _ _ _, Below.refl _ _⟩
  case round =>
    obtain ⟨k, hk, rfl, hown, hb⟩ := hrel
    have HO := Lib.hid hown; have HB := Lib.hid hb
    clear hown hb
    by_cases hlt : k < l.length
    · obtain ⟨b, o, rfl, e1⟩ := HQ.out wr HB.out k hlt
      have hf30 := HM.out l[k] (List.getElem_mem hlt)
      have hcp : Calls Tryz.prog 69 #[encStr l[k], .string ⟨#[108, 111, 103, 46]⟩] wr fun e w' => e = .returned (.tuple #[encStr (Lib.trimPrefix l[k] dotLog), .bool (Lib.hasPrefix l[k] dotLog)]) ∧ wr = w' := by
        refine (Tryz.strings_CutPrefix ⟨l[k].toArray⟩ ⟨#[108, 111, 103, 46]⟩ wr).mono ?_
        rintro e w' ⟨rfl, rfl⟩
        exact ⟨rfl, rfl⟩
      have hsn := partsOf_snoc l k hlt fr
      have hpl : (partsOf (l.take k) fr).length ≤ k := by
        have := List.length_filterMap_le (partOf fr) (l.take k)
        rw [List.length_take] at this
        unfold partsOf; omega
      generalize l[k] = f at *
      have HPO : Hid (partOf fr f = if Lib.hasPrefix f dotLog = true then match Lib.atoiAll (Lib.trimPrefix f dotLog) with
        | .ok n => if nameL n = f ∧ fr ≤ n then some n else none
        | _ => none else none) := Lib.hid rfl
      have htp : (Lib.trimPrefix f dotLog).length ≤ 30 := by
        unfold Lib.trimPrefix; split
        · rw [List.length_drop]; omega
        · exact hf30
      have HCP := Lib.hid hcp; have HSN := Lib.hid hsn
      clear hcp hsn
      have hEr := HE.out.below HB1.out HBw.out
      have hw1 : 6 ≤ w1.heap.size := Nat.le_trans HBw.out HB1.out.size
      have hEr2 := hEr.below HB.out hw1
      generalize Lib.trimPrefix f dotLog = d at *
      have HAT := Lib.hid (atoi_t hEr2 ⟨d.toArray⟩ (by show d.length ≤ 100; omega))
      have HER := Lib.hid hEr2
      clear hEr hEr2
      obtain ⟨zs, hzs⟩ : ∃ zs, partsOf (l.take k) fr = zs := ⟨_, rfl⟩
      rw [hzs] at HO hpl HSN
      cases hpx : Lib.hasPrefix f dotLog with
      | false =>
        rw [hpx] at HCP
        have hno : partOf fr f = none := by rw [HPO.out, hpx]; rfl
        have HNO := Lib.hid hno; clear hno hpx
        go_wp2_with fail
        refine HCP.out.mono ?_
        rintro e w' ⟨rfl, rfl⟩
        go_wp2_with fail
        refine HAT.out.mono ?_
        rintro e w2 ⟨hres, hb2⟩
        have HB2 := Lib.hid hb2; clear hb2
        have hres' : ∃ n er, e = .returned (.tuple #[.int .i64 n, er]) := by
          rcases hres with ⟨n, h, _⟩ | ⟨n, N, h, _⟩
          · exact ⟨_, _, h⟩
          · exact ⟨_, _, h⟩
        obtain ⟨n, er, rfl⟩ := hres'
        clear hres
        go_wp2_with fail
        exact ⟨pinv_skip hlt HSN.out HNO.out HO.out HB.out HB2.out, by simp [intOf]; omega⟩
      | true =>
        rw [hpx] at HCP
        cases hat : Lib.atoiAll d with
        | ok n =>
          have hAT : Calls Tryz.prog 70 #[.string ⟨d.toArray⟩] wr fun e w' => e = .returned (.tuple #[.int .i64 n, .nilIface]) ∧ Below wr.heap.size wr w' ∧ -9223372036854775808 ≤ n ∧ n ≤ 9223372036854775807 := by
            refine HAT.out.mono ?_
            rintro e w' ⟨hres, hb2⟩
            rcases hres with ⟨n', rfl, h2, h3, h4⟩ | ⟨n', N, _, h2⟩
            · have : Lib.atoiAll d = .ok n' := h2
              rw [hat] at this; cases this
              exact ⟨rfl, hb2, h3, h4⟩
            · exact absurd hat (h2 n)
          have HAT2 := Lib.hid hAT
          have hpo : partOf fr f = if nameL n = f ∧ fr ≤ n then some n else none := by rw [HPO.out, hpx, hat]; rfl
          have HPO2 := Lib.hid hpo
          clear hAT hpo hat HAT hpx HPO
          go_wp2_with fail
          refine HCP.out.mono ?_
          rintro e w' ⟨rfl, rfl⟩
          go_wp2_with fail
          refine HAT2.out.mono ?_
          rintro e w2 ⟨rfl, hb2, n0, n1⟩
          have HB2 := Lib.hid hb2
          have HNM := Lib.hid (name_t (HER.out.below hb2 (Nat.le_trans hw1 HB.out.size)) n n0 n1)
          clear hb2
          go_wp2_with fail
          refine HNM.out.mono ?_
          rintro e w3 ⟨rfl, hb3⟩
          have HB3 := Lib.hid (HB2.out.trans (hb3.mono HB2.out.size))
          clear hb3
          by_cases hnf : nameL n = f
          · have hnl : (nameA n).toList = f := by rw [nameA_list, hnf]
            by_cases hle : fr ≤ n
            · have hd : decide (fr ≤ n) = true := decide_eq_true hle
              have hso : partOf fr f = some n := by rw [HPO2.out, if_pos ⟨hnf, hle⟩]
              have HSO := Lib.hid hso
              clear hso hnf HPO2
              have HO3 := Lib.hid (own_below (own_below HO.out HB3.out) ((Below.refl w3.heap.size w3).alloc (Nat.le_refl _) (.cells #[.int .i64 n] 3)))
              have hsz3 : w1.heap.size ≤ (w3.alloc (.cells #[.int .i64 n] 3)).heap.size := by
                have := HB.out.size; have := HB3.out.size; simp; omega
              have HSZ := Lib.hid hsz3
              clear hsz3
              obtain ⟨a5, c5, rfl⟩ := own_form HO.out
              go_wp2_with (at_builtin; refine wpList_append_rs slT31 rfl (.tmp 45) (.tmp 47) rfl w1.heap.size 0 _ _ _ rfl HO3.out _ rfl [.int .i64 n] (rs_new w3 3 0 _) (by simp [Value.oneCell']) (by simp only [List.length_singleton]; unfold maxLen; omega) (by simp only [List.length_singleton]; omega) HSZ.out ?_; intro v4 w4 hown hg; have HO4 := Lib.hid hown; have HG4 := Lib.hid hg; clear hown hg)
              exact ⟨pinv_push hlt HSN.out HSO.out HO.out rfl HB.out HB3.out HO4.out HG4.out, by simp [intOf]; omega⟩
            · have hd : decide (fr ≤ n) = false := decide_eq_false hle
              have hno : partOf fr f = none := by rw [HPO2.out, if_neg (fun h => hle h.2)]
              have HNO := Lib.hid hno
              clear hno hnf HPO2
              go_wp2_with fail
              exact ⟨pinv_skip hlt HSN.out HNO.out HO.out HB.out HB3.out, by simp [intOf]; omega⟩
          · have hnl : ¬ (nameA n).toList = f := by rw [nameA_list]; exact hnf
            have hno : partOf fr f = none := by rw [HPO2.out, if_neg (fun h => hnf h.1)]
            have HNO := Lib.hid hno
            clear hno hnf HPO2
            go_wp2_with fail
            exact ⟨pinv_skip hlt HSN.out HNO.out HO.out HB.out HB3.out, by simp [intOf]; omega⟩
        | _ =>
          have hAT : Calls Tryz.prog 70 #[.string ⟨d.toArray⟩] wr fun e w' => ∃ n N, e = .returned (.tuple #[.int .i64 n, .iface 127 (.pointer (some ⟨N, 0, none⟩))]) ∧ Below wr.heap.size wr w' := by
            refine HAT.out.mono ?_
            rintro e w' ⟨hres, hb2⟩
            rcases hres with ⟨n', rfl, h2, h3, h4⟩ | ⟨n', N, h1, h2⟩
            · have : Lib.atoiAll d = .ok n' := h2
              rw [hat] at this; cases this
            · exact ⟨n', N, h1, hb2⟩
          have HAT2 := Lib.hid hAT
          have hno : partOf fr f = none := by rw [HPO.out, hpx, hat]; rfl
          have HNO := Lib.hid hno
          clear hAT hno hat HAT hpx HPO
          go_wp2_with fail
          refine HCP.out.mono ?_
          rintro e w' ⟨rfl, rfl⟩
          go_wp2_with fail
          refine HAT2.out.mono ?_
          rintro e w2 ⟨n, N, rfl, hb2⟩
          have HB2 := Lib.hid hb2
          clear hb2
          go_wp2_with fail
          exact ⟨pinv_skip hlt HSN.out HNO.out HO.out HB.out HB2.out, by simp [intOf]; omega⟩
    · have hk' : k = l.length := by omega
      subst hk'
      obtain ⟨zs, hzs⟩ : ∃ zs, partsOf (l.take l.length) fr = zs := ⟨_, rfl⟩
      rw [hzs] at HO
      have hzl : zs.length ≤ l.length := by
        rw [← hzs, List.take_length]; exact List.length_filterMap_le _ _
      have HSRT := Lib.hid (sort_own_t HO.out HB.out.size (by omega))
      have hpz : partsA st fr = zs.mergeSort (fun x y => decide (x ≤ y)) := by rw [HP.out, ← hzs, List.take_length]
      have HPZ := Lib.hid hpz
      clear hpz hzs
      go_wp2_with fail
      refine HSRT.out.mono ?_
      rintro e w2 ⟨rfl, ho2, hb2⟩
      have HO2 := Lib.hid ho2; have HB2 := Lib.hid hb2
      clear ho2 hb2
      go_wp2
      go_ret
      refine ⟨_, rfl, ?_, HB1.out.trans ((HB.out.trans HB2.out).mono HB1.out.size)⟩
      rw [HPZ.out]
      exact RS.of_owns HO2.out
end
end Go.Proofs.YthjilhjdnefmdaaGreatDoor
/- The checkpoint. Conditions: none. -/
namespace Go.Proofs.YthjilhjdnefmdaaGreatDoor
open Go.RowKit
open Go.ChangeMaps (setBlock)
def kCheck : Nm := ⟨#[99, 104, 101, 99, 107]⟩
def foundBad (b : List UInt8) : Prop := (openA b).2.2 ≠ 0 ∨ (openA b).2.1 < b.length ∨ (getA 8 (openA b).1).2 = false ∨ (getA 8 (openA b).1).1 < 1 ∨ 999999999 < (getA 8 (openA b).1).1
instance (b : List UInt8) : Decidable (foundBad b) := by unfold foundBad; infer_instance
def foundB (b : List UInt8) : Int × List UInt8 × Int := if foundBad b then (0, [], 7) else ((getA 8 (openA b).1).1, (openA b).1.drop 8, 0)
def foundA (st : St) : Int × List UInt8 × Int := if kErr st kCheck = 0 then foundB (readA st kCheck) else (1, [], 0)
def FoundPost (B : Nat) (w : World) (r : Int × List UInt8 × Int) (e : Ending) (w' : World) : Prop := ∃ v, e = .returned (.tuple #[.int .i64 r.1, v, .int .i64 r.2.2]) ∧ BS B w' v r.2.1 ∧ Below w.heap.size w w'
theorem readA_big {st : St} (h : Inv st) (nm : Nm) : (readA st nm).length ≤ 1073741824 := by
  unfold readA; split
  · exact (fl_big h _).1
  · simp
theorem getA_rng (n : Nat) (l : List UInt8) (hn : n ≤ 8) : 0 ≤ (getA n l).1 ∧ (getA n l).1 < 18446744073709551616 := by
  unfold getA; split
  · simp
  · have := getB_lt (l.take n)
    have h2 : (256 ^ (l.take n).length : Nat) ≤ 256 ^ 8 := Nat.pow_le_pow_right (by decide) (by rw [List.length_take]; omega)
    have h3 : (256 : Nat) ^ 8 = 18446744073709551616 := rfl
    simp only
    omega

theorem openA_gen (b : List UInt8) : 0 ≤ (openA b).2.1 ∧ (openA b).2.1 ≤ b.length ∧ (openA b).1.length ≤ b.length := by
  unfold openA
  have hg := getB_lt (b.take 4)
  split
  · simp
  · split
    · simp
    · split
      · simp
      · split
        · simp
        · simp only [List.length_drop, List.length_take]
          omega
section
variable {B : Nat} {w : World} {p mn ms : Nat} {bl : List Nat} {st : St}
set_option maxRecDepth 100000 in
set_option maxHeartbeats 1000000 in
theorem found_t (hE : Env w) (h : RepC B w p mn ms bl st) (hB : 6 ≤ B) : Calls Tryz.prog 28 #[.pointer (some ⟨p, 0, none⟩)] w (FoundPost B w (foundA st)) := by
  have HR := Lib.hid (read_t h kCheck (by decide))
  have HE := Lib.hid hE
  have HBB := Lib.hid h.le
  have hbig := readA_big h.inv kCheck
  have HBIG := Lib.hid hbig
  by_cases hk : kErr st kCheck = 0
  · have hfa : foundA st = foundB (readA st kCheck) := by unfold foundA; rw [if_pos hk]
    rw [hk] at HR
    have HFA := Lib.hid hfa
    clear hfa hk h hE hbig
    generalize readA st kCheck = b at *
    obtain ⟨cc, k, ee, hoe⟩ : ∃ cc k ee, openA b = (cc, k, ee) := ⟨_, _, _, rfl⟩
    obtain ⟨fi, ok, hge⟩ : ∃ fi ok, getA 8 cc = (fi, ok) := ⟨_, _, rfl⟩
    have hrng := getA_rng 8 cc (Nat.le_refl _)
    rw [hge] at hrng
    obtain ⟨f0, f1⟩ := hrng
    have hbad : foundBad b ↔ (ee ≠ 0 ∨ k < b.length ∨ ok = false ∨ fi < 1 ∨ 999999999 < fi) := by unfold foundBad; rw [hoe, hge]
    have hgood : foundB b = if (ee ≠ 0 ∨ k < b.length ∨ ok = false ∨ fi < 1 ∨ 999999999 < fi) then (0, [], 7) else (fi, cc.drop 8, 0) := by
      unfold foundB
      simp only [hbad]
      rw [hoe, hge]
    have HG := Lib.hid hgood
    obtain ⟨k0, k1, k2⟩ := openA_gen b
    rw [hoe] at k0 k1 k2
    simp only at k0 k1 k2
    have hkr : -9223372036854775808 ≤ k ∧ k ≤ 9223372036854775807 := by
      have := HBIG.out
      omega
    have HOE := Lib.hid hoe; have HGE := Lib.hid hge
    clear hbad hgood hoe hge
    have HCC := Lib.hid k2
    clear k0 k1 k2
    by_cases hbd : (ee ≠ 0 ∨ k < b.length ∨ ok = false ∨ fi < 1 ∨ 999999999 < fi)
    · have hA : Hid (foundA st = (0, [], 7)) := Lib.hid (by rw [HFA.out, HG.out, if_pos hbd])
      have hcase : (ee != 0) = true ∨ ((ee != 0) = false ∧ decide (k < b.length) = true) ∨ ((ee != 0) = false ∧ decide (k < b.length) = false ∧ ok = false) ∨ ((ee != 0) = false ∧ decide (k < b.length) = false ∧ ok = true ∧ decide (fi < 1) = true) ∨ ((ee != 0) = false ∧ decide (k < b.length) = false ∧ ok = true ∧ decide (fi < 1) = false ∧ decide (999999999 < fi) = true) := by
        by_cases q1 : ee = 0
        · right
          have q1' : (ee != 0) = false := by rw [q1]; rfl
          by_cases q2 : k < b.length
          · left; exact ⟨q1', decide_eq_true q2⟩
          · right
            cases ok with
            | false => left; exact ⟨q1', decide_eq_false q2, rfl⟩
            | true =>
              right
              by_cases q3 : fi < 1
              · left; exact ⟨q1', decide_eq_false q2, rfl, decide_eq_true q3⟩
              · right; exact ⟨q1', decide_eq_false q2, rfl, decide_eq_false q3, decide_eq_true (by
                  rcases hbd with h | h | h | h | h
                  · exact absurd q1 h
                  · exact absurd h q2
                  · cases h
                  · exact absurd h q3
                  · exact h)⟩
        · left; exact bne_iff_ne.2 q1
      clear hbd HG HFA
      rcases hcase with t1 | ⟨t1, t2⟩ | ⟨t1, t2, rfl⟩ | ⟨t1, t2, rfl, t3⟩ | ⟨t1, t2, rfl, t3, t4⟩
      all_goals
        go_enter Tryz.func28, Tryz.ntmps28
        go_wp2_with fail
        refine HR.out.mono ?_
        rintro e w1 ⟨vb, rfl, hvb, hb1⟩
        unfold errv
        obtain ⟨ab, cb, rfl, -⟩ := hvb.form
        have HB1 := Lib.hid hb1
        have HOP := Lib.hid (open_t (HE.out.e0.below hb1 (by have := HBB.out; omega)) hvb (by have := HBIG.out; omega) (Nat.le_trans HBB.out hb1.size) (by have := HBB.out; have := hb1.size; omega))
        have hE1 := Lib.hid (HE.out.e0.below hb1 (by have := HBB.out; omega))
        rw [HOE.out] at HOP
        clear hvb hb1
        go_wp2_with fail
        refine HOP.out.mono ?_
        rintro e w2 ⟨vc, rfl, hvc, hb2⟩
        have HB2 := Lib.hid (HB1.out.trans (hb2.mono HB1.out.size))
        have HGT := Lib.hid (get8_t (hE1.out.below hb2 (by have := HBB.out; have := HB1.out.size; omega)) hvc)
        rw [HGE.out] at HGT
        clear hvc hb2
        go_wp2_with fail
        refine HGT.out.mono ?_
        rintro e w3 ⟨rfl, rfl⟩
        go_wp2
        go_ret3
        unfold FoundPost
        rw [hA.out]
        exact ⟨_, rfl, BS.nil _ _, HB2.out⟩
    · have hA : Hid (foundA st = (fi, cc.drop 8, 0)) := Lib.hid (by rw [HFA.out, HG.out, if_neg hbd])
      obtain ⟨n1, n2, n3, n4, n5⟩ : ee = 0 ∧ ¬ k < b.length ∧ ok = true ∧ ¬ fi < 1 ∧ ¬ 999999999 < fi := by
        refine ⟨?_, ?_, ?_, ?_, ?_⟩
        · rcases Int.decEq ee 0 with h | h
          · exact absurd (.inl h) hbd
          · exact h
        · exact fun h => hbd (.inr (.inl h))
        · cases ok with
          | true => rfl
          | false => exact absurd (.inr (.inr (.inl rfl))) hbd
        · exact fun h => hbd (.inr (.inr (.inr (.inl h))))
        · exact fun h => hbd (.inr (.inr (.inr (.inr h))))
      have t1 : (ee != 0) = false := by rw [n1]; rfl
      have t2 : decide (k < b.length) = false := decide_eq_false n2
      have t3 : decide (fi < 1) = false := decide_eq_false n4
      have t4 : decide (999999999 < fi) = false := decide_eq_false n5
      subst n3
      have hc8 : 8 ≤ cc.length := by
        have := HGE.out
        unfold getA at this
        split at this
        · cases this
        · omega
      clear hbd HG HFA n1 n2
      go_enter Tryz.func28, Tryz.ntmps28
      go_wp2_with fail
      refine HR.out.mono ?_
      rintro e w1 ⟨vb, rfl, hvb, hb1⟩
      unfold errv
      obtain ⟨ab, cb, rfl, -⟩ := hvb.form
      have HB1 := Lib.hid hb1
      have HOP := Lib.hid (open_t (HE.out.e0.below hb1 (by have := HBB.out; omega)) hvb (by have := HBIG.out; omega) (Nat.le_trans HBB.out hb1.size) (by have := HBB.out; have := hb1.size; omega))
      have hE1 := Lib.hid (HE.out.e0.below hb1 (by have := HBB.out; omega))
      rw [HOE.out] at HOP
      clear hvb hb1
      go_wp2_with fail
      refine HOP.out.mono ?_
      rintro e w2 ⟨vc, rfl, hvc, hb2⟩
      have HB2 := Lib.hid (HB1.out.trans (hb2.mono HB1.out.size))
      have HGT := Lib.hid (get8_t (hE1.out.below hb2 (by have := HBB.out; have := HB1.out.size; omega)) hvc)
      rw [HGE.out] at HGT
      obtain ⟨ac, cc', rfl, gc1, gc2⟩ := hvc.form
      obtain ⟨a8, hs8, hv8⟩ := slice_from hvc 8 hc8
      have hsl : ∀ W, (Instr.slice 27 (.slice ac cc.length cc') (some (.int .i64 8)) none none).run Tryz.prog W = .ok (.slice a8 (cc.length - 8) (cc' - 8)) W := hs8
      have HV8 := Lib.hid hv8
      clear hvc hb2 hs8 hv8 gc2
      go_wp2_with fail
      refine HGT.out.mono ?_
      rintro e w3 ⟨rfl, rfl⟩
      go_wp2_with fail
      go_quiet (fail)
      go_wp2
      go_ret3
      unfold FoundPost
      rw [hA.out]
      exact ⟨_, rfl, HV8.out, HB2.out.trans ⟨rfl, rfl, rfl, Nat.le_refl _, fun _ _ => rfl⟩⟩
  · have hA : Hid (foundA st = (1, [], 0)) := Lib.hid (by unfold foundA; rw [if_neg hk])
    have hne : (kErr st kCheck != 0) = true := bne_iff_ne.2 hk
    generalize kErr st kCheck = ke at *
    clear h hE hk
    go_enter Tryz.func28, Tryz.ntmps28
    go_wp2_with fail
    refine HR.out.mono ?_
    rintro e w1 ⟨vb, rfl, hvb, hb1⟩
    have HB1 := Lib.hid hb1
    clear hvb hb1
    unfold errv
    go_wp2
    go_ret3
    unfold FoundPost
    rw [hA.out]
    exact ⟨_, rfl, BS.nil _ _, HB1.out⟩
end
end Go.Proofs.YthjilhjdnefmdaaGreatDoor
/- The records of parts. Conditions: none. -/
namespace Go.Proofs.YthjilhjdnefmdaaGreatDoor
open Go.RowKit
open Go.ChangeMaps (setBlock)
theorem nameA_size (n : Int) : (nameA n).size ≤ 30 := by
  show (nameL n).toArray.size ≤ 30
  rw [List.size_toArray]
  unfold nameL
  split
  · simp
  · have := Lib.itoa_length_le n (by omega) (by omega)
    simp [dotLog]; omega
def gatherF (st : St) (first : Int) (tot : Nat) : Nat → List Int → List (List UInt8) → Int → List (List UInt8) × Int × Int
  | _, [], acc, torn => (acc, torn, 0)
  | i, n :: r, acc, torn =>
    if n ≠ first + i ∨ ((wholeA (readA st (nameA n))).2 ≠ (readA st (nameA n)).length ∧ i + 1 < tot) then ([], 0, 7)
    else gatherF st first tot (i + 1) r (acc ++ (wholeA (readA st (nameA n))).1) (if (wholeA (readA st (nameA n))).2 = (readA st (nameA n)).length then torn else (wholeA (readA st (nameA n))).2)
def gatherA (st : St) (all : List Int) (first : Int) : List (List UInt8) × Int × Int := gatherF st first all.length 0 all [] (-1)
def bytesOf (st : St) (all : List Int) : Nat := (all.map fun n => (readA st (nameA n)).length).sum
theorem bytesOf_take (st : St) (all : List Int) (k : Nat) (hk : k < all.length) : bytesOf st (all.take (k + 1)) = bytesOf st (all.take k) + (readA st (nameA all[k])).length := by
  unfold bytesOf
  rw [List.take_succ_eq_append_getElem hk, List.map_append, List.sum_append]; simp
theorem bytesOf_le (st : St) (all : List Int) (k : Nat) : bytesOf st (all.take k) ≤ bytesOf st all := by
  unfold bytesOf
  conv => rhs; rw [← List.take_append_drop k all]
  rw [List.map_append, List.sum_append]; omega
def GatherPost (B : Nat) (w : World) (r : List (List UInt8) × Int × Int) (e : Ending) (w' : World) : Prop := ∃ v, e = .returned (.tuple #[v, .int .i64 r.2.1, .int .i64 r.2.2]) ∧ LS B w' v r.1 ∧ Below w.heap.size w w'
theorem LS.nil (B : Nat) (w : World) : LS B w (.slice none 0 0) [] := ⟨[], RS.nil _ _ _, rfl, fun i h => by simp at h⟩
def GInv (B base : Nat) (w : World) (st : St) (all : List Int) (first : Int) (v t i : Value) (wr : World) : Prop :=
  ∃ (k : Nat) (acc : List (List UInt8)) (tn : Int) (vs : List Value), k ≤ all.length ∧ i = .int .i64 k ∧ t = .int .i64 tn ∧ wr.ownsRow base 27 1 v acc.length vs ∧ Rows B wr vs acc ∧ 8 * acc.length ≤ bytesOf st (all.take k) ∧ -1 ≤ tn ∧ tn ≤ 1073741824 ∧
    gatherA st all first = gatherF st first all.length k (all.drop k) acc tn ∧ Below w.heap.size w wr
theorem Rows.append {B : Nat} {w : World} {vs vs' : List Value} {L L' : List (List UInt8)} (h : Rows B w vs L) (h' : Rows B w vs' L') : Rows B w (vs ++ vs') (L ++ L') := by
  refine ⟨by simp [h.1, h'.1], fun i h1 h2 => ?_⟩
  have e := h.1
  by_cases hi : i < vs.length
  · have hi2 : i < L.length := by omega
    rw [List.getElem_append_left hi, List.getElem_append_left hi2]
    exact h.2 i hi hi2
  · have hi2 : ¬ i < L.length := by omega
    rw [List.getElem_append_right (by omega), List.getElem_append_right (by omega)]
    have hlen := h'.1
    simp only [List.length_append] at h1 h2
    have := h'.2 (i - vs.length) (by omega) (by omega)
    simp only [e] at this ⊢
    exact this
/-- What is bytes stays behind an append to slices of the call's own. -/
theorem bs_grown {B base : Nat} {w w' : World} {v : Value} {n : Nat} {vs : List Value} (hown : w.ownsRow base 27 1 v n vs) (hg : w.grownBy w' v.ownBlock) (hB : B ≤ base) (hb : base ≤ w.heap.size) (v' : Value) (l : List UInt8) (hv : BS B w v' l) : BS B w' v' l := by
  have s1 : Stp (v.ownBlock.toList) B w w' := (Stp.refl _ B w).grown hg (Nat.le_trans hB hb) (fun k hk => ⟨by have := (hown.lt k hk).1; omega, fun cs e fr hcs => by
    rcases hown.2 with ⟨rfl, _⟩ | ⟨g, cap, cur, rfl, _, hg, _⟩
    · simp [Value.ownBlock] at hk
    · simp [Value.ownBlock] at hk
      subst hk
      rw [hg] at hcs
      cases hcs
      exact ⟨by decide, by simp [Value.ownBlock]⟩⟩)
  exact RS.stp hv s1 (by decide) (by decide) (fun _ h => absurd rfl h)

theorem Rows.one {B : Nat} {w : World} {vs : List Value} {L : List (List UInt8)} (h : Rows B w vs L) : ∀ u ∈ vs, u.oneCell' = true := by
  intro u hu
  obtain ⟨i, hi, rfl⟩ := List.getElem_of_mem hu
  obtain ⟨a, c, e, -⟩ := (h.2 i hi (by rw [← h.1]; exact hi)).form
  rw [e]; rfl
theorem gather_step {B base : Nat} {w wr w4 w5 : World} {st : St} {all : List Int} {first : Int} {v v5 : Value} {k : Nat} {acc L : List (List UInt8)} {vs vl : List Value} {tn' : Int} {X : List UInt8} (hk : k < all.length) (hB : B ≤ w.heap.size) (hbase : base = w.heap.size)
    (hown : wr.ownsRow base 27 1 v acc.length vs) (hrows : Rows B wr vs acc) (h8 : 8 * acc.length ≤ bytesOf st (all.take k)) (ht0 : -1 ≤ tn' ∧ tn' ≤ 1073741824)
    (hst : bytesOf st (all.take (k + 1)) = bytesOf st (all.take k) + X.length) (hL : 8 * L.length ≤ X.length) (hga : gatherA st all first = gatherF st first all.length (k + 1) (all.drop (k + 1)) (acc ++ L) tn')
    (hb : Below w.heap.size w wr) (hb4 : Below wr.heap.size wr w4) (hvl : Rows B w4 vl L) (hown5 : w5.ownsRow base 27 1 v5 (acc.length + vl.length) (vs ++ vl)) (hg : w4.grownBy w5 v.ownBlock) :
    GInv B base w st all first v5 (.int .i64 tn') (.int .i64 ((k : Int) + 1)) w5 := by
  subst hbase
  have hsz := hb.size
  have hbs : ∀ v l, BS B w4 v l → BS B w5 v l := fun v' l' hv => bs_grown (own_below hown hb4) hg hB (Nat.le_trans hsz hb4.size) v' l' hv
  refine ⟨k + 1, acc ++ L, tn', vs ++ vl, hk, by rfl, rfl, ?_, ?_, ?_, ht0.1, ht0.2, hga, ?_⟩
  · rw [List.length_append, ← hvl.1]; exact hown5
  · exact ((hrows.stp (fun v l hv => RS.below hv hb4 (by omega))).append hvl).stp hbs
  · rw [List.length_append, hst]; omega
  · exact (hb.trans (hb4.mono hb.size)).grown hg (by have := hb4.size; omega) (fun k hk => (hown.lt k hk).1)
section
variable {B : Nat} {w : World} {p mn ms : Nat} {bl : List Nat} {st : St}
set_option maxRecDepth 100000 in
set_option maxHeartbeats 1000000 in
theorem gather_t (hE : Env w) (h : RepC B w p mn ms bl st) (hB : 6 ≤ B) {va : Value} {all : List Int} (ha : RS 3 B w va (all.map (Value.int .i64))) (first : Int) (hf : 0 ≤ first ∧ first ≤ 1000000000) (hal : ∀ n ∈ all, 0 ≤ n ∧ n ≤ 1000000000) (hlen : all.length ≤ 67108864) (hsum : bytesOf st all ≤ 100000000000) :
    Calls Tryz.prog 30 #[.pointer (some ⟨p, 0, none⟩), va, .int .i64 first] w (GatherPost B w (gatherA st all first)) := by
  obtain ⟨a, c, rfl, g1, g2⟩ : ∃ a c, va = .slice a all.length c ∧ all.length ≤ c ∧ c ≤ maxLen := by
    obtain ⟨a', c', h1, h2, h3, -⟩ := ha
    rw [List.length_map] at h1 h2
    exact ⟨a', c', h1, h2, h3⟩
  have HQ : Hid (∀ wr, Below w.heap.size w wr → ∀ k (hk : k < all.length), ∃ b o, a = some ⟨b, o, none⟩ ∧ wr.cell? ⟨b, o + k, none⟩ = some (.int .i64 all[k])) := Lib.hid (fun wr hb k hk => by
    have := (RS.below ha hb h.le).at.2.2.2 k (by rw [List.length_map]; exact hk)
    obtain ⟨b, o, e1, e2⟩ := this
    refine ⟨b, o, e1, ?_⟩
    rw [e2, List.getElem_map])
  have H := Lib.hid h
  have HE := Lib.hid hE
  have HBB := Lib.hid h.le
  have HAL := Lib.hid hal
  have HSUM := Lib.hid hsum
  clear ha h hE hal hsum g2
  obtain ⟨f0, f1⟩ := hf
  go_enter Tryz.func30, Tryz.ntmps30
  go_wp2_with fail
  go_loopw [6, 7, 18] (fun v t i wr => GInv B w.heap.size w st all first v t i wr) (fun _ _ i _ => all.length - (intOf i).toNat)
  case atStart => exact ⟨0, [], -1, [], Nat.zero_le _, rfl, rfl, World.ownsRow_nil _ _ _ _, ⟨rfl, fun i h => by simp at h⟩, by simp, by omega, by omega, rfl, Below.refl _ _⟩
  case round =>
    obtain ⟨k, acc, tn, vs, hk, rfl, rfl, hown, hrows, h8, tn0, tn1, hga, hb⟩ := hrel
    have HO := Lib.hid hown; have HB := Lib.hid hb; have HR := Lib.hid hrows; have HGA := Lib.hid hga; have H8 := Lib.hid h8
    clear hown hb hrows hga h8
    by_cases hlt : k < all.length
    · obtain ⟨b, o, rfl, e1⟩ := HQ.out wr HB.out k hlt
      have hn := HAL.out all[k] (List.getElem_mem hlt)
      have hst := bytesOf_take st all k hlt
      have hle := bytesOf_le st all (k + 1)
      have hdr : all.drop k = all[k] :: all.drop (k + 1) := List.drop_eq_getElem_cons hlt
      generalize all[k] = n at *
      obtain ⟨n0, n1⟩ := hn
      have hEr := HE.out.below HB.out (Nat.le_trans hB HBB.out)
      have HNM := Lib.hid (name_t hEr n (by omega) (by omega))
      have HST := Lib.hid hst; have HLE := Lib.hid hle; have HDR := Lib.hid hdr; have HER := Lib.hid hEr
      clear hst hle hdr hEr
      have hnsz : (nameA n).size ≤ maxLen := Nat.le_trans (nameA_size n) (by decide)
      go_wp2_with fail
      refine HNM.out.mono ?_
      rintro e w2 ⟨rfl, hb2⟩
      have hbw2 := HB.out.trans (hb2.mono HB.out.size)
      have HBW2 := Lib.hid hbw2; have HB2 := Lib.hid hb2
      have HRD := Lib.hid (read_t (H.out.below hbw2) (nameA n) hnsz)
      have hbig := readA_big H.out.inv (nameA n)
      have hwle := wholeA_le _ (readA st (nameA n)) (Nat.le_refl _)
      obtain ⟨X, hX⟩ : ∃ X, readA st (nameA n) = X := ⟨_, rfl⟩
      obtain ⟨ke, hke⟩ : ∃ ke, kErr st (nameA n) = ke := ⟨_, rfl⟩
      rw [hX] at HRD hbig hwle HST
      rw [hke] at HRD
      have HX := Lib.hid hX
      clear hbw2 hb2 hX hke
      go_wp2_with fail
      refine HRD.out.mono ?_
      rintro e w3 ⟨vb, rfl, hvb, hb3⟩
      unfold errv
      obtain ⟨ab, cb, rfl, -⟩ := hvb.form
      have hbw3 := HBW2.out.trans (hb3.mono HBW2.out.size)
      have HBW3 := Lib.hid hbw3; have HB3 := Lib.hid (HB2.out.trans (hb3.mono HB2.out.size))
      have hh := HBB.out
      have hsz3 := hbw3.size
      have HWL := Lib.hid (whole_t (HE.out.e0.below hbw3 (by omega)) hvb (by omega) (by omega) (by omega))
      clear hbw3 hvb hb3 hsz3 hh
      obtain ⟨L, m, hLm⟩ : ∃ L m, wholeA X = (L, m) := ⟨_, _, rfl⟩
      rw [hLm] at HWL hwle
      obtain ⟨w0, w1'⟩ := hwle
      have HLM := Lib.hid hLm
      simp only at w0 w1'
      clear hLm
      go_wp2_with fail
      refine HWL.out.mono ?_
      rintro e w4 ⟨vl, rfl, hvl, hb4⟩
      have HVL := Lib.hid hvl
      have HBW4 := Lib.hid (HBW3.out.trans (hb4.mono HBW3.out.size))
      have HB4 := Lib.hid (HB3.out.trans (hb4.mono HB3.out.size))
      clear hvl hb4
      have hX := HX.out
      by_cases q1 : n = first + k
      · have t1 : (n != first + (k : Int)) = false := by rw [q1]; exact bne_self_eq_false' _
        obtain ⟨vls, hrs, hrw⟩ := HVL.out
        have HRS := Lib.hid hrs; have HRW := Lib.hid hrw
        have hln : vls.length = L.length := hrw.1
        have hone := hrw.one
        have HONE := Lib.hid hone; have HO4 := Lib.hid (own_below HO.out HB4.out)
        have HSZ := Lib.hid (Nat.le_trans HB.out.size HB4.out.size)
        have hac := H8.out
        have hac2 := HSUM.out
        have hac3 := HLE.out
        rw [HST.out] at hac3
        have hcnt : acc.length + vls.length ≤ 100000000000 := by omega
        clear hrs hrw hone hac hac2 hac3
        by_cases q2 : m = X.length
        · have t2 : ((m : Int) == (X.length : Int)) = true := by rw [q2]; exact beq_self_eq_true _
          have hga2 : gatherA st all first = gatherF st first all.length (k + 1) (all.drop (k + 1)) (acc ++ L) tn := by
            rw [HGA.out, HDR.out, gatherF, hX, HLM.out, if_neg (by simp [q1, q2]), if_pos q2]
          have HGA2 := Lib.hid hga2
          clear hga2 hX q1 q2
          go_wp2_with (at_builtin; refine wpList_append_rs slT22 rfl (.tmp 55) (.tmp 56) rfl w.heap.size B _ _ _ rfl HO4.out _ rfl vls HRS.out HONE.out (by unfold maxLen; omega) (by omega) HSZ.out ?_; intro v5 w5 hown hg; have HO5 := Lib.hid hown; have HG5 := Lib.hid hg; clear hown hg)
          exact ⟨gather_step hlt HBB.out rfl HO.out HR.out H8.out ⟨tn0, tn1⟩ HST.out (by omega) HGA2.out HB.out HB4.out HRW.out HO5.out HG5.out, by simp [intOf]; omega⟩
        · have t2 : ((m : Int) == (X.length : Int)) = false := by
            have : ¬ (m : Int) = X.length := by omega
            exact beq_eq_false_iff_ne.2 this
          by_cases q3 : k + 1 < all.length
          · have t3 : decide ((k : Int) < all.length - 1) = true := decide_eq_true (by omega)
            have hga2 : gatherA st all first = ([], 0, 7) := by
              rw [HGA.out, HDR.out, gatherF, hX, HLM.out, if_pos (.inr ⟨q2, q3⟩)]
            have HGA2 := Lib.hid hga2
            clear hga2 hX q1 q2 q3
            go_wp2_with fail
            go_ret3
            unfold GatherPost
            rw [HGA2.out]
            exact ⟨_, rfl, LS.nil _ _, HBW4.out⟩
          · have t3 : decide ((k : Int) < all.length - 1) = false := decide_eq_false (by omega)
            have hga2 : gatherA st all first = gatherF st first all.length (k + 1) (all.drop (k + 1)) (acc ++ L) m := by
              rw [HGA.out, HDR.out, gatherF, hX, HLM.out, if_neg (by simp [q1]; intro _; omega), if_neg q2]
            have HGA2 := Lib.hid hga2
            clear hga2 hX q1 q2 q3
            go_wp2_with (at_builtin; refine wpList_append_rs slT22 rfl (.tmp 55) (.tmp 56) rfl w.heap.size B _ _ _ rfl HO4.out _ rfl vls HRS.out HONE.out (by unfold maxLen; omega) (by omega) HSZ.out ?_; intro v5 w5 hown hg; have HO5 := Lib.hid hown; have HG5 := Lib.hid hg; clear hown hg)
            exact ⟨gather_step hlt HBB.out rfl HO.out HR.out H8.out ⟨by omega, by omega⟩ HST.out (by omega) HGA2.out HB.out HB4.out HRW.out HO5.out HG5.out, by simp [intOf]; omega⟩
      · have t1 : (n != first + (k : Int)) = true := bne_iff_ne.2 q1
        have hga2 : gatherA st all first = ([], 0, 7) := by
          rw [HGA.out, HDR.out, gatherF, if_pos (.inl q1)]
        have HGA2 := Lib.hid hga2
        clear hga2 hX q1
        go_wp2_with fail
        all_goals go_ret3
        all_goals unfold GatherPost
        all_goals rw [HGA2.out]
        all_goals exact ⟨_, rfl, LS.nil _ _, HBW4.out⟩
    · have hk' : k = all.length := by omega
      subst hk'
      have hfin : gatherA st all first = (acc, tn, 0) := by
        rw [HGA.out, List.drop_length, gatherF]
      have HF := Lib.hid hfin
      clear hfin
      go_wp2
      go_ret3
      unfold GatherPost
      rw [HF.out]
      exact ⟨_, rfl, ⟨vs, RS.of_owns HO.out, HR.out⟩, HB.out⟩
end
end Go.Proofs.YthjilhjdnefmdaaGreatDoor
/- Steps one behind the other. Conditions: none. -/
namespace Go.Proofs.YthjilhjdnefmdaaGreatDoor
open Go.RowKit
open Go.ChangeMaps (setBlock)
/-- What a row of function values does, called one behind the other up to the first error. -/
def EachSpec (B : Nat) : List Value → World → (Int → World → Prop) → Prop
  | [], w, K => K 0 w
  | v :: r, w, K => ∃ f args, (v = .func (.func f) #[] args ∨ ∃ x, args = #[x] ∧ v = .func (.func f) #[x] #[]) ∧ (∀ w, (callFunc f args).run Tryz.prog w = .ok (.enter f args) w) ∧
      Calls Tryz.prog f args w fun e w' => ∃ k, e = .returned (errv k) ∧ (∀ v xs, RS 35 B w v xs → RS 35 B w' v xs) ∧ (k ≠ 0 → K k w') ∧ (k = 0 → EachSpec B r w' K)
def EachPost (K : Int → World → Prop) (e : Ending) (w' : World) : Prop := ∃ k, e = .returned (errv k) ∧ K k w'
def EachInv (B : Nat) (va : Value) (vs : List Value) (K : Int → World → Prop) (i : Value) (wr : World) : Prop := ∃ k : Nat, k ≤ vs.length ∧ i = .int .i64 k ∧ RS 35 B wr va vs ∧ EachSpec B (vs.drop k) wr K
set_option maxRecDepth 100000 in
set_option maxHeartbeats 1000000 in
theorem each_t {B : Nat} {w : World} {va : Value} {vs : List Value} {K : Int → World → Prop} (h : RS 35 B w va vs) (hl : vs.length ≤ 1000) (hs : EachSpec B vs w K) : Calls Tryz.prog 31 #[va] w (EachPost K) := by
  obtain ⟨a, c, rfl, g1, g2, -⟩ := id h
  have H := Lib.hid h; have HS := Lib.hid hs
  clear h hs g2
  go_enter Tryz.func31, Tryz.ntmps31
  go_wp2_with fail
  go_loopw [8] (fun i wr => EachInv B (.slice a vs.length c) vs K i wr) (fun i _ => vs.length - (intOf i).toNat)
  case atStart => exact ⟨0, Nat.zero_le _, rfl, H.out, HS.out⟩
  case round =>
    obtain ⟨k, hk, rfl, hr, he⟩ := hrel
    by_cases hlt : k < vs.length
    · obtain ⟨b, o, rfl, e1⟩ := hr.at.2.2.2 k hlt
      rw [List.drop_eq_getElem_cons hlt] at he
      generalize vs[k] = v at *
      obtain ⟨f, args, hv, hcf, hcall⟩ := he
      have HR := Lib.hid hr; have HC := Lib.hid hcall
      clear hr hcall
      rcases hv with rfl | ⟨x, rfl, rfl⟩
      all_goals
        go_wp2_with fail
        refine HC.out.mono ?_
        rintro e w2 ⟨k2, rfl, hk2, hne, hz⟩
        have HR2 := Lib.hid (hk2 _ _ HR.out)
        unfold errv
        by_cases hk0 : k2 = 0
        · have t : (k2 != 0) = false := by rw [hk0]; rfl
          have HZ := Lib.hid (hz hk0)
          clear hz hne hk0 hk2
          go_wp2_with fail
          exact ⟨⟨k + 1, hlt, rfl, HR2.out, HZ.out⟩, by simp [intOf]; omega⟩
        · have t : (k2 != 0) = true := bne_iff_ne.2 hk0
          have HN := Lib.hid (hne hk0)
          clear hz hne hk0 hk2
          go_wp2
          go_ret
          exact ⟨k2, rfl, HN.out⟩
    · have hk' : k = vs.length := by omega
      subst hk'
      rw [List.drop_length] at he
      have HK : Hid (K 0 wr) := Lib.hid he
      clear he hr
      go_wp2
      go_ret
      exact ⟨0, rfl, HK.out⟩
end Go.Proofs.YthjilhjdnefmdaaGreatDoor
/- The steps of Open. Conditions: none. -/
namespace Go.Proofs.YthjilhjdnefmdaaGreatDoor
open Go.RowKit
open Go.ChangeMaps (setBlock)
section
variable {B : Nat} {w : World} {p mn ms : Nat} {bl : List Nat} {st : St}
theorem CountedPost.of {w w' : World} {R : St × Int} (hb : Below w.heap.size w w') (hB : B ≤ w.heap.size) {e : Ending} {w2 : World} (h : CountedPost B p w' R e w2) : CountedPost B p w R e w2 := by
  obtain ⟨h1, h2, h3⟩ := h
  exact ⟨h1, h2, (Stp.of_below hb hB).tr h3⟩
theorem drew_below (w : World) : Below w.heap.size w w.drew := (Below.refl _ w).drew
set_option maxRecDepth 100000 in
set_option maxHeartbeats 1000000 in
theorem open1_t (hF : 0 < st.left → FailSaid) (hE : Env w) (h : RepC B w p mn ms bl st) (hB : 6 ≤ B) {b0 b1 b2 : Nat} {n k : Int} (h0 : w.heap[b0]? = some (.cells #[.pointer (some ⟨p, 0, none⟩)] 24 (0, 0))) (h1 : w.heap[b1]? = some (.cells #[.int .i64 n] 3 (0, 0))) (h2 : w.heap[b2]? = some (.cells #[.int .i64 k] 3 (0, 0))) (hn : 0 ≤ n ∧ n ≤ 1000000000) (_hk : -1 ≤ k ∧ k ≤ 1073741824) :
    Calls Tryz.prog 32 #[.pointer (some ⟨b0, 0, none⟩), .pointer (some ⟨b1, 0, none⟩), .pointer (some ⟨b2, 0, none⟩)] w (CountedPost B p w (cutA st (nameA n) k)) := by
  have hNM : Calls Tryz.prog 17 #[.int .i64 n] w.drew fun e w' => e = .returned (.string (nameA n)) ∧ w'.cell? ⟨b0, 0, none⟩ = some (.pointer (some ⟨p, 0, none⟩)) ∧ w'.cell? ⟨b1, 0, none⟩ = some (.int .i64 n) ∧ w'.cell? ⟨b2, 0, none⟩ = some (.int .i64 k) ∧
      Hid (Calls Tryz.prog 14 #[.pointer (some ⟨p, 0, none⟩), .string (nameA n), .int .i64 k] w' (CountedPost B p w (cutA st (nameA n) k))) := by
    refine (name_t (hE.below (drew_below w) (Nat.le_trans hB h.le)) n (by omega) (by omega)).mono ?_
    rintro e w' ⟨rfl, hb⟩
    have hb' : Below w.heap.size w w' := (drew_below w).trans hb
    refine ⟨rfl, cell_of ((hb'.block _ (hp_lt h0)).trans h0) 0, cell_of ((hb'.block _ (hp_lt h1)).trans h1) 0, cell_of ((hb'.block _ (hp_lt h2)).trans h2) 0, Lib.hid ?_⟩
    exact (cut_t hF (h.below hb') (nameA n) (Nat.le_trans (nameA_size n) (by decide)) k).mono fun e w2 h3 => h3.of hb' h.le
  have c0 := cell_of h0 0
  have c1 := cell_of h1 0
  have c2 := cell_of h2 0
  simp only [List.getElem?_toArray, List.getElem?_cons_zero] at c0 c1 c2
  have HN := Lib.hid hNM
  clear hNM h hE h0 h1 h2
  go_enter Tryz.func32, Tryz.ntmps32
  go_wp2_with fail
  go_region_with (first | (go_at_call 17; refine HN.out.mono ?_; rintro e w' ⟨rfl, q0, q1, q2, q3⟩) | (go_at_call 14; refine q3.out.mono ?_; rintro e w2 ⟨rfl, q4, q5⟩; have Q4 := Lib.hid q4; have Q5 := Lib.hid q5; clear q4 q5; unfold errv))
  all_goals go_wp2
  all_goals go_ret
  all_goals exact ⟨rfl, Q4.out, Q5.out⟩

set_option maxRecDepth 100000 in
set_option maxHeartbeats 1000000 in
theorem open2_t (hF : 0 < st.left → FailSaid) (hE : Env w) (h : RepC B w p mn ms bl st) (hB : 6 ≤ B) {b0 b1 : Nat} {n : Int} (h0 : w.heap[b0]? = some (.cells #[.pointer (some ⟨p, 0, none⟩)] 24 (0, 0))) (h1 : w.heap[b1]? = some (.cells #[.int .i64 n] 3 (0, 0))) (hn : 0 ≤ n ∧ n ≤ 1000000000) :
    Calls Tryz.prog 33 #[.pointer (some ⟨b0, 0, none⟩), .pointer (some ⟨b1, 0, none⟩)] w (CountedPost B p w (syncA st (nameA n))) := by
  have hNM : Calls Tryz.prog 17 #[.int .i64 n] w.drew fun e w' => e = .returned (.string (nameA n)) ∧ w'.cell? ⟨b0, 0, none⟩ = some (.pointer (some ⟨p, 0, none⟩)) ∧ w'.cell? ⟨b1, 0, none⟩ = some (.int .i64 n) ∧
      Hid (Calls Tryz.prog 34 #[.pointer (some ⟨p, 0, none⟩), .string (nameA n)] w' (CountedPost B p w (syncA st (nameA n)))) := by
    refine (name_t (hE.below (drew_below w) (Nat.le_trans hB h.le)) n (by omega) (by omega)).mono ?_
    rintro e w' ⟨rfl, hb⟩
    have hb' : Below w.heap.size w w' := (drew_below w).trans hb
    refine ⟨rfl, cell_of ((hb'.block _ (hp_lt h0)).trans h0) 0, cell_of ((hb'.block _ (hp_lt h1)).trans h1) 0, Lib.hid ?_⟩
    exact (sync_t hF (h.below hb') (nameA n) (Nat.le_trans (nameA_size n) (by decide))).mono fun e w2 h3 => h3.of hb' h.le
  have c0 := cell_of h0 0
  have c1 := cell_of h1 0
  simp only [List.getElem?_toArray, List.getElem?_cons_zero] at c0 c1
  have HN := Lib.hid hNM
  clear hNM h hE h0 h1
  go_enter Tryz.func33, Tryz.ntmps33
  go_wp2_with fail
  go_region_with (first | (go_at_call 17; refine HN.out.mono ?_; rintro e w' ⟨rfl, q0, q1, q3⟩) | (go_at_call 34; refine q3.out.mono ?_; rintro e w2 ⟨rfl, q4, q5⟩; have Q4 := Lib.hid q4; have Q5 := Lib.hid q5; clear q4 q5; unfold errv))
  all_goals go_wp2
  all_goals go_ret
  all_goals exact ⟨rfl, Q4.out, Q5.out⟩

set_option maxRecDepth 100000 in
set_option maxHeartbeats 1000000 in
theorem open3_t (hF : 0 < st.left → FailSaid) (hE : Env w) (h : RepC B w p mn ms bl st) (hB : 6 ≤ B) {b0 b1 : Nat} {n : Int} (h0 : w.heap[b0]? = some (.cells #[.pointer (some ⟨p, 0, none⟩)] 24 (0, 0))) (h1 : w.heap[b1]? = some (.cells #[.int .i64 n] 3 (0, 0))) (hn : 0 ≤ n ∧ n ≤ 1000000000) :
    Calls Tryz.prog 35 #[.pointer (some ⟨b0, 0, none⟩), .pointer (some ⟨b1, 0, none⟩)] w (CountedPost B p w (makeA st (nameA n))) := by
  have hNM : Calls Tryz.prog 17 #[.int .i64 n] w.drew fun e w' => e = .returned (.string (nameA n)) ∧ w'.cell? ⟨b0, 0, none⟩ = some (.pointer (some ⟨p, 0, none⟩)) ∧ w'.cell? ⟨b1, 0, none⟩ = some (.int .i64 n) ∧
      Hid (Calls Tryz.prog 36 #[.pointer (some ⟨p, 0, none⟩), .string (nameA n)] w' (CountedPost B p w (makeA st (nameA n)))) := by
    refine (name_t (hE.below (drew_below w) (Nat.le_trans hB h.le)) n (by omega) (by omega)).mono ?_
    rintro e w' ⟨rfl, hb⟩
    have hb' : Below w.heap.size w w' := (drew_below w).trans hb
    refine ⟨rfl, cell_of ((hb'.block _ (hp_lt h0)).trans h0) 0, cell_of ((hb'.block _ (hp_lt h1)).trans h1) 0, Lib.hid ?_⟩
    exact (make_t hF (h.below hb') (nameA n) (Nat.le_trans (nameA_size n) (by decide))).mono fun e w2 h3 => h3.of hb' h.le
  have c0 := cell_of h0 0
  have c1 := cell_of h1 0
  simp only [List.getElem?_toArray, List.getElem?_cons_zero] at c0 c1
  have HN := Lib.hid hNM
  clear hNM h hE h0 h1
  go_enter Tryz.func35, Tryz.ntmps35
  go_wp2_with fail
  go_region_with (first | (go_at_call 17; refine HN.out.mono ?_; rintro e w' ⟨rfl, q0, q1, q3⟩) | (go_at_call 36; refine q3.out.mono ?_; rintro e w2 ⟨rfl, q4, q5⟩; have Q4 := Lib.hid q4; have Q5 := Lib.hid q5; clear q4 q5; unfold errv))
  all_goals go_wp2
  all_goals go_ret
  all_goals exact ⟨rfl, Q4.out, Q5.out⟩
end
end Go.Proofs.YthjilhjdnefmdaaGreatDoor
/- Open. Conditions: none. -/
namespace Go.Proofs.YthjilhjdnefmdaaGreatDoor
open Go.RowKit
open Go.ChangeMaps (setBlock)
def eachA : List (St → St × Int) → St → St × Int
  | [], st => (st, 0)
  | f :: r, st => if (f st).2 = 0 then eachA r (f st).1 else f st
structure LRes where
  st : St
  last : Int
  check : List UInt8
  recs : List (List UInt8)
  err : Int
def lastOf (all : List Int) (first : Int) : Int := all.getLast?.getD first
def mendA (st : St) (all : List Int) (first torn : Int) : St × Int :=
  if 0 ≤ torn then eachA [fun s => cutA s (nameA (lastOf all first)) torn, fun s => syncA s (nameA (lastOf all first))] st
  else if all = [] then eachA [fun s => makeA s (nameA first), commitA] st
  else (st, 0)
def openL (st : St) (part : Int) : LRes :=
  if kErr st kCheck = 9 then ⟨st, 0, [], [], 9⟩
  else if part < 1 ∨ 1048576 < part then ⟨st, 0, [], [], 2⟩
  else if (foundA st).2.2 ≠ 0 then ⟨st, 0, [], [], (foundA st).2.2⟩
  else if (gatherA st (partsA st (foundA st).1) (foundA st).1).2.2 ≠ 0 then ⟨st, 0, [], [], (gatherA st (partsA st (foundA st).1) (foundA st).1).2.2⟩
  else if (mendA st (partsA st (foundA st).1) (foundA st).1 (gatherA st (partsA st (foundA st).1) (foundA st).1).2.1).2 ≠ 0 then
    ⟨(mendA st (partsA st (foundA st).1) (foundA st).1 (gatherA st (partsA st (foundA st).1) (foundA st).1).2.1).1, 0, [], [], (mendA st (partsA st (foundA st).1) (foundA st).1 (gatherA st (partsA st (foundA st).1) (foundA st).1).2.1).2⟩
  else ⟨(mendA st (partsA st (foundA st).1) (foundA st).1 (gatherA st (partsA st (foundA st).1) (foundA st).1).2.1).1, lastOf (partsA st (foundA st).1) (foundA st).1, (foundA st).2.1, (gatherA st (partsA st (foundA st).1) (foundA st).1).1, 0⟩
def ledObj (p : Nat) (part last : Int) (vw : Value) (dead : Bool) : Obj := .cells #[.pointer (some ⟨p, 0, none⟩), .int .i64 part, .int .i64 last, vw, .bool dead] 47 (0, 0)
def OpenLPost (B p : Nat) (w : World) (part : Int) (r : LRes) (e : Ending) (w' : World) : Prop :=
  ∃ vp vc vr, e = .returned (.tuple #[vp, vc, vr, .int .i64 r.err]) ∧ BS B w' vc r.check ∧ LS B w' vr r.recs ∧ Rep B w' p r.st ∧ Stp [] B w w' ∧
    ((r.err ≠ 0 ∧ vp = .pointer none) ∨ (r.err = 0 ∧ ∃ pl, vp = .pointer (some ⟨pl, 0, none⟩) ∧ w.heap.size ≤ pl ∧ w'.heap[pl]? = some (ledObj p part r.last (.slice none 0 0) false)))

theorem eachSpec_cons {B p : Nat} {w : World} {f : Nat} {args : Array Value} {v : Value} {r : List Value} {K : Int → World → Prop} {R : St × Int} (hv : v = .func (.func f) #[] args ∨ ∃ x, args = #[x] ∧ v = .func (.func f) #[x] #[])
    (hcf : ∀ w, (callFunc f args).run Tryz.prog w = .ok (.enter f args) w) (hcall : Calls Tryz.prog f args w (CountedPost B p w R))
    (hne : R.2 ≠ 0 → ∀ w', Rep B w' p R.1 → Stp [] B w w' → K R.2 w') (hrest : R.2 = 0 → ∀ w', Rep B w' p R.1 → Stp [] B w w' → EachSpec B r w' K) : EachSpec B (v :: r) w K := by
  refine ⟨f, args, hv, hcf, hcall.mono ?_⟩
  rintro e w' ⟨rfl, hr, hs⟩
  exact ⟨R.2, rfl, fun v xs h => RS.stp h hs (by decide) (by decide) (fun _ _ _ => List.not_mem_nil), fun h => hne h w' hr hs, fun h => hrest h w' hr hs⟩
/-- What each step leaves of the counts: no more calls up to the one that fails. -/
def LeftLe (st st' : St) : Prop := 0 < st'.left → 0 < st.left
theorem countedA_left (st : St) (does : St → St) (hd : ∀ s, (does s).left = s.left) : LeftLe st (countedA st does).1 := by
  intro h
  unfold countedA at h
  split at h
  · assumption
  · rw [hd] at h; exact h
theorem makeA_left (st : St) (nm : Nm) : LeftLe st (makeA st nm).1 := by
  unfold makeA
  repeat' split
  all_goals first | exact fun h => h | exact countedA_left _ _ (fun s => rfl)
theorem cutA_left (st : St) (nm : Nm) (k : Int) : LeftLe st (cutA st nm k).1 := by
  unfold cutA
  repeat' split
  all_goals first | exact fun h => h | exact countedA_left _ _ (fun s => rfl)
theorem syncA_left (st : St) (nm : Nm) : LeftLe st (syncA st nm).1 := by
  unfold syncA
  repeat' split
  all_goals first | exact fun h => h | exact countedA_left _ _ (fun s => rfl)
theorem writeA_left (st : St) (nm : Nm) (l : List UInt8) : LeftLe st (writeA st nm l).1 := by
  unfold writeA
  repeat' split
  all_goals first | exact fun h => h | exact countedA_left _ _ (fun s => rfl)
theorem dropA_left (st : St) (nm : Nm) : LeftLe st (dropA st nm).1 := by
  unfold dropA
  repeat' split
  all_goals first | exact fun h => h | exact countedA_left _ _ (fun s => rfl)
theorem moveA_left (st : St) (na nb : Nm) : LeftLe st (moveA st na nb).1 := by
  unfold moveA
  repeat' split
  all_goals first | exact fun h => h | exact countedA_left _ _ (fun s => rfl)
theorem commitA_left (st : St) : LeftLe st (commitA st).1 := by
  unfold commitA
  repeat' split
  all_goals first | exact fun h => h | exact countedA_left _ _ (fun s => rfl)
end Go.Proofs.YthjilhjdnefmdaaGreatDoor
/- Open, walked. Conditions: none. -/
namespace Go.Proofs.YthjilhjdnefmdaaGreatDoor
open Go.RowKit
open Go.ChangeMaps (setBlock)
/-- All that was there stands, and one new cell holds x. -/
structure Held (w : World) (b : Nat) (x : Value) (t : TypeId) (wr : World) : Prop where
  below : Below w.heap.size w wr
  cell : wr.heap[b]? = some (.cells #[x] t (0, 0))
theorem Held.step {w wr w' : World} {b : Nat} {x : Value} {t : TypeId} (h : Held w b x t wr) (hb : Below wr.heap.size wr w') : Held w b x t w' :=
  ⟨h.below.trans (hb.mono h.below.size), (hb.block _ (hp_lt h.cell)).trans h.cell⟩
theorem Held.at {w wr : World} {b : Nat} {x : Value} {t : TypeId} (h : Held w b x t wr) : wr.cell? ⟨b, 0, none⟩ = some x := cell_of h.cell 0
theorem Held.fr {w wr : World} {b : Nat} {x : Value} {t : TypeId} (h : Held w b x t wr) : wr.frozen? ⟨b, 0, none⟩ = false := free_of h.cell 0
theorem Held.new {w wr : World} (hb : Below w.heap.size w wr) (x : Value) (t : TypeId) : Held w wr.heap.size x t (wr.alloc (.cells #[x] t)) :=
  ⟨hb.alloc hb.size _, hp_new _ _⟩
theorem results_tmp4 {fn : Func} {t u v x : Tmp} (h : fn.results = #[.tmp t, .tmp u, .tmp v, .tmp x]) (tmps : Array Value) (P : Program) (w : World) :
    (results fn tmps).run P w = .ok (.tuple #[tmps.getD t undef, tmps.getD u undef, tmps.getD v undef, tmps.getD x undef]) w := by
  simp [results, h]
section
variable {B : Nat} {w : World} {p mn ms : Nat} {bl : List Nat} {st : St}
theorem foundA_rng (_h : Inv st) : (foundA st).2.2 = 0 → 1 ≤ (foundA st).1 ∧ (foundA st).1 ≤ 999999999 := by
  unfold foundA
  split
  · unfold foundB
    split
    · simp
    · rename_i hb
      intro _
      unfold foundBad at hb
      simp only [not_or] at hb
      simp only
      omega
  · simp
theorem partsA_rng (st : St) (fr : Int) (n : Int) (h : n ∈ partsA st fr) : fr ≤ n ∧ 1 ≤ n ∧ n ≤ 999999999 := by
  unfold partsA partsOf at h
  rw [List.mem_mergeSort, List.mem_filterMap] at h
  obtain ⟨f, hf, hp⟩ := h
  unfold partOf at hp
  split at hp
  · rename_i hpx
    split at hp
    · split at hp
      · rename_i hc
        cases hp
        refine ⟨hc.2, ?_⟩
        have h1 := hc.1
        unfold nameL at h1
        split at h1
        · rw [← h1] at hpx; simp [Lib.hasPrefix, dotLog] at hpx
        · omega
      · cases hp
    · cases hp
  · cases hp
theorem gatherF_torn (hi : Inv st) (first : Int) (tot : Nat) : ∀ (l : List Int) (i : Nat) (acc : List (List UInt8)) (t : Int) (r : List (List UInt8)) (tn ge : Int), -1 ≤ t ∧ t ≤ 1073741824 → gatherF st first tot i l acc t = (r, tn, ge) → -1 ≤ tn ∧ tn ≤ 1073741824 := by
  intro l
  induction l with
  | nil =>
    intro i acc t r tn ge ht h
    unfold gatherF at h
    simp only [Prod.mk.injEq] at h
    omega
  | cons n l ih =>
    intro i acc t r tn ge ht h
    unfold gatherF at h
    split at h
    · simp only [Prod.mk.injEq] at h; omega
    · refine ih _ _ _ _ _ _ ?_ h
      have h1 := wholeA_le _ (readA st (nameA n)) (Nat.le_refl _)
      have h2 := readA_big hi (nameA n)
      split
      · exact ht
      · omega
theorem gatherA_torn (hi : Inv st) (all : List Int) (first : Int) (r : List (List UInt8)) (tn ge : Int) (h : gatherA st all first = (r, tn, ge)) : -1 ≤ tn ∧ tn ≤ 1073741824 :=
  gatherF_torn hi first _ all 0 [] (-1) r tn ge (by omega) h
theorem partsA_len (h : Inv st) (fr : Int) : (partsA st fr).length ≤ 67108864 := by
  unfold partsA partsOf
  rw [List.length_mergeSort]
  refine Nat.le_trans (List.length_filterMap_le _ _) ?_
  unfold namesA; split
  · simp
  · unfold namesOf; rw [List.length_mergeSort, List.length_map]; exact h.nown

theorem LS.stp {w w' : World} {v : Value} {L : List (List UInt8)} (h : LS B w v L) (s : Stp [] B w w') : LS B w' v L := by
  obtain ⟨vs, h1, h2⟩ := h
  exact ⟨vs, RS.stp h1 s (by decide) (by decide) (fun _ _ _ => List.not_mem_nil), h2.stp (fun v l hv => RS.stp hv s (by decide) (by decide) (fun _ h => absurd rfl h))⟩
theorem openL_bad {wr w' : World} {T : St × Int} {part : Int} (hb : Below w.heap.size w wr) (hB : B ≤ w.heap.size) (hr : Rep B w' p T.1) (hs : Stp [] B wr w') (ht : T.2 ≠ 0) :
    OpenLPost B p w part ⟨T.1, 0, [], [], T.2⟩ (.returned (.tuple #[.pointer none, .slice none 0 0, .slice none 0 0, .int .i64 T.2])) w' :=
  ⟨_, _, _, rfl, BS.nil _ _, LS.nil _ _, hr, (Stp.of_below hb hB).tr hs, .inl ⟨ht, rfl⟩⟩
theorem openL_fin {wr w' : World} {n : Nat} (hn : w'.heap.size = n) {S : St} {part last : Int} {vc vr : Value} {check : List UInt8} {recs : List (List UInt8)} (hb : Below w.heap.size w wr) (hB : B ≤ w.heap.size) (hvc : BS B wr vc check) (hvr : LS B wr vr recs) (hr : Rep B w' p S) (hs : Stp [] B wr w') :
    OpenLPost B p w part ⟨S, last, check, recs, 0⟩ (.returned (.tuple #[.pointer (some ⟨n, 0, none⟩), vc, vr, .int .i64 0])) (w'.alloc (ledObj p part last (.slice none 0 0) false)) := by
  subst hn
  have hal : Below w'.heap.size w' (w'.alloc (ledObj p part last (.slice none 0 0) false)) := (Below.refl _ w').alloc (Nat.le_refl _) _
  have hB' : B ≤ w'.heap.size := Nat.le_trans hB (Nat.le_trans hb.size hs.size)
  obtain ⟨mn, ms, bl, h⟩ := hr
  have s2 := (Stp.of_below hb hB).tr hs
  have s3 : Stp [] B wr (w'.alloc (ledObj p part last (.slice none 0 0) false)) := hs.alloc hB' _
  exact ⟨_, _, _, rfl, RS.stp hvc s3 (by decide) (by decide) (fun _ h => absurd rfl h), hvr.stp s3, ⟨mn, ms, bl, h.below hal⟩, s2.alloc hB' _, .inr ⟨rfl, _, rfl, s2.size, hp_new _ _⟩⟩
theorem openL_err {wr : World} {part k : Int} (h : RepC B w p mn ms bl st) (hb : Below w.heap.size w wr) (hk : k ≠ 0) : OpenLPost B p w part ⟨st, 0, [], [], k⟩ (.returned (.tuple #[.pointer none, .slice none 0 0, .slice none 0 0, .int .i64 k])) wr :=
  ⟨_, _, _, rfl, BS.nil _ _, LS.nil _ _, ⟨_, _, _, h.below hb⟩, Stp.of_below hb h.le, .inl ⟨hk, rfl⟩⟩
theorem rs_new2 {w1 : World} {n : Nat} (hn : w1.heap.size = n) (e : TypeId) (x y : Value) : RS e B (w1.alloc (.cells #[x, y] e)) (.slice (some ⟨n, 0, none⟩) 2 2) [x, y] := by
  subst hn
  refine ⟨_, _, rfl, Nat.le_refl _, by decide, .inr ⟨_, _, rfl, .inr ⟨_, _, hp_new _ _⟩, fun i z hz => ?_⟩⟩
  rw [Nat.zero_add, cell_of (hp_new _ _)]
  rcases i with _ | _ | i
  · simpa using hz
  · simpa using hz
  · simp at hz
def MendK (B p : Nat) (w : World) (T : St × Int) (k : Int) (w' : World) : Prop := k = T.2 ∧ Rep B w' p T.1 ∧ Stp [] B w w'
theorem make_spec {w1 : World} (hF : 0 < st.left → FailSaid) (hE : Env w1) (h : RepC B w1 p mn ms bl st) (hB : 6 ≤ B) {b0 b1 : Nat} {n : Int} (h0 : w1.heap[b0]? = some (.cells #[.pointer (some ⟨p, 0, none⟩)] 24 (0, 0))) (h1 : w1.heap[b1]? = some (.cells #[.int .i64 n] 3 (0, 0))) (hn : 0 ≤ n ∧ n ≤ 1000000000) :
    EachSpec B [.func (.func 35) #[] #[.pointer (some ⟨b0, 0, none⟩), .pointer (some ⟨b1, 0, none⟩)], .func (.func 37) #[.pointer (some ⟨p, 0, none⟩)] #[]] w1 (MendK B p w1 (eachA [fun s => makeA s (nameA n), commitA] st)) := by
  refine eachSpec_cons (.inl rfl) (fun w => by kernel_rfl) (open3_t hF hE h hB h0 h1 hn) (fun hne w' hr hs => ?_) (fun hz w' hr hs => ?_)
  · unfold eachA; rw [if_neg hne]; exact ⟨rfl, hr, hs⟩
  · obtain ⟨mn', ms', bl', hr⟩ := hr
    refine eachSpec_cons (.inr ⟨_, rfl, rfl⟩) (fun w => by kernel_rfl) (commit_t (fun hl => hF (makeA_left st _ hl)) hr) (fun hne w2 hr2 hs2 => ?_) (fun hz2 w2 hr2 hs2 => ?_)
    · unfold eachA; rw [if_pos hz]; unfold eachA; rw [if_neg hne]; exact ⟨rfl, hr2, hs.tr hs2⟩
    · show MendK _ _ _ _ _ _
      unfold eachA; rw [if_pos hz]; unfold eachA; rw [if_pos hz2]; unfold eachA; exact ⟨rfl, hr2, hs.tr hs2⟩
theorem cut_spec {w1 : World} (hF : 0 < st.left → FailSaid) (hE : Env w1) (h : RepC B w1 p mn ms bl st) (hB : 6 ≤ B) {b0 b1 b2 : Nat} {n k : Int} (h0 : w1.heap[b0]? = some (.cells #[.pointer (some ⟨p, 0, none⟩)] 24 (0, 0))) (h1 : w1.heap[b1]? = some (.cells #[.int .i64 n] 3 (0, 0))) (h2 : w1.heap[b2]? = some (.cells #[.int .i64 k] 3 (0, 0))) (hn : 0 ≤ n ∧ n ≤ 1000000000) (hk : -1 ≤ k ∧ k ≤ 1073741824) :
    EachSpec B [.func (.func 32) #[] #[.pointer (some ⟨b0, 0, none⟩), .pointer (some ⟨b1, 0, none⟩), .pointer (some ⟨b2, 0, none⟩)], .func (.func 33) #[] #[.pointer (some ⟨b0, 0, none⟩), .pointer (some ⟨b1, 0, none⟩)]] w1 (MendK B p w1 (eachA [fun s => cutA s (nameA n) k, fun s => syncA s (nameA n)] st)) := by
  refine eachSpec_cons (.inl rfl) (fun w => by kernel_rfl) (open1_t hF hE h hB h0 h1 h2 hn hk) (fun hne w' hr hs => ?_) (fun hz w' hr hs => ?_)
  · unfold eachA; rw [if_neg hne]; exact ⟨rfl, hr, hs⟩
  · obtain ⟨mn', ms', bl', hr⟩ := hr
    refine eachSpec_cons (.inl rfl) (fun w => by kernel_rfl) (open2_t (fun hl => hF (cutA_left st _ _ hl)) (hE.below hs.below hB) hr hB (hs.fix _ _ _ _ h0 (by decide) (by decide) (by simp)) (hs.fix _ _ _ _ h1 (by decide) (by decide) (by simp)) hn) (fun hne w2 hr2 hs2 => ?_) (fun hz2 w2 hr2 hs2 => ?_)
    · unfold eachA; rw [if_pos hz]; unfold eachA; rw [if_neg hne]; exact ⟨rfl, hr2, hs.tr hs2⟩
    · show MendK _ _ _ _ _ _
      unfold eachA; rw [if_pos hz]; unfold eachA; rw [if_pos hz2]; unfold eachA; exact ⟨rfl, hr2, hs.tr hs2⟩
theorem mid_facts {w6 : World} (t x : Int) :
    ((w6.alloc (.cells #[.int .i64 t] 3)).alloc (.cells #[.int .i64 x] 3)).heap[w6.heap.size + 1]? = some (.cells #[.int .i64 x] 3 (0, 0)) ∧
    ((w6.alloc (.cells #[.int .i64 t] 3)).alloc (.cells #[.int .i64 x] 3)).heap[w6.heap.size]? = some (.cells #[.int .i64 t] 3 (0, 0)) ∧
    Below w6.heap.size w6 ((w6.alloc (.cells #[.int .i64 t] 3)).alloc (.cells #[.int .i64 x] 3)) := by
  have hsz : (w6.alloc (.cells #[.int .i64 t] 3)).heap.size = w6.heap.size + 1 := by simp
  refine ⟨?_, hp_old (hp_new _ _), ((Below.refl w6.heap.size w6).alloc (Nat.le_refl _) _).alloc (by rw [hsz]; omega) _⟩
  have := hp_new (w6.alloc (.cells #[.int .i64 t] 3)) (.cells #[.int .i64 x] 3)
  rw [hsz] at this; exact this
set_option maxRecDepth 100000 in
set_option maxHeartbeats 2000000 in
theorem openL_t (hF : 0 < st.left → FailSaid) (hE : Env w) (h : RepC B w p mn ms bl st) (hB : 6 ≤ B) (hs : ∀ q ∈ st.now, q.1.size ≤ 30) (hsum : ∀ fr, bytesOf st (partsA st fr) ≤ 100000000000) (part : Int) :
    Calls Tryz.prog 9 #[.pointer (some ⟨p, 0, none⟩), .int .i64 part] w (OpenLPost B p w part (openL st part)) := by
  have HH := Lib.hid h; have HE := Lib.hid hE; have HS := Lib.hid hs; have HSM := Lib.hid hsum; have HF := Lib.hid hF
  have HBB := Lib.hid h.le
  have hbw : 6 ≤ w.heap.size := Nat.le_trans hB h.le
  have HN := Lib.hid (Held.new (Below.refl w.heap.size w) (.pointer (some ⟨p, 0, none⟩)) 24)
  have hread : Calls Tryz.prog 15 #[.pointer (some ⟨p, 0, none⟩), .string kCheck] (w.alloc (.cells #[.pointer (some ⟨p, 0, none⟩)] 24)) (ReadPost B (w.alloc (.cells #[.pointer (some ⟨p, 0, none⟩)] 24)) (readA st kCheck) (kErr st kCheck)) :=
    read_t (h.below HN.out.below) kCheck (by decide)
  have HRD := Lib.hid hread
  have hk1 := known_one st kCheck
  clear h hE hs hsum hread hF
  obtain ⟨ke, hke⟩ : ∃ ke, kErr st kCheck = ke := ⟨_, rfl⟩
  rw [hke] at hk1 HRD
  have HOP : Hid (openL st part = openL st part) := Lib.hid rfl
  have e1 : (ke == 1) = false := beq_eq_false_iff_ne.2 hk1
  by_cases h9 : ke = 9
  · have e9 : (ke == 9) = true := by rw [h9]; rfl
    have hA : Hid (openL st part = ⟨st, 0, [], [], 9⟩) := Lib.hid (by unfold openL; rw [hke, if_pos h9])
    go_enter Tryz.func9, Tryz.ntmps9
    go_wp2_with fail
    generalize w.alloc (.cells #[.pointer (some ⟨p, 0, none⟩)] 24) = w1 at *
    refine HRD.out.mono ?_
    rintro e w2 ⟨vb, rfl, hvb, hb2⟩
    unfold errv
    have H2 := Lib.hid (HN.out.step hb2)
    clear hvb hb2
    go_wp2
    (try simp only [Exit.inBlock, Exit.then]); refine bodyPost_ret (results_tmp4 rfl _ _ _) rfl ?_
    rw [hA.out]
    exact openL_err HH.out H2.out.below (by decide)
  · have e9 : (ke == 9) = false := beq_eq_false_iff_ne.2 h9
    by_cases hp : part < 1 ∨ 1048576 < part
    · have hA : Hid (openL st part = ⟨st, 0, [], [], 2⟩) := Lib.hid (by unfold openL; rw [hke, if_neg h9, if_pos hp])
      have hpp : decide (part < 1) = true ∨ (decide (part < 1) = false ∧ decide (1048576 < part) = true) := by
        by_cases q : part < 1
        · left; exact decide_eq_true q
        · right; exact ⟨decide_eq_false q, decide_eq_true (by omega)⟩
      clear hp
      rcases hpp with t1 | ⟨t1, t2⟩
      all_goals
        go_enter Tryz.func9, Tryz.ntmps9
        go_wp2_with fail
        generalize w.alloc (.cells #[.pointer (some ⟨p, 0, none⟩)] 24) = w1 at *
        refine HRD.out.mono ?_
        rintro e w2 ⟨vb, rfl, hvb, hb2⟩
        unfold errv
        have H2 := Lib.hid (HN.out.step hb2)
        clear hvb hb2
        go_wp2
        (try simp only [Exit.inBlock, Exit.then]); refine bodyPost_ret (results_tmp4 rfl _ _ _) rfl ?_
        rw [hA.out]
        exact openL_err HH.out H2.out.below (by decide)
    · have t1 : decide (part < 1) = false := decide_eq_false (by omega)
      have t2 : decide (1048576 < part) = false := decide_eq_false (by omega)
      obtain ⟨first, check, fe, hfo⟩ : ∃ first check fe, foundA st = (first, check, fe) := ⟨_, _, _, rfl⟩
      have hfr := foundA_rng HH.out.inv
      rw [hfo] at hfr
      go_enter Tryz.func9, Tryz.ntmps9
      go_wp2_with fail
      generalize w.alloc (.cells #[.pointer (some ⟨p, 0, none⟩)] 24) = w1 at *
      refine HRD.out.mono ?_
      rintro e w2 ⟨vb, rfl, hvb, hb2⟩
      unfold errv
      have h2 := HN.out.step hb2
      have H2 := Lib.hid h2
      have HFD := Lib.hid (found_t (HE.out.below h2.below hbw) (HH.out.below h2.below) hB)
      rw [hfo] at HFD
      have c2 := h2.at
      clear hvb hb2 h2
      go_wp2_with fail
      refine HFD.out.mono ?_
      rintro e w3 ⟨vc, rfl, hvc, hb3⟩
      have HVC := Lib.hid hvc
      have h3 := H2.out.step hb3
      have H3 := Lib.hid h3
      clear hvc hb3 c2
      by_cases hfe : fe = 0
      · have t3 : (fe != 0) = false := by rw [hfe]; rfl
        obtain ⟨f0, f1⟩ := hfr hfe
        have h4 := (h3.step ((Below.refl w3.heap.size w3).alloc (Nat.le_refl _) (.cells #[.int .i64 first] 3)))
        have h4b := (Held.new h3.below (.int .i64 first) 3)
        have H4 := Lib.hid h4; have H4b := Lib.hid h4b
        have c2 := h4.at
        have c10 := h4b.at
        obtain ⟨all, hall⟩ : ∃ all, partsA st first = all := ⟨_, rfl⟩
        have hrange := partsA_rng st first
        have hlen := partsA_len HH.out.inv first
        have hsm := HSM.out first
        rw [hall] at hrange hlen hsm
        have HRG := Lib.hid (fun (n : Int) (hn : n ∈ all) => (⟨by have := (hrange n hn).2.1; omega, by have := (hrange n hn).2.2; omega⟩ : 0 ≤ n ∧ n ≤ 1000000000))
        have HRG2 := Lib.hid hrange
        have HSM2 := Lib.hid hsm
        clear h3 h4 h4b hrange hsm
        obtain ⟨recs, torn, ge, hga⟩ : ∃ recs torn ge, gatherA st all first = (recs, torn, ge) := ⟨_, _, _, rfl⟩
        have hA : openL st part = if ge ≠ 0 then ⟨st, 0, [], [], ge⟩ else if (mendA st all first torn).2 ≠ 0 then ⟨(mendA st all first torn).1, 0, [], [], (mendA st all first torn).2⟩ else ⟨(mendA st all first torn).1, lastOf all first, check, recs, 0⟩ := by
          unfold openL
          rw [hke, if_neg h9, if_neg hp, hfo, if_neg (by simp [hfe]), hall, hga]
        have HA := Lib.hid hA
        clear hA hfe hfr
        have HVC4 := Lib.hid (RS.below HVC.out ((Below.refl w3.heap.size w3).alloc (Nat.le_refl _) (.cells #[.int .i64 first] 3)) (Nat.le_trans HBB.out H3.out.below.size))
        go_wp2_with fail
        generalize w3.alloc (.cells #[.int .i64 first] 3) = w4 at *
        have HPT := Lib.hid (parts_t (HE.out.below H4.out.below hbw) (HH.out.below H4.out.below) hB HS.out first (by omega))
        rw [hall] at HPT
        refine HPT.out.mono ?_
        rintro e w5 ⟨va, rfl, hva, hb5⟩
        obtain ⟨av, cv, rfl, gv1⟩ : ∃ av cv, va = .slice av all.length cv ∧ all.length ≤ cv := by
          obtain ⟨a', c', h1, h2, h3, -⟩ := hva
          rw [List.length_map] at h1 h2
          exact ⟨a', c', h1, h2⟩
        have h5 := H4.out.step hb5
        have h5b := H4b.out.step hb5
        have H5 := Lib.hid h5; have H5b := Lib.hid h5b
        have HVC5 := Lib.hid (RS.below HVC4.out hb5 (Nat.le_trans HBB.out H4.out.below.size))
        have c2 := h5.at
        have c10 := h5b.at
        have HGT := Lib.hid (gather_t (HE.out.below h5.below hbw) (HH.out.below h5.below) hB hva first (by omega) HRG.out hlen HSM2.out)
        rw [hga] at HGT
        have HVA := Lib.hid hva
        clear h5 h5b hb5 hva
        go_wp2_with fail
        refine HGT.out.mono ?_
        rintro e w6 ⟨vr, rfl, hvr, hb6⟩
        have HVR := Lib.hid hvr
        have h6 := H5.out.step hb6
        have h6b := H5b.out.step hb6
        have H6 := Lib.hid h6; have H6b := Lib.hid h6b
        have HVA6 := Lib.hid (RS.below HVA.out hb6 (Nat.le_trans HBB.out H5.out.below.size))
        have HVC6 := Lib.hid (RS.below HVC5.out hb6 (Nat.le_trans HBB.out H5.out.below.size))
        clear hvr c2 c10
        by_cases hge : ge = 0
        · have t4 : (ge != 0) = false := by rw [hge]; rfl
          have hA2 := HA.out
          rw [if_neg (by simp [hge])] at hA2
          have HA2 := Lib.hid hA2
          have k1 : (w6.alloc (.cells #[.int .i64 torn] 3)).heap[w6.heap.size]? = some (.cells #[.int .i64 torn] 3 (0, 0)) := hp_new _ _
          have kb1 : Below w6.heap.size w6 (w6.alloc (.cells #[.int .i64 torn] 3)) := (Below.refl w6.heap.size w6).alloc (Nat.le_refl _) _
          have hsz : (w6.alloc (.cells #[.int .i64 torn] 3)).heap.size = w6.heap.size + 1 := by simp
          have k2 : ((w6.alloc (.cells #[.int .i64 torn] 3)).alloc (.cells #[.int .i64 first] 3)).heap[w6.heap.size + 1]? = some (.cells #[.int .i64 first] 3 (0, 0)) := by
            have := hp_new (w6.alloc (.cells #[.int .i64 torn] 3)) (.cells #[.int .i64 first] 3)
            rw [hsz] at this; exact this
          have k2a : ((w6.alloc (.cells #[.int .i64 torn] 3)).alloc (.cells #[.int .i64 first] 3)).heap[w6.heap.size]? = some (.cells #[.int .i64 torn] 3 (0, 0)) := hp_old k1
          have kb2 : Below w6.heap.size w6 ((w6.alloc (.cells #[.int .i64 torn] 3)).alloc (.cells #[.int .i64 first] 3)) := kb1.alloc (by rw [hsz]; omega) _
          have hw6 := h6.below.size
          have HK2 := Lib.hid k2; have HK2A := Lib.hid k2a; have HKB2 := Lib.hid kb2
          have c10a := (h6b.step kb1).at
          have c2a := (h6.step kb2).at
          have c16a : ((w6.alloc (.cells #[.int .i64 torn] 3)).alloc (.cells #[.int .i64 first] 3)).cell? ⟨w6.heap.size + 1, 0, none⟩ = some (.int .i64 first) := cell_of k2 0
          have c15a : ((w6.alloc (.cells #[.int .i64 torn] 3)).alloc (.cells #[.int .i64 first] 3)).cell? ⟨w6.heap.size, 0, none⟩ = some (.int .i64 torn) := cell_of k2a 0
          have f16a : ((w6.alloc (.cells #[.int .i64 torn] 3)).alloc (.cells #[.int .i64 first] 3)).frozen? ⟨w6.heap.size + 1, 0, none⟩ = false := free_of k2 0
          have c10b := (h6b.step kb2).at
          clear hA2 hge h6 h6b k1 kb1 hsz k2 k2a kb2
          by_cases hal : all = []
          · subst hal
            have htn : torn = -1 := by
              unfold gatherA gatherF at hga; simp at hga; omega
            subst htn
            have hm : mendA st [] first (-1) = eachA [fun s => makeA s (nameA first), commitA] st := by unfold mendA; rw [if_neg (by omega), if_pos rfl]
            have HM := Lib.hid hm
            clear hm
            have kb3 : Below w6.heap.size w6 (((w6.alloc (.cells #[.int .i64 (-1)] 3)).alloc (.cells #[.int .i64 first] 3)).alloc (.cells #[.func (.func 35) #[] #[.pointer (some ⟨w.heap.size, 0, none⟩), .pointer (some ⟨w3.heap.size, 0, none⟩)], .func (.func 37) #[.pointer (some ⟨p, 0, none⟩)] #[]] 35)) := HKB2.out.alloc (by simp; omega) _
            have HKA := Lib.hid kb3
            have hbw3 := H6.out.below.trans (kb3.mono hw6)
            have HRS : Hid (RS 35 B (((w6.alloc (.cells #[.int .i64 (-1)] 3)).alloc (.cells #[.int .i64 first] 3)).alloc (.cells #[.func (.func 35) #[] #[.pointer (some ⟨w.heap.size, 0, none⟩), .pointer (some ⟨w3.heap.size, 0, none⟩)], .func (.func 37) #[.pointer (some ⟨p, 0, none⟩)] #[]] 35)) (.slice (some ⟨w6.heap.size + 1 + 1, 0, none⟩) 2 2) [.func (.func 35) #[] #[.pointer (some ⟨w.heap.size, 0, none⟩), .pointer (some ⟨w3.heap.size, 0, none⟩)], .func (.func 37) #[.pointer (some ⟨p, 0, none⟩)] #[]]) := Lib.hid (rs_new2 (by simp) 35 _ _)
            have HC2 := Lib.hid (H6.out.step kb3).cell
            have HC10 := Lib.hid (H6b.out.step kb3).cell
            have HC16 : Hid ((((w6.alloc (.cells #[.int .i64 (-1)] 3)).alloc (.cells #[.int .i64 first] 3)).alloc (.cells #[.func (.func 35) #[] #[.pointer (some ⟨w.heap.size, 0, none⟩), .pointer (some ⟨w3.heap.size, 0, none⟩)], .func (.func 37) #[.pointer (some ⟨p, 0, none⟩)] #[]] 35)).heap[w6.heap.size + 1]? = some (.cells #[.int .i64 first] 3 (0, 0))) := Lib.hid (hp_old HK2.out)
            have HSP := Lib.hid (make_spec HF.out (HE.out.below hbw3 hbw) (HH.out.below hbw3) hB HC2.out HC10.out (by omega))
            clear kb3 hbw3
            simp only [List.length_nil] at gv1 ⊢
            go_wp2_with fail
            generalize (((w6.alloc (.cells #[.int .i64 (-1)] 3)).alloc (.cells #[.int .i64 first] 3)).alloc (.cells #[.func (.func 35) #[] #[.pointer (some ⟨w.heap.size, 0, none⟩), .pointer (some ⟨w3.heap.size, 0, none⟩)], .func (.func 37) #[.pointer (some ⟨p, 0, none⟩)] #[]] 35)) = A3 at *
            refine (each_t HRS.out (by simp) HSP.out).mono ?_
            rintro e w7 ⟨k7, rfl, rfl, hr7, hs7⟩
            unfold errv
            have HR7 := Lib.hid hr7; have HS7 := Lib.hid hs7
            have hA7 := HA2.out
            rw [HM.out] at hA7
            have hc2 := cell_of (hs7.fix _ _ _ _ HC2.out (by decide) (by decide) (by simp)) 0
            have hc16 := cell_of (hs7.fix _ _ _ _ HC16.out (by decide) (by decide) (by simp)) 0
            simp only [List.getElem?_toArray, List.getElem?_cons_zero] at hc2 hc16
            generalize eachA [fun s => makeA s (nameA first), commitA] st = T at *
            clear hr7 hs7
            by_cases h7 : T.2 = 0
            · have t7 : (T.2 != 0) = false := by rw [h7]; rfl
              rw [if_neg (by simp [h7])] at hA7
              have HA7 := Lib.hid hA7
              clear hA7 h7
              go_wp2_with fail
              (try simp only [Exit.inBlock, Exit.then]); refine bodyPost_ret (results_tmp4 rfl _ _ _) rfl ?_
              rw [HA7.out]
              exact openL_fin rfl (H6.out.below.trans (HKA.out.mono hw6)) HBB.out (RS.below HVC6.out HKA.out (Nat.le_trans HBB.out hw6)) (HVR.out.stp (Stp.of_below HKA.out (Nat.le_trans HBB.out hw6))) HR7.out HS7.out
            · have t7 : (T.2 != 0) = true := bne_iff_ne.2 h7
              rw [if_pos h7] at hA7
              have HA7 := Lib.hid hA7
              have H77 := Lib.hid h7
              clear hA7 h7
              go_wp2
              (try simp only [Exit.inBlock, Exit.then]); refine bodyPost_ret (results_tmp4 rfl _ _ _) rfl ?_
              rw [HA7.out]
              exact openL_bad (H6.out.below.trans (HKA.out.mono hw6)) HBB.out HR7.out HS7.out H77.out
          · obtain ⟨m, hm⟩ : ∃ m, all.length = m + 1 := ⟨all.length - 1, by have := List.length_pos_iff.2 hal; omega⟩
            have hml : m < all.length := by omega
            have hlast : lastOf all first = all[m] := by
              unfold lastOf
              rw [List.getLast?_eq_getElem?]
              have e : all.length - 1 = m := by omega
              rw [e, List.getElem?_eq_getElem hml]; rfl
            have hl2 := HRG.out all[m] (List.getElem_mem hml)
            obtain ⟨bb, oo, rfl, he1⟩ := HVA6.out.at.2.2.2 m (by rw [List.length_map]; exact hml)
            rw [List.getElem_map] at he1
            obtain ⟨last, hla⟩ : ∃ last, all[m] = last := ⟨_, rfl⟩
            rw [hla] at hlast he1 hl2
            have HLS := Lib.hid hlast
            have hblt : bb < w6.heap.size := World.block_lt_of_cell? w6 _ he1
            have e8 : ((w6.alloc (.cells #[.int .i64 torn] 3)).alloc (.cells #[.int .i64 first] 3)).cell? ⟨bb, oo + m, none⟩ = some (.int .i64 last) := by
              rw [HKB2.out.cell (p := ⟨bb, oo + m, none⟩) hblt]; exact he1
            obtain ⟨k9, k9a, kb9⟩ := mid_facts (w6 := w6) torn last
            have c2b := (H6.out.step kb9).at
            have c15b : ((w6.alloc (.cells #[.int .i64 torn] 3)).alloc (.cells #[.int .i64 last] 3)).cell? ⟨w6.heap.size, 0, none⟩ = some (.int .i64 torn) := cell_of k9a 0
            have c16b : ((w6.alloc (.cells #[.int .i64 torn] 3)).alloc (.cells #[.int .i64 last] 3)).cell? ⟨w6.heap.size + 1, 0, none⟩ = some (.int .i64 last) := cell_of k9 0
            have HK9 := Lib.hid k9; have HK9A := Lib.hid k9a; have HKB9 := Lib.hid kb9
            clear hlast k9 k9a kb9 he1
            have hne : (((m + 1 : Nat) : Int) == 0) = false := beq_eq_false_iff_ne.2 (by omega)
            have hpos : decide ((0 : Int) < ((m + 1 : Nat) : Int)) = true := decide_eq_true (by omega)
            by_cases ht : 0 ≤ torn
            · have htd : decide (0 ≤ torn) = true := decide_eq_true ht
              have hmm : mendA st all first torn = eachA [fun s => cutA s (nameA last) torn, fun s => syncA s (nameA last)] st := by
                unfold mendA; rw [if_pos ht, HLS.out]
              have HM := Lib.hid hmm
              clear hmm
              have kb3 : Below w6.heap.size w6 (((w6.alloc (.cells #[.int .i64 torn] 3)).alloc (.cells #[.int .i64 last] 3)).alloc (.cells #[.func (.func 32) #[] #[.pointer (some ⟨w.heap.size, 0, none⟩), .pointer (some ⟨w6.heap.size + 1, 0, none⟩), .pointer (some ⟨w6.heap.size, 0, none⟩)], .func (.func 33) #[] #[.pointer (some ⟨w.heap.size, 0, none⟩), .pointer (some ⟨w6.heap.size + 1, 0, none⟩)]] 35)) := HKB9.out.alloc (by simp; omega) _
              have HKA := Lib.hid kb3
              have hbw3 := H6.out.below.trans (kb3.mono hw6)
              have HRS : Hid (RS 35 B (((w6.alloc (.cells #[.int .i64 torn] 3)).alloc (.cells #[.int .i64 last] 3)).alloc (.cells #[.func (.func 32) #[] #[.pointer (some ⟨w.heap.size, 0, none⟩), .pointer (some ⟨w6.heap.size + 1, 0, none⟩), .pointer (some ⟨w6.heap.size, 0, none⟩)], .func (.func 33) #[] #[.pointer (some ⟨w.heap.size, 0, none⟩), .pointer (some ⟨w6.heap.size + 1, 0, none⟩)]] 35)) (.slice (some ⟨w6.heap.size + 1 + 1, 0, none⟩) 2 2) [.func (.func 32) #[] #[.pointer (some ⟨w.heap.size, 0, none⟩), .pointer (some ⟨w6.heap.size + 1, 0, none⟩), .pointer (some ⟨w6.heap.size, 0, none⟩)], .func (.func 33) #[] #[.pointer (some ⟨w.heap.size, 0, none⟩), .pointer (some ⟨w6.heap.size + 1, 0, none⟩)]]) := Lib.hid (rs_new2 (by simp) 35 _ _)
              have HC2 := Lib.hid (H6.out.step kb3).cell
              have HC10 := Lib.hid (H6b.out.step kb3).cell
              have HC16 : Hid ((((w6.alloc (.cells #[.int .i64 torn] 3)).alloc (.cells #[.int .i64 last] 3)).alloc (.cells #[.func (.func 32) #[] #[.pointer (some ⟨w.heap.size, 0, none⟩), .pointer (some ⟨w6.heap.size + 1, 0, none⟩), .pointer (some ⟨w6.heap.size, 0, none⟩)], .func (.func 33) #[] #[.pointer (some ⟨w.heap.size, 0, none⟩), .pointer (some ⟨w6.heap.size + 1, 0, none⟩)]] 35)).heap[w6.heap.size + 1]? = some (.cells #[.int .i64 last] 3 (0, 0))) := Lib.hid (hp_old HK9.out)
              have HC15 : Hid ((((w6.alloc (.cells #[.int .i64 torn] 3)).alloc (.cells #[.int .i64 last] 3)).alloc (.cells #[.func (.func 32) #[] #[.pointer (some ⟨w.heap.size, 0, none⟩), .pointer (some ⟨w6.heap.size + 1, 0, none⟩), .pointer (some ⟨w6.heap.size, 0, none⟩)], .func (.func 33) #[] #[.pointer (some ⟨w.heap.size, 0, none⟩), .pointer (some ⟨w6.heap.size + 1, 0, none⟩)]] 35)).heap[w6.heap.size]? = some (.cells #[.int .i64 torn] 3 (0, 0))) := Lib.hid (hp_old HK9A.out)
              have HTN := Lib.hid (gatherA_torn HH.out.inv all first recs torn ge hga)
              have HSP := Lib.hid (cut_spec HF.out (HE.out.below hbw3 hbw) (HH.out.below hbw3) hB HC2.out HC16.out HC15.out hl2 HTN.out)
              clear kb3 hbw3
              rw [hm] at gv1 ⊢
              go_wp2_with fail
              generalize (((w6.alloc (.cells #[.int .i64 torn] 3)).alloc (.cells #[.int .i64 last] 3)).alloc (.cells #[.func (.func 32) #[] #[.pointer (some ⟨w.heap.size, 0, none⟩), .pointer (some ⟨w6.heap.size + 1, 0, none⟩), .pointer (some ⟨w6.heap.size, 0, none⟩)], .func (.func 33) #[] #[.pointer (some ⟨w.heap.size, 0, none⟩), .pointer (some ⟨w6.heap.size + 1, 0, none⟩)]] 35)) = A3 at *
              refine (each_t HRS.out (by simp) HSP.out).mono ?_
              rintro e w7 ⟨k7, rfl, rfl, hr7, hs7⟩
              unfold errv
              have HR7 := Lib.hid hr7; have HS7 := Lib.hid hs7
              have hA7 := HA2.out
              rw [HM.out, HLS.out] at hA7
              have hc2 := cell_of (hs7.fix _ _ _ _ HC2.out (by decide) (by decide) (by simp)) 0
              have hc16 := cell_of (hs7.fix _ _ _ _ HC16.out (by decide) (by decide) (by simp)) 0
              simp only [List.getElem?_toArray, List.getElem?_cons_zero] at hc2 hc16
              generalize eachA [fun s => cutA s (nameA last) torn, fun s => syncA s (nameA last)] st = T at *
              clear hr7 hs7
              by_cases h7 : T.2 = 0
              · have t7 : (T.2 != 0) = false := by rw [h7]; rfl
                rw [if_neg (by simp [h7])] at hA7
                have HA7 := Lib.hid hA7
                clear hA7 h7
                go_wp2_with fail
                (try simp only [Exit.inBlock, Exit.then]); refine bodyPost_ret (results_tmp4 rfl _ _ _) rfl ?_
                rw [HA7.out]
                exact openL_fin rfl (H6.out.below.trans (HKA.out.mono hw6)) HBB.out (RS.below HVC6.out HKA.out (Nat.le_trans HBB.out hw6)) (HVR.out.stp (Stp.of_below HKA.out (Nat.le_trans HBB.out hw6))) HR7.out HS7.out
              · have t7 : (T.2 != 0) = true := bne_iff_ne.2 h7
                rw [if_pos h7] at hA7
                have HA7 := Lib.hid hA7
                have H77 := Lib.hid h7
                clear hA7 h7
                go_wp2
                (try simp only [Exit.inBlock, Exit.then]); refine bodyPost_ret (results_tmp4 rfl _ _ _) rfl ?_
                rw [HA7.out]
                exact openL_bad (H6.out.below.trans (HKA.out.mono hw6)) HBB.out HR7.out HS7.out H77.out
            · have htd : decide (0 ≤ torn) = false := decide_eq_false ht
              have hmm : mendA st all first torn = (st, 0) := by
                unfold mendA; rw [if_neg ht, if_neg hal]
              have HM := Lib.hid hmm
              clear hmm
              rw [hm] at *
              go_wp2_with fail
              (try simp only [Exit.inBlock, Exit.then]); refine bodyPost_ret (results_tmp4 rfl _ _ _) rfl ?_
              have h2 := HA2.out
              rw [HM.out, HLS.out] at h2
              rw [h2, if_neg (by simp)]
              exact openL_fin (by simp) (H6.out.below.trans (HKB9.out.mono hw6)) HBB.out (RS.below HVC6.out HKB9.out (Nat.le_trans HBB.out hw6)) (HVR.out.stp (Stp.of_below HKB9.out (Nat.le_trans HBB.out hw6))) ⟨_, _, _, HH.out.below (H6.out.below.trans (HKB9.out.mono hw6))⟩ (Stp.refl _ _ _)
        · clear h6 h6b
          have t4 : (ge != 0) = true := bne_iff_ne.2 hge
          have hA2 := HA.out
          rw [if_pos hge] at hA2
          have HA2 := Lib.hid hA2
          have HGE := Lib.hid hge
          have H7 := Lib.hid (H6.out.step ((Below.refl w6.heap.size w6).alloc (Nat.le_refl _) (.cells #[.int .i64 torn] 3)))
          clear hA2 hge
          go_wp2
          (try simp only [Exit.inBlock, Exit.then]); refine bodyPost_ret (results_tmp4 rfl _ _ _) rfl ?_
          rw [HA2.out]
          exact openL_err HH.out H7.out.below HGE.out
      · have t3 : (fe != 0) = true := bne_iff_ne.2 hfe
        have hA : Hid (openL st part = ⟨st, 0, [], [], fe⟩) := Lib.hid (by unfold openL; rw [hke, if_neg h9, if_neg hp, hfo, if_pos hfe])
        have HFE := Lib.hid hfe
        have H4 := Lib.hid (h3.step ((Below.refl w3.heap.size w3).alloc (Nat.le_refl _) (.cells #[.int .i64 first] 3)))
        clear h3 hfe hfr
        go_wp2
        (try simp only [Exit.inBlock, Exit.then]); refine bodyPost_ret (results_tmp4 rfl _ _ _) rfl ?_
        rw [hA.out]
        exact openL_err HH.out H4.out.below HFE.out
end
end Go.Proofs.YthjilhjdnefmdaaGreatDoor
