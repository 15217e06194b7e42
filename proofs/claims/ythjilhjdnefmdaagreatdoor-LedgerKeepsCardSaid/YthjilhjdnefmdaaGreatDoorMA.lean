/- Joined texts: Base words of the ledger seat: blocks of the heap, what a step of the store leaves alone, byte slices that hold a list, directories as maps of names to files. Conditions: none. The store's names, small calls without memory. Conditions: none. The store's model, and when a world's blocks hold a store. Conditions: none. The store's inner calls: known, free, counted. Conditions: none. The store's counted calls. Conditions: none. Make of the store. Conditions: none. Make of the store: the call. Conditions: none. Appending to rows of the call's own. Conditions: none. Byte slices compared, grown, joined. Conditions: none. Byte slices grown, joined. Conditions: none. -/
import Derived.Test.YthjilhjdnefmdaaGreatDoorProg
import Derived.WalkKit
import Derived.WalkLawsBesides
import Derived.WalkSpells
import Derived.OneCell
import Derived.Maps.RangeRun
import Derived.MapKept
import Derived.Deep.LoopGhost
import Derived.Outline
import Derived.Lib.Hide
import Derived.Lib.ConvBytes
import Derived.RegionTactic
import Derived.ChangeAlike
import Derived.Deep.RegionWith
import Derived.Deep.AppendSrc
import Derived.Deep.QuietTactic
import Derived.BigQuiet
/- Base words of the ledger seat: blocks of the heap, what a step of the store leaves alone, byte slices that hold a list, directories as maps of names to files. Conditions: none. -/
namespace Go.Proofs.YthjilhjdnefmdaaGreatDoor
open Go.RowKit
open Go.ChangeMaps (setBlock)

section
variable {w w' : World} {k : Nat} {o x : Obj}
theorem hp_lt (h : w.heap[k]? = some x) : k < w.heap.size := (Array.getElem?_eq_some_iff.1 h).1
theorem hp_new (w : World) (o : Obj) : (w.alloc o).heap[w.heap.size]? = some o := (MapKept.heap_alloc w o).1
theorem hp_old (h : w.heap[k]? = some x) : (w.alloc o).heap[k]? = some x := ((MapKept.heap_alloc w o).2 k (hp_lt h)).trans h
theorem hp_set {cs : Array Value} {e : TypeId} {fr : Nat × Nat} (h : w.heap[k]? = some (.cells cs e fr)) (i : Nat) (v : Value) :
    (w.setCell ⟨k, i, none⟩ v).heap[k]? = some (.cells (cs.setIfInBounds i v) e fr) := by
  simp [World.setCell, Array.getElem?_modify, h]
theorem hp_set_ne {a : Addr} {v : Value} (h : w.heap[k]? = some x) (hne : k ≠ a.block) : (w.setCell a v).heap[k]? = some x := by
  rw [Below.heap_setCell _ _ _ _ hne]; exact h
theorem hp_blk_same (h : w.heap[k]? = some x) : (setBlock w k o).heap[k]? = some o := (MapKept.heap_set h).1
theorem hp_blk_ne {j : Nat} (h : w.heap[k]? = some x) (hne : k ≠ j) : (setBlock w j o).heap[k]? = some x := by
  show (w.heap.setIfInBounds j o)[k]? = some x
  simp [Ne.symm hne, h]
theorem cell_of {cs : Array Value} {e : TypeId} {fr : Nat × Nat} (h : w.heap[k]? = some (.cells cs e fr)) (i : Nat) : w.cell? ⟨k, i, none⟩ = cs[i]? := by
  simp [World.cell?, h]
theorem free_of {cs : Array Value} {e : TypeId} (h : w.heap[k]? = some (.cells cs e (0, 0))) (i : Nat) : w.frozen? ⟨k, i, none⟩ = false := by
  simp [World.frozen?, h]
end

/-- A step of the store: below B all is as it was; so is each block of cells that is no Store (64), no file (82), and is not in M (byte blocks are never in it). -/
structure Stp (M : List Nat) (B : Nat) (w w' : World) : Prop where
  os : w'.os = w.os
  tape : w'.tape = w.tape
  output : w'.output = w.output
  size : w.heap.size ≤ w'.heap.size
  low : ∀ k, k < B → w'.heap[k]? = w.heap[k]?
  fix : ∀ k cs e fr, w.heap[k]? = some (.cells cs e fr) → e ≠ 64 → e ≠ 82 → (e ≠ 5 → k ∉ M) → w'.heap[k]? = some (.cells cs e fr)

theorem Stp.refl (M : List Nat) (B : Nat) (w : World) : Stp M B w w := ⟨rfl, rfl, rfl, Nat.le_refl _, fun _ _ => rfl, fun _ _ _ _ h _ _ _ => h⟩

theorem Stp.trans {M M' : List Nat} {B : Nat} {a b c : World} (h : Stp M B a b) (g : Stp M' B b c) (hM : ∀ k ∈ M', k ∈ M ∨ a.heap.size ≤ k) : Stp M B a c :=
  ⟨g.os.trans h.os, g.tape.trans h.tape, g.output.trans h.output, Nat.le_trans h.size g.size, fun k hk => (g.low k hk).trans (h.low k hk),
   fun k cs e fr hk h1 h2 h3 => g.fix k cs e fr (h.fix k cs e fr hk h1 h2 h3) h1 h2 (fun he hm => by
     rcases hM k hm with h' | h'
     · exact h3 he h'
     · have := hp_lt hk; omega)⟩

theorem Stp.tr {M : List Nat} {B : Nat} {a b c : World} (h : Stp M B a b) (g : Stp M B b c) : Stp M B a c := h.trans g (fun _ hk => .inl hk)

theorem Stp.wide {M M' : List Nat} {B : Nat} {a b : World} (h : Stp M B a b) (hM : ∀ k ∈ M, k ∈ M') : Stp M' B a b :=
  ⟨h.os, h.tape, h.output, h.size, h.low, fun k cs e fr hk h1 h2 h3 => h.fix k cs e fr hk h1 h2 (fun he hm => h3 he (hM k hm))⟩

theorem Stp.of_below {M : List Nat} {B : Nat} {w w' : World} (h : Below w.heap.size w w') (hB : B ≤ w.heap.size) : Stp M B w w' :=
  ⟨h.os, h.tape, h.output, h.size, fun k hk => h.block k (by omega), fun k cs e fr hk _ _ _ => (h.block k (hp_lt hk)).trans hk⟩

theorem Stp.below {M : List Nat} {B : Nat} {w w' : World} (h : Stp M B w w') : Below B w w' := ⟨h.os, h.tape, h.output, h.size, h.low⟩

theorem Stp.drew {M : List Nat} {B : Nat} {a w : World} (h : Stp M B a w) : Stp M B a w.drew := ⟨h.os, h.tape, h.output, h.size, h.low, h.fix⟩

theorem Stp.alloc {M : List Nat} {B : Nat} {a w : World} (h : Stp M B a w) (hB : B ≤ w.heap.size) (o : Obj) : Stp M B a (w.alloc o) :=
  h.trans (Stp.of_below ((Below.refl _ w).alloc (Nat.le_refl _) o) hB) (M' := M) (fun _ hk => .inl hk)

/-- A store into a cell of a block that lies from B on and is either a Store, a file, in M or new. -/
theorem Stp.setCell {M : List Nat} {B : Nat} {a w : World} (h : Stp M B a w) {p : Addr} (hp : B ≤ p.block) (v : Value)
    (hk : ∀ cs e fr, a.heap[p.block]? = some (.cells cs e fr) → e = 64 ∨ e = 82 ∨ (e ≠ 5 ∧ p.block ∈ M)) : Stp M B a (w.setCell p v) := by
  refine ⟨h.os, h.tape, h.output, by simp [World.setCell]; exact h.size, fun k hkB => ?_, fun k cs e fr hc h1 h2 h3 => ?_⟩
  · rw [Below.heap_setCell _ _ _ _ (by omega)]; exact h.low k hkB
  · have hne : k ≠ p.block := by
      rintro rfl
      rcases hk cs e fr hc with h' | h' | ⟨h', h''⟩
      · exact h1 h'
      · exact h2 h'
      · exact h3 h' h''
    rw [Below.heap_setCell _ _ _ _ hne]
    exact h.fix k cs e fr hc h1 h2 h3

/-- A turn of a block that is no cells and lies from B on. -/
theorem Stp.setBlock {M : List Nat} {B : Nat} {a w : World} (h : Stp M B a w) {j : Nat} (hj : B ≤ j) (o : Obj)
    (hk : ∀ cs e fr, a.heap[j]? ≠ some (.cells cs e fr)) : Stp M B a (setBlock w j o) := by
  refine ⟨h.os, h.tape, h.output, by simp [Go.ChangeMaps.setBlock]; exact h.size, fun k hkB => ?_, fun k cs e fr hc h1 h2 h3 => ?_⟩
  · show (w.heap.setIfInBounds j o)[k]? = _
    rw [Array.getElem?_setIfInBounds, if_neg (by omega)]; exact h.low k hkB
  · have hne : j ≠ k := by rintro rfl; exact hk cs e fr hc
    show (w.heap.setIfInBounds j o)[k]? = _
    rw [Array.getElem?_setIfInBounds, if_neg hne]
    exact h.fix k cs e fr hc h1 h2 h3

/-! ### Rows -/
def bv (b : UInt8) : Value := .int .u8 (b.toNat : Int)

/-- v is a slice over cells of a block of elements e (or below B) that hold xs. -/
def RS (e : TypeId) (B : Nat) (w : World) (v : Value) (xs : List Value) : Prop :=
  ∃ a c, v = .slice a xs.length c ∧ xs.length ≤ c ∧ c ≤ maxLen ∧
    (xs = [] ∨ ∃ b o, a = some ⟨b, o, none⟩ ∧ (b < B ∨ ∃ cs fr, w.heap[b]? = some (.cells cs e fr)) ∧ ∀ i x, xs[i]? = some x → w.cell? ⟨b, o + i, none⟩ = some x)

abbrev BS (B : Nat) (w : World) (v : Value) (l : List UInt8) : Prop := RS 5 B w v (l.map bv)

theorem RS.nil (e : TypeId) (B : Nat) (w : World) : RS e B w (.slice none 0 0) [] := ⟨none, 0, rfl, Nat.le_refl _, by decide, .inl rfl⟩

theorem RS.stp {e : TypeId} {M : List Nat} {B : Nat} {w w' : World} {v : Value} {xs : List Value} (h : RS e B w v xs) (s : Stp M B w w')
    (h64 : e ≠ 64) (h82 : e ≠ 82) (hM : ∀ b, e ≠ 5 → v.ownBlock = some b → b ∉ M) : RS e B w' v xs := by
  obtain ⟨a, c, rfl, h1, h2, h3⟩ := h
  refine ⟨a, c, rfl, h1, h2, ?_⟩
  rcases h3 with h3 | ⟨b, o, rfl, h4, h5⟩
  · exact .inl h3
  · refine .inr ⟨b, o, rfl, ?_⟩
    rcases h4 with h4 | ⟨cs, fr, h4⟩
    · refine ⟨.inl h4, fun i x hx => ?_⟩
      rw [World.cell?_of_block (w := w) (s.low b h4)]; exact h5 i x hx
    · have := s.fix b cs e fr h4 h64 h82 (fun he => hM b he rfl)
      refine ⟨.inr ⟨cs, fr, this⟩, fun i x hx => ?_⟩
      rw [World.cell?_of_block (w := w) (this.trans h4.symm)]; exact h5 i x hx

theorem BS.stp {M : List Nat} {B : Nat} {w w' : World} {v : Value} {l : List UInt8} (h : BS B w v l) (s : Stp M B w w') : BS B w' v l :=
  RS.stp h s (by decide) (by decide) (fun _ h => absurd rfl h)

theorem RS.below {e : TypeId} {B : Nat} {w w' : World} {v : Value} {xs : List Value} (h : RS e B w v xs) (s : Below w.heap.size w w') (hB : B ≤ w.heap.size) : RS e B w' v xs := by
  obtain ⟨a, c, rfl, h1, h2, h3⟩ := h
  refine ⟨a, c, rfl, h1, h2, ?_⟩
  rcases h3 with h3 | ⟨b, o, rfl, h4, h5⟩
  · exact .inl h3
  · have hlt : b < w.heap.size := by
      rcases h4 with h4 | ⟨cs, fr, h4⟩
      · omega
      · exact hp_lt h4
    refine .inr ⟨b, o, rfl, ?_, fun i x hx => ?_⟩
    · rcases h4 with h4 | ⟨cs, fr, h4⟩
      · exact .inl h4
      · exact .inr ⟨cs, fr, (s.block b hlt).trans h4⟩
    · rw [World.cell?_of_block (w := w) (s.block b hlt)]; exact h5 i x hx

theorem RS.low {e : TypeId} {B B' : Nat} {w : World} {v : Value} {xs : List Value} (h : RS e B w v xs) (hB : B ≤ B') : RS e B' w v xs := by
  obtain ⟨a, c, rfl, h1, h2, h3⟩ := h
  refine ⟨a, c, rfl, h1, h2, ?_⟩
  rcases h3 with h3 | ⟨b, o, rfl, h4, h5⟩
  · exact .inl h3
  · exact .inr ⟨b, o, rfl, h4.imp (fun h => by omega) id, h5⟩

theorem RS.of_owns {e : TypeId} {base B : Nat} {w : World} {v : Value} {n : Nat} {xs : List Value} (h : w.ownsRow base e 1 v n xs) : RS e B w v xs := by
  obtain ⟨h1, h2⟩ := h
  rcases h2 with ⟨rfl, rfl⟩ | ⟨g, cap, cur, rfl, hg, hh, hn, hc, hs, ht⟩
  · have : xs = [] := List.eq_nil_of_length_eq_zero (by simpa using h1)
    subst this; exact RS.nil e B w
  · have hl : xs.length = n := by simpa using h1
    subst hl
    refine ⟨some ⟨g, 0, none⟩, cap, rfl, hn, hc, .inr ⟨g, 0, rfl, .inr ⟨_, _, hh⟩, fun i x hx => ?_⟩⟩
    rw [cell_of hh]
    have : (cur.toList.take (xs.length * 1))[i]? = some x := by rw [ht]; exact hx
    rw [List.getElem?_take] at this
    split at this
    · simpa using this
    · cases this

/-! ### Directories -/
abbrev Nm := ByteArray
abbrev Dr := List (Nm × Nat)
def dget (d : Dr) (n : Nm) : Option Nat := (d.find? fun p => decide (p.1 = n)).map (·.2)
def dset (d : Dr) (n : Nm) (b : Nat) : Dr := if (dget d n).isSome then d.map (fun p => if p.1 = n then (n, b) else p) else d ++ [(n, b)]
def ddel (d : Dr) (n : Nm) : Dr := d.filter fun p => decide (p.1 ≠ n)
def ptr (b : Nat) : Value := .pointer (some ⟨b, 0, none⟩)

/-- Block m is a map of names to files' blocks. -/
def DirAt (w : World) (m : Nat) (d : Dr) : Prop :=
  ∃ es clk, w.heap[m]? = some (.map es clk) ∧ MapKept.Stamped es clk ∧ es.toList.map (fun e => (e.key, e.val)) = d.map (fun p => (Value.string p.1, ptr p.2))

theorem DirAt.same {w w' : World} {m : Nat} {d : Dr} (h : DirAt w m d) (e : w'.heap[m]? = w.heap[m]?) : DirAt w' m d := by
  obtain ⟨es, clk, h1, h2⟩ := h
  exact ⟨es, clk, e.trans h1, h2⟩
theorem DirAt.lt {w : World} {m : Nat} {d : Dr} (h : DirAt w m d) : m < w.heap.size := by
  obtain ⟨es, clk, h1, h2⟩ := h; exact hp_lt h1
theorem DirAt.nocells {w : World} {m : Nat} {d : Dr} (h : DirAt w m d) (cs : Array Value) (e : TypeId) (fr : Nat × Nat) : w.heap[m]? ≠ some (.cells cs e fr) := by
  obtain ⟨es, clk, h1, h2⟩ := h
  rw [h1]; simp

theorem find_pairs (nm : Nm) : ∀ (l : List MapEntry) (d : Dr) (i : Nat), l.map (fun e => (e.key, e.val)) = d.map (fun p => (Value.string p.1, ptr p.2)) →
    Instr.findNow .string (.string nm) l i = some none ∧ dget d nm = none ∨
    ∃ j e b, Instr.findNow .string (.string nm) l i = some (some (i + j, e.val)) ∧ l[j]? = some e ∧ d[j]? = some (nm, b) ∧ e.key = .string nm ∧ e.val = ptr b ∧ dget d nm = some b ∧ ∀ j' < j, ∀ p, d[j']? = some p → p.1 ≠ nm
  | [], [], i, _ => .inl ⟨rfl, rfl⟩
  | [], _ :: _, _, h => by simp at h
  | _ :: _, [], _, h => by simp at h
  | e :: l, p :: d, i, h => by
    simp only [List.map_cons, List.cons.injEq, Prod.mk.injEq] at h
    obtain ⟨⟨hk, hv⟩, ht⟩ := h
    have hs : Instr.sameNow .string (.string nm) e.key = some (nm == p.1) := by rw [hk]; rfl
    by_cases hp : p.1 = nm
    · have hb : (nm == p.1) = true := by rw [MapKept.bytes_beq]; exact hp.symm
      refine .inr ⟨0, e, p.2, by simp [Instr.findNow, hs, hb], rfl, ?_, by rw [hk, hp], hv, by simp [dget, hp], fun j' h => by omega⟩
      simp [← hp]
    · have hb : (nm == p.1) = false := by
        cases hc : (nm == p.1) with
        | false => rfl
        | true => exact absurd ((MapKept.bytes_beq _ _).1 hc).symm hp
      have hd : dget (p :: d) nm = dget d nm := by simp [dget, hp]
      rcases find_pairs nm l d (i + 1) ht with ⟨h1, h2⟩ | ⟨j, e', b, h1, h2, h3, h4, h5, h6, h7⟩
      · exact .inl ⟨by simp [Instr.findNow, hs, hb, h1], hd.trans h2⟩
      · refine .inr ⟨j + 1, e', b, by simp [Instr.findNow, hs, hb, h1]; omega, by simpa using h2, by simpa using h3, h4, h5, hd.trans h6, fun j' hj p' hp' => ?_⟩
        cases j' with
        | zero => simp at hp'; subst hp'; exact hp
        | succ j' => exact h7 j' (by omega) p' (by simpa using hp')

theorem run_lookup_dir {w : World} {m : Nat} {d : Dr} (h : DirAt w m d) (nm : Nm) :
    (Instr.lookup 62 (.map (some m)) (.string nm) false).run Tryz.prog w = .ok (match dget d nm with | some b => ptr b | none => .pointer none) w := by
  obtain ⟨es, clk, h1, h2, h3⟩ := h
  have hu : Tryz.prog.underlying 62 = some (.map 9 78) := by kernel_rfl
  have hs : Tryz.prog.underlying 9 = some .string := by kernel_rfl
  have hz : ∀ w, (zeroValue 78).run Tryz.prog w = .ok (.pointer none) w := fun w => by kernel_rfl
  have hk : MapKept.IsKey .string (.string nm) := by simp [MapKept.IsKey]
  rcases find_pairs nm es.toList d 0 h3 with ⟨g1, g2⟩ | ⟨j, e, b, g1, g2, g3, g4, g5, g6, g7⟩
  · simp [Instr.lookup, run_underlying hu, MapKept.run_getObj_map h1, MapKept.run_checkKey hs hk, MapKept.run_findKey hs g1, hz, g2, Result.andThen]
  · simp [Instr.lookup, run_underlying hu, MapKept.run_getObj_map h1, MapKept.run_checkKey hs hk, MapKept.run_findKey hs g1, g5, g6, Result.andThen]

theorem run_update_dir {w : World} {m : Nat} {d : Dr} (h : DirAt w m d) (nm : Nm) (b : Nat) :
    ∃ es clk, (Instr.mapUpdate 62 (.map (some m)) (.string nm) (ptr b)).run Tryz.prog w = .ok () (setBlock w m (.map es clk)) ∧ DirAt (setBlock w m (.map es clk)) m (dset d nm b) := by
  obtain ⟨es, clk, h1, h2, h3⟩ := h
  have hu : Tryz.prog.underlying 62 = some (.map 9 78) := by kernel_rfl
  have hs : Tryz.prog.underlying 9 = some .string := by kernel_rfl
  have hk : MapKept.IsKey .string (.string nm) := by simp [MapKept.IsKey]
  rcases find_pairs nm es.toList d 0 h3 with ⟨g1, g2⟩ | ⟨j, e, b', g1, g2, g3, g4, g5, g6, g7⟩
  · refine ⟨es.push { key := .string nm, val := ptr b, born := clk }, clk + 1, ?_, _, _, hp_blk_same h1, MapKept.stamped_push h2 ?_, ?_⟩
    · simp [Instr.mapUpdate, run_underlying hu, MapKept.run_getObj_map h1, MapKept.run_checkKey hs hk, MapKept.run_findKey hs g1, MapKept.run_setObj_map _ h1, Result.andThen, setBlock]
    · intro x hx hxk
      have : (x.key, x.val) ∈ d.map (fun p => (Value.string p.1, ptr p.2)) := h3 ▸ List.mem_map_of_mem hx
      obtain ⟨p, hp, he⟩ := List.mem_map.1 this
      simp only [Prod.mk.injEq] at he
      have : p.1 = nm := by have := he.1.trans hxk; simpa using this
      simp only [dget, Option.map_eq_none_iff, List.find?_eq_none] at g2
      exact absurd this (by simpa using g2 p hp)
    · simp [dset, g2, h3]
  · have ej : es[j]? = some e := by simpa using g2
    refine ⟨es.modify j fun e => { e with key := .string nm, val := ptr b }, clk, ?_, _, _, hp_blk_same h1, MapKept.stamped_modify h2 j _ (fun _ _ => rfl) (fun e' _ he' => ?_), ?_⟩
    · simp [Instr.mapUpdate, run_underlying hu, MapKept.run_getObj_map h1, MapKept.run_checkKey hs hk, MapKept.run_findKey hs g1, ej, g4, MapKept.run_keyThatStays hk, MapKept.run_setObj_map _ h1, Result.andThen, setBlock]
    · rw [ej] at he'; cases he'; exact g4.symm
    · apply List.ext_getElem?
      intro i
      have h3i := congrArg (fun l => l[i]?) h3
      simp only [List.getElem?_map] at h3i
      simp only [dset, g6, Option.isSome_some, if_true, List.getElem?_map, Array.getElem?_toList, Array.getElem?_modify, Option.map_map]
      by_cases hij : j = i
      · subst hij
        simp [ej, g3]
      · simp only [hij, if_false]
        have h3i' : Option.map (fun e => (e.key, e.val)) es[i]? = Option.map (fun p => (Value.string p.1, ptr p.2)) d[i]? := by simpa using h3i
        rw [h3i']
        cases hd : d[i]? with
        | none => rfl
        | some p =>
          have hne : p.1 ≠ nm := by
            intro hp
            have hei : ∃ e', es[i]? = some e' ∧ e'.key = .string nm := by
              rw [hd] at h3i'
              cases he : es[i]? with
              | none => rw [he] at h3i'; simp at h3i'
              | some e' => rw [he] at h3i'; simp at h3i'; exact ⟨e', rfl, by rw [h3i'.1, hp]⟩
            obtain ⟨e', he', hk'⟩ := hei
            have hpw := ((MapKept.stamped_iff es clk).1 h2).2.2
            rw [List.pairwise_iff_getElem] at hpw
            have hj := (List.getElem?_eq_some_iff.1 g2)
            have hi := (List.getElem?_eq_some_iff.1 (show es.toList[i]? = some e' by simpa using he'))
            obtain ⟨hj1, hj2⟩ := hj
            obtain ⟨hi1, hi2⟩ := hi
            rcases Nat.lt_or_gt_of_ne hij with hlt | hlt
            · exact hpw j i hj1 hi1 hlt (by rw [hj2, hi2, g4, hk'])
            · exact hpw i j hi1 hj1 hlt (by rw [hj2, hi2, g4, hk'])
          simp [hne]

theorem dir_nodup {es : Array MapEntry} {clk : Nat} {d : Dr} (h2 : MapKept.Stamped es clk) (h3 : es.toList.map (fun e => (e.key, e.val)) = d.map (fun p => (Value.string p.1, ptr p.2))) : d.Pairwise (fun p q => p.1 ≠ q.1) := by
  have hpw := ((MapKept.stamped_iff es clk).1 h2).2.2
  have h4 : es.toList.map (·.key) = d.map (fun p => Value.string p.1) := by
    have := congrArg (List.map Prod.fst) h3
    simpa [List.map_map, Function.comp_def] using this
  have h5 : (es.toList.map (·.key)).Pairwise (· ≠ ·) := by rw [List.pairwise_map]; exact hpw
  rw [h4, List.pairwise_map] at h5
  exact h5.imp (fun hne he => hne (by rw [he]))
theorem DirAt.nodup {w : World} {m : Nat} {d : Dr} (h : DirAt w m d) : d.Pairwise (fun p q => p.1 ≠ q.1) := by
  obtain ⟨es, clk, h1, h2, h3⟩ := h; exact dir_nodup h2 h3

theorem erase_ddel (nm : Nm) (b : Nat) : ∀ (d : Dr) (j : Nat), d.Pairwise (fun p q => p.1 ≠ q.1) → d[j]? = some (nm, b) → d.eraseIdx j = ddel d nm
  | [], j, _, h => by simp at h
  | p :: d, 0, hp, h => by
    simp only [List.getElem?_cons_zero, Option.some.injEq] at h
    subst h
    have h1 := (List.pairwise_cons.1 hp).1
    simp only [List.eraseIdx_zero, List.tail_cons, ddel, List.filter_cons]
    simp only [ne_eq, not_true_eq_false, decide_false, Bool.false_eq_true, if_false]
    exact (List.filter_eq_self.2 (fun q hq => by simpa using (h1 q hq).symm)).symm
  | p :: d, j + 1, hp, h => by
    obtain ⟨h1, h2⟩ := List.pairwise_cons.1 hp
    have hj : d[j]? = some (nm, b) := by simpa using h
    have hne : p.1 ≠ nm := h1 _ (List.mem_of_getElem? hj)
    have ih := erase_ddel nm b d j h2 hj
    simp only [List.eraseIdx_cons_succ, ih, ddel, List.filter_cons]
    simp [hne]

theorem ddel_none {d : Dr} {nm : Nm} (h : dget d nm = none) : ddel d nm = d := by
  simp only [dget, Option.map_eq_none_iff, List.find?_eq_none] at h
  exact List.filter_eq_self.2 (fun q hq => by simpa using h q hq)

theorem run_delete_dir {w : World} {m : Nat} {d : Dr} (h : DirAt w m d) (nm : Nm) (ty : TypeId) :
    ∃ es clk, (Builtin.delete_ #[62, 9] ty #[.map (some m), .string nm]).run Tryz.prog w = .ok (.tuple #[]) (setBlock w m (.map es clk)) ∧ DirAt (setBlock w m (.map es clk)) m (ddel d nm) := by
  obtain ⟨es, clk, h1, h2, h3⟩ := h
  have hu : Tryz.prog.underlying 62 = some (.map 9 78) := by kernel_rfl
  have hs : Tryz.prog.underlying 9 = some .string := by kernel_rfl
  have hk : MapKept.IsKey .string (.string nm) := by simp [MapKept.IsKey]
  rcases find_pairs nm es.toList d 0 h3 with ⟨g1, g2⟩ | ⟨j, e, b', g1, g2, g3, g4, g5, g6, g7⟩
  · refine ⟨es, clk, ?_, _, _, hp_blk_same h1, h2, by rw [ddel_none g2]; exact h3⟩
    simp [Builtin.delete_, run_underlying hu, MapKept.run_getObj_map h1, MapKept.run_checkKey hs hk, MapKept.run_findKey hs g1, MapKept.run_setObj_map _ h1, Result.andThen, setBlock]
  · refine ⟨es.eraseIdxIfInBounds j, clk, ?_, _, _, hp_blk_same h1, MapKept.stamped_erase h2 j, ?_⟩
    · simp [Builtin.delete_, run_underlying hu, MapKept.run_getObj_map h1, MapKept.run_checkKey hs hk, MapKept.run_findKey hs g1, MapKept.run_setObj_map _ h1, Result.andThen, setBlock]
    · rw [← erase_ddel nm b' d j (dir_nodup h2 h3) g3]
      have he : (es.eraseIdxIfInBounds j).toList = es.toList.eraseIdx j := by
        have hj : j < es.size := by simpa using (List.getElem?_eq_some_iff.1 g2).1
        simp [Array.eraseIdxIfInBounds, hj]
      rw [he, Go.ChangeMaps.map_eraseIdx, Go.ChangeMaps.map_eraseIdx, h3]

/-- A map is ranged over by the iterator in block r: left are the entries that have not come. -/
def IterAt (w : World) (r m : Nat) (d left : Dr) : Prop :=
  ∃ es clk c0 seen, w.heap[m]? = some (.map es clk) ∧ w.heap[r]? = some (.mapIter (some m) clk seen c0) ∧ MapKept.Stamped es clk ∧ clk ≤ c0 ∧
    es.toList.map (fun e => (e.key, e.val)) = d.map (fun p => (Value.string p.1, ptr p.2)) ∧
    (leftOf es seen).toList.map (fun e => (e.key, e.val)) = left.map (fun p => (Value.string p.1, ptr p.2))

theorem run_range_dir {w : World} {m : Nat} {d : Dr} (h : DirAt w m d) :
    ∃ o, (Instr.range 62 (.map (some m))).run Tryz.prog w = .ok (ptr w.heap.size) (w.alloc o) ∧ IterAt (w.alloc o) w.heap.size m d d ∧ ∀ cs e fr, o ≠ .cells cs e fr := by
  obtain ⟨es, clk, h1, h2, h3⟩ := h
  have hu : Tryz.prog.underlying 62 = some (.map 9 78) := by kernel_rfl
  refine ⟨.mapIter (some m) clk #[] clk, run_range_map w 62 9 78 m es clk hu h1, ⟨es, clk, clk, #[], hp_old h1, hp_new _ _, h2, Nat.le_refl _, h3, ?_⟩, by simp⟩
  have : leftOf es #[] = es := by simp [leftOf]
  rw [this]; exact h3

theorem left_push {es : Array MapEntry} {clk : Nat} {seen : Array Nat} {e : MapEntry} (h2 : MapKept.Stamped es clk) (he : e ∈ (leftOf es seen).toList) :
    ∃ i, (leftOf es seen).toList[i]? = some e ∧ (leftOf es (seen.push e.born)).toList = (leftOf es seen).toList.eraseIdx i := by
  have hnd := ((MapKept.stamped_iff es clk).1 h2).2.1
  have e1 : (leftOf es (seen.push e.born)).toList = (leftOf es seen).toList.filter (fun x => decide (x.born ≠ e.born)) := by
    simp only [leftOf, Array.toList_filter, List.filter_filter]
    apply List.filter_congr
    intro x _
    rw [Bool.eq_iff_iff]
    simp [and_comm]
  have hndl : ((leftOf es seen).toList.map (·.born)).Nodup := by
    simp only [leftOf, Array.toList_filter]
    exact (List.filter_sublist.map _).nodup hnd
  obtain ⟨i, hi⟩ := List.getElem?_of_mem he
  refine ⟨i, hi, ?_⟩
  rw [e1]
  generalize (leftOf es seen).toList = L at *
  clear e1 he h2 hnd
  induction L generalizing i with
  | nil => simp at hi
  | cons x L ih =>
    rw [List.map_cons, List.nodup_cons] at hndl
    cases i with
    | zero =>
      simp only [List.getElem?_cons_zero, Option.some.injEq] at hi
      subst hi
      simp only [List.filter_cons, ne_eq, not_true_eq_false, decide_false, Bool.false_eq_true, if_false, List.eraseIdx_zero, List.tail_cons]
      exact List.filter_eq_self.2 (fun y hy => by
        have : y.born ≠ x.born := fun hc => hndl.1 (hc ▸ List.mem_map_of_mem hy)
        simpa using this)
    | succ i =>
      have hi' : L[i]? = some e := by simpa using hi
      have hne : x.born ≠ e.born := fun hc => hndl.1 (hc ▸ List.mem_map_of_mem (List.mem_of_getElem? hi'))
      simp only [List.filter_cons, List.eraseIdx_cons_succ]
      rw [if_pos (by simpa using hne), ih i hndl.2 hi']

theorem run_next_dir {w : World} {r m : Nat} {d left : Dr} (h : IterAt w r m d left) (ty : TypeId) :
    (left = [] ∧ (Instr.next (ptr r) false ty).run Tryz.prog w = .ok (.tuple #[.bool false]) w) ∨
    ∃ i n b w1 o, left[i]? = some (n, b) ∧ (w1 = w ∨ w1 = w.drew) ∧ (Instr.next (ptr r) false ty).run Tryz.prog w = .ok (.tuple #[.bool true, .string n, ptr b]) (setBlock w1 r o) ∧
      IterAt (setBlock w1 r o) r m d (left.eraseIdx i) ∧ (Instr.entry (ptr r)).run Tryz.prog (setBlock w1 r o) = .ok (.tuple #[.string n, ptr b]) (setBlock w1 r o) ∧ ∀ cs e fr, o ≠ .cells cs e fr := by
  obtain ⟨es, clk, c0, seen, h1, hr, h2, hc, h3, h4⟩ := h
  have hold : ∀ x ∈ es.toList, x.born < clk := ((MapKept.stamped_iff es clk).1 h2).1
  have hnd := ((MapKept.stamped_iff es clk).1 h2).2.1
  rcases run_next_at (P := Tryz.prog) w ty r m clk c0 seen es clk hr h1 hold hc with ⟨g1, g2⟩ | ⟨e, he, w1, hw1, g⟩
  · left
    refine ⟨?_, g2⟩
    have : (leftOf es seen).toList = [] := by simpa using g1
    rw [this] at h4
    simpa using h4.symm
  · right
    obtain ⟨i, hi, hp⟩ := left_push h2 he
    have h4i := congrArg (fun l => l[i]?) h4
    simp only [List.getElem?_map, hi, Option.map_some] at h4i
    cases hl : left[i]? with
    | none => rw [hl] at h4i; simp at h4i
    | some p =>
      rw [hl] at h4i
      simp only [Option.map_some, Option.some.injEq, Prod.mk.injEq] at h4i
      have hr1 : w1.heap[r]? = some (.mapIter (some m) clk seen c0) := by rcases hw1 with rfl | rfl <;> exact hr
      have hm1 : w1.heap[m]? = some (.map es clk) := by rcases hw1 with rfl | rfl <;> exact h1
      have hne : m ≠ r := by rintro rfl; rw [h1] at hr; cases hr
      refine ⟨i, p.1, p.2, w1, .mapIter (some m) clk (seen.push e.born) clk, hl, hw1, ?_, ⟨es, clk, clk, seen.push e.born, hp_blk_ne hm1 hne, hp_blk_same hr1, h2, Nat.le_refl _, h3, ?_⟩, ?_, by simp⟩
      · rw [← h4i.1, ← h4i.2]; exact g
      · rw [hp, Go.ChangeMaps.map_eraseIdx, Go.ChangeMaps.map_eraseIdx, h4]
      · have := run_entry_at (P := Tryz.prog) (setBlock w1 r (.mapIter (some m) clk (seen.push e.born) clk)) r m clk seen es clk e (hp_blk_same hr1) (hp_blk_ne hm1 hne) (mem_left he).1 hnd
        rw [← h4i.1, ← h4i.2]; exact this

end Go.Proofs.YthjilhjdnefmdaaGreatDoor
/- The store's names, small calls without memory. Conditions: none. -/
namespace Go.Proofs.YthjilhjdnefmdaaGreatDoor
open Go.RowKit
def goodC (i : Nat) (c : UInt8) : Bool := (97 ≤ c && c ≤ 122) || (i != 0 && (c == 46 || (48 ≤ c && c ≤ 57)))
def goodN (s : Nm) : Bool := (List.range s.size).all (fun i => goodC i (s.data.toList.getD i 0)) && s.size != 0 && s.size ≤ 30

theorem conv_s (w : World) (s : ByteArray) : (convert 9 27 (.string s)).run Tryz.prog w = .ok (.slice (some ⟨w.heap.size, 0, none⟩) s.size (grownCap w s.size 0 5)) (Lib.bytesWorld w 5 s) :=
  Lib.run_convert_string_bytes w 9 27 5 s (u := .string) (by kernel_rfl) (by kernel_rfl) (by kernel_rfl)
theorem below_bytes (w : World) (s : ByteArray) : Below w.heap.size w (Lib.bytesWorld w 5 s) :=
  ⟨rfl, rfl, rfl, by rw [Lib.bytesWorld_size]; omega, fun k hk => Lib.bytesWorld_at_old w 5 s k hk⟩
theorem goodC_iff (i : Nat) (c : UInt8) : goodC i c = true ↔ (97 ≤ (c.toNat : Int) ∧ (c.toNat : Int) ≤ 122) ∨ (i ≠ 0 ∧ ((c.toNat : Int) = 46 ∨ (48 ≤ (c.toNat : Int) ∧ (c.toNat : Int) ≤ 57))) := by
  have h46 : c = 46 ↔ (c.toNat : Int) = 46 := by rw [← UInt8.toNat_inj]; simp; omega
  simp only [goodC, Bool.or_eq_true, Bool.and_eq_true, decide_eq_true_eq, bne_iff_ne, beq_iff_eq, UInt8.le_iff_toNat_le, h46]
  have e1 : UInt8.toNat 97 = 97 := rfl
  have e2 : UInt8.toNat 122 = 122 := rfl
  have e3 : UInt8.toNat 48 = 48 := rfl
  have e4 : UInt8.toNat 57 = 57 := rfl
  rw [e1, e2, e3, e4]
  omega
theorem goodN_no {s : Nm} {k : Nat} (hk : k < s.size) (h : ¬ goodC k (s.data.toList.getD k 0) = true) : goodN s = false := by
  have : (List.range s.size).all (fun i => goodC i (s.data.toList.getD i 0)) = false := by
    rw [List.all_eq_false]; exact ⟨k, by simpa using hk, h⟩
  unfold goodN; rw [this]; rfl
theorem goodN_end {s : Nm} (h : ∀ j < s.size, goodC j (s.data.toList.getD j 0) = true) : goodN s = (s.size != 0 && decide (s.size ≤ 30)) := by
  have : (List.range s.size).all (fun i => goodC i (s.data.toList.getD i 0)) = true := by
    rw [List.all_eq_true]; intro j hj; exact h j (by simpa using hj)
  unfold goodN; rw [this]; simp
attribute [local go_sem] conv_s
set_option maxRecDepth 100000 in
set_option maxHeartbeats 400000 in
theorem good_t (s : Nm) (w : World) (hs : s.size ≤ maxLen) : Calls Tryz.prog 18 #[.string s] w fun e w' => e = .returned (.bool (goodN s)) ∧ Below w.heap.size w w' := by
  unfold maxLen at hs
  have hb := below_bytes w s
  have hcell := fun j (h : j < s.size) => Lib.bytesWorld_cell w 5 s j h
  go_enter Tryz.func18, Tryz.ntmps18
  go_wp2
  generalize Lib.bytesWorld w 5 s = W at *
  go_loop [10] (fun i => ∃ k : Nat, k ≤ s.size ∧ i = .int .i64 k ∧ ∀ j < k, goodC j (s.data.toList.getD j 0) = true) (fun i => s.size - (intOf i).toNat)
  case atStart => exact ⟨0, Nat.zero_le _, rfl, fun _ h => by omega⟩
  case round =>
    obtain ⟨k, hk, rfl, hg⟩ := hrel
    by_cases hlt : k < s.size
    · have hc := hcell k hlt
      clear hcell
      have HG := Lib.hid hg; clear hg
      have HN := Lib.hid (@goodN_no s k hlt)
      have HC := Lib.hid (goodC_iff k (s.data.toList.getD k 0))
      have HS : Hid (goodC k (s.data.toList.getD k 0) = true → ∀ j < k + 1, goodC j (s.data.toList.getD j 0) = true) := Lib.hid (fun h j hj => by
        rcases Nat.lt_or_ge j k with h' | h'
        · exact HG.out j h'
        · have : j = k := by omega
          subst this; exact h)
      clear HG
      generalize s.data.toList.getD k 0 = c at *
      by_cases h1 : (97 : Int) ≤ c.toNat <;> by_cases h2 : (c.toNat : Int) ≤ 122 <;> by_cases h3 : (c.toNat : Int) = 46 <;> by_cases h4 : (48 : Int) ≤ c.toNat <;> by_cases h5 : (c.toNat : Int) ≤ 57
      all_goals try (exfalso; omega)
      all_goals
        have b3 : ((c.toNat : Int) == 46) = decide ((c.toNat : Int) = 46) := rfl
        simp only [h3, decide_true, decide_false] at b3
        have H3 := Lib.hid h3; clear h3
      all_goals rcases Nat.eq_zero_or_pos k with rfl | h6
      all_goals try (have b6 : ((k : Int) == 0) = false := beq_eq_false_iff_ne.2 (by omega))
      all_goals go_wp2
      all_goals have h3 := H3.out
      all_goals first
        | (go_ret; rw [HN.out (by rw [HC.out]; omega)]; exact ⟨rfl, hb⟩)
        | exact ⟨⟨k + 1, by omega, by go_num, HS.out (by rw [HC.out]; omega)⟩, by simp [intOf]; omega⟩
        | exact ⟨⟨0 + 1, by omega, by go_num, HS.out (by rw [HC.out]; omega)⟩, by simp [intOf]; omega⟩
    · have : k = s.size := by omega
      subst this
      have HE := Lib.hid (goodN_end hg); clear hg hcell
      by_cases he : s.toList = []
      · have hz : s.size = 0 := by
          rw [ByteArray.toList_eq] at he
          have := congrArg List.length he
          simpa using this
        have he' : s.toList.isEmpty = true := by rw [he]; rfl
        have HZ := Lib.hid hz; clear hz he
        go_wp2
        go_ret
        rw [HE.out, HZ.out]
        exact ⟨rfl, hb⟩
      · have hz : (s.size != 0) = true := by
          rw [ByteArray.toList_eq] at he
          rw [bne_iff_ne]; intro h0; apply he
          exact List.eq_nil_of_length_eq_zero (by simpa using h0)
        have he' : s.toList.isEmpty = false := by
          cases hh : s.toList with
          | nil => exact absurd hh he
          | cons _ _ => rfl
        have HZ := Lib.hid hz; clear hz he
        have hd : decide (s.size ≤ 30) = decide ((s.size : Int) ≤ 30) := decide_eq_decide.2 ⟨fun h => by omega, fun h => by omega⟩
        have HD := Lib.hid hd; clear hd
        go_wp2
        go_ret
        rw [HE.out, HZ.out, HD.out]
        exact ⟨rfl, hb⟩
end Go.Proofs.YthjilhjdnefmdaaGreatDoor
/- The store's model, and when a world's blocks hold a store. Conditions: none. -/
namespace Go.Proofs.YthjilhjdnefmdaaGreatDoor
open Go.RowKit
open Go.ChangeMaps (setBlock)

structure Fl where
  now : List UInt8
  sure : List UInt8
structure St where
  room : Int
  files : List Fl
  now : Dr
  sure : Dr
  dark : Bool
  count : Int
  left : Int
  keep : Int

def er (n : Int) : Value := .int .i64 n
def errv (n : Int) : Value := .int .i64 n

def fl (st : St) (i : Nat) : Fl := st.files.getD i ⟨[], []⟩
def usedA (st : St) : Int := (st.now.map fun q => (16 : Int) + (fl st q.2).now.length).sum
def freeA (st : St) : Int := st.room - usedA st
def reach (st : St) (i : Nat) : Bool := (st.now ++ st.sure).any fun q => q.2 == i
def afterFail (k : Int) (f : Fl) : Fl :=
  let s := if f.now.take f.sure.length = f.sure then f.now.take (f.sure.length + (min (max k 0) ((f.now.length : Int) - f.sure.length)).toNat) else f.sure
  ⟨s, s⟩
def failA (st : St) (k : Int) : St :=
  if st.dark then st else { st with files := st.files.mapIdx (fun i f => if reach st i then afterFail k f else f), now := st.sure, dark := true }
def tick (st : St) : St := { st with count := wrap64 (st.count + 1) }
def countedA (st : St) (does : St → St) : St × Int :=
  if 0 < st.left then
    if wrap64 (st.left - 1) = 0 then (failA { tick st with left := 0 } st.keep, 9)
    else (does { tick st with left := wrap64 (st.left - 1) }, 0)
  else (does (tick st), 0)
def knownA (st : St) (n : Nm) : Option Nat × Int :=
  if st.dark then (none, 9) else if goodN n = false then (none, 2) else match dget st.now n with
    | none => (none, 3)
    | some i => (some i, 0)
def newFile (st : St) (n : Nm) : St := { st with files := st.files ++ [⟨[], []⟩], now := dset st.now n st.files.length }
def setFl (st : St) (i : Nat) (f : Fl) : St := { st with files := st.files.set i f }

/-- What the model keeps. -/
structure Inv (st : St) : Prop where
  room : 0 ≤ st.room ∧ st.room ≤ 1073741824
  nown : st.now.length ≤ 67108864
  suren : st.sure.length ≤ 67108864
  big : ∀ f ∈ st.files, f.now.length ≤ 1073741824 ∧ f.sure.length ≤ 1073741824
  idx : ∀ q ∈ st.now ++ st.sure, q.2 < st.files.length

def FileAt (B : Nat) (w : World) (b : Nat) (f : Fl) : Prop :=
  ∃ vn vs, w.heap[b]? = some (.cells #[vn, vs] 82 (0, 0)) ∧ BS B w vn f.now ∧ BS B w vs f.sure
def toB (bl : List Nat) (d : Dr) : Dr := d.map fun q => (q.1, bl.getD q.2 0)
def storeObj (mn ms : Nat) (st : St) : Obj :=
  .cells #[.int .i64 st.room, .map (some mn), .map (some ms), .bool st.dark, .int .i64 st.count, .int .i64 st.left, .int .i64 st.keep] 64 (0, 0)

structure RepC (B : Nat) (w : World) (p mn ms : Nat) (bl : List Nat) (st : St) : Prop where
  blk : w.heap[p]? = some (storeObj mn ms st)
  now : DirAt w mn (toB bl st.now)
  sure : DirAt w ms (toB bl st.sure)
  ne : mn ≠ ms
  lp : B ≤ p
  lmn : B ≤ mn
  lms : B ≤ ms
  lbl : ∀ b ∈ bl, B ≤ b
  nd : bl.Nodup
  len : bl.length = st.files.length
  file : ∀ i (h : i < bl.length) f, st.files[i]? = some f → FileAt B w bl[i] f
  inv : Inv st
def Rep (B : Nat) (w : World) (p : Nat) (st : St) : Prop := ∃ mn ms bl, RepC B w p mn ms bl st

theorem dget_toB (bl : List Nat) (d : Dr) (n : Nm) : dget (toB bl d) n = (dget d n).map (bl.getD · 0) := by
  simp only [dget, toB, List.find?_map, Option.map_map]
  rfl
theorem dset_toB (bl : List Nat) (d : Dr) (n : Nm) (i : Nat) : dset (toB bl d) n (bl.getD i 0) = toB bl (dset d n i) := by
  simp only [dset, dget_toB, Option.isSome_map]
  split
  · simp only [toB, List.map_map]
    apply List.map_congr_left
    intro q _
    simp only [Function.comp]
    split <;> rfl
  · simp [toB]
theorem ddel_toB (bl : List Nat) (d : Dr) (n : Nm) : ddel (toB bl d) n = toB bl (ddel d n) := by
  simp only [ddel, toB, List.filter_map]
  rfl
theorem dget_mem {d : Dr} {n : Nm} {i : Nat} (h : dget d n = some i) : (n, i) ∈ d := by
  simp only [dget, Option.map_eq_some_iff] at h
  obtain ⟨q, hq, rfl⟩ := h
  have h1 := List.mem_of_find?_eq_some hq
  have h2 := List.find?_some hq
  simp at h2
  rw [← h2]; exact h1
theorem dset_mem {d : Dr} {n m : Nm} {i j : Nat} (h : (m, j) ∈ dset d n i) : (m = n ∧ j = i) ∨ (m, j) ∈ d := by
  unfold dset at h
  split at h
  · obtain ⟨q, hq, he⟩ := List.mem_map.1 h
    split at he
    · cases he; exact .inl ⟨rfl, rfl⟩
    · subst he; exact .inr hq
  · rcases List.mem_append.1 h with h | h
    · exact .inr h
    · simp at h; exact .inl h
theorem toB_grow {bl : List Nat} {d : Dr} {x : List Nat} (h : ∀ q ∈ d, q.2 < bl.length) : toB (bl ++ x) d = toB bl d := by
  apply List.map_congr_left
  intro q hq
  have := h q hq
  simp [List.getD, List.getElem?_append_left this]

section
variable {B : Nat} {w w' : World} {p mn ms : Nat} {bl : List Nat} {st : St}
theorem FileAt.same {b : Nat} {f : Fl} (h : FileAt B w b f) (hb : w'.heap[b]? = w.heap[b]?) (hs : ∀ v l, BS B w v l → BS B w' v l) : FileAt B w' b f := by
  obtain ⟨vn, vs, h1, h2, h3⟩ := h
  exact ⟨vn, vs, hb.trans h1, hs _ _ h2, hs _ _ h3⟩
theorem RepC.below (h : RepC B w p mn ms bl st) (s : Below w.heap.size w w') : RepC B w' p mn ms bl st where
  blk := (s.block p (hp_lt h.blk)).trans h.blk
  now := h.now.same (s.block mn h.now.lt)
  sure := h.sure.same (s.block ms h.sure.lt)
  ne := h.ne
  lp := h.lp
  lmn := h.lmn
  lms := h.lms
  lbl := h.lbl
  nd := h.nd
  len := h.len
  file := fun i hi f hf => by
    have hF := h.file i hi f hf
    have hlt : bl[i] < w.heap.size := by obtain ⟨_, _, h1, _⟩ := hF; exact hp_lt h1
    exact hF.same (s.block _ hlt) (fun v l hv => RS.below hv s (Nat.le_trans h.lp (Nat.le_of_lt (hp_lt h.blk))))
  inv := h.inv
theorem RepC.le (h : RepC B w p mn ms bl st) : B ≤ w.heap.size := Nat.le_trans h.lp (Nat.le_of_lt (hp_lt h.blk))
theorem RepC.cells (h : RepC B w p mn ms bl st) : w.cell? ⟨p, 0, none⟩ = some (.int .i64 st.room) ∧ w.cell? ⟨p, 1, none⟩ = some (.map (some mn)) ∧ w.cell? ⟨p, 2, none⟩ = some (.map (some ms)) ∧
    w.cell? ⟨p, 3, none⟩ = some (.bool st.dark) ∧ w.cell? ⟨p, 4, none⟩ = some (.int .i64 st.count) ∧ w.cell? ⟨p, 5, none⟩ = some (.int .i64 st.left) ∧ w.cell? ⟨p, 6, none⟩ = some (.int .i64 st.keep) := by
  refine ⟨?_, ?_, ?_, ?_, ?_, ?_, ?_⟩ <;> rw [cell_of h.blk] <;> rfl
theorem RepC.free (h : RepC B w p mn ms bl st) (i : Nat) : w.frozen? ⟨p, i, none⟩ = false := free_of h.blk i
theorem RepC.fileAt (h : RepC B w p mn ms bl st) {i : Nat} (hi : i < st.files.length) : FileAt B w (bl.getD i 0) (fl st i) := by
  have hi' : i < bl.length := by rw [h.len]; exact hi
  have := h.file i hi' (fl st i) (by simp [fl, hi])
  simpa [List.getD, hi'] using this
/-- The store's own cells turn; all else stands. -/
theorem RepC.turn (h : RepC B w p mn ms bl st) {st' : St} {mn' ms' : Nat} (hb : w'.heap[p]? = some (storeObj mn' ms' st')) (hne : ∀ k x, k ≠ p → w.heap[k]? = some x → w'.heap[k]? = some x)
    (hf : st'.files = st.files) (hn : st'.now = st.now) (hs : st'.sure = st.sure) (hr : st'.room = st.room) (hm : mn' = mn) (hms : ms' = ms) (hle : ∀ v l, BS B w v l → BS B w' v l) : RepC B w' p mn' ms' bl st' := by
  subst hm hms
  have hpm : mn' ≠ p := by rintro rfl; exact h.now.nocells _ _ _ h.blk
  have hps : ms' ≠ p := by rintro rfl; exact h.sure.nocells _ _ _ h.blk
  refine ⟨hb, ?_, ?_, h.ne, h.lp, h.lmn, h.lms, h.lbl, h.nd, by rw [hf]; exact h.len, fun i hi f hfi => ?_, ⟨by rw [hr]; exact h.inv.room, by rw [hn]; exact h.inv.nown, by rw [hs]; exact h.inv.suren, by rw [hf]; exact h.inv.big, by rw [hn, hs, hf]; exact h.inv.idx⟩⟩
  · rw [hn]
    obtain ⟨es, clk, h1, h2⟩ := h.now
    exact ⟨es, clk, hne _ _ hpm h1, h2⟩
  · rw [hs]
    obtain ⟨es, clk, h1, h2⟩ := h.sure
    exact ⟨es, clk, hne _ _ hps h1, h2⟩
  · obtain ⟨vn, vs, h1, h2, h3⟩ := h.file i hi f (by rw [← hf]; exact hfi)
    have : bl[i] ≠ p := by
      intro e; rw [e] at h1; rw [h.blk] at h1; simp [storeObj] at h1
    exact ⟨vn, vs, hne _ _ this h1, hle _ _ h2, hle _ _ h3⟩
end

/-! ### Calls that only look -/
section
variable {B : Nat} {w : World} {p mn ms : Nat} {bl : List Nat} {st : St}
theorem neq_map (w : World) (r : Option Nat) : (binOp .neq 62 (.map r) (.map none)).run Tryz.prog w = .ok (.bool (!r.isNone)) w := run_neq_map_nil (P := Tryz.prog) w 62 9 78 r (by kernel_rfl)
theorem eql_map (w : World) (r : Option Nat) : (binOp .eql 62 (.map r) (.map none)).run Tryz.prog w = .ok (.bool r.isNone) w := run_eql_map_nil (P := Tryz.prog) w 62 9 78 r (by kernel_rfl)
attribute [local go_sem] neq_map eql_map

set_option maxRecDepth 100000 in
theorem on_t (h : RepC B w p mn ms bl st) : Calls Tryz.prog 25 #[.pointer (some ⟨p, 0, none⟩)] w fun e w' => e = .returned (.bool (!st.dark)) ∧ w = w' := by
  obtain ⟨c0, c1, c2, c3, c4, c5, c6⟩ := h.cells
  clear h
  go_enter Tryz.func25, Tryz.ntmps25
  go_wp2
  go_ret
  exact ⟨rfl, rfl⟩
set_option maxRecDepth 100000 in
theorem power_t (h : RepC B w p mn ms bl st) : Calls Tryz.prog 62 #[.pointer (some ⟨p, 0, none⟩)] w fun e w' => e = .returned (errv (if st.dark then 9 else 0)) ∧ w = w' := by
  obtain ⟨c0, c1, c2, c3, c4, c5, c6⟩ := h.cells
  clear h
  cases hd : st.dark <;> rw [hd] at c3 <;> clear hd
  all_goals
    go_enter Tryz.func62, Tryz.ntmps62
    go_wp2
    go_ret
    exact ⟨rfl, rfl⟩
set_option maxRecDepth 100000 in
theorem power_nil (w : World) : Calls Tryz.prog 62 #[.pointer none] w fun e w' => e = .returned (errv 1) ∧ w = w' := by
  go_enter Tryz.func62, Tryz.ntmps62
  go_wp2
  go_ret
  exact ⟨rfl, rfl⟩
end
end Go.Proofs.YthjilhjdnefmdaaGreatDoor
/- The store's inner calls: known, free, counted. Conditions: none. -/
namespace Go.Proofs.YthjilhjdnefmdaaGreatDoor
open Go.RowKit
open Go.ChangeMaps (setBlock)
section
variable {B : Nat} {w : World} {p mn ms : Nat} {bl : List Nat} {st : St}
def ptrO (bl : List Nat) : Option Nat → Value
  | some i => ptr (bl.getD i 0)
  | none => .pointer none

set_option maxRecDepth 100000 in
theorem known_nil (w : World) (nm : Nm) : Calls Tryz.prog 48 #[.pointer none, .string nm] w fun e w' => e = .returned (.tuple #[.pointer none, errv 1]) ∧ w = w' := by
  go_enter Tryz.func48, Tryz.ntmps48
  go_wp2_with fail
  refine (power_nil w).mono ?_
  rintro e w' ⟨rfl, rfl⟩
  unfold errv
  go_wp2
  go_ret2
  exact ⟨rfl, rfl⟩

set_option maxRecDepth 100000 in
theorem known_t (h : RepC B w p mn ms bl st) (nm : Nm) (hs : nm.size ≤ maxLen) : Calls Tryz.prog 48 #[.pointer (some ⟨p, 0, none⟩), .string nm] w fun e w' =>
    e = .returned (.tuple #[ptrO bl (knownA st nm).1, errv (knownA st nm).2]) ∧ Below w.heap.size w w' := by
  cases hd : st.dark with
  | true =>
    have hkn : knownA st nm = (none, 9) := by simp [knownA, hd]
    have HK := Lib.hid hkn; clear hkn
    go_enter Tryz.func48, Tryz.ntmps48
    go_wp2_with fail
    refine (power_t h).mono ?_
    rintro e w' ⟨rfl, rfl⟩
    rw [hd]
    unfold errv
    go_wp2
    go_ret2
    rw [HK.out]
    exact ⟨rfl, Below.refl _ _⟩
  | false =>
    have hd' := Lib.hid hd
    go_enter Tryz.func48, Tryz.ntmps48
    go_wp2_with fail
    refine (power_t h).mono ?_
    rintro e w' ⟨rfl, rfl⟩
    rw [hd]
    clear hd
    unfold errv
    have H := Lib.hid h; clear h
    go_wp2_with fail
    refine (good_t nm _ hs).mono ?_
    rintro e w1 ⟨rfl, hb⟩
    have h1 := H.out.below hb
    cases hg : goodN nm with
    | false =>
      clear h1
      have hkn : knownA st nm = (none, 2) := by simp [knownA, hd'.out, hg]
      have HK := Lib.hid hkn; clear hkn
      have hG := Lib.hid hg; clear hg
      go_wp2
      go_ret2
      rw [HK.out]
      exact ⟨rfl, hb⟩
    | true =>
      have hG := Lib.hid hg; clear hg
      have hl := run_lookup_dir h1.now nm
      rw [dget_toB] at hl
      obtain ⟨c0, c1, c2, c3, c4, c5, c6⟩ := h1.cells
      have H1 := Lib.hid h1; clear h1
      cases hk : dget st.now nm with
      | none =>
        rw [hk] at hl
        have hkn : knownA st nm = (none, 3) := by simp [knownA, hd'.out, hG.out, hk]
        have HK := Lib.hid hkn; clear hkn
        have hK := Lib.hid hk; clear hk
        simp only [Option.map_none] at hl
        go_wp2
        go_ret2
        rw [HK.out]
        exact ⟨rfl, hb⟩
      | some i =>
        rw [hk] at hl
        have hkn : knownA st nm = (some i, 0) := by simp [knownA, hd'.out, hG.out, hk]
        have HK := Lib.hid hkn; clear hkn
        have hK := Lib.hid hk; clear hk
        simp only [Option.map_some, ptr] at hl
        obtain ⟨b, hbi⟩ : ∃ b, bl.getD i 0 = b := ⟨_, rfl⟩
        rw [hbi] at hl
        have hB := Lib.hid hbi; clear hbi
        go_wp2
        go_ret2
        rw [HK.out]
        simp only [ptrO, ptr]
        rw [hB.out]
        exact ⟨rfl, hb⟩

def usedL (st : St) (l : Dr) : Int := (l.map fun q => (16 : Int) + (fl st q.2).now.length).sum
theorem usedL_erase (st : St) : ∀ (l : Dr) (i : Nat) (q : Nm × Nat), l[i]? = some q → usedL st l = usedL st (l.eraseIdx i) + (16 + (fl st q.2).now.length)
  | [], _, _, h => by simp at h
  | x :: l, 0, q, h => by
    simp at h; subst h
    simp only [usedL, List.map_cons, List.sum_cons, List.eraseIdx_zero, List.tail_cons]; omega
  | x :: l, i + 1, q, h => by
    have ih := usedL_erase st l i q (by simpa using h)
    simp only [usedL, List.map_cons, List.sum_cons, List.eraseIdx_cons_succ] at ih ⊢
    omega
theorem fl_big (h : Inv st) (i : Nat) : (fl st i).now.length ≤ 1073741824 ∧ (fl st i).sure.length ≤ 1073741824 := by
  unfold fl
  cases hf : st.files[i]? with
  | none => simp [List.getD, hf]
  | some f => simp only [List.getD, hf, Option.getD_some]; exact h.big f (List.mem_of_getElem? hf)
theorem usedL_le (h : Inv st) : ∀ l : Dr, 0 ≤ usedL st l ∧ usedL st l ≤ (l.length : Int) * 1073741840
  | [] => by simp [usedL]
  | x :: l => by
    have ih := usedL_le h l
    have hx := (fl_big h x.2).1
    simp only [usedL, List.map_cons, List.sum_cons, List.length_cons] at ih ⊢
    omega

set_option maxRecDepth 100000 in
set_option maxHeartbeats 400000 in
theorem free_t (h : RepC B w p mn ms bl st) : Calls Tryz.prog 74 #[.pointer (some ⟨p, 0, none⟩)] w fun e w' => e = .returned (errv (freeA st)) ∧ Below w.heap.size w w' := by
  obtain ⟨c0, c1, c2, c3, c4, c5, c6⟩ := h.cells
  obtain ⟨o, ho, hit, hno⟩ := run_range_dir h.now
  unfold ptr at ho
  have hB0 : Below w.heap.size w (w.alloc o) := (Below.refl _ _).alloc (Nat.le_refl _) _
  have H := Lib.hid h; clear h
  have HU := Lib.hid (usedL_le H.out.inv)
  have HR := Lib.hid H.out.inv.room
  have HN := Lib.hid H.out.inv.nown
  have hroom : st.room = freeA st + usedL st st.now := by unfold freeA usedA usedL; omega
  have HRM := Lib.hid hroom; clear hroom
  have HNO := Lib.hid hno; clear hno
  go_enter Tryz.func74, Tryz.ntmps74
  go_wp2
  clear ho c0 c1 c2 c3 c4 c5 c6
  generalize w.alloc o = w1 at *
  go_loopg [3] st.now.length (fun g n wr => ∃ left : Dr, IterAt wr w.heap.size mn (toB bl st.now) (toB bl left) ∧ (∀ q ∈ left, q ∈ st.now) ∧ left.length ≤ g ∧ g ≤ st.now.length ∧ n = .int .i64 (freeA st + usedL st left) ∧ Below w.heap.size w wr)
  case atStart => exact ⟨st.now, hit, fun _ h => h, Nat.le_refl _, Nat.le_refl _, by rw [HRM.out], hB0⟩
  case round =>
    clear hit hB0
    obtain ⟨left, hit, hmem, hll, hgn, rfl, hb⟩ := hrel
    rcases run_next_dir hit 0 with ⟨hl, hn⟩ | ⟨i, n, b, w1', o', hi, hw, hn, hit', hent, hno'⟩
    · have hl' : left = [] := by simpa [toB] using hl
      subst hl'
      have e0 : freeA st + usedL st [] = freeA st := by simp [usedL]
      rw [e0]
      unfold ptr at hn
      clear hl hll hmem
      go_wp2
      go_ret
      exact ⟨rfl, hb⟩
    · obtain ⟨q, hq, hqn, hqb⟩ : ∃ q, left[i]? = some q ∧ q.1 = n ∧ bl.getD q.2 0 = b := by
        simp only [toB, List.getElem?_map, Option.map_eq_some_iff] at hi
        obtain ⟨q, h1, h2⟩ := hi
        cases h2; exact ⟨q, h1, rfl, rfl⟩
      have hqm := hmem q (List.mem_of_getElem? hq)
      have hW : Below w.heap.size w (setBlock w1' w.heap.size o') := by
        have : Below w.heap.size w w1' := by rcases hw with rfl | rfl; exact hb; exact hb.drew
        exact ⟨this.os, this.tape, this.output, by simp [setBlock]; exact this.size, fun k hk => by
          show (w1'.heap.setIfInBounds w.heap.size o')[k]? = _
          rw [Array.getElem?_setIfInBounds, if_neg (by omega)]; exact this.block k hk⟩
      have hlt := H.out.inv.idx q (List.mem_append_left _ hqm)
      obtain ⟨vn, vs, hf, ⟨a, c, rfl, hc1, hc2, hc3⟩, -⟩ := (H.out.below hW).fileAt hlt
      rw [hqb] at hf
      have f0 : (setBlock w1' w.heap.size o').cell? ⟨b, 0, none⟩ = _ := cell_of hf 0
      simp only [List.length_map] at f0 hc1
      have hu := usedL_erase st left i q hq
      have hu2 := HU.out (left.eraseIdx i)
      have hlen : (left.eraseIdx i).length + 1 = left.length := by
        have := (List.getElem?_eq_some_iff.1 hq).1
        rw [List.length_eraseIdx]; rw [if_pos this]; omega
      have hbig := (fl_big H.out.inv q.2).1
      have hfr : freeA st + usedL st st.now = st.room := HRM.out.symm
      have hun := HU.out st.now
      have hrm := HR.out
      have hnn := HN.out
      unfold ptr at hn hent
      have hbd : -9223372036854775808 ≤ freeA st + usedL st (left.eraseIdx i) ∧ freeA st + usedL st (left.eraseIdx i) ≤ 9223372036854775807 := by omega
      have hx : freeA st + usedL st left - (16 + ((fl st q.2).now.length : Int)) = freeA st + usedL st (left.eraseIdx i) := by omega
      generalize (fl st q.2).now.length = L at *
      have HX : Hid (wrap64 (freeA st + usedL st left - (16 + (L : Int))) = freeA st + usedL st (left.eraseIdx i)) := Lib.hid (by rw [hx]; exact IntWalk.wrap64_in _ hbd)
      clear hx hu hu2 hbd hfr hun hrm hnn hc3 hi hq hqb hqn hlt hf
      have HM := Lib.hid hmem; clear hmem
      have HL := Lib.hid hlen; clear hlen
      go_wp2
      rw [HX.out]
      clear hn hent f0
      go_roundg (gk - 1)
      case measure => have := HL.out; omega
      case rel =>
        have := HL.out
        exact ⟨left.eraseIdx i, by rw [show toB bl (left.eraseIdx i) = (toB bl left).eraseIdx i from Go.ChangeMaps.map_eraseIdx _ _ _]; exact hit', fun q hq => HM.out q (List.mem_of_mem_eraseIdx hq), by omega, by omega, rfl, hW⟩
end
end Go.Proofs.YthjilhjdnefmdaaGreatDoor
/- The store's counted calls. Conditions: none. -/
namespace Go.Proofs.YthjilhjdnefmdaaGreatDoor
open Go.RowKit
open Go.ChangeMaps (setBlock)
/-- What is proved of Fail elsewhere. -/
def FailSaid : Prop := ∀ (B : Nat) (w : World) (p mn ms : Nat) (bl : List Nat) (st : St) (k : Int), RepC B w p mn ms bl st →
  Calls Tryz.prog 26 #[.pointer (some ⟨p, 0, none⟩), .int .i64 k] w fun e w' => e = .returned (.tuple #[]) ∧ Rep B w' p (failA st k) ∧ Stp [] B w w'

/-- The same store but for the counts. -/
structure Like (st st' : St) : Prop where
  room : st'.room = st.room
  files : st'.files = st.files
  now : st'.now = st.now
  sure : st'.sure = st.sure
  dark : st'.dark = st.dark

section
variable {B : Nat} {w : World} {p mn ms : Nat} {bl : List Nat} {st : St}
theorem RepC.set (h : RepC B w p mn ms bl st) {st' : St} (hl : Like st st') (i : Nat) (v : Value)
    (ho : (#[.int .i64 st.room, .map (some mn), .map (some ms), .bool st.dark, .int .i64 st.count, .int .i64 st.left, .int .i64 st.keep] : Array Value).setIfInBounds i v = #[.int .i64 st'.room, .map (some mn), .map (some ms), .bool st'.dark, .int .i64 st'.count, .int .i64 st'.left, .int .i64 st'.keep]) :
    RepC B (w.setCell ⟨p, i, none⟩ v) p mn ms bl st' := by
  refine h.turn (st' := st') ?_ (fun k x hk hx => hp_set_ne hx hk) hl.files hl.now hl.sure hl.room rfl rfl (fun v' l hv => ?_)
  · have := hp_set h.blk i v
    rw [this, ho]; rfl
  · refine BS.stp hv ((Stp.refl [] B w).setCell (p := ⟨p, i, none⟩) h.lp v (fun cs e fr hc => ?_))
    have hc' : w.heap[p]? = some (.cells cs e fr) := hc
    rw [h.blk] at hc'; simp only [storeObj, Option.some.injEq, Obj.cells.injEq] at hc'; exact .inl hc'.2.1.symm
theorem RepC.setStp (h : RepC B w p mn ms bl st) (i : Nat) (v : Value) : Stp [] B w (w.setCell ⟨p, i, none⟩ v) :=
  (Stp.refl [] B w).setCell (p := ⟨p, i, none⟩) h.lp v (fun cs e fr hc => by
    have hc' : w.heap[p]? = some (.cells cs e fr) := hc
    rw [h.blk] at hc'; simp only [storeObj, Option.some.injEq, Obj.cells.injEq] at hc'; exact .inl hc'.2.1.symm)

def Ended (f : Nat) (caps : Array Value) (B p : Nat) (w1 : World) (st2 : St) : Prop :=
  Calls Tryz.prog f caps w1 fun e w2 => e = .returned (.tuple #[]) ∧ Rep B w2 p st2 ∧ Stp [] B w1 w2
def CountedPost (B p : Nat) (w : World) (r : St × Int) (e : Ending) (w' : World) : Prop := e = .returned (errv r.2) ∧ Rep B w' p r.1 ∧ Stp [] B w w'

set_option maxRecDepth 100000 in
set_option maxHeartbeats 400000 in
theorem counted_t (hF : 0 < st.left → FailSaid) (h : RepC B w p mn ms bl st) (f : Nat) (caps : Array Value) (does : St → St)
    (hcf : ∀ w, (callFunc f caps).run Tryz.prog w = .ok (.enter f caps) w)
    (hd : ∀ w1 st1, RepC B w1 p mn ms bl st1 → Like st st1 → Stp [] B w w1 → Ended f caps B p w1 (does st1)) :
    Calls Tryz.prog 49 #[.pointer (some ⟨p, 0, none⟩), .func (.func f) #[] caps] w (CountedPost B p w (countedA st does)) := by
  obtain ⟨c0, c1, c2, c3, c4, c5, c6⟩ := h.cells
  have fr := h.free
  have h1 : RepC B (w.setCell ⟨p, 4, none⟩ (.int .i64 (wrap64 (st.count + 1)))) p mn ms bl (tick st) := h.set (st' := tick st) ⟨rfl, rfl, rfl, rfl, rfl⟩ 4 _ rfl
  have s1 := h.setStp 4 (.int .i64 (wrap64 (st.count + 1)))
  by_cases hl : 0 < st.left
  · have hdl : decide (0 < st.left) = true := decide_eq_true hl
    have HL := Lib.hid hl
    have h2 : RepC B ((w.setCell ⟨p, 4, none⟩ (.int .i64 (wrap64 (st.count + 1)))).setCell ⟨p, 5, none⟩ (.int .i64 (wrap64 (st.left - 1)))) p mn ms bl { tick st with left := wrap64 (st.left - 1) } := h1.set (st' := { tick st with left := wrap64 (st.left - 1) }) ⟨rfl, rfl, rfl, rfl, rfl⟩ 5 _ rfl
    have s2 := s1.tr (h1.setStp 5 (.int .i64 (wrap64 (st.left - 1))))
    by_cases hz : wrap64 (st.left - 1) = 0
    · have hb : (wrap64 (st.left - 1) == 0) = true := by rw [hz]; rfl
      have hca : countedA st does = (failA { tick st with left := wrap64 (st.left - 1) } st.keep, 9) := by simp [countedA, hl, hz]
      have HC := Lib.hid hca; clear hca
      have H2 := Lib.hid h2; have S2 := Lib.hid s2; have HD := Lib.hid hd
      clear h h1 s1 h2 s2 hd hz hl
      go_enter Tryz.func49, Tryz.ntmps49
      go_wp2_with fail
      refine (hF HL.out _ _ _ _ _ _ _ _ H2.out).mono ?_
      rintro e w3 ⟨rfl, hr, hs⟩
      have HR := Lib.hid hr; clear hr
      go_wp2
      go_ret
      unfold CountedPost
      rw [HC.out]
      exact ⟨rfl, HR.out, S2.out.tr hs⟩
    · have hb : (wrap64 (st.left - 1) == 0) = false := beq_eq_false_iff_ne.2 hz
      have hca : countedA st does = (does { tick st with left := wrap64 (st.left - 1) }, 0) := by simp [countedA, hl, hz]
      have HC := Lib.hid hca; clear hca
      have HD := Lib.hid (hd _ _ h2 ⟨rfl, rfl, rfl, rfl, rfl⟩ s2)
      have S2 := Lib.hid s2
      clear h h1 s1 h2 s2 hd hz hl
      go_enter Tryz.func49, Tryz.ntmps49
      go_wp2_with fail
      refine HD.out.mono ?_
      rintro e w3 ⟨rfl, hr, hs⟩
      have HR := Lib.hid hr; clear hr
      go_wp2
      go_ret
      unfold CountedPost
      rw [HC.out]
      exact ⟨rfl, HR.out, S2.out.tr hs⟩
  · have hdl : decide (0 < st.left) = false := decide_eq_false hl
    have hca : countedA st does = (does (tick st), 0) := by simp [countedA, hl]
    have HC := Lib.hid hca; clear hca
    have HD := Lib.hid (hd _ _ h1 ⟨rfl, rfl, rfl, rfl, rfl⟩ s1)
    have S1 := Lib.hid s1
    clear h h1 s1 hd hl
    go_enter Tryz.func49, Tryz.ntmps49
    go_wp2_with fail
    refine HD.out.mono ?_
    rintro e w3 ⟨rfl, hr, hs⟩
    have HR := Lib.hid hr; clear hr
    go_wp2
    go_ret
    unfold CountedPost
    rw [HC.out]
    exact ⟨rfl, HR.out, S1.out.tr hs⟩
end
end Go.Proofs.YthjilhjdnefmdaaGreatDoor
/- Make of the store. Conditions: none. -/
namespace Go.Proofs.YthjilhjdnefmdaaGreatDoor
open Go.RowKit
open Go.ChangeMaps (setBlock)
def makeA (st : St) (nm : Nm) : St × Int :=
  if (knownA st nm).2 = 0 then (st, 4) else if (knownA st nm).2 ≠ 3 then (st, (knownA st nm).2) else if freeA st < 16 then (st, 6) else countedA st fun s => newFile s nm

section
variable {B : Nat} {w : World} {p mn ms : Nat} {bl : List Nat} {st : St}
theorem Inv.newFile (h : Inv st) (nm : Nm) (hn : st.now.length + 1 ≤ 67108864) : Inv (newFile st nm) where
  room := h.room
  nown := by
    show (dset st.now nm st.files.length).length ≤ _
    unfold dset; split <;> simp <;> omega
  suren := h.suren
  big := fun f hf => by
    rcases List.mem_append.1 hf with hf | hf
    · exact h.big f hf
    · simp at hf; subst hf; simp
  idx := fun q hq => by
    show q.2 < (st.files ++ [_]).length
    rw [List.length_append]
    rcases List.mem_append.1 hq with hq | hq
    · rcases dset_mem (m := q.1) (j := q.2) hq with ⟨_, h2⟩ | h2
      · rw [h2]; simp
      · have := h.idx q (List.mem_append_left _ h2); simp; omega
    · have := h.idx q (List.mem_append_right _ hq); simp; omega

theorem below_setBlk {n : Nat} {a w : World} (h : Below n a w) {j : Nat} (hj : n ≤ j) (o : Obj) : Below n a (setBlock w j o) :=
  ⟨h.os, h.tape, h.output, by simp [setBlock]; exact h.size, fun k hk => by
    show (w.heap.setIfInBounds j o)[k]? = _
    rw [Array.getElem?_setIfInBounds, if_neg (by omega)]; exact h.block k hk⟩

/-- A map's block of the store turned; all else stands. -/
theorem RepC.dirTurn (h : RepC B w p mn ms bl st) {w' : World} {d : Dr} {o : Obj} (he : w' = setBlock w mn o) (hd : DirAt w' mn (toB bl d)) (hi : Inv { st with now := d }) : RepC B w' p mn ms bl { st with now := d } ∧ Stp [] B w w' := by
  subst he
  have hpm : p ≠ mn := by rintro rfl; exact h.now.nocells _ _ _ h.blk
  have hs : Stp [] B w (setBlock w mn o) := (Stp.refl [] B w).setBlock h.lmn o (fun cs e fr => h.now.nocells cs e fr)
  refine ⟨⟨hp_blk_ne h.blk hpm, hd, ?_, h.ne, h.lp, h.lmn, h.lms, h.lbl, h.nd, h.len, fun i hi f hf => ?_, hi⟩, hs⟩
  · obtain ⟨es, clk, h1, h2⟩ := h.sure
    exact ⟨es, clk, hp_blk_ne h1 (Ne.symm h.ne), h2⟩
  · obtain ⟨vn, vs, h1, h2, h3⟩ := h.file i hi f hf
    have : bl[i] ≠ mn := by intro e; rw [e] at h1; exact h.now.nocells _ _ _ h1
    exact ⟨vn, vs, hp_blk_ne h1 this, BS.stp h2 hs, BS.stp h3 hs⟩

/-- One file more, that no name has yet. -/
theorem RepC.oneMore (h : RepC B w p mn ms bl st) : RepC B (w.alloc (.cells #[.slice none 0 0, .slice none 0 0] 82)) p mn ms (bl ++ [w.heap.size]) { st with files := st.files ++ [⟨[], []⟩] } := by
  have hb := h.below (w' := w.alloc (.cells #[.slice none 0 0, .slice none 0 0] 82)) ((Below.refl _ _).alloc (Nat.le_refl _) _)
  have hl : ∀ q ∈ st.now ++ st.sure, q.2 < bl.length := fun q hq => by rw [h.len]; exact h.inv.idx q hq
  have hlt : ∀ b ∈ bl, b < w.heap.size := fun b hb' => by
    obtain ⟨i, hi, rfl⟩ := List.mem_iff_getElem.1 hb'
    obtain ⟨_, _, h1, _⟩ := h.file i hi (st.files[i]'(by rw [← h.len]; exact hi)) (by simp)
    exact hp_lt h1
  refine ⟨hb.blk, ?_, ?_, h.ne, h.lp, h.lmn, h.lms, fun b hb' => ?_, ?_, by simp [h.len], fun i hi f hf => ?_, ?_⟩
  · rw [toB_grow (fun q hq => hl q (List.mem_append_left _ hq))]; exact hb.now
  · rw [toB_grow (fun q hq => hl q (List.mem_append_right _ hq))]; exact hb.sure
  · rcases List.mem_append.1 hb' with hb' | hb'
    · exact h.lbl b hb'
    · simp at hb'; rw [hb']; exact h.le
  · rw [List.nodup_append]
    exact ⟨h.nd, by simp, fun a ha b hb' => by simp at hb'; have := hlt a ha; omega⟩
  · rcases Nat.lt_or_ge i bl.length with hi' | hi'
    · have hf' : st.files[i]? = some f := by
        rw [List.getElem?_append_left (by rw [← h.len]; exact hi')] at hf; exact hf
      rw [List.getElem_append_left hi']
      exact hb.file i hi' f hf'
    · have hii : i = bl.length := by simp at hi; omega
      subst hii
      have : f = ⟨[], []⟩ := by
        have hf2 : (st.files ++ [(⟨[], []⟩ : Fl)])[bl.length]? = some f := hf
        rw [h.len] at hf2; simp at hf2; exact hf2.symm
      subst this
      rw [List.getElem_append_right (Nat.le_refl _)]
      simp only [Nat.sub_self, List.getElem_cons_zero]
      exact ⟨_, _, hp_new _ _, RS.nil _ _ _, RS.nil _ _ _⟩
  · exact ⟨h.inv.room, h.inv.nown, h.inv.suren, fun f hf => by
      rcases List.mem_append.1 hf with hf | hf
      · exact h.inv.big f hf
      · simp at hf; subst hf; simp, fun q hq => by
      have := h.inv.idx q hq; simp; omega⟩

set_option maxRecDepth 100000 in
theorem make1_t (h : RepC B w p mn ms bl st) (nm : Nm) (b1 b2 : Nat) (hb1 : w.heap[b1]? = some (.cells #[.pointer (some ⟨p, 0, none⟩)] 24 (0, 0))) (hb2 : w.heap[b2]? = some (.cells #[.string nm] 9 (0, 0)))
    (hn : st.now.length + 1 ≤ 67108864) : Ended 75 #[.pointer (some ⟨b1, 0, none⟩), .pointer (some ⟨b2, 0, none⟩)] B p w (newFile st nm) := by
  have h2 := h.oneMore
  have hu := run_update_dir (w := (w.alloc (.cells #[.slice none 0 0, .slice none 0 0] 82)).drew) h2.now nm w.heap.size
  obtain ⟨es, clk, hu, hd⟩ := hu
  unfold ptr at hu
  have q1 : ∀ o, (w.alloc o).cell? ⟨b1, 0, none⟩ = some (.pointer (some ⟨p, 0, none⟩)) := fun o => cell_of (hp_old hb1) 0
  have q2 : ∀ o, (w.alloc o).cell? ⟨b2, 0, none⟩ = some (.string nm) := fun o => cell_of (hp_old hb2) 0
  have q3 : ∀ o, (w.alloc o).cell? ⟨p, 1, none⟩ = some (.map (some mn)) := fun o => cell_of (hp_old h.blk) 1
  have p1 : w.cell? ⟨b1, 0, none⟩ = some (.pointer (some ⟨p, 0, none⟩)) := cell_of hb1 0
  have p2 : w.cell? ⟨b2, 0, none⟩ = some (.string nm) := cell_of hb2 0
  have p3 : w.cell? ⟨p, 1, none⟩ = some (.map (some mn)) := cell_of h.blk 1
  have hg : (bl ++ [w.heap.size]).getD st.files.length 0 = w.heap.size := by rw [← h.len]; simp [List.getD]
  have hd' : DirAt (setBlock (w.alloc (.cells #[.slice none 0 0, .slice none 0 0] 82)).drew mn (.map es clk)) mn (toB (bl ++ [w.heap.size]) (dset st.now nm st.files.length)) := by
    rw [← dset_toB, hg]; exact hd
  have h3 := RepC.below h2 (w' := (w.alloc (.cells #[.slice none 0 0, .slice none 0 0] 82)).drew) ((Below.refl _ _).drew)
  obtain ⟨h4, s4⟩ := h3.dirTurn rfl hd' (h.inv.newFile nm hn)
  have s5 : Stp [] B w (setBlock (w.alloc (.cells #[.slice none 0 0, .slice none 0 0] 82)).drew mn (.map es clk)) := ((Stp.refl [] B w).alloc h.le _).drew.tr s4
  have H4 := Lib.hid h4; have S5 := Lib.hid s5
  clear h4 s5 s4 h3 h2 hd hd' hg h hb1 hb2
  unfold Ended
  go_enter Tryz.func75, Tryz.ntmps75
  go_wp2_with fail
  go_region
  all_goals go_end0
  all_goals exact ⟨rfl, ⟨_, _, _, H4.out⟩, S5.out⟩
end
end Go.Proofs.YthjilhjdnefmdaaGreatDoor
/- Make of the store: the call. Conditions: none. -/
namespace Go.Proofs.YthjilhjdnefmdaaGreatDoor
open Go.RowKit
open Go.ChangeMaps (setBlock)
section
variable {B : Nat} {w : World} {p mn ms : Nat} {bl : List Nat} {st : St}
theorem usedL_ge (st : St) : ∀ l : Dr, (l.length : Int) * 16 ≤ usedL st l
  | [] => by simp [usedL]
  | x :: l => by
    have ih := usedL_ge st l
    simp only [usedL, List.map_cons, List.sum_cons, List.length_cons] at ih ⊢
    omega
theorem room_more (h : Inv st) (hf : 16 ≤ freeA st) : st.now.length + 1 ≤ 67108864 := by
  have h1 := usedL_ge st st.now
  have h2 := h.room
  have h3 : freeA st = st.room - usedL st st.now := rfl
  omega

set_option maxRecDepth 100000 in
set_option maxHeartbeats 400000 in
theorem make_t (hF : 0 < st.left → FailSaid) (h : RepC B w p mn ms bl st) (nm : Nm) (hs : nm.size ≤ maxLen) : Calls Tryz.prog 36 #[.pointer (some ⟨p, 0, none⟩), .string nm] w (CountedPost B p w (makeA st nm)) := by
  have hb0 : Below w.heap.size w ((w.alloc (.cells #[.pointer (some ⟨p, 0, none⟩)] 24)).alloc (.cells #[.string nm] 9)) := ((Below.refl _ _).alloc (Nat.le_refl _) _).alloc (by simp) _
  have h0 := h.below hb0
  have x1 : ((w.alloc (.cells #[.pointer (some ⟨p, 0, none⟩)] 24)).alloc (.cells #[.string nm] 9)).heap[w.heap.size]? = some (.cells #[.pointer (some ⟨p, 0, none⟩)] 24 (0, 0)) := hp_old (hp_new _ _)
  have x2 : ((w.alloc (.cells #[.pointer (some ⟨p, 0, none⟩)] 24)).alloc (.cells #[.string nm] 9)).heap[w.heap.size + 1]? = some (.cells #[.string nm] 9 (0, 0)) := by
    have := hp_new (w.alloc (.cells #[.pointer (some ⟨p, 0, none⟩)] 24)) (.cells #[.string nm] 9)
    simpa using this
  have S0 : Stp [] B w ((w.alloc (.cells #[.pointer (some ⟨p, 0, none⟩)] 24)).alloc (.cells #[.string nm] 9)) := Stp.of_below hb0 h.le
  go_enter Tryz.func36, Tryz.ntmps36
  go_wp2_with fail
  generalize ((w.alloc (.cells #[.pointer (some ⟨p, 0, none⟩)] 24)).alloc (.cells #[.string nm] 9)) = w0 at *
  refine (known_t h0 nm hs).mono ?_
  rintro e w1 ⟨rfl, hb⟩
  have h1 := h0.below hb
  have y1 := (hb.block _ (hp_lt x1)).trans x1
  have y2 := (hb.block _ (hp_lt x2)).trans x2
  have z1 : w1.cell? ⟨w.heap.size, 0, none⟩ = some (.pointer (some ⟨p, 0, none⟩)) := cell_of y1 0
  have z2 : w1.cell? ⟨w.heap.size + 1, 0, none⟩ = some (.string nm) := cell_of y2 0
  have S1 : Stp [] B w w1 := S0.tr (Stp.of_below hb h0.le)
  clear x1 x2 h0 hb hb0 S0
  have hnil : ∀ a, ptrO bl a = .pointer none ∨ ∃ b, ptrO bl a = .pointer (some ⟨b, 0, none⟩) := fun a => by cases a; exact .inl rfl; exact .inr ⟨_, rfl⟩
  have hP := hnil (knownA st nm).1
  clear hnil
  have hmk : makeA st nm = if (knownA st nm).2 = 0 then (st, 4) else if (knownA st nm).2 ≠ 3 then (st, (knownA st nm).2) else if freeA st < 16 then (st, 6) else countedA st fun s => newFile s nm := rfl
  generalize (knownA st nm).2 = k at *
  generalize ptrO bl (knownA st nm).1 = v at *
  have H1 := Lib.hid h1; have Y1 := Lib.hid y1; have Y2 := Lib.hid y2; have HS := Lib.hid S1
  unfold errv
  clear h1 y1 y2 S1 h
  by_cases hk : k = 0
  · rw [if_pos hk] at hmk
    have hb0 : (k == 0) = true := by rw [hk]; rfl
    have HM := Lib.hid hmk; clear hmk hk
    rcases hP with rfl | ⟨b, rfl⟩
    all_goals
      go_wp2
      go_ret
      unfold CountedPost
      rw [HM.out]
      exact ⟨rfl, ⟨_, _, _, H1.out⟩, HS.out⟩
  · rw [if_neg hk] at hmk
    have hb0 : (k == 0) = false := beq_eq_false_iff_ne.2 hk
    by_cases hk3 : k = 3
    · rw [if_neg (fun h => h hk3)] at hmk
      have hb3 : (k != 3) = false := by rw [hk3]; rfl
      have HM := Lib.hid hmk; clear hmk hk hk3
      rcases hP with rfl | ⟨b, rfl⟩
      all_goals
        go_wp2_with fail
        refine (free_t H1.out).mono ?_
        rintro e w2 ⟨rfl, hb⟩
        unfold errv
        have H2 := Lib.hid (H1.out.below hb)
        have Y1' := Lib.hid ((hb.block _ (hp_lt Y1.out)).trans Y1.out)
        have Y2' := Lib.hid ((hb.block _ (hp_lt Y2.out)).trans Y2.out)
        have z1' : w2.cell? ⟨w.heap.size, 0, none⟩ = some (.pointer (some ⟨p, 0, none⟩)) := cell_of Y1'.out 0
        have z2' : w2.cell? ⟨w.heap.size + 1, 0, none⟩ = some (.string nm) := cell_of Y2'.out 0
        have HS2 := Lib.hid (HS.out.tr (Stp.of_below hb H1.out.le))
        clear z1 z2 hb
        by_cases hf : freeA st < 16
        · have hd : decide (freeA st < 16) = true := decide_eq_true hf
          have HM2 := HM.out
          rw [if_pos hf] at HM2
          have HM3 := Lib.hid HM2; clear HM2 hf
          go_wp2
          go_ret
          unfold CountedPost
          rw [HM3.out]
          exact ⟨rfl, ⟨_, _, _, H2.out⟩, HS2.out⟩
        · have hd : decide (freeA st < 16) = false := decide_eq_false hf
          have HM2 := HM.out
          rw [if_neg hf] at HM2
          have HM3 := Lib.hid HM2; clear HM2
          have hrm := room_more H2.out.inv (by omega)
          have HRM := Lib.hid hrm; clear hf hrm
          go_wp2_with fail
          refine (counted_t hF H2.out 75 _ (fun s => newFile s nm) (fun w => by kernel_rfl) (fun w3 st3 h3 hl s3 => make1_t h3 nm _ _ (s3.fix _ _ _ _ Y1'.out (by decide) (by decide) (by simp)) (s3.fix _ _ _ _ Y2'.out (by decide) (by decide) (by simp)) (by rw [hl.now]; exact HRM.out))).mono ?_
          rintro e w4 ⟨rfl, hr4, hs4⟩
          have HR4 := Lib.hid hr4; clear hr4
          unfold errv
          go_wp2
          go_ret
          unfold CountedPost
          rw [HM3.out]
          exact ⟨rfl, HR4.out, HS2.out.tr hs4⟩
    · rw [if_pos hk3] at hmk
      have hb3 : (k != 3) = true := bne_iff_ne.2 hk3
      have HM := Lib.hid hmk; clear hmk hk hk3
      rcases hP with rfl | ⟨b, rfl⟩
      all_goals
        go_wp2
        go_ret
        unfold CountedPost
        rw [HM.out]
        exact ⟨rfl, ⟨_, _, _, H1.out⟩, HS.out⟩
end
end Go.Proofs.YthjilhjdnefmdaaGreatDoor
/- Appending to rows of the call's own. Conditions: none. -/
namespace Go.Proofs.YthjilhjdnefmdaaGreatDoor
open Go.RowKit
open Go.ChangeMaps (setBlock)

/-- A slice type of elements of one cell. -/
structure SlT (t e : TypeId) (z : Value) (bytes : Nat) : Prop where
  ht : Tryz.prog.underlying t = some (.slice e)
  hi : ∃ i, Tryz.prog.info? e = some i ∧ i.zero = some z ∧ i.size = 1 ∧ i.bytes = bytes
  hz : z.cells.size = 1

theorem slT_of {t e : TypeId} {z : Value} {bytes : Nat} (ht : Tryz.prog.underlying t = some (.slice e)) (hi : (Tryz.prog.info? e).map (fun i => (i.zero, i.size, i.bytes)) = some (some z, 1, bytes)) (hz : z.cells.size = 1) : SlT t e z bytes := by
  refine ⟨ht, ?_, hz⟩
  cases h : Tryz.prog.info? e with
  | none => rw [h] at hi; cases hi
  | some i => rw [h] at hi; simp at hi; exact ⟨i, rfl, hi.1, hi.2.1, hi.2.2⟩
theorem slT27 : SlT 27 5 (.int .u8 0) 1 := slT_of (by kernel_rfl) (by kernel_rfl) rfl
theorem slT22 : SlT 22 27 (.slice none 0 0) 24 := slT_of (by kernel_rfl) (by kernel_rfl) rfl
theorem slT31 : SlT 31 3 (.int .i64 0) 8 := slT_of (by kernel_rfl) (by kernel_rfl) rfl
theorem slT93 : SlT 93 9 (.string ByteArray.empty) 16 := slT_of (by kernel_rfl) (by kernel_rfl) rfl

theorem run_append_rs {t e : TypeId} {z : Value} {bytes : Nat} (T : SlT t e z bytes) (w : World) (base B : Nat) (ty : TypeId) (v : Value) (n : Nat) (xs : List Value) (hown : w.ownsRow base e 1 v n xs)
    (src : Value) (ys : List Value) {e' : TypeId} (hsrc : RS e' B w src ys) (h1 : ∀ u ∈ ys, u.oneCell' = true) (hm : n + ys.length ≤ maxLen) (hbytes : (n + ys.length) * bytes ≤ 140737488355328) (hbase : base ≤ w.heap.size) :
    ∃ v' w', (Builtin.append_ #[t, t] ty #[v, src]).run Tryz.prog w = .ok v' w' ∧ w'.ownsRow base e 1 v' (n + ys.length) (xs ++ ys) ∧ w.grownBy w' v.ownBlock := by
  obtain ⟨i, hi, hz, hs, hb⟩ := T.hi
  obtain ⟨a, c, rfl, hc, -, hx⟩ := hsrc
  cases a with
  | some ad =>
    obtain ⟨v', w', g1, g2, g3, -⟩ := run_append_own (P := Tryz.prog) w base t ty e i z 1 bytes T.ht hi hz hs hb T.hz (by decide) v n xs hown ad ys.length c ys (by simp) (fun j u hu => by
      rcases hx with hx | ⟨b, o, hab, _, hcell⟩
      · rw [hx] at hu; simp at hu
      · cases hab
        have := hcell j u hu
        have hadd : (⟨b, o, none⟩ : Addr).add j = ⟨b, o + j, none⟩ := by unfold Addr.add; split <;> simp_all
        rw [hadd]; exact this) h1 hm hbytes hbase
    exact ⟨v', w', g1, g2, g3⟩
  | none =>
    have hy : ys = [] := by
      rcases hx with hx | ⟨b, o, hab, _⟩
      · exact hx
      · cases hab
    subst hy
    refine ⟨v, w, ?_, by simpa using hown, ⟨rfl, rfl, rfl, Nat.le_refl _, fun _ _ _ => rfl⟩⟩
    rcases hown.2 with ⟨rfl, rfl⟩ | ⟨g, cap, cur, rfl, _, hg, hnc, _, _, _⟩
    · simp [Builtin.append_, run_underlying T.ht, sizeOf, typeInfo, hi, Builtin.lenOf, Builtin.firstCells]
    · simp [Builtin.append_, run_underlying T.ht, sizeOf, typeInfo, hi, Builtin.lenOf, Builtin.firstCells, hnc, storeCells]

theorem wp_append_rs {t e : TypeId} {z : Value} {bytes : Nat} (T : SlT t e z bytes) {o : Oper} {a : Act} {K : Act → World → Prop} {Q : Exit → Act → World → Prop} {w : World} (s x : Operand)
    (ho : o.op = .call { callee := .builtin .append, args := #[s, x], argTypes := #[t, t] })
    (base B : Nat) (v : Value) (n : Nat) (xs : List Value) (hs : a.eval s = v) (hown : w.ownsRow base e 1 v n xs)
    (src : Value) (hx : a.eval x = src) (ys : List Value) {e' : TypeId} (hsrc : RS e' B w src ys) (h1 : ∀ u ∈ ys, u.oneCell' = true) (hm : n + ys.length ≤ maxLen) (hbytes : (n + ys.length) * bytes ≤ 140737488355328) (hbase : base ≤ w.heap.size)
    (h : ∀ v' w', w'.ownsRow base e 1 v' (n + ys.length) (xs ++ ys) → w.grownBy w' v.ownBlock → K (a.put o.dst v') w') : o.wp Tryz.prog a w K Q := by
  obtain ⟨v', w', hr, h2, h3⟩ := run_append_rs T w base B o.type v n xs hown src ys hsrc h1 hm hbytes hbase
  unfold Oper.wp execOp
  simp only [ho, resolve, invoke, builtin, Sem.run_bind, Sem.run_pure, Result.andThen_ok, List.map_toArray, List.map_cons, List.map_nil, hs, hx, hr]
  exact h v' w' h2 h3

theorem wpList_append_rs {t e : TypeId} {z : Value} {bytes : Nat} (T : SlT t e z bytes) {ops : Array Oper} {rest : List Oper} {o : Oper} {a : Act} {Q : Exit → Act → World → Prop} {w : World} (hgd : o.guard = none) (s x : Operand)
    (ho : o.op = .call { callee := .builtin .append, args := #[s, x], argTypes := #[t, t] })
    (base B : Nat) (v : Value) (n : Nat) (xs : List Value) (hs : a.eval s = v) (hown : w.ownsRow base e 1 v n xs)
    (src : Value) (hx : a.eval x = src) (ys : List Value) {e' : TypeId} (hsrc : RS e' B w src ys) (h1 : ∀ u ∈ ys, u.oneCell' = true) (hm : n + ys.length ≤ maxLen) (hbytes : (n + ys.length) * bytes ≤ 140737488355328) (hbase : base ≤ w.heap.size)
    (h : ∀ v' w', w'.ownsRow base e 1 v' (n + ys.length) (xs ++ ys) → w.grownBy w' v.ownBlock → wpList Tryz.prog ops Q rest (a.put o.dst v') w') : wpList Tryz.prog ops Q (o :: rest) a w :=
  wpList_plain hgd fun _ hK => wp_append_rs T s x ho base B v n xs hs hown src hx ys hsrc h1 hm hbytes hbase fun v' w' h2 h3 => hK _ _ (h v' w' h2 h3)

theorem bv_one (l : List UInt8) : ∀ u ∈ l.map bv, u.oneCell' = true := fun u hu => by
  obtain ⟨_, _, rfl⟩ := List.mem_map.1 hu; rfl

/-- A fresh empty row. -/
theorem own_empty (w : World) (e : TypeId) (base : Nat) (h : base ≤ w.heap.size) : (w.alloc (.cells #[] e)).ownsRow base e 1 (.slice (some ⟨w.heap.size, 0, none⟩) 0 0) 0 [] :=
  World.ownsRow_made w #[] 0 h (by decide) rfl

/-- Behind an append to a row that is new since W. -/
theorem below_grown {W w w' : World} {v : Value} {base : Nat} {e : TypeId} {n : Nat} {xs : List Value} (h : Below W.heap.size W w) (hg : w.grownBy w' v.ownBlock) (hown : w.ownsRow base e 1 v n xs) (hb : W.heap.size ≤ base) : Below W.heap.size W w' :=
  h.grown hg h.size (fun k hk => Nat.le_trans hb (hown.lt k hk).1)

theorem eql_slice (w : World) (a : Option Addr) (n c : Nat) : (binOp .eql 27 (.slice a n c) (.slice none 0 0)).run Tryz.prog w = .ok (.bool a.isNone) w :=
  Lib.run_eql_slice_nil (P := Tryz.prog) w 27 5 a n c 0 0 (by kernel_rfl)
attribute [local go_sem] eql_slice

set_option maxRecDepth 100000 in
set_option maxHeartbeats 400000 in
theorem clone_t {B : Nat} {w : World} {v : Value} {l : List UInt8} (h : BS B w v l) (hl : l.length ≤ 140737488355328) (hB : B ≤ w.heap.size) :
    Calls Tryz.prog 39 #[v] w fun e w' => ∃ v', e = .returned v' ∧ BS B w' v' l ∧ Below w.heap.size w w' := by
  have h0 := h
  obtain ⟨a, c, rfl, h1, h2, h3⟩ := h
  rw [List.length_map] at *
  cases a with
  | none =>
    have hy : l = [] := by
      rcases h3 with h3 | ⟨_, _, h3, _⟩
      · simpa using h3
      · cases h3
    subst hy
    go_enter Tryz.func39, Tryz.ntmps39
    go_wp2
    go_ret
    exact ⟨_, rfl, RS.nil _ _ _, Below.refl _ _⟩
  | some ad =>
    have hb := (Below.refl w.heap.size w).alloc (Nat.le_refl _) (.cells #[] 5)
    have H0 := Lib.hid (RS.below h0 hb hB)
    have HO := Lib.hid (own_empty w 5 w.heap.size (Nat.le_refl _))
    clear h0 h3
    go_enter Tryz.func39, Tryz.ntmps39
    go_wp2_with (at_builtin; refine wpList_append_rs slT27 rfl _ _ rfl w.heap.size B _ 0 [] rfl HO.out _ rfl (l.map bv) H0.out (bv_one l) (by simp [maxLen]; omega) (by simp; omega) (by simp) ?_; intro v' w' hown hg)
    go_ret
    refine ⟨_, rfl, ?_, below_grown hb hg HO.out (Nat.le_refl _)⟩
    have := RS.of_owns (B := B) hown
    simpa using this
end Go.Proofs.YthjilhjdnefmdaaGreatDoor
/- Byte slices compared, grown, joined. Conditions: none. -/
namespace Go.Proofs.YthjilhjdnefmdaaGreatDoor
open Go.RowKit
open Go.ChangeMaps (setBlock)
theorem bv_inj {a b : UInt8} : (((a.toNat : Int) != (b.toNat : Int)) = true) ↔ a ≠ b := by
  rw [bne_iff_ne, ne_eq, ne_eq, ← UInt8.toNat_inj]; omega
theorem RS.at {e : TypeId} {B : Nat} {w : World} {a : Option Addr} {n c : Nat} {xs : List Value} (h : RS e B w (.slice a n c) xs) : n = xs.length ∧ xs.length ≤ c ∧ c ≤ maxLen ∧ ∀ k (hk : k < xs.length), ∃ b o, a = some ⟨b, o, none⟩ ∧ w.cell? ⟨b, o + k, none⟩ = some xs[k] := by
  obtain ⟨a', c', he, h1, h2, h3⟩ := h
  cases he
  refine ⟨rfl, h1, h2, fun k hk => ?_⟩
  rcases h3 with h3 | ⟨b, o, rfl, _, h5⟩
  · rw [h3] at hk; simp at hk
  · exact ⟨b, o, rfl, h5 k _ (List.getElem?_eq_getElem hk)⟩

set_option maxRecDepth 100000 in
set_option maxHeartbeats 400000 in
theorem equal_t {B : Nat} {w : World} {v1 v2 : Value} {l1 l2 : List UInt8} (h1 : BS B w v1 l1) (h2 : BS B w v2 l2) (hB : B ≤ w.heap.size) :
    Calls Tryz.prog 64 #[v1, v2] w fun e w' => e = .returned (.bool (decide (l1 = l2))) ∧ Below w.heap.size w w' := by
  obtain ⟨a1, c1, rfl, g1, k1, -⟩ := id h1
  obtain ⟨a2, c2, rfl, g2, k2, -⟩ := id h2
  have q1 := fun wr (hb : Below w.heap.size w wr) => (RS.below h1 hb hB).at.2.2.2
  have q2 := fun wr (hb : Below w.heap.size w wr) => (RS.below h2 hb hB).at.2.2.2
  clear h1 h2
  simp only [List.length_map, List.getElem_map] at *
  unfold maxLen at k1 k2
  have Q1 := Lib.hid q1; have Q2 := Lib.hid q2; clear q1 q2
  by_cases hl : l1.length = l2.length
  · have HL := Lib.hid hl
    have hb : ((l1.length : Int) != (l2.length : Int)) = false := by rw [hl]; exact bne_self_eq_false' _
    rw [← hl] at hb ⊢
    have hb' : ((l1.length : Int) != (l1.length : Int)) = false := bne_self_eq_false' _
    clear hb hl
    go_enter Tryz.func64, Tryz.ntmps64
    go_wp2
    go_loopw [13] (fun i wr => ∃ k : Nat, k ≤ l1.length ∧ i = .int .i64 k ∧ (∀ j, j < k → l1[j]? = l2[j]?) ∧ Below w.heap.size w wr) (fun i _ => l1.length - (intOf i).toNat)
    case atStart => exact ⟨0, Nat.zero_le _, rfl, fun _ h => by omega, Below.refl _ _⟩
    case round =>
      obtain ⟨k, hk, rfl, hg, hbw⟩ := hrel
      have HG := Lib.hid hg; clear hg
      by_cases hlt : k < l1.length
      · obtain ⟨b1, o1, rfl, e1⟩ := Q1.out wr hbw k hlt
        obtain ⟨b2, o2, rfl, e2⟩ := Q2.out wr hbw k (by rw [← HL.out]; exact hlt)
        unfold bv at e1 e2
        have hn : Hid (l1[k] = l2[k]'(by rw [← HL.out]; exact hlt) → ∀ j, j < k + 1 → l1[j]? = l2[j]?) := Lib.hid (fun he j hj => by
          rcases Nat.lt_or_ge j k with h' | h'
          · exact HG.out j h'
          · have : j = k := by omega
            subst this
            rw [List.getElem?_eq_getElem hlt, List.getElem?_eq_getElem (by rw [← HL.out]; exact hlt), he])
        have hf : Hid (l1[k] ≠ l2[k]'(by rw [← HL.out]; exact hlt) → decide (l1 = l2) = false) := Lib.hid (fun he => decide_eq_false (fun h => he (by subst h; rfl)))
        have hne := bv_inj (a := l1[k]) (b := l2[k]'(by rw [← HL.out]; exact hlt))
        have hlt2 : k < l2.length := by have := HL.out; omega
        generalize l1[k] = x1 at *
        generalize l2[k]'_ = x2 at *
        by_cases hx : x1 = x2
        · subst hx
          have hb : ((x1.toNat : Int) != (x1.toNat : Int)) = false := bne_self_eq_false' _
          have hn' := Lib.hid (hn.out rfl)
          clear hne hn hf
          go_wp2
          go_quiet (fail)
          go_wp2
          go_roundw
          case rel => exact ⟨k + 1, by omega, by go_num, hn'.out, below_drewN hbw _⟩
          case measure => simp [intOf]; omega
        · have hb := hne.2 hx
          have HX := Lib.hid (hf.out hx)
          clear hne hx hn hf
          go_wp2
          go_quiet (fail)
          go_wp2
          go_ret
          rw [HX.out]
          exact ⟨rfl, below_drewN hbw _⟩
      · have hk' : k = l1.length := by omega
        subst hk'
        have hd : decide (l1 = l2) = true := decide_eq_true (List.ext_getElem? (fun j => by
          rcases Nat.lt_or_ge j l1.length with h' | h'
          · exact HG.out j h'
          · rw [List.getElem?_eq_none h', List.getElem?_eq_none (by rw [← HL.out]; exact h')]))
        have HD := Lib.hid hd; clear hd
        go_wp2
        go_ret
        rw [HD.out]
        exact ⟨rfl, hbw⟩
  · have hb : ((l1.length : Int) != (l2.length : Int)) = true := bne_iff_ne.2 (by omega)
    have hd : decide (l1 = l2) = false := decide_eq_false (fun h => hl (by rw [h]))
    have HD := Lib.hid hd
    clear hd hl
    go_enter Tryz.func64, Tryz.ntmps64
    go_wp2
    go_ret
    rw [HD.out]
    exact ⟨rfl, Below.refl _ _⟩
end Go.Proofs.YthjilhjdnefmdaaGreatDoor
/- Byte slices grown, joined. Conditions: none. -/
namespace Go.Proofs.YthjilhjdnefmdaaGreatDoor
open Go.RowKit
open Go.ChangeMaps (setBlock)

theorem run_append_make (w : World) (ty : TypeId) (n : Nat) (h0 : 0 < n) (hn : n ≤ 140737488355328) :
    ∃ cs cap, (Builtin.append_ #[27, 3] ty #[.slice none 0 0, .int .i64 (n : Int)]).run Tryz.prog w = .ok (.slice (some ⟨w.heap.size, 0, none⟩) n cap) (w.drew.alloc (.cells cs 5)) ∧ cs.size = cap ∧ n ≤ cap ∧ cap ≤ maxLen := by
  obtain ⟨i, hi, hz, hs, hb⟩ := slT27.hi
  have h3 : Tryz.prog.underlying 3 = some (.int .i64) := by kernel_rfl
  have hw : IntKind.i64.wrap (n : Int) = n := IntWalk.i64_in _ (by omega)
  have hc1 := grownCap_ge w n 0 5
  have hc2 := grownCap_le_maxLen w n 0 5 (by simp [maxLen]; omega)
  have hz' : (zeroValue 5).run Tryz.prog w.drew = .ok (.int .u8 0) w.drew := by kernel_rfl
  refine ⟨Builtin.zeroCells #[.int .u8 0] n ++ Builtin.zeroCells #[.int .u8 0] (grownCap w n 0 5 - n), grownCap w n 0 5, ?_, ?_, hc1, hc2⟩
  · have e1 : ¬ ((n : Int) < 0) := by omega
    have e2 : ¬ ((281474976710656 : Int) < (n : Int)) := by omega
    have e3 : ¬ (9223372036854775807 < (n : Int)) := by omega
    have e4 : ¬ n = 0 := by omega
    have e5 : Builtin.nextslicecap n 0 = n := by simp [Builtin.nextslicecap, h0]
    have e6 : ¬ (281474976710656 < n) := by omega
    have e7 : ((n : Int)).toNat = n := Int.toNat_natCast n
    simp [Builtin.append_, run_underlying slT27.ht, run_underlying h3, sizeOf, typeInfo, hi, hs, hb, hz, asInt, asIntOf, hw, e1, e2, e3, e4, e5, e6, e7, Builtin.firstCells, Question.forced, newRow, grownCap, zeroValue, Value.cells, Builtin.lenOf]
  · simp [Builtin.zeroCells]; omega

theorem slice_first0 (w : World) (g n cap : Nat) : (Instr.slice 27 (.slice (some ⟨g, 0, none⟩) n cap) none (some (.int .i64 0)) none).run Tryz.prog w = .ok (.slice (some ⟨g, 0, none⟩) 0 cap) w := by
  have hu : Tryz.prog.underlying 27 = some (.slice 5) := by kernel_rfl
  obtain ⟨i, hi, hz, hs, hb⟩ := slT27.hi
  simp [Instr.slice, run_underlying hu, Instr.sliceBounds, Instr.sliceBound, asIntOf, sizeOf, typeInfo, hi, Result.andThen, Addr.add]

theorem wpList_append_run {ops : Array Oper} {rest : List Oper} {o : Oper} {a : Act} {Q : Exit → Act → World → Prop} {w w' : World} (hgd : o.guard = none) (s x : Operand) (t tx : TypeId)
    (ho : o.op = .call { callee := .builtin .append, args := #[s, x], argTypes := #[t, tx] }) (v src v' : Value) (hs : a.eval s = v) (hx : a.eval x = src)
    (hr : (Builtin.append_ #[t, tx] o.type #[v, src]).run Tryz.prog w = .ok v' w')
    (h : wpList Tryz.prog ops Q rest (a.put o.dst v') w') : wpList Tryz.prog ops Q (o :: rest) a w :=
  wpList_plain hgd fun _ hK => by
    unfold Oper.wp execOp
    simp only [ho, resolve, invoke, builtin, Sem.run_bind, Sem.run_pure, Result.andThen_ok, List.map_toArray, List.map_cons, List.map_nil, hs, hx, hr]
    exact hK _ _ h

set_option maxRecDepth 100000 in
set_option maxHeartbeats 400000 in
theorem grow_t (w : World) (n : Nat) (hn : n ≤ 140737488355328) :
    Calls Tryz.prog 95 #[.slice none 0 0, .int .i64 (n : Int)] w fun e w' => ∃ v', e = .returned v' ∧ w'.ownsRow w.heap.size 5 1 v' 0 [] ∧ Below w.heap.size w w' := by
  by_cases h0 : 0 < n
  · have h0' : decide ((0 : Int) < n) = true := decide_eq_true (by omega)
    have h1' : decide ((n : Int) < 0) = false := decide_eq_false (by omega)
    obtain ⟨cs, cap, hr, hcs, hcap, hm⟩ := run_append_make w 27 n h0 hn
    have hsl := fun w => slice_first0 w
    have hB : Below w.heap.size w (w.drew.alloc (.cells cs 5)) := (Below.refl _ _).drew.alloc (by simp) _
    have ho : (w.drew.alloc (.cells cs 5)).ownsRow w.heap.size 5 1 (.slice (some ⟨w.heap.size, 0, none⟩) 0 cap) 0 [] := World.ownsRow_made w.drew cs cap (by simp) hm (by omega)
    have HB := Lib.hid hB; have HO := Lib.hid ho
    have HR := Lib.hid hr
    clear hB ho hcs hm hr
    go_enter Tryz.func95, Tryz.ntmps95
    go_wp2_with (at_builtin; refine wpList_append_run rfl _ _ 27 3 rfl _ _ _ rfl rfl HR.out ?_)
    go_ret
    exact ⟨_, rfl, HO.out, HB.out⟩
  · have hz : n = 0 := by omega
    subst hz
    go_enter Tryz.func95, Tryz.ntmps95
    go_wp2
    go_ret
    exact ⟨_, rfl, World.ownsRow_nil _ _ _ _, Below.refl _ _⟩
theorem flat_take_succ {α : Type} (ls : List (List α)) (k : Nat) (h : k < ls.length) : (ls.take (k + 1)).flatten = (ls.take k).flatten ++ ls[k] := by
  rw [List.take_succ_eq_append_getElem h, List.flatten_append]; simp only [List.flatten_cons, List.flatten_nil, List.append_nil]
theorem flat_take_le {α : Type} (ls : List (List α)) (k : Nat) : (ls.take k).flatten.length ≤ ls.flatten.length := by
  have : ls.flatten = (ls.take k).flatten ++ (ls.drop k).flatten := by rw [← List.flatten_append, List.take_append_drop]
  rw [this, List.length_append]; omega

def sumTo (ls : List (List UInt8)) (k : Nat) : Nat := (ls.take k).flatten.length
set_option maxRecDepth 100000 in
set_option maxHeartbeats 400000 in
theorem concat_t {B : Nat} {w : World} {v : Value} {vs : List Value} {ls : List (List UInt8)} (h : RS 27 B w v vs) (hlen : vs.length = ls.length)
    (hv : ∀ i (h1 : i < vs.length) (h2 : i < ls.length), BS B w vs[i] ls[i]) (hsum : ls.flatten.length ≤ 140737488355328) (hn : vs.length ≤ 1099511627776) (hB : B ≤ w.heap.size) :
    Calls Tryz.prog 80 #[v] w fun e w' => ∃ v', e = .returned v' ∧ BS B w' v' ls.flatten ∧ Below w.heap.size w w' := by
  obtain ⟨a, c, rfl, g1, g2, -⟩ := id h
  unfold maxLen at g2
  have HQ := Lib.hid (fun wr (hb : Below w.heap.size w wr) => (RS.below h hb hB).at.2.2.2)
  have HV := Lib.hid (fun wr (hb : Below w.heap.size w wr) i h1 h2 => RS.below (hv i h1 h2) hb hB)
  have HL := Lib.hid hlen
  clear h hv hlen
  obtain ⟨T, hT⟩ : ∃ T, ls.flatten.length = T := ⟨_, rfl⟩
  rw [hT] at hsum
  have HT := Lib.hid hT; clear hT
  have n1 : (vs.length : Int) ≤ 1099511627776 := by omega
  go_enter Tryz.func80, Tryz.ntmps80
  go_wp2
  go_loop [3, 11] (fun s i => ∃ k : Nat, k ≤ vs.length ∧ i = .int .i64 k ∧ s = .int .i64 ((sumTo ls k : Nat) : Int)) (fun _ i => vs.length - (intOf i).toNat)
  case atStart => exact ⟨0, Nat.zero_le _, rfl, rfl⟩
  case round =>
    obtain ⟨k, hk, rfl, rfl⟩ := hrel
    have hle : sumTo ls k ≤ T := by rw [← HT.out]; exact flat_take_le ls k
    by_cases hlt : k < vs.length
    · obtain ⟨b, o, rfl, e1⟩ := HQ.out w (Below.refl _ _) k hlt
      have hk2 : k < ls.length := by rw [← HL.out]; exact hlt
      obtain ⟨a', c', he', -, -, -⟩ := HV.out w (Below.refl _ _) k hlt hk2
      rw [he'] at e1
      simp only [List.length_map] at e1
      have hs := flat_take_succ ls k hk2
      have hle2 : sumTo ls (k + 1) ≤ T := by rw [← HT.out]; exact flat_take_le ls (k + 1)
      have hs2 : sumTo ls (k + 1) = sumTo ls k + ls[k].length := by unfold sumTo; rw [hs, List.length_append]
      have HS := Lib.hid hs2
      rw [hs2] at hle2
      clear hs hs2 he'
      generalize ls[k].length = L at *
      have hneg : decide ((((sumTo ls k) : Nat) : Int) + (L : Int) < 0) = false := decide_eq_false (by omega)
      generalize sumTo ls k = S at *
      go_wp2
      go_round
      case rel => exact ⟨k + 1, by omega, by go_num, by rw [HS.out]; go_num⟩
      case measure => simp [intOf]; omega
    · have hk' : k = vs.length := by omega
      subst hk'
      have hfl : sumTo ls vs.length ≤ 140737488355328 := by omega
      clear hle
      go_wp2_with fail
      refine (grow_t w _ hfl).mono ?_
      rintro e w1 ⟨v1, rfl, ho1, hb1⟩
      have HO1 := Lib.hid ho1; clear ho1
      have HB1 := Lib.hid hb1; clear hb1
      go_wp2_with fail
      go_loopw [6, 27] (fun d i wr => ∃ k : Nat, k ≤ vs.length ∧ i = .int .i64 k ∧ wr.ownsRow w.heap.size 5 1 d (sumTo ls k) ((ls.take k).flatten.map bv) ∧ Below w.heap.size w wr) (fun _ i _ => vs.length - (intOf i).toNat)
      case atStart => exact ⟨0, Nat.zero_le _, rfl, HO1.out, HB1.out⟩
      case round =>
        obtain ⟨k, hk, rfl, hown, hb⟩ := hrel
        have hle : sumTo ls k ≤ T := by rw [← HT.out]; exact flat_take_le ls k
        have HO := Lib.hid hown; clear hown
        have HB := Lib.hid hb; clear hb
        by_cases hlt : k < vs.length
        · obtain ⟨b, o, rfl, e1⟩ := HQ.out wr HB.out k hlt
          have hk2 : k < ls.length := by rw [← HL.out]; exact hlt
          obtain ⟨a', c', he', -, -, -⟩ := HV.out wr HB.out k hlt hk2
          have hbs := HV.out wr HB.out k hlt hk2
          rw [he'] at e1 hbs
          rw [List.length_map] at e1 hbs
          have HBS := Lib.hid hbs; clear hbs
          have hs := flat_take_succ ls k hk2
          have hle2 : sumTo ls (k + 1) ≤ T := by rw [← HT.out]; exact flat_take_le ls (k + 1)
          have hs2 : sumTo ls (k + 1) = sumTo ls k + ls[k].length := by unfold sumTo; rw [hs, List.length_append]
          rw [hs2] at hle2
          have HS := Lib.hid hs; have HS2 := Lib.hid hs2
          clear hs hs2 he'
          have hsz := HB.out.size
          go_wp2_with (at_builtin; refine wpList_append_rs slT27 rfl (.tmp 31) (.tmp 32) rfl w.heap.size B _ _ _ rfl HO.out _ rfl (ls[k].map bv) HBS.out (bv_one _) (by rw [List.length_map]; unfold maxLen; omega) (by rw [List.length_map]; omega) hsz ?_; intro v' w' hown hg)
          have HO' := Lib.hid hown; clear hown
          have HG := Lib.hid hg; clear hg
          go_wp2
          go_roundw
          case rel =>
            refine ⟨k + 1, by omega, by go_num, ?_, below_grown HB.out HG.out HO.out (Nat.le_refl _)⟩
            have := HO'.out
            rw [HS.out, HS2.out, List.map_append]
            rw [List.length_map] at this
            exact this
          case measure => simp [intOf]; omega
        · have hk' : k = vs.length := by omega
          subst hk'
          have hfl : (ls.take vs.length).flatten = ls.flatten := by rw [HL.out, List.take_length]
          have HF := Lib.hid hfl; clear hfl
          go_wp2
          go_ret
          refine ⟨_, rfl, ?_, HB.out⟩
          have := RS.of_owns (B := B) HO.out
          rw [HF.out] at this
          exact this

end Go.Proofs.YthjilhjdnefmdaaGreatDoor
