/- Words of my own over the kit, for every seat alike: a slice of numbers in memory and what keeps it; a range over a function, met directly. -/
import GoSem.Claim
import Derived.WalkKit
import Derived.WalkSpells
import Derived.WalkLawsBesides
import Derived.RangeFuncBox
import Derived.RangeFuncCalls
import Derived.RangeFuncLeaves
import Derived.Shelf.Abstract
import Derived.OwnWalkIn
import Derived.TacticsInMore
import Derived.LoopNIn
import Derived.LoopIn
import Derived.Sort.LoopGhostIn
import Derived.Maps.AppendAt
import Derived.Deep.QuietTactic
import Derived.BigQuiet
import Derived.Lib.Hide
import Derived.Deep.RegionHeld3
import Derived.Deep.RegionLaw
import Derived.Deep.AppendLies
import Derived.BigRegion
import Derived.StillTailTactics
namespace Tk
open Go Go.RowKit Go.Shelf

/-! ### Frames -/
theorem grown_refl (w : World) (row : Option Nat) : w.grownBy w row := ⟨rfl, rfl, rfl, Nat.le_refl _, fun _ _ _ => rfl⟩
theorem grown_trans {a b c : World} {row : Option Nat} (h : a.grownBy b row) (k : b.grownBy c row) : a.grownBy c row :=
  ⟨k.os.trans h.os, k.tape.trans h.tape, k.output.trans h.output, Nat.le_trans h.size k.size,
    fun i hi hr => (k.block i (Nat.lt_of_lt_of_le hi h.size) hr).trans (h.block i hi hr)⟩
theorem grown_weaken {a b : World} (row : Option Nat) (h : a.grownBy b none) : a.grownBy b row :=
  ⟨h.os, h.tape, h.output, h.size, fun i hi _ => h.block i hi (by simp)⟩
theorem grown_of_below {a b : World} (h : Below a.heap.size a b) : a.grownBy b none :=
  ⟨h.os, h.tape, h.output, h.size, fun i hi _ => h.block i hi⟩
theorem below_of_grown {a b : World} (h : a.grownBy b none) : Below a.heap.size a b :=
  ⟨h.os, h.tape, h.output, h.size, fun i hi => h.block i hi (by simp)⟩
/-- What turned one block of the call's own, seen from outside, is nothing. -/
theorem grown_own {a b : World} {n : Nat} (h : Below n a b) (hn : a.heap.size ≤ n) : a.grownBy b none :=
  ⟨h.os, h.tape, h.output, h.size, fun i hi _ => h.block i (by omega)⟩

/-- A step that turned one block of the call's own. -/
theorem grown_step {a b c : World} {k : Nat} (h : a.grownBy b none) (g : b.grownBy c (some k)) (hk : a.heap.size ≤ k) : a.grownBy c none :=
  ⟨g.os.trans h.os, g.tape.trans h.tape, g.output.trans h.output, Nat.le_trans h.size g.size,
    fun i hi _ => (g.block i (Nat.lt_of_lt_of_le hi h.size) (by simp; omega)).trans (h.block i hi (by simp))⟩
theorem grown_undrew {a b : World} {row : Option Nat} (h : a.drew.grownBy b row) : a.grownBy b row := ⟨h.os, h.tape, h.output, h.size, h.block⟩
/-- What lay keeps, but for the blocks of S. -/
structure Fr (S : Nat → Prop) (w w' : World) : Prop where
  os : w'.os = w.os
  tape : w'.tape = w.tape
  output : w'.output = w.output
  size : w.heap.size ≤ w'.heap.size
  block : ∀ k, k < w.heap.size → ¬ S k → w'.heap[k]? = w.heap[k]?
theorem Fr.refl (S : Nat → Prop) (w : World) : Fr S w w := ⟨rfl, rfl, rfl, Nat.le_refl _, fun _ _ _ => rfl⟩
theorem Fr.trans {S : Nat → Prop} {a b c : World} (h : Fr S a b) (k : Fr S b c) : Fr S a c :=
  ⟨k.os.trans h.os, k.tape.trans h.tape, k.output.trans h.output, Nat.le_trans h.size k.size,
    fun i hi hr => (k.block i (Nat.lt_of_lt_of_le hi h.size) hr).trans (h.block i hi hr)⟩
theorem Fr.mono {S S' : Nat → Prop} {a b : World} (h : Fr S a b) (hs : ∀ k, k < a.heap.size → S k → S' k) : Fr S' a b :=
  ⟨h.os, h.tape, h.output, h.size, fun i hi hr => h.block i hi fun hs' => hr (hs i hi hs')⟩
theorem Fr.of_grown {S : Nat → Prop} {a b : World} {row : Option Nat} (h : a.grownBy b row) (hs : ∀ k, row = some k → k < a.heap.size → S k) : Fr S a b :=
  ⟨h.os, h.tape, h.output, h.size, fun i hi hr => h.block i hi fun e => hr (hs i e.symm hi)⟩
theorem Fr.grown {S : Nat → Prop} {a b : World} {row : Option Nat} (h : Fr S a b) (hs : ∀ k, k < a.heap.size → S k → row = some k) : a.grownBy b row :=
  ⟨h.os, h.tape, h.output, h.size, fun i hi hr => h.block i hi fun hs' => hr (hs i hi hs').symm⟩
theorem Fr.alloc {S : Nat → Prop} {a b : World} (h : Fr S a b) (o : Obj) : Fr S a (b.alloc o) :=
  h.trans ⟨rfl, rfl, rfl, by simp, fun k hk _ => Below.heap_alloc _ _ _ hk⟩
theorem Fr.setCell {S : Nat → Prop} {a b : World} (h : Fr S a b) (p : Addr) (hp : p.block < a.heap.size → S p.block) (v : Value) : Fr S a (b.setCell p v) :=
  ⟨h.os, h.tape, h.output, by simpa [World.setCell] using h.size, fun k hk hr => (Below.heap_setCell _ _ _ k (fun e => hr (e ▸ hp (e ▸ hk)))).trans (h.block k hk hr)⟩
theorem Fr.drewN {S : Nat → Prop} {a b : World} (h : Fr S a b) (n : Nat) : Fr S a (b.drewN n) := ⟨h.os, h.tape, h.output, h.size, h.block⟩

/-! ### A slice of numbers in memory -/
/-- At address A there are the numbers xs, in a block from lo on and below hi. -/
def SlA (w : World) (lo hi : Nat) (k : IntKind) (A : Option Addr) (xs : List Int) : Prop :=
  hi ≤ w.heap.size ∧ (xs = [] ∨ ∃ b o, A = some ⟨b, o, none⟩ ∧ lo ≤ b ∧ b < hi ∧ ∀ i (h : i < xs.length), w.cell? ⟨b, o + i, none⟩ = some (.int k xs[i]))
theorem SlA.nil (w : World) (k : IntKind) (A : Option Addr) : SlA w 0 0 k A [] := ⟨Nat.zero_le _, .inl rfl⟩
theorem SlA.kept {w w' : World} {lo hi : Nat} {k : IntKind} {A : Option Addr} {xs : List Int} {row : Option Nat} (h : SlA w lo hi k A xs) (hg : w.grownBy w' row)
    (hr : ∀ b, row = some b → b < lo ∨ hi ≤ b) : SlA w' lo hi k A xs := by
  refine ⟨Nat.le_trans h.1 hg.size, h.2.imp id ?_⟩
  rintro ⟨b, o, hA, h1, h2, hc⟩
  refine ⟨b, o, hA, h1, h2, fun i hi' => ?_⟩
  rw [← hc i hi']
  exact World.cell?_of_block (w := w) (hg.block b (Nat.lt_of_lt_of_le h2 h.1) (fun e => by rcases hr b e.symm with h' | h' <;> omega))
theorem SlA.wide {w : World} {lo hi lo' hi' : Nat} {k : IntKind} {A : Option Addr} {xs : List Int} (h : SlA w lo hi k A xs) (h1 : lo' ≤ lo) (h2 : hi ≤ hi') (h3 : hi' ≤ w.heap.size) : SlA w lo' hi' k A xs :=
  ⟨h3, h.2.imp id fun ⟨b, o, hA, a, c, hc⟩ => ⟨b, o, hA, Nat.le_trans h1 a, Nat.lt_of_lt_of_le c h2, hc⟩⟩
/-- An element; 0 behind the end. Under a name that the walk leaves alone. -/
def gd (xs : List Int) (i : Nat) : Int := xs[i]?.getD 0
theorem gd_lt {xs : List Int} {i : Nat} (h : i < xs.length) : gd xs i = xs[i] := by simp [gd, h]
theorem gd_mem {xs : List Int} {i : Nat} (h : i < xs.length) : gd xs i ∈ xs := by rw [gd_lt h]; exact List.getElem_mem h
/-- The cell of an element, in the walk's spelling. -/
theorem SlA.at {w : World} {lo hi : Nat} {k : IntKind} {A : Option Addr} {xs : List Int} (h : SlA w lo hi k A xs) {i : Nat} (hi' : i < xs.length) :
    ∃ b o, A = some ⟨b, o, none⟩ ∧ w.cell? ⟨b, o + i, none⟩ = some (.int k (gd xs i)) := by
  rcases h.2 with rfl | ⟨b, o, hA, _, _, hc⟩
  · simp at hi'
  · exact ⟨b, o, hA, by rw [hc i hi', gd_lt hi']⟩
theorem SlA.cell {w : World} {lo hi : Nat} {k : IntKind} {b o : Nat} {xs : List Int} (h : SlA w lo hi k (some ⟨b, o, none⟩) xs) {i : Nat} (hi' : i < xs.length) :
    w.cell? ⟨b, o + i, none⟩ = some (.int k (gd xs i)) := by
  obtain ⟨b', o', e, hc⟩ := h.at hi'
  cases e; exact hc
theorem mem_iff_gd {xs : List Int} {r : Int} : r ∈ xs ↔ ∃ i, i < xs.length ∧ gd xs i = r := by
  rw [List.mem_iff_getElem]
  exact ⟨fun ⟨i, h, e⟩ => ⟨i, h, by rw [gd_lt h, e]⟩, fun ⟨i, h, e⟩ => ⟨i, h, by rw [← gd_lt h, e]⟩⟩
theorem ext_gd {xs ys : List Int} (hl : xs.length = ys.length) (h : ∀ i, i < xs.length → gd xs i = gd ys i) : xs = ys := by
  apply List.ext_getElem hl
  intro i h1 h2
  rw [← gd_lt h1, ← gd_lt h2]; exact h i h1
theorem SlA.of_owns {w : World} {base : Nat} {e : TypeId} {k : IntKind} {v : Value} {xs : List Int} (h : w.ownsRow base e 1 v xs.length (xs.map (Value.int k))) :
    ∃ A c, v = .slice A xs.length c ∧ xs.length ≤ c ∧ c ≤ maxLen ∧ SlA w base w.heap.size k A xs := by
  obtain ⟨hl, h2⟩ := h
  rcases h2 with ⟨rfl, h0⟩ | ⟨g, cap, cur, rfl, hg, hh, hx⟩
  · have : xs = [] := List.length_eq_zero_iff.1 h0
    subst this
    exact ⟨none, 0, rfl, Nat.le_refl _, by simp, Nat.le_refl _, .inl rfl⟩
  · obtain ⟨hn, hm, hs, hc⟩ := hx
    refine ⟨_, cap, rfl, hn, hm, Nat.le_refl _, .inr ⟨g, 0, rfl, hg, (Array.getElem?_eq_some_iff.1 hh).1, fun i hi => ?_⟩⟩
    have := World.ownsRow.cells (w := w) (base := base) (e := e) (size := 1) (v := .slice (some ⟨g, 0, none⟩) xs.length cap) (n := xs.length) (xs := xs.map (Value.int k))
      ⟨hl, .inr ⟨g, cap, cur, rfl, hg, hh, hn, hm, hs, hc⟩⟩ (g := g) rfl i (.int k xs[i]) (by simp [hi])
    have e0 : ((⟨g, 0, none⟩ : Addr).add i) = ⟨g, 0 + i, none⟩ := by
      unfold Addr.add; by_cases hi0 : i = 0 <;> simp [hi0]
    rw [e0] at this
    exact this

/-- A list's block, just made. -/
theorem SlA.made (w : World) (k : IntKind) (xs : List Int) (c : Array Value) (t : TypeId) (hc : c = (xs.map (Value.int k)).toArray) :
    SlA (w.alloc (.cells c t)) w.heap.size (w.heap.size + 1) k (some ⟨w.heap.size, 0, none⟩) xs := by
  refine ⟨by simp, .inr ⟨w.heap.size, 0, rfl, Nat.le_refl _, Nat.lt_succ_self _, fun i hi => ?_⟩⟩
  have := World.alloc_heap_new w (.cells c t)
  unfold World.cell?
  simp only [this, Nat.zero_add]
  rw [hc]
  simp [hi]
theorem SlA.alloc {w : World} {lo hi : Nat} {k : IntKind} {A : Option Addr} {xs : List Int} (h : SlA w lo hi k A xs) (o : Obj) : SlA (w.alloc o) lo hi k A xs :=
  h.kept (World.grownBy_alloc w o none) (by simp)
theorem SlA.drewN {w : World} {lo hi : Nat} {k : IntKind} {A : Option Addr} {xs : List Int} (h : SlA w lo hi k A xs) (n : Nat) : SlA (w.drewN n) lo hi k A xs := h
theorem grown_drewN {a b : World} {row : Option Nat} (h : a.grownBy b row) (n : Nat) : a.grownBy (b.drewN n) row := ⟨h.os, h.tape, h.output, h.size, h.block⟩
theorem grown_alloc {a b : World} {row : Option Nat} (h : a.grownBy b row) (o : Obj) : a.grownBy (b.alloc o) row := grown_trans h (World.grownBy_alloc b o row)

/-! ### A block of cells, told by a function of the place -/
/-- Block B has n cells, the i-th of which holds f i; none is frozen. -/
def Arr (w : World) (B n : Nat) (f : Nat → Value) : Prop :=
  ∃ (c : Array Value) (T : TypeId), w.heap[B]? = some (.cells c T (0, 0)) ∧ c.size = n ∧ ∀ i, i < n → c[i]? = some (f i)
theorem Arr.lt {w : World} {B n : Nat} {f : Nat → Value} (h : Arr w B n f) : B < w.heap.size := by
  obtain ⟨c, T, hb, _⟩ := h; exact (Array.getElem?_eq_some_iff.1 hb).1
theorem Arr.cell {w : World} {B n : Nat} {f : Nat → Value} (h : Arr w B n f) {i : Nat} (hi : i < n) : w.cell? ⟨B, i, none⟩ = some (f i) := by
  obtain ⟨c, T, hb, hs, hf⟩ := h
  unfold World.cell?
  simp only [hb]
  exact hf i hi
theorem Arr.frozen {w : World} {B n : Nat} {f : Nat → Value} (h : Arr w B n f) (i : Nat) : w.frozen? ⟨B, i, none⟩ = false := by
  obtain ⟨c, T, hb, hs, hf⟩ := h
  unfold World.frozen?
  simp [hb]
theorem Arr.of_block {w w' : World} {B n : Nat} {f : Nat → Value} (h : Arr w B n f) (hb : w'.heap[B]? = w.heap[B]?) : Arr w' B n f := by
  obtain ⟨c, T, hc, r⟩ := h; exact ⟨c, T, hb.trans hc, r⟩
theorem Arr.kept {w w' : World} {B n : Nat} {f : Nat → Value} {row : Option Nat} (h : Arr w B n f) (hg : w.grownBy w' row) (hr : row ≠ some B) : Arr w' B n f :=
  h.of_block (hg.block B h.lt (fun e => hr e.symm))
theorem Arr.alloc {w : World} {B n : Nat} {f : Nat → Value} (h : Arr w B n f) (o : Obj) : Arr (w.alloc o) B n f := h.kept (World.grownBy_alloc w o none) (by simp)
theorem Arr.congr {w : World} {B n : Nat} {f g : Nat → Value} (h : Arr w B n f) (he : ∀ i, i < n → f i = g i) : Arr w B n g := by
  obtain ⟨c, T, hc, hs, hf⟩ := h; exact ⟨c, T, hc, hs, fun i hi => by rw [hf i hi, he i hi]⟩
theorem grownBy_setCell (W : World) (B o : Nat) (v : Value) : W.grownBy (W.setCell ⟨B, o, none⟩ v) (some B) :=
  ⟨rfl, rfl, rfl, (KeepsWalks.setCell W _ v).size, fun k _ hk => Below.heap_setCell _ _ _ k (fun e => hk (by rw [e]))⟩
theorem Arr.set {w : World} {B n : Nat} {f : Nat → Value} (h : Arr w B n f) {k : Nat} (hk : k < n) (v : Value) :
    Arr (w.setCell ⟨B, k, none⟩ v) B n (fun i => if i = k then v else f i) := by
  obtain ⟨c, T, hc, hs, hf⟩ := h
  obtain ⟨hlt, hk'⟩ := Array.getElem?_eq_some_iff.1 hc
  refine ⟨c.setIfInBounds k v, T, ?_, by simp [hs], fun i hi => ?_⟩
  · show (w.heap.modify B _)[B]? = _
    rw [Array.getElem?_eq_getElem (by rw [Array.size_modify]; exact hlt), Array.getElem_modify_self, hk']
    simp
  · by_cases e : i = k
    · subst e; simp [hs, hi]
    · rw [Array.getElem?_setIfInBounds_ne (fun h => e h.symm), hf i hi]; simp [e]
theorem Arr.new (w : World) (c : Array Value) (T : TypeId) (n : Nat) (f : Nat → Value) (hs : c.size = n) (hf : ∀ i, i < n → c[i]? = some (f i)) : Arr (w.alloc (.cells c T)) w.heap.size n f :=
  ⟨c, T, World.alloc_heap_new w _, hs, hf⟩

theorem Arr.fr {w w' : World} {B n : Nat} {f : Nat → Value} {S : Nat → Prop} (h : Arr w B n f) (hg : Fr S w w') (hr : ¬ S B) : Arr w' B n f :=
  h.of_block (hg.block B h.lt hr)
theorem _root_.Go.Boxed.fr {w w' : World} {B : Nat} {t : TypeId} {v : Value} {S : Nat → Prop} (h : Boxed w B t v) (hg : Fr S w w') (hr : ¬ S B) : Boxed w' B t v :=
  (hg.block B h.lt hr).trans h
theorem SlA.fr {w w' : World} {lo hi : Nat} {k : IntKind} {A : Option Addr} {xs : List Int} {S : Nat → Prop} (h : SlA w lo hi k A xs) (hg : Fr S w w')
    (hr : ∀ b, lo ≤ b → b < hi → ¬ S b) : SlA w' lo hi k A xs := by
  refine ⟨Nat.le_trans h.1 hg.size, h.2.imp id ?_⟩
  rintro ⟨b, o, hA, h1, h2, hc⟩
  refine ⟨b, o, hA, h1, h2, fun i hi' => ?_⟩
  rw [← hc i hi']
  exact World.cell?_of_block (w := w) (hg.block b (Nat.lt_of_lt_of_le h2 h.1) (hr b h1 h2))

theorem Arr.drew {w : World} {B n : Nat} {f : Nat → Value} (h : Arr w B n f) : Arr w.drew B n f := h
theorem _root_.Go.Boxed.drew {w : World} {B : Nat} {t : TypeId} {v : Value} (h : Boxed w B t v) : Boxed w.drew B t v := h
theorem SlA.drew {w : World} {lo hi : Nat} {k : IntKind} {A : Option Addr} {xs : List Int} (h : SlA w lo hi k A xs) : SlA w.drew lo hi k A xs := h
theorem Fr.drew {S : Nat → Prop} {a b : World} (h : Fr S a b) : Fr S a b.drew := ⟨h.os, h.tape, h.output, h.size, h.block⟩

/-! ### Numbers that fit -/
theorem wf_u8 {a : Int} (h : (Lit.int .u8 a).wf = true) : 0 ≤ a ∧ a < 256 := by
  simp [Lit.wf, IntKind.min, IntKind.max, IntKind.signed, IntKind.bits] at h; omega
theorem wf_u16 {a : Int} (h : (Lit.int .u16 a).wf = true) : 0 ≤ a ∧ a < 65536 := by
  simp [Lit.wf, IntKind.min, IntKind.max, IntKind.signed, IntKind.bits] at h; omega
theorem wf_u32 {a : Int} (h : (Lit.int .u32 a).wf = true) : 0 ≤ a ∧ a < 4294967296 := by
  simp [Lit.wf, IntKind.min, IntKind.max, IntKind.signed, IntKind.bits] at h; omega
theorem wf_u64 {a : Int} (h : (Lit.int .u64 a).wf = true) : 0 ≤ a ∧ a ≤ 18446744073709551615 := by
  simp [Lit.wf, IntKind.min, IntKind.max, IntKind.signed, IntKind.bits] at h; omega
theorem wf_i64 {a : Int} (h : (Lit.int .i64 a).wf = true) : -9223372036854775808 ≤ a ∧ a ≤ 9223372036854775807 := by
  simp [Lit.wf, IntKind.min, IntKind.max, IntKind.signed, IntKind.bits] at h; omega

/-- Draws alone. -/
def Drawn (w w' : World) : Prop := ∃ n, w' = w.drewN n
theorem Drawn.refl (w : World) : Drawn w w := ⟨0, rfl⟩
theorem Drawn.step {w w' : World} (h : Drawn w w') (n : Nat) : Drawn w (w'.drewN n) := by obtain ⟨m, rfl⟩ := h; exact ⟨m + n, World.drewN_drewN _ _ _⟩
theorem Drawn.sl {w w' : World} (h : Drawn w w') {lo hi : Nat} {k : IntKind} {A : Option Addr} {xs : List Int} (hs : SlA w lo hi k A xs) : SlA w' lo hi k A xs := by obtain ⟨m, rfl⟩ := h; exact hs
theorem Drawn.arr {w w' : World} (h : Drawn w w') {B n : Nat} {f : Nat → Value} (hs : Arr w B n f) : Arr w' B n f := by obtain ⟨m, rfl⟩ := h; exact hs
theorem Drawn.grown {a w w' : World} (h : Drawn w w') {row : Option Nat} (hg : a.grownBy w row) : a.grownBy w' row := by obtain ⟨m, rfl⟩ := h; exact grown_drewN hg m
/-- A quiet call, its contract ending 'w = w''. -/
theorem quiet_same {P : Program} {f : FuncId} {args : Array Value} {w : World} {n : Nat} {v : Value}
    (h : Calls P f args (w.drewN n) fun e w' => e = .returned v ∧ w.drewN n = w') : Calls P f args (w.drewN n) fun e w'' => e = .returned v ∧ ∃ m, w'' = w.drewN m :=
  h.mono fun _ _ ⟨he, hm⟩ => ⟨he, n, hm.symm⟩

/-! ### A range over a function, met directly -/
theorem wpIn_rangeFunc_free {P : Program} {n : Nat} {g : Operand} {ps : Array Tmp} {assign body : Code} {Q : Exit → Act → World → Prop} {a : Act} {w : World}
    (h1 : 1 ≤ n) {gf : Nat} {lb : Array Value} (hg : a.eval g = .func (.func gf) #[] lb) (eg : ∀ args w, (callFunc gf args).run P w = .ok (.enter gf args) w)
    (h : ∀ fn (rc : LoopState → Option Code → Loop), Hid (rc = fun st pe => { state := st, pending := pe, fn, tmps := a.tmps, params := ps, assign, body, defers := w.heap.size }) →
      CallsIn Fence.wide (n - 1) P gf (#[.func (.yield (w.heap.size + 1)) #[] #[]] ++ lb)
      ((w.alloc (.deferred (some []))).alloc (.loop (rc .ready none)))
      (rangePost Fence.wide n P (w.heap.size + 1) Q { a with defers := { target := .collected w.heap.size, args := #[] } :: a.defers })) :
    (Code.rangeFunc g ps assign body).wpIn Fence.wide n P Q a w := by
  have hro : Fence.wide.round = none := rfl
  obtain ⟨F, hF⟩ : ∃ F, F = Fence.wide := ⟨_, rfl⟩
  have hfw : ∀ f, F.fn f := by subst hF; exact fun _ => trivial
  rw [← hF] at h hro ⊢
  clear hF
  refine wpIn_rangeFunc ?_
  intro fn hfn
  rw [hro]
  have h' := h fn _ rfl
  obtain ⟨W1, hW1⟩ : ∃ W1, (w.alloc (.deferred (some []))).alloc (.loop { state := .ready, pending := none, fn, tmps := a.tmps, params := ps, assign, body, defers := w.heap.size }) = W1 := ⟨_, rfl⟩
  have he := run_enterLoop_outer (P := P) (w := w) fn a.tmps ps assign body
  rw [hW1] at h' he
  refine ⟨w.heap.size + 1, [{ target := .collected w.heap.size, args := #[] }], W1, { target := .fn (.func gf) lb, args := #[.func (.yield (w.heap.size + 1)) #[] #[]] }, W1, gf,
    #[.func (.yield (w.heap.size + 1)) #[] #[]] ++ lb, W1, ?_, ?_, ?_, ?_, ?_, ?_⟩
  · exact he
  · simp only [resolve, hg]
    simp [go_sem]
  · intro f' hf'; simp [Target.leads] at hf'; subst hf'; exact hfw _
  · simp [invoke, go_sem, eg]
  · exact fun _ => h1
  · exact h'

end Tk
