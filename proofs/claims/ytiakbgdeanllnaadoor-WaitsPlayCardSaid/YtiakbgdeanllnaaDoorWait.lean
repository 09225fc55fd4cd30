/- Package waits. -/
import Derived.Test.YtiakbgdeanllnaaDoorRows
import Derived.Test.YtiakbgdeanllnaaDoorOwn
namespace Go.Proofs.YtiakbgdeanllnaaDoor
open Go.RowKit Go.Shelf Tk
set_option linter.unusedVariables false
set_option linter.unusedSimpArgs false

/-- A link's cells: who, of what rank, the next one. -/
def lv (x r : Int) (p : Option Addr) (i : Nat) : Value := if i = 0 then .int .i64 x else if i = 1 then .int .i64 r else .pointer p
/-- One link: its block, who, of what rank. -/
structure Nd where
  b : Nat
  x : Int
  r : Int
/-- The pointer to the first of some links. -/
def ptr : List Nd → Option Addr
  | [] => none
  | n :: _ => some ⟨n.b, 0, none⟩
/-- The links lie in memory, one after the other. -/
def Lnk (w : World) : List Nd → Prop
  | [] => True
  | n :: l => Arr w n.b 3 (lv n.x n.r (ptr l)) ∧ Lnk w l
def Blks (l : List Nd) : List Nat := l.map Nd.b
theorem Lnk.fr {S : Nat → Prop} {w w' : World} : ∀ {l : List Nd}, Lnk w l → Fr S w w' → (∀ n ∈ l, ¬ S n.b) → Lnk w' l
  | [], _, _, _ => trivial
  | n :: l, h, hf, hs => ⟨h.1.fr hf (hs n (by simp)), Lnk.fr h.2 hf (fun m hm => hs m (List.mem_cons_of_mem _ hm))⟩
theorem Lnk.keep {w w' : World} {l : List Nd} (h : Lnk w l) (hg : w.grownBy w' none) : Lnk w' l := h.fr (S := fun _ => False) (Fr.of_grown hg (by simp)) (fun _ _ => id)
theorem Lnk.at {w : World} : ∀ {a b : List Nd} {n : Nd}, Lnk w (a ++ n :: b) → Arr w n.b 3 (lv n.x n.r (ptr b))
  | [], _, _, h => h.1
  | _ :: a, _, _, h => Lnk.at (a := a) h.2
theorem Lnk.tail {w : World} : ∀ {a b : List Nd}, Lnk w (a ++ b) → Lnk w b
  | [], _, h => h
  | _ :: a, _, h => Lnk.tail (a := a) h.2
/-- Behind a link that is turned, all others as they were. -/
theorem Lnk.turn {w w' : World} : ∀ {a b b' : List Nd} {n : Nd}, Lnk w (a ++ n :: b) → (Blks (a ++ n :: b)).Nodup → Fr (fun k => k = n.b) w w' → Arr w' n.b 3 (lv n.x n.r (ptr b')) → Lnk w' b' → Lnk w' (a ++ n :: b')
  | [], b, b', n, h, hn, hf, hA, hb => ⟨hA, hb⟩
  | m :: a, b, b', n, h, hn, hf, hA, hb => by
    have hn' : m.b ∉ Blks (a ++ n :: b) ∧ (Blks (a ++ n :: b)).Nodup := by simpa [Blks] using hn
    have hne : ¬ m.b = n.b := fun e => hn'.1 (by rw [e]; simp [Blks])
    have h2 : ptr (a ++ n :: b) = ptr (a ++ n :: b') := by cases a <;> rfl
    refine ⟨?_, Lnk.turn (a := a) h.2 hn'.2 hf hA hb⟩
    show Arr w' m.b 3 (lv m.x m.r (ptr (a ++ n :: b')))
    rw [← h2]
    exact h.1.fr hf hne
/-- A queue at Q: links hs, of which the first one is nobody's. -/
structure Wq (w : World) (Q : Nat) (hd : Nd) (l : List Nd) : Prop where
  q : Boxed w Q 56 (.pointer (some ⟨hd.b, 0, none⟩))
  lk : Lnk w (hd :: l)
  nd : (Blks (hd :: l)).Nodup
  nq : Q ∉ Blks (hd :: l)
theorem Wq.keep {w w' : World} {Q : Nat} {hd : Nd} {l : List Nd} (h : Wq w Q hd l) (hg : w.grownBy w' none) : Wq w' Q hd l := ⟨h.q.kept hg (by simp), h.lk.keep hg, h.nd, h.nq⟩
theorem Wq.drewN {w : World} {Q : Nat} {hd : Nd} {l : List Nd} (h : Wq w Q hd l) (n : Nat) : Wq (w.drewN n) Q hd l := h.keep (grown_drewN (grown_refl _ _) n)
theorem Arr.c {w : World} {b : Nat} {x r : Int} {p : Option Addr} (h : Arr w b 3 (lv x r p)) : w.cell? ⟨b, 0, none⟩ = some (.int .i64 x) ∧ w.cell? ⟨b, 1, none⟩ = some (.int .i64 r) ∧ w.cell? ⟨b, 2, none⟩ = some (.pointer p) :=
  ⟨h.cell (i := 0) (by decide), h.cell (i := 1) (by decide), h.cell (i := 2) (by decide)⟩
theorem zeroLink (w : World) : (zeroValue 54).run Tryd.prog w = .ok (.agg #[.int .i64 0, .int .i64 0, .pointer none]) w := by kernel_rfl
set_option maxRecDepth 100000 in
theorem new_ok (w : World) : Calls Tryd.prog 5 #[] w fun e w' => ∃ hd Q, e = .returned (.pointer (some ⟨Q, 0, none⟩)) ∧ Wq w' Q hd [] ∧ w.grownBy w' none ∧ w.heap.size ≤ hd.b ∧ w.heap.size ≤ Q := by
  have hz := zeroLink
  go_enter Tryd.func5, Tryd.ntmps5
  go_wp2
  go_ret
  have hA := Arr.new w #[.int .i64 0, .int .i64 0, .pointer none] 54 3 (lv 0 0 none) rfl (fun i hi => by
    rcases (by omega : i = 0 ∨ i = 1 ∨ i = 2) with rfl | rfl | rfl <;> rfl)
  refine ⟨⟨w.heap.size, 0, 0⟩, _, rfl, ⟨by have := Boxed.new (w.alloc (.cells #[.int .i64 0, .int .i64 0, .pointer none] 54)) 56 (.pointer (some ⟨w.heap.size, 0, none⟩)); simpa using this, ⟨hA.alloc _, trivial⟩, by simp [Blks], by simp [Blks]⟩, grown_alloc (World.grownBy_alloc _ _ _) _, Nat.le_refl _, by simp⟩
theorem there_nil (w : World) : Calls Tryd.prog 20 #[.pointer none] w fun e w' => e = .returned (.bool false) ∧ w = w' := by
  go_enter Tryd.func20, Tryd.ntmps20
  go_wp2
  go_ret
  exact ⟨rfl, rfl⟩
theorem Wq.there {w : World} {Q : Nat} {hd : Nd} {l : List Nd} (h : Wq w Q hd l) : Calls Tryd.prog 20 #[.pointer (some ⟨Q, 0, none⟩)] w fun e w' => e = .returned (.bool true) ∧ w = w' := by
  have hc := h.q.cell
  go_enter Tryd.func20, Tryd.ntmps20
  go_wp2
  go_ret
  exact ⟨rfl, rfl⟩
/-- Is it that one? -/
theorem is1_ok (X : Nat) (who x r : Int) (w : World) (hX : w.cell? ⟨X, 0, none⟩ = some (.int .i64 who)) (hl : X < w.heap.size) : Calls Tryd.prog 51 #[.agg #[.int .i64 x, .int .i64 r], .pointer (some ⟨X, 0, none⟩)] w fun e w' => e = .returned (.bool (x == who)) ∧ w.grownBy w' none := by
  have hne : ¬ X = w.heap.size := by omega
  have hc : (w.alloc (.cells #[.int .i64 x, .int .i64 r] 52)).cell? ⟨X, 0, none⟩ = some (.int .i64 who) := by
    rw [← hX]; exact World.cell?_of_block (w := w) ((World.grownBy_alloc w _ none).block X hl (by simp))
  go_enter Tryd.func51, Tryd.ntmps51
  go_wp2
  go_ret
  exact ⟨rfl, World.grownBy_alloc _ _ _⟩
theorem put1_ok (X : Nat) (k x r : Int) (w : World) (hX : w.cell? ⟨X, 0, none⟩ = some (.int .i64 k)) (hl : X < w.heap.size) : Calls Tryd.prog 24 #[.agg #[.int .i64 x, .int .i64 r], .pointer (some ⟨X, 0, none⟩)] w fun e w' => e = .returned (.bool (decide (r < k))) ∧ w.grownBy w' none := by
  have hne : ¬ X = w.heap.size := by omega
  have hc : (w.alloc (.cells #[.int .i64 x, .int .i64 r] 52)).cell? ⟨X, 0, none⟩ = some (.int .i64 k) := by
    rw [← hX]; exact World.cell?_of_block (w := w) ((World.grownBy_alloc w _ none).block X hl (by simp))
  go_enter Tryd.func24, Tryd.ntmps24
  go_wp2
  go_ret
  exact ⟨rfl, World.grownBy_alloc _ _ _⟩
end Go.Proofs.YtiakbgdeanllnaaDoor
