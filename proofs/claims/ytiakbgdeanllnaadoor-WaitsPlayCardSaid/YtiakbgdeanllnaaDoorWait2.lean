/- Package waits: the link ahead; Put. -/
import Derived.Test.YtiakbgdeanllnaaDoorWait
namespace Go.Proofs.YtiakbgdeanllnaaDoor
open Go.RowKit Go.Shelf Tk
set_option linter.unusedVariables false
set_option linter.unusedSimpArgs false

/-- How many links are still ahead. -/
def mub (L : List Nd) (v : Value) : Nat := L.length - (Blks L).idxOf (match v with | .pointer (some a) => a.block | _ => 0)
theorem mub_at {pre b : List Nd} {n : Nd} (hn : (Blks (pre ++ n :: b)).Nodup) : mub (pre ++ n :: b) (.pointer (some ⟨n.b, 0, none⟩)) = b.length + 1 := by
  have h1 : n.b ∉ Blks pre := by
    unfold Blks at hn ⊢
    rw [List.map_append, List.map_cons, List.nodup_append] at hn
    intro hm
    exact hn.2.2 _ hm _ (by simp) rfl
  unfold mub
  have h2 : (Blks (pre ++ n :: b)).idxOf n.b = pre.length := by
    unfold Blks at h1 ⊢
    rw [List.map_append, List.map_cons, List.idxOf_append, if_neg h1, List.idxOf_cons_self, List.length_map, Nat.zero_add]
  show _ - (Blks (pre ++ n :: b)).idxOf n.b = _
  rw [h2]; simp <;> omega
theorem is_ok (who : Int) (w : World) : Calls Tryd.prog 22 #[.int .i64 who] w fun e w' => e = .returned (.func (.func 51) #[] #[.pointer (some ⟨w.heap.size, 0, none⟩)]) ∧ w.alloc (.cells #[.int .i64 who] 3) = w' := by
  go_enter Tryd.func22, Tryd.ntmps22
  go_wp2
  go_ret
  exact ⟨rfl, rfl⟩
set_option maxRecDepth 100000 in
set_option maxHeartbeats 4000000 in
theorem ahead_is {w : World} {Q X : Nat} {hd : Nd} {l : List Nd} (who : Int) (h : Wq w Q hd l) (hX : w.cell? ⟨X, 0, none⟩ = some (.int .i64 who)) (hXl : X < w.heap.size) :
    Calls Tryd.prog 21 #[.pointer (some ⟨Q, 0, none⟩), .func (.func 51) #[] #[.pointer (some ⟨X, 0, none⟩)]] w fun e w' => ∃ pre n b, hd :: l = pre ++ n :: b ∧ e = .returned (.pointer (some ⟨(n : Nd).b, 0, none⟩)) ∧
      (∀ m ∈ (pre ++ [n]).tail, (m.x == who) = false) ∧ (∀ m b', b = m :: b' → (m.x == who) = true) ∧ w.grownBy w' none := by
  have hq := h.q.cell
  have hK := Lib.hid (fun wr (hg : w.grownBy wr none) => h.keep hg)
  have hKX : Hid (∀ wr, w.grownBy wr none → wr.cell? ⟨X, 0, none⟩ = some (.int .i64 who) ∧ X < wr.heap.size) := fun wr hg => ⟨by rw [← hX]; exact World.cell?_of_block (w := w) (hg.block X hXl (by simp)), Nat.lt_of_lt_of_le hXl hg.size⟩
  go_enter Tryd.func21, Tryd.ntmps21
  go_wp2_with fail
  go_loopw [5] (fun p wr => ∃ (pre : List Nd) (n : Nd) (b : List Nd), p = .pointer (some ⟨n.b, 0, none⟩) ∧ Hid (hd :: l = pre ++ n :: b) ∧ Hid (∀ m ∈ (pre ++ [n]).tail, (m.x == who) = false) ∧ w.grownBy wr none) (fun p _ => mub (hd :: l) p)
  case atStart => exact ⟨[], hd, l, rfl, rfl, fun m hm => by simp at hm, grown_refl _ _⟩
  case round =>
    obtain ⟨pre, n, b, rfl, hsp, hno, hg⟩ := hrel
    have hW := hK.out _ hg
    obtain ⟨hX1, hX2⟩ := hKX.out _ hg
    have hlk := hW.lk
    rw [hsp.out] at hlk
    obtain ⟨c0, c1, c2⟩ := Arr.c hlk.at
    cases b with
    | nil =>
      replace c2 : wr.cell? ⟨n.b, 2, none⟩ = some (.pointer none) := c2
      clear hX1 hX2
      go_wp2_with fail
      go_ret
      exact ⟨pre, n, [], hsp.out, rfl, hno.out, (fun m b' h => by cases h), hg⟩
    | cons m b =>
      replace c2 : wr.cell? ⟨n.b, 2, none⟩ = some (.pointer (some ⟨m.b, 0, none⟩)) := c2
      have hlk2 : Lnk wr ((pre ++ [n]) ++ m :: b) := by simpa using hlk
      obtain ⟨d0, d1, d2⟩ := Arr.c hlk2.at
      have hms : Hid (mub (hd :: l) (.pointer (some ⟨m.b, 0, none⟩)) < mub (hd :: l) (.pointer (some ⟨n.b, 0, none⟩))) := by
        have hnd := h.nd
        rw [hsp.out] at hnd ⊢
        have e2 : pre ++ n :: m :: b = (pre ++ [n]) ++ m :: b := by simp
        show _ < _
        rw [mub_at hnd, e2, mub_at (by rw [← e2]; exact hnd)]
        simp
      go_wp2_with fail
      refine (is1_ok X who m.x m.r _ hX1 hX2).mono ?_; rintro e w2 ⟨rfl, g2⟩
      have hg2 := grown_trans hg g2
      have hlk3 := hlk.keep g2
      obtain ⟨f0, f1, f2⟩ := Arr.c hlk3.at
      replace f2 : w2.cell? ⟨n.b, 2, none⟩ = some (.pointer (some ⟨m.b, 0, none⟩)) := f2
      clear c0 c1 c2 d0 d1 d2 f0 f1 hX1 hX2
      cases ht : (m.x == who) with
      | true =>
        replace ht := Lib.hid ht
        go_wp2_with fail
        go_ret
        exact ⟨pre, n, m :: b, hsp.out, rfl, hno.out, (fun m' b' h => by cases h; exact ht.out), hg2⟩
      | false =>
        replace ht := Lib.hid ht
        go_wp2_with fail
        go_roundw
        case rel =>
          refine ⟨pre ++ [n], m, b, rfl, by show _ = _; rw [hsp.out]; simp, ?_, hg2⟩
          intro y hy
          rw [List.tail_append_of_ne_nil (by simp)] at hy
          rw [List.mem_append] at hy
          rcases hy with hy | hy
          · exact hno.out y hy
          · simp at hy; subst hy; exact ht.out
        case measure => exact hms.out
set_option maxRecDepth 100000 in
set_option maxHeartbeats 4000000 in
theorem ahead_put {w : World} {Q X : Nat} {hd : Nd} {l : List Nd} (who : Int) (h : Wq w Q hd l) (hX : w.cell? ⟨X, 0, none⟩ = some (.int .i64 who)) (hXl : X < w.heap.size) :
    Calls Tryd.prog 21 #[.pointer (some ⟨Q, 0, none⟩), .func (.func 24) #[] #[.pointer (some ⟨X, 0, none⟩)]] w fun e w' => ∃ pre n b, hd :: l = pre ++ n :: b ∧ e = .returned (.pointer (some ⟨(n : Nd).b, 0, none⟩)) ∧
      (∀ m ∈ (pre ++ [n]).tail, (decide (m.r < who)) = false) ∧ (∀ m b', b = m :: b' → (decide (m.r < who)) = true) ∧ w.grownBy w' none := by
  have hq := h.q.cell
  have hK := Lib.hid (fun wr (hg : w.grownBy wr none) => h.keep hg)
  have hKX : Hid (∀ wr, w.grownBy wr none → wr.cell? ⟨X, 0, none⟩ = some (.int .i64 who) ∧ X < wr.heap.size) := fun wr hg => ⟨by rw [← hX]; exact World.cell?_of_block (w := w) (hg.block X hXl (by simp)), Nat.lt_of_lt_of_le hXl hg.size⟩
  go_enter Tryd.func21, Tryd.ntmps21
  go_wp2_with fail
  go_loopw [5] (fun p wr => ∃ (pre : List Nd) (n : Nd) (b : List Nd), p = .pointer (some ⟨n.b, 0, none⟩) ∧ Hid (hd :: l = pre ++ n :: b) ∧ Hid (∀ m ∈ (pre ++ [n]).tail, (decide (m.r < who)) = false) ∧ w.grownBy wr none) (fun p _ => mub (hd :: l) p)
  case atStart => exact ⟨[], hd, l, rfl, rfl, fun m hm => by simp at hm, grown_refl _ _⟩
  case round =>
    obtain ⟨pre, n, b, rfl, hsp, hno, hg⟩ := hrel
    have hW := hK.out _ hg
    obtain ⟨hX1, hX2⟩ := hKX.out _ hg
    have hlk := hW.lk
    rw [hsp.out] at hlk
    obtain ⟨c0, c1, c2⟩ := Arr.c hlk.at
    cases b with
    | nil =>
      replace c2 : wr.cell? ⟨n.b, 2, none⟩ = some (.pointer none) := c2
      clear hX1 hX2
      go_wp2_with fail
      go_ret
      exact ⟨pre, n, [], hsp.out, rfl, hno.out, (fun m b' h => by cases h), hg⟩
    | cons m b =>
      replace c2 : wr.cell? ⟨n.b, 2, none⟩ = some (.pointer (some ⟨m.b, 0, none⟩)) := c2
      have hlk2 : Lnk wr ((pre ++ [n]) ++ m :: b) := by simpa using hlk
      obtain ⟨d0, d1, d2⟩ := Arr.c hlk2.at
      have hms : Hid (mub (hd :: l) (.pointer (some ⟨m.b, 0, none⟩)) < mub (hd :: l) (.pointer (some ⟨n.b, 0, none⟩))) := by
        have hnd := h.nd
        rw [hsp.out] at hnd ⊢
        have e2 : pre ++ n :: m :: b = (pre ++ [n]) ++ m :: b := by simp
        show _ < _
        rw [mub_at hnd, e2, mub_at (by rw [← e2]; exact hnd)]
        simp
      go_wp2_with fail
      refine (put1_ok X who m.x m.r _ hX1 hX2).mono ?_; rintro e w2 ⟨rfl, g2⟩
      have hg2 := grown_trans hg g2
      have hlk3 := hlk.keep g2
      obtain ⟨f0, f1, f2⟩ := Arr.c hlk3.at
      replace f2 : w2.cell? ⟨n.b, 2, none⟩ = some (.pointer (some ⟨m.b, 0, none⟩)) := f2
      clear c0 c1 c2 d0 d1 d2 f0 f1 hX1 hX2
      cases ht : (decide (m.r < who)) with
      | true =>
        replace ht := Lib.hid ht
        go_wp2_with fail
        go_ret
        exact ⟨pre, n, m :: b, hsp.out, rfl, hno.out, (fun m' b' h => by cases h; exact ht.out), hg2⟩
      | false =>
        replace ht := Lib.hid ht
        go_wp2_with fail
        go_roundw
        case rel =>
          refine ⟨pre ++ [n], m, b, rfl, by show _ = _; rw [hsp.out]; simp, ?_, hg2⟩
          intro y hy
          rw [List.tail_append_of_ne_nil (by simp)] at hy
          rw [List.mem_append] at hy
          rcases hy with hy | hy
          · exact hno.out y hy
          · simp at hy; subst hy; exact ht.out
        case measure => exact hms.out
end Go.Proofs.YtiakbgdeanllnaaDoor
