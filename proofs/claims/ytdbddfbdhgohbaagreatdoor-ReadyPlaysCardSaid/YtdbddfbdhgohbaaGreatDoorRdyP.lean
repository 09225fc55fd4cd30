/- ReadyPlays: the steps, both alike. -/
import Derived.Test.YtdbddfbdhgohbaaGreatDoorRdyRef4
import Derived.Test.YtdbddfbdhgohbaaGreatDoorRdy4
import Derived.Test.YtdbddfbdhgohbaaGreatDoorRdyA
namespace Go.Proofs.YtdbddfbdhgohbaaGreatDoor
open Go.RowKit Go.Shelf Tk Tk.Rdy Tk.Lad
set_option linter.unusedVariables false
set_option linter.unusedSimpArgs false
/-- Who stands where. -/
structure Stt where
  ls : Nat → List Int
  rk : Nat → Nat
  has : Nat
def Stt.ok (s : Stt) : Prop := Ok s.ls s.rk s.has
def RqS (w : World) (Q : Nat) (Bs Ms : Nat → Nat) (s : Stt) : Prop := Rq w Q Bs Ms s.ls s.rk s.has
def StA (Q : Nat) (Bs Ms : Nat → Nat) (F : Nat) (args : Array Value) (E : Ending → Prop) (s s' : Stt) : Prop := ∀ w, RqS w Q Bs Ms s → Calls Tryz.prog F args w fun e w' => E e ∧ RqS w' Q Bs Ms s' ∧ Fr (OwnQ Q Bs Ms) w w'
def StB (R : Nat) (F : Nat) (args : Array Value) (E : Ending → Prop) (s s' : Stt) : Prop := ∀ w v, RefD.RQ w R v s.ls → Calls Tryz.prog F args w fun e w' => E e ∧ RefD.Post w R v s'.ls w'
theorem same_post {w w' : World} {R : Nat} {v : Nat → Value} {ls : Nat → List Int} (h : RefD.RQ w R v ls) (hw : w = w') : RefD.Post w R v ls w' := hw ▸ h.same (grown_refl _ _)
theorem pair_put (Q R : Nat) (Bs Ms : Nat → Nat) (x r : Int) (s : Stt) (ho : s.ok) : ∃ (g : Int) (s' : Stt), s'.ok ∧
    StA Q Bs Ms 18 #[.pointer (some ⟨Q, 0, none⟩), .int .i64 x, .int .i64 r] (fun e => e = .returned (.int .i64 g)) s s' ∧
    StB R 26 #[.pointer (some ⟨R, 0, none⟩), .int .i64 x, .int .i64 r] (fun e => e = .returned (.int .i64 g)) s s' := by
  by_cases hm : mayR s.rk x r = 0
  · obtain ⟨u, t, rfl, rfl, hu, ht, hk⟩ := mayR_zero hm
    refine ⟨0, ⟨upd s.ls t (s.ls t ++ [(u : Int)]), upd s.rk u (t + 1), setN s.has t⟩, Ok.come ho ht hu hk (List.perm_append_comm), fun w h => putq_in h ho hu ht hk, fun w v h => RefD.put_ok (u : Int) h ht (Ok.len ho ht) ?_⟩
    have := RefD.may_ok h ho (u : Int) (t : Int)
    rw [hm] at this; exact this
  · exact ⟨mayR s.rk x r, s, ho, fun w h => (putq_no h x r _ rfl hm).mono fun e w' ⟨he, hw⟩ => ⟨he, hw ▸ h, hw ▸ Fr.refl _ _⟩, fun w v h => (RefD.put_no x r _ hm (RefD.may_ok h ho x r)).mono fun e w' ⟨he, hw⟩ => ⟨he, same_post h hw⟩⟩
theorem pair_push (Q R : Nat) (Bs Ms : Nat → Nat) (x r : Int) (s : Stt) (ho : s.ok) : ∃ (g : Int) (s' : Stt), s'.ok ∧
    StA Q Bs Ms 22 #[.pointer (some ⟨Q, 0, none⟩), .int .i64 x, .int .i64 r] (fun e => e = .returned (.int .i64 g)) s s' ∧
    StB R 23 #[.pointer (some ⟨R, 0, none⟩), .int .i64 x, .int .i64 r] (fun e => e = .returned (.int .i64 g)) s s' := by
  by_cases hm : mayR s.rk x r = 0
  · obtain ⟨u, t, rfl, rfl, hu, ht, hk⟩ := mayR_zero hm
    refine ⟨0, ⟨upd s.ls t ((u : Int) :: s.ls t), upd s.rk u (t + 1), setN s.has t⟩, Ok.come ho ht hu hk (List.Perm.refl _), fun w h => pushq_in h ho hu ht hk, fun w v h => RefD.push_ok (u : Int) h ht (Ok.len ho ht) ?_⟩
    have := RefD.may_ok h ho (u : Int) (t : Int)
    rw [hm] at this; exact this
  · exact ⟨mayR s.rk x r, s, ho, fun w h => (pushq_no h x r _ rfl hm).mono fun e w' ⟨he, hw⟩ => ⟨he, hw ▸ h, hw ▸ Fr.refl _ _⟩, fun w v h => (RefD.push_no x r _ hm (RefD.may_ok h ho x r)).mono fun e w' ⟨he, hw⟩ => ⟨he, same_post h hw⟩⟩
theorem first_one (ms : List Int) (x : Int) (h : x ∈ ms) : ∃ j, j < ms.length ∧ gd ms j = x := mem_iff_gd.1 h
theorem filt_erase {l : List Int} {x : Int} {j : Nat} (hn : l.Nodup) (hj : j < l.length) (hg : gd l j = x) : l.filter (fun y => y != x) = l.eraseIdx j := by
  have e : l = l.take j ++ x :: l.drop (j + 1) := by
    rw [← hg, gd_lt hj, ← List.drop_eq_getElem_cons hj, List.take_append_drop]
  have hn2 := hn
  rw [e, List.nodup_append] at hn2
  obtain ⟨-, h2, h3⟩ := hn2
  rw [List.nodup_cons] at h2
  rw [List.eraseIdx_eq_take_drop_succ]
  conv => lhs; rw [e]
  rw [List.filter_append, List.filter_cons_of_neg (by simp)]
  congr 1
  · rw [List.filter_eq_self]
    intro y hy
    rw [bne_iff_ne]; exact fun e => h3 y hy x (List.mem_cons_self ..) e
  · rw [List.filter_eq_self]
    intro y hy
    rw [bne_iff_ne]; exact fun e => h2.1 (e ▸ hy)
theorem pair_remove (Q R : Nat) (Bs Ms : Nat → Nat) (x : Int) (s : Stt) (ho : s.ok) : ∃ (g : Int) (s' : Stt), s'.ok ∧
    StA Q Bs Ms 20 #[.pointer (some ⟨Q, 0, none⟩), .int .i64 x] (fun e => e = .returned (.int .i64 g)) s s' ∧
    StB R 24 #[.pointer (some ⟨R, 0, none⟩), .int .i64 x] (fun e => e = .returned (.int .i64 g)) s s' := by
  by_cases hex : ∃ u : Nat, x = u ∧ u < 256 ∧ s.rk u ≠ 0
  · obtain ⟨u, rfl, hu, hk⟩ := hex
    obtain ⟨r, hr⟩ : ∃ r, s.rk u = r + 1 := ⟨s.rk u - 1, by omega⟩
    obtain ⟨h1, h2⟩ := Ok.to ho u hu hk
    have hr32 : r < 32 := by omega
    rw [hr, Nat.add_sub_cancel] at h2
    obtain ⟨j, hj, hg⟩ := first_one _ _ h2
    have hnd := Ok.nd ho r hr32
    have he : ∀ i, i < (s.ls r).length → gd (s.ls r) i = (u : Int) → (s.ls r).eraseIdx i = (s.ls r).eraseIdx j := fun i hi hgi => by rw [← filt_erase hnd hi hgi, ← filt_erase hnd hj hg]
    refine ⟨0, ⟨upd s.ls r ((s.ls r).eraseIdx j), upd s.rk u 0, if (s.ls r).eraseIdx j = [] then clrN s.has r else s.has⟩, Ok.go ho hr32 hu hr (erase_perm hj hg), fun w h => (removeq_in h ho hu hr32 hr).mono ?_, fun w v h => ?_⟩
    · rintro e w' ⟨he2, ⟨i, hi, hgi, h1⟩, hF⟩
      rw [he i hi hgi] at h1
      exact ⟨he2, h1, hF⟩
    · have hrk := RefD.rank_ok h ho (u : Int)
      have e1 : RefD.rankV s.rk (u : Int) = ((r : Int), true) := by
        unfold RefD.rankV
        rw [if_pos ⟨by omega, by omega, by rw [Int.toNat_natCast]; exact hk⟩, Int.toNat_natCast, hr]
        congr 1; push_cast; omega
      rw [e1] at hrk
      have := RefD.remove_ok (u : Int) h hr32 (Ok.len ho hr32) hrk
      rw [filt_erase hnd hj hg] at this
      exact this
  · have hno : ∀ u : Nat, x = u → u < 256 → s.rk u = 0 := fun u hu hl => Classical.byContradiction fun hk => hex ⟨u, hu, hl, hk⟩
    refine ⟨1, s, ho, fun w h => (removeq_no h x hno).mono fun e w' ⟨he, hw⟩ => ⟨he, hw ▸ h, hw ▸ Fr.refl _ _⟩, fun w v h => (RefD.remove_no x ⟨0, ?_⟩).mono fun e w' ⟨he, hw⟩ => ⟨he, same_post h hw⟩⟩
    have hrk := RefD.rank_ok h ho x
    have e1 : RefD.rankV s.rk x = (0, false) := by
      unfold RefD.rankV
      refine if_neg fun hc => hc.2.2 ?_
      exact hno x.toNat (by omega) (by omega)
    rw [e1] at hrk; exact hrk
theorem pair_turn (Q R : Nat) (Bs Ms : Nat → Nat) (r : Int) (s : Stt) (ho : s.ok) : ∃ (g : Int) (s' : Stt), s'.ok ∧
    StA Q Bs Ms 19 #[.pointer (some ⟨Q, 0, none⟩), .int .i64 r] (fun e => e = .returned (.int .i64 g)) s s' ∧
    StB R 25 #[.pointer (some ⟨R, 0, none⟩), .int .i64 r] (fun e => e = .returned (.int .i64 g)) s s' := by
  by_cases hr : 0 ≤ r ∧ r ≤ 31
  · obtain ⟨t, rfl⟩ := Int.eq_ofNat_of_zero_le hr.1
    have ht : t < 32 := by omega
    cases hl : s.ls t with
    | nil => exact ⟨11, s, ho, fun w h => (turnq_empty h ht hl).mono fun e w' ⟨he, hw⟩ => ⟨he, hw ▸ h, hw ▸ Fr.refl _ _⟩, fun w v h => (RefD.turn_empty h ht hl).mono fun e w' ⟨he, hw⟩ => ⟨he, same_post h hw⟩⟩
    | cons y ms =>
      refine ⟨0, ⟨upd s.ls t (ms ++ [y]), s.rk, s.has⟩, Ok.turn ho ht (by rw [hl]; exact List.perm_append_comm), fun w h => turnq_in h ht hl, fun w v h => RefD.turn_ok h ht hl ?_⟩
      have := Ok.len ho ht
      rw [hl] at this; simp at this; omega
  · exact ⟨1, s, ho, fun w h => (turnq_no h r hr).mono fun e w' ⟨he, hw⟩ => ⟨he, hw ▸ h, hw ▸ Fr.refl _ _⟩, fun w v h => (RefD.turn_bad r (by omega) w).mono fun e w' ⟨he, hw⟩ => ⟨he, same_post h hw⟩⟩
/-- An act with the queue. -/
theorem does_st {Q : Nat} {Bs Ms : Nat → Nat} {n : Nat} {x r g : Int} {s s' : Stt} {F : Nat} {args : Array Value}
    (h : ((n : Int) % 5 == 2) = true ∧ F = 22 ∧ args = #[.pointer (some ⟨Q, 0, none⟩), .int .i64 x, .int .i64 r] ∨ (((n : Int) % 5 == 2) = false ∧ ((n : Int) % 5 == 3) = true ∧ F = 20 ∧ args = #[.pointer (some ⟨Q, 0, none⟩), .int .i64 x]) ∨
      (((n : Int) % 5 == 2) = false ∧ ((n : Int) % 5 == 3) = false ∧ ((n : Int) % 5 == 4) = true ∧ F = 19 ∧ args = #[.pointer (some ⟨Q, 0, none⟩), .int .i64 r]) ∨ (((n : Int) % 5 == 2) = false ∧ ((n : Int) % 5 == 3) = false ∧ ((n : Int) % 5 == 4) = false ∧ F = 18 ∧ args = #[.pointer (some ⟨Q, 0, none⟩), .int .i64 x, .int .i64 r]))
    (hn : n < 256) (hs : StA Q Bs Ms F args (fun e => e = .returned (.int .i64 g)) s s') : StA Q Bs Ms 7 #[.pointer (some ⟨Q, 0, none⟩), .agg #[.int .u8 (n : Int), .int .i64 x, .int .i64 r]] (fun e => e = .returned (.int .i64 g)) s s' := by
  intro w hq
  have hgA := World.grownBy_alloc w (.cells #[.int .u8 (n : Int), .int .i64 x, .int .i64 r] 39) none
  have gA := Lib.hid (Fr.of_grown (S := OwnQ Q Bs Ms) hgA (by simp))
  have hS := Lib.hid (hs _ (Rq.keep hq hgA))
  have n0 : (0 : Int) ≤ (n : Int) := Int.natCast_nonneg _
  have n2 : (n : Int) < 256 := by omega
  clear hs hq hgA hn
  rcases h with ⟨d0, rfl, rfl⟩ | ⟨d0, d1, rfl, rfl⟩ | ⟨d0, d1, d2, rfl, rfl⟩ | ⟨d0, d1, d2, rfl, rfl⟩
  all_goals
    go_enter Tryz.func7, Tryz.ntmps7
    go_wp2_with fail
    refine hS.out.mono ?_; rintro e w3 ⟨rfl, hR, g⟩
    go_wp2_with fail
    go_ret
    exact ⟨rfl, hR, gA.out.trans g⟩
/-- An act with the reference's queue. -/
theorem want_st {R : Nat} {n : Nat} {x r g : Int} {s s' : Stt} {F : Nat} {args : Array Value}
    (h : ((n : Int) % 5 == 2) = true ∧ F = 23 ∧ args = #[.pointer (some ⟨R, 0, none⟩), .int .i64 x, .int .i64 r] ∨ (((n : Int) % 5 == 2) = false ∧ ((n : Int) % 5 == 3) = true ∧ F = 24 ∧ args = #[.pointer (some ⟨R, 0, none⟩), .int .i64 x]) ∨
      (((n : Int) % 5 == 2) = false ∧ ((n : Int) % 5 == 3) = false ∧ ((n : Int) % 5 == 4) = true ∧ F = 25 ∧ args = #[.pointer (some ⟨R, 0, none⟩), .int .i64 r]) ∨ (((n : Int) % 5 == 2) = false ∧ ((n : Int) % 5 == 3) = false ∧ ((n : Int) % 5 == 4) = false ∧ F = 26 ∧ args = #[.pointer (some ⟨R, 0, none⟩), .int .i64 x, .int .i64 r]))
    (hn : n < 256) (hs : StB R F args (fun e => e = .returned (.int .i64 g)) s s') : StB R 8 #[.pointer (some ⟨R, 0, none⟩), .agg #[.int .u8 (n : Int), .int .i64 x, .int .i64 r]] (fun e => e = .returned (.int .i64 g)) s s' := by
  intro w v hq
  have hgA := World.grownBy_alloc w (.cells #[.int .u8 (n : Int), .int .i64 x, .int .i64 r] 39) none
  have gA := Lib.hid (Fr.of_grown (S := RefD.OwnR R v) hgA (by simp))
  have hsz := Lib.hid hgA.size
  have hS := Lib.hid (hs _ v (hq.keep hgA))
  have n0 : (0 : Int) ≤ (n : Int) := Int.natCast_nonneg _
  have n2 : (n : Int) < 256 := by omega
  clear hs hq hgA hn
  rcases h with ⟨d0, rfl, rfl⟩ | ⟨d0, d1, rfl, rfl⟩ | ⟨d0, d1, d2, rfl, rfl⟩ | ⟨d0, d1, d2, rfl, rfl⟩
  all_goals
    go_enter Tryz.func8, Tryz.ntmps8
    go_wp2_with fail
    refine hS.out.mono ?_; rintro e w3 ⟨rfl, v', hR, hF, hat⟩
    have hP : Hid (RefD.Post w R v s'.ls w3) := ⟨v', hR, gA.out.trans hF, fun r b hr hb => (hat r b hr hb).imp id fun h => Nat.le_trans hsz.out h⟩
    clear hR hF hat
    go_wp2_with fail
    go_ret
    exact ⟨rfl, hP.out⟩
theorem pair_act (Q R : Nat) (Bs Ms : Nat → Nat) (n : Nat) (hn : n < 256) (x r : Int) (s : Stt) (ho : s.ok) : ∃ (g : Int) (s' : Stt), s'.ok ∧
    StA Q Bs Ms 7 #[.pointer (some ⟨Q, 0, none⟩), .agg #[.int .u8 (n : Int), .int .i64 x, .int .i64 r]] (fun e => e = .returned (.int .i64 g)) s s' ∧
    StB R 8 #[.pointer (some ⟨R, 0, none⟩), .agg #[.int .u8 (n : Int), .int .i64 x, .int .i64 r]] (fun e => e = .returned (.int .i64 g)) s s' := by
  rcases five n with d0 | ⟨d0, d1⟩ | ⟨d0, d1, d2⟩ | ⟨d0, d1, d2⟩
  · obtain ⟨g, s', h1, h2, h3⟩ := pair_push Q R Bs Ms x r s ho
    exact ⟨g, s', h1, does_st (.inl ⟨d0, rfl, rfl⟩) hn h2, want_st (.inl ⟨d0, rfl, rfl⟩) hn h3⟩
  · obtain ⟨g, s', h1, h2, h3⟩ := pair_remove Q R Bs Ms x s ho
    exact ⟨g, s', h1, does_st (.inr (.inl ⟨d0, d1, rfl, rfl⟩)) hn h2, want_st (.inr (.inl ⟨d0, d1, rfl, rfl⟩)) hn h3⟩
  · obtain ⟨g, s', h1, h2, h3⟩ := pair_turn Q R Bs Ms r s ho
    exact ⟨g, s', h1, does_st (.inr (.inr (.inl ⟨d0, d1, d2, rfl, rfl⟩))) hn h2, want_st (.inr (.inr (.inl ⟨d0, d1, d2, rfl, rfl⟩))) hn h3⟩
  · obtain ⟨g, s', h1, h2, h3⟩ := pair_put Q R Bs Ms x r s ho
    exact ⟨g, s', h1, does_st (.inr (.inr (.inr ⟨d0, d1, d2, rfl, rfl⟩))) hn h2, want_st (.inr (.inr (.inr ⟨d0, d1, d2, rfl, rfl⟩))) hn h3⟩
/-- Who runs next. -/
def fstV (s : Stt) : Int × Bool := if s.has = 0 then (0, false) else (gd (s.ls s.has.log2) 0, true)
theorem first_obj {w : World} {Q : Nat} {Bs Ms : Nat → Nat} {s : Stt} (h : RqS w Q Bs Ms s) (ho : s.ok) :
    Calls Tryz.prog 9 #[.pointer (some ⟨Q, 0, none⟩)] w fun e w' => e = .returned (.tuple #[.int .i64 (fstV s).1, .bool (fstV s).2]) ∧ w.grownBy w' none := by
  by_cases h0 : s.has = 0
  · have e : fstV s = (0, false) := by unfold fstV; rw [if_pos h0]
    rw [e]
    have h' : Rq w Q Bs Ms s.ls s.rk 0 := by have := h; unfold RqS at this; rwa [h0] at this
    exact firstq_no h'
  · have hl := top_lt h0 (Ok.lt ho)
    have hne := (Ok.bit ho _ hl).1 (top_bit h0)
    cases hm : s.ls s.has.log2 with
    | nil => exact absurd hm hne
    | cons y ms =>
      have e : fstV s = (y, true) := by unfold fstV; rw [if_neg h0, hm]; rfl
      rw [e]
      exact firstq_in h (Ok.lt ho) h0 hm
theorem first_ref {w : World} {R : Nat} {v : Nat → Value} {s : Stt} (h : RefD.RQ w R v s.ls) (ho : s.ok) :
    Calls Tryz.prog 10 #[.pointer (some ⟨R, 0, none⟩)] w fun e w' => e = .returned (.tuple #[.int .i64 (fstV s).1, .bool (fstV s).2]) ∧ w = w' := by
  by_cases h0 : s.has = 0
  · have e : fstV s = (0, false) := by unfold fstV; rw [if_pos h0]
    rw [e]
    refine RefD.firstr_no h fun t ht => ?_
    by_cases hl : s.ls t = []
    · exact hl
    · have := (Ok.bit ho t ht).2 hl
      rw [h0] at this; simp at this
  · have hl := top_lt h0 (Ok.lt ho)
    have hne := (Ok.bit ho _ hl).1 (top_bit h0)
    cases hm : s.ls s.has.log2 with
    | nil => exact absurd hm hne
    | cons y ms =>
      have e : fstV s = (y, true) := by unfold fstV; rw [if_neg h0, hm]; rfl
      rw [e]
      refine RefD.firstr_in h (fun r hr => Ok.len ho hr) hl hm fun t h1 h2 => ?_
      by_cases hl : s.ls t = []
      · exact hl
      · have := (Ok.bit ho t h2).2 hl
        rw [above_top h1] at this; cases this
theorem rank_obj {w : World} {Q : Nat} {Bs Ms : Nat → Nat} {s : Stt} (h : RqS w Q Bs Ms s) (ho : s.ok) (x : Int) :
    Calls Tryz.prog 11 #[.pointer (some ⟨Q, 0, none⟩), .int .i64 x] w fun e w' => e = .returned (.tuple #[.int .i64 (RefD.rankV s.rk x).1, .bool (RefD.rankV s.rk x).2]) ∧ w = w' := by
  by_cases hx : 0 ≤ x ∧ x ≤ 255 ∧ s.rk x.toNat ≠ 0
  · obtain ⟨u, rfl⟩ := Int.eq_ofNat_of_zero_le hx.1
    have hu : u < 256 := by omega
    have hk : s.rk u ≠ 0 := by have := hx.2.2; rwa [Int.toNat_natCast] at this
    obtain ⟨h1, h2⟩ := Ok.to ho u hu hk
    obtain ⟨r, hr⟩ : ∃ r, s.rk u = r + 1 := ⟨s.rk u - 1, by omega⟩
    have e1 : RefD.rankV s.rk (u : Int) = ((r : Int), true) := by
      unfold RefD.rankV; rw [if_pos hx, Int.toNat_natCast, hr]
      congr 1; push_cast; omega
    rw [e1]
    exact rank_ok h hu hr (by omega)
  · have e1 : RefD.rankV s.rk x = (0, false) := by unfold RefD.rankV; rw [if_neg hx]
    rw [e1]
    refine rank_no h x fun u hu hl => Classical.byContradiction fun hk => hx ?_
    subst hu
    exact ⟨by omega, by omega, by rw [Int.toNat_natCast]; exact hk⟩
/-- Those of a rank. -/
def lsV (s : Stt) (r : Int) : List Int := if 0 ≤ r ∧ r ≤ 31 then s.ls r.toNat else []
theorem list_obj {w : World} {Q : Nat} {Bs Ms : Nat → Nat} {s : Stt} (h : RqS w Q Bs Ms s) (r : Int) :
    Calls Tryz.prog 13 #[.pointer (some ⟨Q, 0, none⟩), .int .i64 r] w fun e w' => ∃ u, e = .returned u ∧ Mine w' w.heap.size 3 .i64 u (lsV s r) ∧ w.grownBy w' none := by
  by_cases hr : 0 ≤ r ∧ r ≤ 31
  · obtain ⟨t, rfl⟩ := Int.eq_ofNat_of_zero_le hr.1
    have e : lsV s (t : Int) = s.ls t := by unfold lsV; rw [if_pos hr, Int.toNat_natCast]
    rw [e]
    exact (listq_in h (by omega) _ rfl).mono fun e w' ⟨A, k, he, _, hM, hg⟩ => ⟨_, he, hM, hg⟩
  · have e : lsV s r = [] := by unfold lsV; rw [if_neg hr]
    rw [e]
    exact (listq_no h r hr).mono fun e w' ⟨he, hw⟩ => ⟨_, he, hw ▸ Mine.nil _ _ _ _, hw ▸ grown_refl _ _⟩
theorem list_ref {w : World} {R : Nat} {v : Nat → Value} {s : Stt} (h : RefD.RQ w R v s.ls) (ho : s.ok) (r : Int) :
    Calls Tryz.prog 15 #[.pointer (some ⟨R, 0, none⟩), .int .i64 r] w fun e w' => ∃ u, e = .returned u ∧ Mine w' w.heap.size 3 .i64 u (lsV s r) ∧ w.grownBy w' none := by
  by_cases hr : 0 ≤ r ∧ r ≤ 31
  · obtain ⟨t, rfl⟩ := Int.eq_ofNat_of_zero_le hr.1
    have e : lsV s (t : Int) = s.ls t := by unfold lsV; rw [if_pos hr, Int.toNat_natCast]
    rw [e]
    exact RefD.listr_in h (by omega) (Ok.len ho (by omega))
  · have e : lsV s r = [] := by unfold lsV; rw [if_neg hr]
    rw [e]
    exact RefD.listr_no r (by omega) w
theorem lsV_len {s : Stt} (ho : s.ok) (r : Int) : (lsV s r).length ≤ 256 := by
  unfold lsV
  split
  · exact Ok.len ho (by omega)
  · simp
end Go.Proofs.YtdbddfbdhgohbaaGreatDoor
