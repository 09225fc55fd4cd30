/- List. -/
import Derived.Test.YtabkkeeedlnmnaaDoorHan2
import Derived.Test.YtabkkeeedlnmnaaDoorHan3
namespace Go.Proofs.YtabkkeeedlnmnaaDoor
open Go.RowKit Go.Shelf Tk
set_option linter.unusedVariables false
set_option linter.unusedSimpArgs false

theorem infoWord : (Tryd.prog.info? 22).map (fun i => (i.zero, i.size, i.bytes)) = some (some (.int .u32 0), 1, 4) := by kernel_rfl
/-- The handles of the first k places, by their places. -/
def Tab.upto (t : Tab) (k : Nat) : List Int := ((List.range k).filter t.tk).map (fun i => (t.h i : Int))
/-- What List answers. -/
def Tab.list (t : Tab) : List Int := t.upto t.many
theorem upto_hit (t : Tab) (k : Nat) (h : t.tk k = true) : t.upto (k + 1) = t.upto k ++ [(t.h k : Int)] := by
  simp [Tab.upto, List.range_succ, List.filter_append, h]
theorem upto_miss (t : Tab) (k : Nat) (h : t.tk k = false) : t.upto (k + 1) = t.upto k := by
  simp [Tab.upto, List.range_succ, List.filter_append, h]
theorem upto_len (t : Tab) (k : Nat) : (t.upto k).length ≤ k := by
  unfold Tab.upto
  rw [List.length_map]
  exact Nat.le_trans (List.length_filter_le _ _) (by simp)

set_option maxHeartbeats 1000000 in
theorem list1_any (a : Nat) (x : Bool) (w : World) :
    Calls Tryd.prog 99 #[.agg #[.int .u32 a, .bool x]] w fun e w' => e = .returned (.bool x) ∧ w.grownBy w' none := by
  go_enter Tryd.func99, Tryd.ntmps99
  go_wp2
  go_ret
  exact ⟨rfl, World.grownBy_alloc _ _ _⟩
set_option maxRecDepth 100000 in
set_option maxHeartbeats 2000000 in
theorem list2_any (t : Tab) (b m k : Nat) (xs : List Int) (hk : k < 256) (hxs : xs.length ≤ 256) (ha : t.age k ≤ 16777215) (hbm : b < m) (w : World) (v : Value) (hA : Arr w b 513 t.v)
    (h0 : Boxed w m 42 (.pointer (some ⟨b, 0, none⟩))) (h1 : Boxed w (m + 1) 56 v) (hr : w.ownsRow (m + 1) 22 1 v xs.length (xs.map (Value.int .u32))) :
    Calls Tryd.prog 100 #[.int .i64 k, .pointer (some ⟨m + 1, 0, none⟩), .pointer (some ⟨m, 0, none⟩)] w fun e w' => e = .returned (.bool false) ∧
      ∃ v', Boxed w' (m + 1) 56 v' ∧ w'.ownsRow (m + 1) 22 1 v' (xs ++ [(t.h k : Int)]).length ((xs ++ [(t.h k : Int)]).map (Value.int .u32)) ∧ Below (m + 1) w w' := by
  obtain ⟨i0, hi, hz0, hz1, hz2⟩ := info_parts infoWord
  have hc0 := h0.cell
  have hc1 := h1.cell
  go_enter Tryd.func100, Tryd.ntmps100
  have hb1 := h1.not_row (by decide) hr
  have hml := h1.lt
  have ag : v.ownBlock ≠ some m := fun e => by have := (hr.lt _ e).1; omega
  go_wp2
  go_region_law (first
      | (go_simp; go_at_call 98; refine (handle_any t b k hk ha _ hA.drew).mono ?_; rintro e w' ⟨rfl, rfl⟩)
      | (refine step_append_lies _ (by rfl) _ _ _ (by rfl) (m + 1) 22 i0 _ 1 4 Tryd.underlying56 hi hz0 hz1 hz2 rfl (by omega) v xs.length (xs.map (Value.int .u32)) (by rfl) ((hr.alloc _).drew) ⟨w.heap.size, 0, none⟩ 1 1 [.int .u32 (t.h k)] (by rfl) (by rfl) (World.news_of_block (cs := #[.int .u32 (t.h k)]) (t := 22) (fr := (0, 0)) (heap_alloc_new w _)) (by simp [Value.oneCell']) (by omega) (by unfold maxLen; omega) (by omega) (by simp; omega) (w.heap.size + 1) (by simp) ?_; intro gg cap w1 hown1 hgrow hat hlt; have hfz : w1.frozen? ⟨m + 1, 0, none⟩ = false := (hgrow.frozen_far ⟨m + 1, 0, none⟩ (by simp; omega) hb1).trans (Boxed.frozen (h1.alloc _)); have hcz : w1.cell? ⟨m + 1, 0, none⟩ = some v := (hgrow.cell_far ⟨m + 1, 0, none⟩ (by simp; omega) hb1).trans (Boxed.cell (h1.alloc _))))
  all_goals
    obtain ⟨-, hv2, hr3, -, hb3⟩ := h1.appended (by decide) hr (by omega) (Nat.le_refl _) hown1 (grown_undrew hgrow)
    go_wp2
    go_ret
    exact ⟨rfl, _, hv2, by simpa using hr3, hb3⟩

set_option maxRecDepth 100000 in
set_option maxHeartbeats 4000000 in
/-- find, as List calls it. -/
theorem findList_any (t : Tab) (hag : ∀ i, t.age i ≤ 16777215) (hm2 : t.many ≤ 256) (b m : Nat) (hbm : b < m) (w : World) (hA : Arr w b 513 t.v)
    (h0 : Boxed w m 42 (.pointer (some ⟨b, 0, none⟩))) (h1 : Boxed w (m + 1) 56 (.slice none 0 0)) :
    Calls Tryd.prog 95 #[.pointer (some ⟨b, 0, none⟩), .func (.func 99) #[] #[], .func (.func 100) #[] #[.pointer (some ⟨m + 1, 0, none⟩), .pointer (some ⟨m, 0, none⟩)]] w fun e w' => e = .returned (.tuple #[]) ∧
      ∃ v, Boxed w' (m + 1) 56 v ∧ w'.ownsRow (m + 1) 22 1 v t.list.length (t.list.map (Value.int .u32)) ∧ Below (m + 1) w w' := by
  have hag' := Lib.hid hag
  clear hag
  have hcm := hA.cell (i := 512) (by omega)
  rw [t.v_many] at hcm
  go_enter Tryd.func95, Tryd.ntmps95
  go_wp2_with fail
  go_loopw [11] (fun i wr => ∃ k : Nat, k ≤ t.many ∧ i = .int .i64 k ∧ (∃ v, Boxed wr (m + 1) 56 v ∧ wr.ownsRow (m + 1) 22 1 v (t.upto k).length ((t.upto k).map (Value.int .u32))) ∧ Below (m + 1) w wr) (fun i _ => t.many - (intOf i).toNat)
  case atStart => exact ⟨0, Nat.zero_le _, rfl, ⟨_, h1, World.ownsRow_nil _ _ _ _⟩, Below.refl _ _⟩
  case round =>
    obtain ⟨k, hk, rfl, ⟨v, g1, hr⟩, hb⟩ := hrel
    have hA1 := hA.of_block (hb.block b (by omega))
    have g0 : Boxed wr m _ _ := (hb.block m (by omega)).trans h0
    have hul := upto_len t k
    by_cases hlt : k < t.many
    · have hc := hA1.cell (i := k * 2) (by omega)
      have hc' := hA1.cell (i := k * 2 + 1) (by omega)
      rw [t.v_age (by omega)] at hc
      rw [t.v_tk (by omega)] at hc'
      have hage := hag'.out k
      have hgs := g1.lt
      go_wp2_with fail
      refine (list1_any _ _ _).mono ?_; rintro e wa ⟨rfl, hga⟩
      have hA2 := hA1.kept hga (by simp)
      have k0 := g0.kept hga (by simp)
      have k1 := g1.kept hga (by simp)
      have kr := hr.kept hga (by cases v <;> simp [Value.ownBlock] <;> (rename_i a _ _; cases a <;> simp))
      have hb2 : Below (m + 1) w wa := hb.trans ((below_of_grown hga).mono (by omega))
      clear hA1 g0 g1 hr hb hc hc' hga
      cases hq : t.tk k with
      | false =>
        have hu := Lib.hid (upto_miss t k hq)
        clear hq
        go_wp2_with fail
        go_roundw
        case rel => exact ⟨k + 1, by omega, by go_num, ⟨v, k1, by rw [hu.out]; exact kr⟩, hb2⟩
        case measure => simp [intOf]; omega
      | true =>
        have hu := Lib.hid (upto_hit t k hq)
        clear hq
        go_wp2_with fail
        refine (list2_any t b m k (t.upto k) (by omega) (by omega) hage hbm _ _ hA2 k0 k1 kr).mono ?_; rintro e wb ⟨rfl, v', l1, lr, hb3⟩
        go_wp2_with fail
        go_roundw
        case rel => exact ⟨k + 1, by omega, by go_num, ⟨v', l1, by rw [hu.out]; exact lr⟩, hb2.trans hb3⟩
        case measure => simp [intOf]; omega
    · obtain rfl : k = t.many := by omega
      go_wp2_with fail
      go_end0
      exact ⟨rfl, v, g1, hr, hb⟩
set_option maxRecDepth 100000 in
set_option maxHeartbeats 4000000 in
theorem list_any (t : Tab) (hag : ∀ i, t.age i ≤ 16777215) (hm2 : t.many ≤ 256) (b : Nat) (w : World) (hA : Arr w b 513 t.v) :
    Calls Tryd.prog 23 #[.pointer (some ⟨b, 0, none⟩)] w fun e w' => ∃ A c, e = .returned (.slice A t.list.length c) ∧ t.list.length ≤ c ∧ SlA w' w.heap.size w'.heap.size .u32 A t.list ∧ w.grownBy w' none := by
  have hbl := hA.lt
  go_enter Tryd.func23, Tryd.ntmps23
  go_wp2_with fail
  obtain ⟨W3, hW3⟩ : ∃ W3, ((w.alloc (.cells #[.pointer (some ⟨b, 0, none⟩)] 42)).alloc (.cells #[.slice none 0 0] 56)) = W3 := ⟨_, rfl⟩
  have hA3 : Arr W3 b 513 t.v := by rw [← hW3]; exact (hA.alloc _).alloc _
  have g0 : Boxed W3 w.heap.size 42 (.pointer (some ⟨b, 0, none⟩)) := by rw [← hW3]; exact (Boxed.new w _ _).alloc _
  have g1 : Boxed W3 (w.heap.size + 1) 56 (.slice none 0 0) := by
    rw [← hW3]; have := Boxed.new (w.alloc (.cells #[.pointer (some ⟨b, 0, none⟩)] 42)) 56 (.slice none 0 0); rwa [World.size_alloc] at this
  have hf3 : Below w.heap.size w W3 := by rw [← hW3]; exact ((Below.refl _ w).alloc (Nat.le_refl _) _).alloc (by simp) _
  rw [hW3]
  clear hW3
  refine (findList_any t hag hm2 b w.heap.size hbl W3 hA3 g0 g1).mono ?_; rintro e W4 ⟨rfl, v, k1, kr, hb4⟩
  have hb : Below w.heap.size w W4 := hf3.trans (hb4.mono (by omega))
  obtain ⟨A, c, rfl, hlc, -, -⟩ := SlA.of_owns kr
  have hnr := k1.not_row (by decide) kr
  have c1 := k1.cell
  have f1 := k1.frozen
  go_wp2_with fail
  have hgA : w.grownBy W4 none := grown_of_below hb
  have kS := k1.set (.slice A t.list.length c)
  obtain ⟨A', c', e', h1', h2', hs⟩ := SlA.of_owns (kr.kept (grownBy_setCell' W4 (w.heap.size + 1) (.slice A t.list.length c)) (.inr hnr.symm))
  cases e'
  have hbf := hb.setCell (p := ⟨w.heap.size + 1, 0, none⟩) (Nat.le_succ _) (.slice A t.list.length c)
  obtain ⟨W5, hW5⟩ : ∃ W5, W4.setCell ⟨w.heap.size + 1, 0, none⟩ (.slice A t.list.length c) = W5 := ⟨_, rfl⟩
  rw [hW5] at kS hs hbf
  try rw [hW5]
  have c2 := kS.cell
  refine bodyPost_ret (v := .slice A t.list.length c) (by simp [results, Tryd.results23, go_sem, c2]) rfl ⟨A, c, rfl, hlc, hs.wide (by omega) (Nat.le_refl _) (Nat.le_refl _), grown_of_below hbf⟩
theorem list_nil (w : World) : Calls Tryd.prog 23 #[.pointer none] w fun e w' => e = .returned (.slice none 0 0) ∧ w.grownBy w' none := by
  go_enter Tryd.func23, Tryd.ntmps23
  go_wp2_with fail
  refine bodyPost_ret (v := .slice none 0 0) (by simp [results, Tryd.results23, go_sem]) rfl ⟨rfl, grown_alloc (World.grownBy_alloc _ _ _) _⟩
theorem list_zero (b : Nat) (w : World) (hA : Arr w b 513 (tab0 0).v) : Calls Tryd.prog 23 #[.pointer (some ⟨b, 0, none⟩)] w fun e w' => ∃ A c, e = .returned (.slice A 0 c) ∧ w.grownBy w' none := by
  refine (list_any (tab0 0) (fun _ => Nat.zero_le _) (by decide) b w hA).mono ?_
  rintro e w' ⟨A, c, rfl, -, -, hg⟩
  exact ⟨A, c, rfl, hg⟩

theorem Tab.ok_take {t : Tab} (h : t.ok) {k : Nat} (ha : t.age k < 16777215) : (t.take k).ok := by
  refine ⟨fun i => ?_, h.2.1, h.2.2⟩
  simp only [Tab.take]
  split
  · omega
  · exact h.1 i
theorem Tab.least_spec {t : Tab} {k : Nat} (h : t.least = some k) : k < t.many ∧ t.tk k = false ∧ t.age k < 16777215 ∧ ∀ j, j < k → t.free j = false := by
  unfold Tab.least at h
  rw [List.find?_range_eq_some] at h
  obtain ⟨h1, h2, h3⟩ := h
  refine ⟨by simpa using h2, ?_, ?_, fun j hj => by simpa using h3 j hj⟩
  · unfold Tab.free at h1; simp at h1; exact h1.1
  · unfold Tab.free at h1; simp at h1; exact h1.2
theorem Tab.least_nobody {t : Tab} (h : t.least = none) (i : Nat) (hi : i < t.many) : t.free i = false := by
  unfold Tab.least at h
  rw [List.find?_eq_none] at h
  simpa using h i (List.mem_range.2 hi)
theorem Tab.ok_make {t : Tab} (h : t.ok) : t.make.1.ok := by
  unfold Tab.make
  cases hl : t.least with
  | none => exact h
  | some k => exact Tab.ok_take h (Tab.least_spec hl).2.2.1
theorem Tab.ok_drop {t : Tab} (h : t.ok) (x : Nat) : (t.drop x).ok := by
  unfold Tab.drop
  split
  · exact h
  · exact h
theorem tab0_ok {n : Nat} (h1 : 1 ≤ n) (h2 : n ≤ 256) : (tab0 n).ok := ⟨fun _ => Nat.zero_le _, h1, h2⟩
/-- Make, its answer known. -/
theorem make_is (t t' : Tab) (h e : Nat) (ht : t.ok) (hm : t.make = (t', h, e)) (b : Nat) (w : World) (hA : Arr w b 513 t.v) :
    Calls Tryd.prog 17 #[.pointer (some ⟨b, 0, none⟩)] w fun x w' => x = .returned (.tuple #[.int .u32 h, .int .i64 e]) ∧ Arr w' b 513 t'.v ∧ w.grownBy w' (some b) := by
  have := make_any t ht b w hA
  rw [hm] at this
  exact this
theorem place_is (t : Tab) (h p e : Nat) (ht : t.ok) (hp : t.place h = (p, e)) (b : Nat) (x : Int) (hx : x = h) (hh : h < 4294967296) (w : World) (hA : Arr w b 513 t.v) :
    Calls Tryd.prog 21 #[.pointer (some ⟨b, 0, none⟩), .int .u32 x] w fun x w' => x = .returned (.tuple #[.int .i64 p, .int .i64 e]) ∧ w.grownBy w' none := by
  subst hx
  have := place_any t ht b h hh w hA
  rw [hp] at this
  exact this
theorem drop_is (t t' : Tab) (h e : Nat) (ht : t.ok) (he : (t.place h).2 = e) (hd : t.drop h = t') (b : Nat) (x : Int) (hx : x = h) (hh : h < 4294967296) (w : World) (hA : Arr w b 513 t.v) :
    Calls Tryd.prog 19 #[.pointer (some ⟨b, 0, none⟩), .int .u32 x] w fun x w' => x = .returned (.int .i64 e) ∧ Arr w' b 513 t'.v ∧ w.grownBy w' (some b) := by
  subst hx
  have := drop_any t ht b h hh w hA
  rw [he, hd] at this
  exact this
end Go.Proofs.YtabkkeeedlnmnaaDoor
