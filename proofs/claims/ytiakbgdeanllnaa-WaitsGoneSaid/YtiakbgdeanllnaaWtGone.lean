/- WaitsGone. -/
import Derived.Test.YtiakbgdeanllnaaWtA
import Derived.Test.YtiakbgdeanllnaaWait7
namespace Go.Proofs.Ytiakbgdeanllnaa
open Go.RowKit Go.Shelf Tk
set_option linter.unusedVariables false
set_option linter.unusedSimpArgs false

/-- Who stands ahead of whom. -/
def Lt (y z : Nd) : Prop := z.r < y.r ∨ (y.r = z.r ∧ y.x < z.x)
/-- So many wait, as the statement says. -/
def OkL (rs : List Int) (k : Nat) (l : List Nd) : Prop := l.length = k ∧ l.Pairwise Lt ∧ ∀ y ∈ l, ∃ u : Nat, y.x = u ∧ u < k ∧ y.r = gd rs u % 32
theorem OkL.more {rs : List Int} {k m : Nat} {a b : List Nd} {r : Int} (h : OkL rs k (a ++ b)) (ha : ∀ y ∈ a, r ≤ y.r) (hb : ∀ y b', b = y :: b' → y.r < r) (hr : r = gd rs k % 32) : OkL rs (k + 1) (a ++ (⟨m, k, r⟩ : Nd) :: b) := by
  obtain ⟨h1, h2, h3⟩ := h
  rw [List.pairwise_append] at h2
  have hball : ∀ z ∈ b, z.r < r := by
    cases b with
    | nil => intro z hz; simp at hz
    | cons z0 b =>
      intro z hz
      have h0 := hb z0 b rfl
      rcases List.mem_cons.1 hz with rfl | hz
      · exact h0
      · have := (List.pairwise_cons.1 h2.2.1).1 z hz
        rcases this with h | ⟨h, -⟩ <;> omega
  refine ⟨by simp at h1 ⊢; omega, ?_, ?_⟩
  · rw [List.pairwise_append]
    refine ⟨h2.1, List.pairwise_cons.2 ⟨fun z hz => .inl (hball z hz), h2.2.1⟩, fun y hy z hz => ?_⟩
    rcases List.mem_cons.1 hz with rfl | hz
    · obtain ⟨u, e, hu, -⟩ := h3 y (List.mem_append_left _ hy)
      have := ha y hy
      by_cases e2 : y.r = r
      · exact .inr ⟨e2, by show y.x < (k : Int); omega⟩
      · exact .inl (by show r < y.r; omega)
    · exact h2.2.2 y hy z hz
  · intro y hy
    rw [List.mem_append, List.mem_cons] at hy
    rcases hy with hy | rfl | hy
    · obtain ⟨u, e, hu, e2⟩ := h3 y (List.mem_append_left _ hy)
      exact ⟨u, e, by omega, e2⟩
    · exact ⟨k, rfl, by omega, hr⟩
    · obtain ⟨u, e, hu, e2⟩ := h3 y (List.mem_append_right _ hy)
      exact ⟨u, e, by omega, e2⟩
/-- .. and everybody does, once. -/
def OkG (rs : List Int) (k : Nat) (l : List Nd) : Prop := OkL rs k l ∧ (∀ u, u < k → ∃ y ∈ l, y.x = (u : Int)) ∧ (l.map Nd.x).Nodup
theorem OkG.more {rs : List Int} {k m : Nat} {a b : List Nd} {r : Int} (h : OkG rs k (a ++ b)) (ha : ∀ y ∈ a, r ≤ y.r) (hb : ∀ y b', b = y :: b' → y.r < r) (hr : r = gd rs k % 32) : OkG rs (k + 1) (a ++ (⟨m, k, r⟩ : Nd) :: b) := by
  refine ⟨OkL.more h.1 ha hb hr, fun u hu => ?_, ?_⟩
  · by_cases e : u = k
    · subst e; exact ⟨⟨m, u, r⟩, by simp, rfl⟩
    · obtain ⟨y, hy, hx⟩ := h.2.1 u (by omega)
      refine ⟨y, ?_, hx⟩
      rw [List.mem_append, List.mem_cons]
      rcases List.mem_append.1 hy with h | h
      · exact .inl h
      · exact .inr (.inr h)
  · have hp : ((a ++ (⟨m, k, r⟩ : Nd) :: b).map Nd.x).Perm ((k : Int) :: (a ++ b).map Nd.x) := by
      simp only [List.map_append, List.map_cons]
      exact List.perm_middle
    rw [hp.nodup_iff, List.nodup_cons]
    refine ⟨fun hm => ?_, h.2.2⟩
    obtain ⟨y, hy, hx⟩ := List.mem_map.1 hm
    obtain ⟨u, e, hu, -⟩ := h.1.2.2 y hy
    omega
/-- One goes out of a list: what is at each place. -/
theorem gone_at {a b : List Nd} {y : Nd} {z : Int} (hy : y.x = z) (hno : ∀ m ∈ a ++ b, m.x ≠ z) (p : Nat) (hp : p < (a ++ y :: b).length) :
    (p = a.length ∧ gd ((a ++ y :: b).map Nd.x) p = z) ∨ (p ≠ a.length ∧ gd ((a ++ y :: b).map Nd.x) p ≠ z ∧ gd ((a ++ y :: b).map Nd.x) p = gd ((a ++ b).map Nd.x) (if p ≤ a.length then p else p - 1)) := by
  by_cases e : p = a.length
  · left
    refine ⟨e, ?_⟩
    subst e
    simp [gd, hy]
  · right
    have h2 : gd ((a ++ y :: b).map Nd.x) p = gd ((a ++ b).map Nd.x) (if p ≤ a.length then p else p - 1) := by
      unfold gd
      rw [List.getElem?_map, List.getElem?_map]
      by_cases h : p < a.length
      · rw [if_pos (by omega), List.getElem?_append_left h, List.getElem?_append_left h]
      · rw [if_neg (by omega), List.getElem?_append_right (by omega), List.getElem?_append_right (by omega)]
        obtain ⟨q, hq⟩ : ∃ q, p - a.length = q + 1 := ⟨p - a.length - 1, by omega⟩
        rw [hq, List.getElem?_cons_succ, show p - 1 - a.length = q by omega]
    refine ⟨e, fun hz => ?_, h2⟩
    rw [h2] at hz
    have hlt : (if p ≤ a.length then p else p - 1) < (a ++ b).length := by
      simp at hp ⊢; split <;> omega
    have := gd_mem (xs := (a ++ b).map Nd.x) (i := if p ≤ a.length then p else p - 1) (by rw [List.length_map]; exact hlt)
    rw [hz] at this
    obtain ⟨m, hm, hx⟩ := List.mem_map.1 this
    exact hno m hm hx
/-- How many of the others come ahead of place p. -/
def nnf (c p : Nat) : Nat := if p ≤ c then p else p - 1
def BoolIs (v : Value) (P : Bool → Prop) : Prop := ∃ q, v = .bool q ∧ P q
theorem BoolIs.of {P : Bool → Prop} (q : Bool) (h : P q) : BoolIs (.bool q) P := ⟨q, rfl, h⟩
theorem back_at {rs : List Int} {n z m : Nat} {a b : List Nd} {r : Int} (hz : z < n) (hr : r = gd rs z % 32) (hO : ∀ y ∈ a ++ b, ∃ u : Nat, y.x = u ∧ u < n ∧ y.r = gd rs u % 32) (hno : ∀ y ∈ a ++ b, y.x ≠ (z : Int)) (hb : ∀ y ∈ b, y.r < r) (p : Nat) (hp : p < (a ++ (⟨m, z, r⟩ : Nd) :: b).length) :
    ∃ v : Nat, gd ((a ++ (⟨m, z, r⟩ : Nd) :: b).map Nd.x) p = v ∧ v < n ∧ (a.length < p → gd rs v % 32 < gd rs z % 32) ∧ ((v : Int) = z ↔ p = a.length) := by
  rcases Nat.lt_trichotomy p a.length with h | h | h
  · have hm : a[p] ∈ a ++ b := List.mem_append_left _ (List.getElem_mem h)
    obtain ⟨u, e, hu, -⟩ := hO _ hm
    refine ⟨u, ?_, hu, by omega, ?_⟩
    · unfold gd; rw [List.getElem?_map, List.getElem?_append_left h, List.getElem?_eq_getElem h]; exact e
    · have := hno _ hm; rw [e] at this
      constructor
      · intro h'; exact absurd h' this
      · intro h'; omega
  · subst h
    exact ⟨z, by simp [gd], hz, by omega, by simp⟩
  · have hq : p - a.length - 1 < b.length := by simp at hp; omega
    have hm : b[p - a.length - 1] ∈ b := List.getElem_mem hq
    obtain ⟨u, e, hu, er⟩ := hO _ (List.mem_append_right _ hm)
    refine ⟨u, ?_, hu, fun _ => ?_, ?_⟩
    · unfold gd
      rw [List.getElem?_map, List.getElem?_append_right (by omega)]
      obtain ⟨q, hq'⟩ : ∃ q, p - a.length = q + 1 := ⟨p - a.length - 1, by omega⟩
      have : q = p - a.length - 1 := by omega
      rw [hq', List.getElem?_cons_succ, this, List.getElem?_eq_getElem hq]; exact e
    · have := hb _ hm; rw [er, hr] at this; exact this
    · have := hno _ (List.mem_append_right _ hm); rw [e] at this
      constructor
      · intro h'; exact absurd h' this
      · intro h'; omega
set_option maxRecDepth 100000 in
set_option maxHeartbeats 8000000 in
theorem waitsGone_walk (A0 : Option Addr) (c0 : Nat) (rs : List Int) (hl0 : rs.length ≤ c0) (t : Int) (wt : (Lit.int .u8 t).wf = true) (w : World)
    (hs0 : SlA w 0 w.heap.size .u8 A0 rs) (hf0 : ∀ x ∈ rs, (Lit.int .u8 x).wf = true) (hb0 : rs.length * 1 ≤ 140737488351232) :
    Calls Try.prog 4 #[.slice A0 rs.length c0, .int .u8 t] w fun e w' => e = .returned (.bool true) ∧ w.grownBy w' none := by
  have hfit : Hid (∀ i, i < rs.length → 0 ≤ gd rs i ∧ gd rs i < 256) := fun i hi => wf_u8 (hf0 _ (gd_mem hi))
  clear hf0
  by_cases hlen : rs.length = 0 ∨ 200 < rs.length
  · have hd : ((rs.length : Int) == 0) = true ∨ (((rs.length : Int) == 0) = false ∧ decide ((200 : Int) < (rs.length : Int)) = true) := by
      simp only [decide_eq_true_eq, beq_eq_false_iff_ne, beq_iff_eq]; omega
    clear hlen
    rcases hd with hd | ⟨hd, hd2⟩
    all_goals
      go_enter Try.func4, Try.ntmps4
      go_wp2_with fail
      refine (lives_any _).mono ?_; rintro e we ⟨rfl, hg2⟩
      go_wp2_with fail
      go_ret
      exact ⟨rfl, hg2⟩
  · have hx : rs.length ≤ 200 := by omega
    have hd : ((rs.length : Int) == 0) = false := by rw [beq_eq_false_iff_ne]; omega
    have hd2 : decide ((200 : Int) < (rs.length : Int)) = false := decide_eq_false (by omega)
    have hn0 : 0 < rs.length := by omega
    clear hlen
    obtain ⟨t1, t2⟩ := wf_u8 wt
    clear wt
    obtain ⟨T, rfl⟩ := Int.eq_ofNat_of_zero_le t1
    clear t1
    have hK := Lib.hid (fun wr (h : w.grownBy wr none) => hs0.kept h (by simp))
    obtain ⟨n, hn⟩ : ∃ n, rs.length = n := ⟨_, rfl⟩
    rw [hn] at hl0 hx hd hd2 hn0 ⊢
    replace hn := Lib.hid hn
    clear hs0 hb0
    go_enter Try.func4, Try.ntmps4
    go_wp2_with fail
    refine (new_ok _).mono ?_; rintro e w0 ⟨hd0, Q, rfl, hW0, g0, hh, hQ⟩
    have hB0 : ∀ k ∈ Blks [hd0], w.heap.size ≤ k := fun k hk => by simp [Blks] at hk; omega
    go_wp2_with fail
    go_loopw [6] (fun i wr => ∃ (k : Nat) (l : List Nd), k ≤ n ∧ i = .int .i64 k ∧ Wq wr Q hd0 l ∧ Hid (OkG rs k l) ∧ Hid (∀ q ∈ Blks (hd0 :: l), w.heap.size ≤ q) ∧ w.grownBy wr none) (fun i _ => n - (intOf i).toNat)
    case atStart => exact ⟨0, [], Nat.zero_le _, rfl, hW0, ⟨⟨rfl, List.Pairwise.nil, fun y hy => by simp at hy⟩, fun u hu => absurd hu (Nat.not_lt_zero _), List.nodup_nil⟩, hB0, g0⟩
    case round =>
      obtain ⟨k, l, hk, rfl, hW, hO, hB, hg⟩ := hrel
      by_cases hlt : k < n
      · have hkl : k < rs.length := by rw [hn.out]; exact hlt
        obtain ⟨b1, o1, rfl, hc⟩ := (hK.out _ hg).at hkl
        obtain ⟨f1, f2⟩ := hfit.out k hkl
        have hno : Hid (∀ m ∈ l, m.x ≠ (k : Int)) := fun m hm e => by
          obtain ⟨u, e2, hu, -⟩ := hO.out.1.2.2 m hm
          omega
        have hsz := hg.size
        clear hkl
        go_wp2_with fail
        refine (put_ok (k : Int) (gd rs k % 32) (by omega) (by omega) hno.out hW).mono ?_; rintro e w1 ⟨rfl, a, b, m, hab, hW1, hq1, hq2, hm, hf⟩
        have hg1 := own_step hg hf hB.out
        have hO1 : Hid (OkG rs (k + 1) (a ++ (⟨m, k, gd rs k % 32⟩ : Nd) :: b)) := OkG.more (by rw [← hab]; exact hO.out) hq1 hq2 rfl
        have hB1 : Hid (∀ q ∈ Blks (hd0 :: (a ++ (⟨m, k, gd rs k % 32⟩ : Nd) :: b)), w.heap.size ≤ q) := fun q hq => by
          have hBo := hB.out
          rw [hab] at hBo
          simp only [Blks, List.map_cons, List.map_append, List.mem_cons, List.mem_append] at hq hBo
          rcases hq with h | h | h | h
          · exact hBo q (.inl h)
          · exact hBo q (.inr (.inl h))
          · omega
          · exact hBo q (.inr (.inr h))
        replace hab := Lib.hid hab
        replace hq1 := Lib.hid hq1
        replace hq2 := Lib.hid hq2
        clear hf
        go_wp2_with fail
        go_roundw
        case rel => exact ⟨k + 1, _, by omega, by go_num, hW1, hO1, hB1, hg1⟩
        case measure => simp [intOf] <;> omega
      · obtain rfl : n = k := by omega
        have hll : l.length = n := hO.out.1.1
        obtain ⟨z, hz, hzn, hzz⟩ : ∃ z : Nat, ((T : Int) % (n : Int)) = z ∧ z < n ∧ T % n = z := ⟨T % n, by simp, Nat.mod_lt _ hn0, rfl⟩
        have hb0 : (0 : Int) ≤ (T : Int) % (n : Int) := by omega
        have hb1 : (T : Int) % (n : Int) ≤ 200 := by omega
        have hn0I : (0 : Int) < (n : Int) := by omega
        have hnz : ¬ n = 0 := by omega
        replace hz := Lib.hid hz
        replace hzz := Lib.hid hzz
        clear hW0 g0 hB0 hlt
        go_wp2_with fail
        rw [hz.out]
        have hblk := Lnk.lt hW.lk
        obtain ⟨lo, hlo⟩ : ∃ lo, wr.heap.size = lo := ⟨_, rfl⟩
        obtain ⟨xs, hxs⟩ : ∃ xs, l.map Nd.x = xs := ⟨_, rfl⟩
        refine (list_n n xs hll hxs (by omega) hW).mono ?_; rintro e w2 ⟨A2, rfl, hs2, g2⟩
        rw [hlo] at hs2 hblk
        have hW2 := hW.keep g2
        have hg2 := grown_trans hg g2
        have hex := hO.out.2.1 z hzn
        have hrem := Lib.hid (remove_ok (z : Int) hex hO.out.2.2 hW2)
        replace hll := Lib.hid hll
        replace hxs := Lib.hid hxs
        replace hlo := Lib.hid hlo
        replace hblk := Lib.hid hblk
        clear hex hW hg g2 hb0 hb1
        go_wp2_with fail
        refine hrem.out.mono ?_; rintro e w3 ⟨rfl, a, y, b, hab, hyx, hW3, hno, hf3⟩
        have hs3 := far_sl (fun k hk => .inl (hblk.out k hk)) hs2 hf3
        have hg3 := own_step hg2 hf3 hB.out
        have hbn : (a ++ b).length = n - 1 := by have := hll.out; rw [hab] at this; simp at this ⊢; omega
        have hcn : a.length < n := by have := hll.out; rw [hab] at this; simp at this; omega
        obtain ⟨ys, hys⟩ : ∃ ys, (a ++ b).map Nd.x = ys := ⟨_, rfl⟩
        have hga : Hid (∀ p, p < n → (p = a.length ∧ gd xs p = z) ∨ (p ≠ a.length ∧ gd xs p ≠ z ∧ gd xs p = gd ys (nnf a.length p))) := fun p hp => by
          have := gone_at hyx hno p (by rw [← hab, hll.out]; exact hp)
          rw [← hab, hxs.out, hys] at this
          exact this
        have hxl : Hid (xs.length = n) := by show _ = _; rw [← hxs.out, List.length_map, hll.out]
        have hyl : Hid (ys.length = n - 1) := by show _ = _; rw [← hys, List.length_map, hbn]
        have hB3 : Hid (∀ q ∈ Blks (hd0 :: (a ++ b)), w.heap.size ≤ q) := fun q hq => by
          have hBo := hB.out
          rw [hab] at hBo
          simp only [Blks, List.map_cons, List.map_append, List.mem_cons, List.mem_append] at hq hBo
          rcases hq with h | h | h
          · exact hBo q (.inl h)
          · exact hBo q (.inr (.inl h))
          · exact hBo q (.inr (.inr (.inr h)))
        have hO3 : Hid (∀ m ∈ a ++ b, ∃ u : Nat, m.x = u ∧ u < n ∧ m.r = gd rs u % 32) := fun m hm => hO.out.1.2.2 m (by
          rw [hab]
          rcases List.mem_append.1 hm with h | h
          · exact List.mem_append_left _ h
          · exact List.mem_append_right _ (List.mem_cons_of_mem _ h))
        have hPw : Hid ((a ++ b).Pairwise Lt) := by
          have := hO.out.1.2.1
          rw [hab] at this
          exact List.Pairwise.sublist (List.Sublist.append_left (List.sublist_cons_self _ _) _) this
        obtain ⟨l3, hl3⟩ : ∃ l3, a ++ b = l3 := ⟨_, rfl⟩
        obtain ⟨c, hc⟩ : ∃ c, a.length = c := ⟨_, rfl⟩
        rw [hl3] at hW3 hno hbn hB3 hO3 hPw hys
        rw [hc] at hga hcn
        replace hno := Lib.hid hno
        replace hbn := Lib.hid hbn
        replace hys := Lib.hid hys
        clear hab hyx hf3 hrem hW2 hs2 hg2 hl3 hc hblk hlo
        go_wp2_with fail
        refine (list_n (n - 1) ys hbn.out hys.out (by omega) hW3).mono ?_; rintro e w4 ⟨A4, rfl, hs4, g4⟩
        have hW4 := hW3.keep g4
        have hg4 := grown_trans hg3 g4
        have hs3' := hs3.kept g4 (by simp)
        clear hW3 hg3 hs3 g4
        have hnn0 : nnf c 0 = 0 := by unfold nnf; rw [if_pos (Nat.zero_le _)]
        go_wp2_with fail
        go_loopw [10, 11] (fun q i wr4 => ∃ p : Nat, p ≤ n ∧ i = .int .i64 p ∧ q = .int .i64 (nnf c p) ∧ Drawn w4 wr4) (fun _ i _ => n - (intOf i).toNat)
        case atStart => exact ⟨0, Nat.zero_le _, rfl, by rw [hnn0]; rfl, Drawn.refl _⟩
        case round =>
          obtain ⟨p, hp, rfl, rfl, nd, rfl⟩ := hrel
          have hnp : nnf c p ≤ p := by unfold nnf; split <;> omega
          clear hnn0
          by_cases hpn : p < n
          · obtain ⟨b2, o2, rfl, hc1⟩ := hs3'.at (i := p) (by rw [hxl.out]; exact hpn)
            rcases hga.out p hpn with ⟨e1, e2⟩ | ⟨e1, e2, e3⟩
            · rw [e2] at hc1
              have hnx : Hid (nnf c (p + 1) = nnf c p) := by show _ = _; unfold nnf; split <;> split <;> omega
              replace e1 := Lib.hid e1
              replace e2 := Lib.hid e2
              go_wp2_with fail
              go_roundw
              case rel => exact ⟨p + 1, by omega, by go_num, by rw [hnx.out], nd, rfl⟩
              case measure => simp [intOf] <;> omega
            · have hb : (gd xs p == (z : Int)) = false := by rw [beq_eq_false_iff_ne]; exact e2
              have hnx : Hid (nnf c (p + 1) = nnf c p + 1) := by show _ = _; unfold nnf; split <;> split <;> omega
              have hnl : nnf c p < n - 1 := by unfold nnf; split <;> omega
              obtain ⟨b3, o3, rfl, hc2⟩ := hs4.at (i := nnf c p) (by rw [hyl.out]; exact hnl)
              rw [← e3] at hc2
              obtain ⟨q, hq⟩ : ∃ q, nnf c p = q := ⟨_, rfl⟩
              rw [hq] at hc2 hnl hnp hnx ⊢
              replace hq := Lib.hid hq
              have hge : ¬ n - 1 ≤ q := by omega
              have hq0 : (0 : Int) ≤ (q : Int) := Int.natCast_nonneg _
              have hqI : (q : Int) < ((n - 1 : Nat) : Int) := by omega
              have hp0 : (0 : Int) ≤ (p : Int) := Int.natCast_nonneg _
              have hpI : (p : Int) < (n : Int) := by omega
              replace e1 := Lib.hid e1
              replace e2 := Lib.hid e2
              replace e3 := Lib.hid e3
              go_wp2_with fail
              go_quiet (fail)
              go_wp2_with fail
              go_roundw
              case rel => exact ⟨p + 1, by omega, by go_num, by rw [hnx.out]; go_num, nd + nq, rfl⟩
              case measure => simp [intOf] <;> omega
          · obtain rfl : n = p := by omega
            have hnn : nnf c n = n - 1 := by unfold nnf; rw [if_neg (by omega)]
            rw [hnn]
            clear hnn hnp
            obtain ⟨b6, o6, rfl, hcz⟩ := (hK.out _ hg4).at (i := z) (by rw [hn.out]; exact hzn)
            obtain ⟨fz1, fz2⟩ := hfit.out z (by rw [hn.out]; exact hzn)
            have hput := Lib.hid (put_ok (z : Int) (gd rs z % 32) (by omega) (by omega) hno.out (hW4.drewN nd))
            have hzI : (z : Int) < (n : Int) := by omega
            have hz0I : (0 : Int) ≤ (z : Int) := Int.natCast_nonneg _
            clear hs3' hs4 hga
            go_wp2_with fail
            refine hput.out.mono ?_; rintro e w5 ⟨rfl, a5, b5, m5, hab5, hW5, hq1, hq2, hm5, hf5⟩
            have hg5 := own_step (grown_drewN hg4 nd) hf5 hB3.out
            have hball : ∀ y ∈ b5, y.r < gd rs z % 32 := by
              have hp5 := hPw.out
              rw [hab5, List.pairwise_append] at hp5
              cases b5 with
              | nil => intro y hy; simp at hy
              | cons y0 b5 =>
                intro y hy
                have h0 := hq2 y0 b5 rfl
                rcases List.mem_cons.1 hy with rfl | hy
                · exact h0
                · have := (List.pairwise_cons.1 hp5.2.1).1 y hy
                  rcases this with h | ⟨h, -⟩ <;> omega
            have hl5 : (a5 ++ (⟨m5, z, gd rs z % 32⟩ : Nd) :: b5).length = n := by
              have := hbn.out; rw [hab5] at this; simp at this ⊢; omega
            have hback : Hid (∀ p, p < n → ∃ v : Nat, gd ((a5 ++ (⟨m5, z, gd rs z % 32⟩ : Nd) :: b5).map Nd.x) p = v ∧ v < n ∧ (a5.length < p → gd rs v % 32 < gd rs z % 32) ∧ ((v : Int) = z ↔ p = a5.length)) := fun p hp =>
              back_at hzn rfl (by rw [← hab5]; exact hO3.out) (by rw [← hab5]; exact hno.out) hball p (by rw [hl5]; exact hp)
            obtain ⟨l5, hl5e⟩ : ∃ l5, a5 ++ (⟨m5, z, gd rs z % 32⟩ : Nd) :: b5 = l5 := ⟨_, rfl⟩
            obtain ⟨c5, hc5⟩ : ∃ c5, a5.length = c5 := ⟨_, rfl⟩
            have hc5n : c5 < n := by have := hl5; simp at this; omega
            obtain ⟨zs, hzs⟩ : ∃ zs, l5.map Nd.x = zs := ⟨_, rfl⟩
            rw [hl5e] at hW5 hl5 hback
            rw [hzs, hc5] at hback
            have hzl : Hid (zs.length = n) := by show _ = _; rw [← hzs, List.length_map, hl5]
            replace hl5 := Lib.hid hl5
            replace hzs := Lib.hid hzs
            clear hq1 hq2 hball hab5 hf5 hput hl5e hc5 hW4 hg4 hcz
            go_wp2_with fail
            refine (list_n n zs hl5.out hzs.out (by omega) hW5).mono ?_; rintro e w6 ⟨A6, rfl, hs6, g6⟩
            have hg6 := grown_trans hg5 g6
            clear hW5 hg5 g6
            go_wp2_with fail
            go_loopw [12, 13] (fun s i wr6 => ∃ p : Nat, p ≤ n ∧ i = .int .i64 p ∧ BoolIs s (fun q => Hid (q = decide (c5 < p))) ∧ Drawn w6 wr6) (fun _ i _ => n - (intOf i).toNat)
            case atStart => exact ⟨0, Nat.zero_le _, rfl, BoolIs.of _ (by show _ = _; simp), Drawn.refl _⟩
            case round =>
              obtain ⟨p, hp, rfl, ⟨q, rfl, hq⟩, nd6, rfl⟩ := hrel
              by_cases hpn : p < n
              · obtain ⟨v, ev, hv, hrk, hvz⟩ := hback.out p hpn
                obtain ⟨b7, o7, rfl, hc1⟩ := hs6.at (i := p) (by rw [hzl.out]; exact hpn)
                rw [ev] at hc1
                have hcv := (hK.out _ hg6).cell (i := v) (by rw [hn.out]; exact hv)
                have hcz := (hK.out _ hg6).cell (i := z) (by rw [hn.out]; exact hzn)
                obtain ⟨fv1, fv2⟩ := hfit.out v (by rw [hn.out]; exact hv)
                have hnv : ¬ n ≤ v := by omega
                have hp0 : (0 : Int) ≤ (p : Int) := Int.natCast_nonneg _
                have hpI : (p : Int) < (n : Int) := by omega
                have hv0 : (0 : Int) ≤ (v : Int) := Int.natCast_nonneg _
                have hvI : (v : Int) < (n : Int) := by omega
                have hnv0 : decide ((v : Int) < 0) = false := decide_eq_false (by omega)
                have hnv1 : decide ((n : Int) ≤ (v : Int)) = false := decide_eq_false (by omega)
                generalize gd rs v = rv at *
                generalize gd rs z = rz at *
                replace ev := Lib.hid ev
                cases q with
                | true =>
                  have hc5p : c5 < p := by have := hq.out; rwa [eq_comm, decide_eq_true_eq] at this
                  have hq2 : Hid (true = decide (c5 < p + 1)) := by show _ = _; rw [eq_comm, decide_eq_true_eq]; omega
                  have hrk' := hrk hc5p
                  have hrT : rv.tmod 32 < rz.tmod 32 := by rw [Int.tmod_eq_emod_of_nonneg fv1, Int.tmod_eq_emod_of_nonneg fz1]; exact hrk'
                  have hrT2 : ¬ rz.tmod 32 ≤ rv.tmod 32 := by omega
                  have hrT3 : decide (rz.tmod 32 ≤ rv.tmod 32) = false := decide_eq_false hrT2
                  replace hrk := Lib.hid hrk
                  replace hvz := Lib.hid hvz
                  go_wp2_with fail
                  go_quiet (fail)
                  go_wp2_with fail
                  go_roundw
                  case rel => exact ⟨p + 1, by omega, by go_num, BoolIs.of _ hq2.out, _, rfl⟩
                  case measure => simp [intOf] <;> omega
                | false =>
                  have hc5p : ¬ c5 < p := by have := hq.out; rwa [eq_comm, decide_eq_false_iff_not] at this
                  have hq2 : Hid (((v : Int) == (z : Int)) = decide (c5 < p + 1)) := by
                    show _ = _
                    rw [Bool.eq_iff_iff, beq_iff_eq, decide_eq_true_eq, hvz]; omega
                  have hyb : ((v : Int) == (z : Int)) = true ∨ ((v : Int) == (z : Int)) = false := by cases ((v : Int) == (z : Int)) <;> simp
                  replace hrk := Lib.hid hrk
                  replace hvz := Lib.hid hvz
                  replace hc5p := Lib.hid hc5p
                  clear hyb hcv hcz fv1 fv2 hd2 hd
                  go_wp2_with fail
                  go_quiet (fail)
                  go_wp2_with fail
                  go_roundw
                  case rel => exact ⟨p + 1, by omega, by go_num, BoolIs.of _ hq2.out, _, rfl⟩
                  case measure => simp [intOf] <;> omega
              · obtain rfl : n = p := by omega
                obtain rfl : q = true := by rw [hq.out, decide_eq_true_eq]; exact hc5n
                go_wp2_with fail
                refine (lives_any _).mono ?_; rintro e w7 ⟨rfl, g7⟩
                go_wp2_with fail
                go_ret
                exact ⟨rfl, grown_trans (grown_drewN hg6 nd6) g7⟩
end Go.Proofs.Ytiakbgdeanllnaa
