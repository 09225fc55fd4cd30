/- WaitsFall. -/
import Derived.Test.YtiakbgdeanllnaaWtA
namespace Go.Proofs.Ytiakbgdeanllnaa
open Go.RowKit Go.Shelf Tk
set_option linter.unusedVariables false
set_option linter.unusedSimpArgs false

/-- Who stands ahead of whom. -/
def Lt (y z : Nd) : Prop := z.r < y.r ∨ (y.r = z.r ∧ y.x < z.x)
/-- So many wait, as the statement says. -/
def OkL (rs : List Int) (k : Nat) (l : List Nd) : Prop := l.length = k ∧ l.Pairwise Lt ∧ ∀ y ∈ l, ∃ u : Nat, y.x = u ∧ u < k ∧ y.r = gd rs u % 32
theorem OkL.more {rs : List Int} {k m : Nat} {a b : List Nd} {r : Int} (h : OkL rs k (a ++ b)) (ha : ∀ y ∈ a, r ≤ y.r) (hb : ∀ y b', b = y :: b' → y.r < r) (hr : r = gd rs k % 32) : OkL rs (k + 1) (a ++ (⟨m, k, r⟩ : Nd) :: b) := by
  obtain ⟨h1, h2, h3⟩ := h
  rw [List.pairwise_append] at h2
  have hball : ∀ z ∈ b, z.r < r := by
    cases b with
    | nil => intro z hz; simp at hz
    | cons z0 b =>
      intro z hz
      have h0 := hb z0 b rfl
      rcases List.mem_cons.1 hz with rfl | hz
      · exact h0
      · have := (List.pairwise_cons.1 h2.2.1).1 z hz
        rcases this with h | ⟨h, -⟩ <;> omega
  refine ⟨by simp at h1 ⊢; omega, ?_, ?_⟩
  · rw [List.pairwise_append]
    refine ⟨h2.1, List.pairwise_cons.2 ⟨fun z hz => .inl (hball z hz), h2.2.1⟩, fun y hy z hz => ?_⟩
    rcases List.mem_cons.1 hz with rfl | hz
    · obtain ⟨u, e, hu, -⟩ := h3 y (List.mem_append_left _ hy)
      have := ha y hy
      by_cases e2 : y.r = r
      · exact .inr ⟨e2, by show y.x < (k : Int); omega⟩
      · exact .inl (by show r < y.r; omega)
    · exact h2.2.2 y hy z hz
  · intro y hy
    rw [List.mem_append, List.mem_cons] at hy
    rcases hy with hy | rfl | hy
    · obtain ⟨u, e, hu, e2⟩ := h3 y (List.mem_append_left _ hy)
      exact ⟨u, e, by omega, e2⟩
    · exact ⟨k, rfl, by omega, hr⟩
    · obtain ⟨u, e, hu, e2⟩ := h3 y (List.mem_append_right _ hy)
      exact ⟨u, e, by omega, e2⟩
theorem OkL.at {rs : List Int} {k p : Nat} {l : List Nd} (h : OkL rs k l) (hp : p + 1 < k) : ∃ u v : Nat, gd (l.map Nd.x) p = u ∧ gd (l.map Nd.x) (p + 1) = v ∧ u < k ∧ v < k ∧ (gd rs v % 32 < gd rs u % 32 ∨ (gd rs u % 32 = gd rs v % 32 ∧ u < v)) := by
  obtain ⟨h1, h2, h3⟩ := h
  have hp1 : p < l.length := by omega
  have hp2 : p + 1 < l.length := by omega
  obtain ⟨u, e1, hu, er⟩ := h3 l[p] (List.getElem_mem hp1)
  obtain ⟨v, e2, hv, er2⟩ := h3 l[p + 1] (List.getElem_mem hp2)
  refine ⟨u, v, by rw [gd_lt (by simpa using hp1), List.getElem_map]; exact e1, by rw [gd_lt (by simpa using hp2), List.getElem_map]; exact e2, hu, hv, ?_⟩
  have := List.pairwise_iff_getElem.1 h2 p (p + 1) hp1 hp2 (by omega)
  rw [← er, ← er2]
  rcases this with h | ⟨ha, hb⟩
  · exact .inl h
  · exact .inr ⟨ha, by omega⟩
set_option maxRecDepth 100000 in
set_option maxHeartbeats 8000000 in
theorem waitsFall_walk (A0 : Option Addr) (c0 : Nat) (rs : List Int) (hl0 : rs.length ≤ c0) (w : World)
    (hs0 : SlA w 0 w.heap.size .u8 A0 rs) (hf0 : ∀ x ∈ rs, (Lit.int .u8 x).wf = true) (hb0 : rs.length * 1 ≤ 140737488351232) :
    Calls Try.prog 3 #[.slice A0 rs.length c0] w fun e w' => e = .returned (.bool true) ∧ w.grownBy w' none := by
  have hfit : Hid (∀ i, i < rs.length → 0 ≤ gd rs i ∧ gd rs i < 256) := fun i hi => wf_u8 (hf0 _ (gd_mem hi))
  clear hf0
  by_cases hlen : 200 < rs.length
  · have hd : decide ((200 : Int) < (rs.length : Int)) = true := decide_eq_true (by omega)
    clear hlen
    go_enter Try.func3, Try.ntmps3
    go_wp2_with fail
    refine (lives_any _).mono ?_; rintro e we ⟨rfl, hg2⟩
    go_wp2_with fail
    go_ret
    exact ⟨rfl, hg2⟩
  · have hx : rs.length ≤ 200 := by omega
    have hd : decide ((200 : Int) < (rs.length : Int)) = false := decide_eq_false (by omega)
    clear hlen
    have hK := Lib.hid (fun wr (h : w.grownBy wr none) => hs0.kept h (by simp))
    obtain ⟨n, hn⟩ : ∃ n, rs.length = n := ⟨_, rfl⟩
    rw [hn] at hl0 hx hd ⊢
    replace hn := Lib.hid hn
    clear hs0 hb0
    go_enter Try.func3, Try.ntmps3
    go_wp2_with fail
    refine (new_ok _).mono ?_; rintro e w0 ⟨hd0, Q, rfl, hW0, g0, hh, hQ⟩
    have hB0 : ∀ k ∈ Blks [hd0], w.heap.size ≤ k := fun k hk => by simp [Blks] at hk; omega
    go_wp2_with fail
    go_loopw [4] (fun i wr => ∃ (k : Nat) (l : List Nd), k ≤ n ∧ i = .int .i64 k ∧ Wq wr Q hd0 l ∧ Hid (OkL rs k l) ∧ Hid (∀ q ∈ Blks (hd0 :: l), w.heap.size ≤ q) ∧ w.grownBy wr none) (fun i _ => n - (intOf i).toNat)
    case atStart => exact ⟨0, [], Nat.zero_le _, rfl, hW0, ⟨rfl, List.Pairwise.nil, fun y hy => by simp at hy⟩, hB0, g0⟩
    case round =>
      obtain ⟨k, l, hk, rfl, hW, hO, hB, hg⟩ := hrel
      by_cases hlt : k < n
      · have hkl : k < rs.length := by rw [hn.out]; exact hlt
        obtain ⟨b1, o1, rfl, hc⟩ := (hK.out _ hg).at hkl
        obtain ⟨f1, f2⟩ := hfit.out k hkl
        have hno : Hid (∀ m ∈ l, m.x ≠ (k : Int)) := fun m hm e => by
          obtain ⟨u, e2, hu, -⟩ := hO.out.2.2 m hm
          omega
        have hsz := hg.size
        clear hkl
        go_wp2_with fail
        refine (put_ok (k : Int) (gd rs k % 32) (by omega) (by omega) hno.out hW).mono ?_; rintro e w1 ⟨rfl, a, b, m, hab, hW1, hq1, hq2, hm, hf⟩
        have hg1 := own_step hg hf hB.out
        have hO1 : Hid (OkL rs (k + 1) (a ++ (⟨m, k, gd rs k % 32⟩ : Nd) :: b)) := OkL.more (by rw [← hab]; exact hO.out) hq1 hq2 rfl
        have hB1 : Hid (∀ q ∈ Blks (hd0 :: (a ++ (⟨m, k, gd rs k % 32⟩ : Nd) :: b)), w.heap.size ≤ q) := fun q hq => by
          have hBo := hB.out
          rw [hab] at hBo
          simp only [Blks, List.map_cons, List.map_append, List.mem_cons, List.mem_append] at hq hBo
          rcases hq with h | h | h | h
          · exact hBo q (.inl h)
          · exact hBo q (.inr (.inl h))
          · omega
          · exact hBo q (.inr (.inr h))
        replace hab := Lib.hid hab
        replace hq1 := Lib.hid hq1
        replace hq2 := Lib.hid hq2
        clear hf
        go_wp2_with fail
        go_roundw
        case rel => exact ⟨k + 1, _, by omega, by go_num, hW1, hO1, hB1, hg1⟩
        case measure => simp [intOf] <;> omega
      · obtain rfl : n = k := by omega
        have hll : l.length = n := hO.out.1
        obtain ⟨xs, hxs⟩ : ∃ xs, l.map Nd.x = xs := ⟨_, rfl⟩
        have hat := Lib.hid (fun p (hp : p + 1 < n) => by have := hO.out.at hp; rw [hxs] at this; exact this)
        have hxl : Hid (xs.length = n) := by show _ = _; rw [← hxs, List.length_map, hll]
        replace hxs := Lib.hid hxs
        replace hll := Lib.hid hll
        clear hW0 g0 hB0 hlt
        go_wp2_with fail
        refine (list_n n xs hll.out hxs.out (by omega) hW).mono ?_; rintro e w2 ⟨A2, rfl, hs2, g2⟩
        have hg2 := grown_trans hg g2
        clear hW hg g2
        go_wp2_with fail
        go_loopw [6, 7, 8] (fun i _ _ wr => ∃ p : Nat, p ≤ n ∧ i = .int .i64 ((p : Int) + 1) ∧ Drawn w2 wr) (fun i _ _ _ => n + 1 - (intOf i).toNat)
        case atStart => exact ⟨0, Nat.zero_le _, rfl, Drawn.refl _⟩
        case round =>
          obtain ⟨p, hp, rfl, nd, rfl⟩ := hrel
          by_cases hpn : p + 1 < n
          · obtain ⟨u, v, eu, ev, hu, hv, hor⟩ := hat.out p hpn
            obtain ⟨b2, o2, rfl, hc1⟩ := hs2.at (i := p) (by rw [hxl.out]; omega)
            have hc2 := hs2.cell (i := p + 1) (by rw [hxl.out]; exact hpn)
            rw [eu] at hc1
            rw [ev] at hc2
            obtain ⟨b3, o3, rfl, hcu⟩ := (hK.out _ hg2).at (i := u) (by rw [hn.out]; exact hu)
            have hcv := (hK.out _ hg2).cell (i := v) (by rw [hn.out]; exact hv)
            have fu := hfit.out u (by rw [hn.out]; exact hu)
            have fv := hfit.out v (by rw [hn.out]; exact hv)
            generalize gd rs u = ra at *
            generalize gd rs v = rb at *
            obtain ⟨fu1, fu2⟩ := fu
            obtain ⟨fv1, fv2⟩ := fv
            replace eu := Lib.hid eu
            replace ev := Lib.hid ev
            have hpI : (p : Int) + 1 < (n : Int) := by omega
            have hnu : ¬ n ≤ u := by omega
            have hnv : ¬ n ≤ v := by omega
            have hq1 : (0 : Int) ≤ (p : Int) := Int.natCast_nonneg _
            have hq2 : (p : Int) < (n : Int) := by omega
            have hq3 : (0 : Int) ≤ (p : Int) + 1 := by omega
            have hlt1 : decide (ra % 32 < rb % 32) = false := by
              rw [decide_eq_false_iff_not]
              rcases hor with h | ⟨h, -⟩ <;> omega
            by_cases heq : ra % 32 = rb % 32
            · have he : (ra % 32 == rb % 32) = true := by rw [beq_iff_eq]; exact heq
              have huv : u < v := by
                rcases hor with h | ⟨-, h⟩
                · omega
                · exact h
              have hnvu : ¬ v < u := by omega
              have hnvuI : decide ((v : Int) < (u : Int)) = false := decide_eq_false (by omega)
              replace heq := Lib.hid heq
              clear hor
              go_wp2_with fail
              go_quiet (fail)
              go_wp2_with fail
              go_roundw
              case rel => exact ⟨p + 1, by omega, by go_num, nd + nq, rfl⟩
              case measure => simp [intOf] <;> omega
            · have he : (ra % 32 == rb % 32) = false := by rw [beq_eq_false_iff_ne]; exact heq
              replace heq := Lib.hid heq
              clear hor
              go_wp2_with fail
              go_quiet (fail)
              go_wp2_with fail
              go_roundw
              case rel => exact ⟨p + 1, by omega, by go_num, nd + nq, rfl⟩
              case measure => simp [intOf] <;> omega
          · go_wp2_with fail
            refine (lives_any _).mono ?_; rintro e w3 ⟨rfl, g3⟩
            go_wp2_with fail
            go_ret
            exact ⟨rfl, grown_trans (grown_drewN hg2 nd) g3⟩
end Go.Proofs.Ytiakbgdeanllnaa
