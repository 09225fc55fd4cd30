/- HandlesNone, HandlesOlder. -/
import Derived.Test.YtoocpofcmnnlfaaHanA
namespace Go.Proofs.Ytoocpofcmnnlfaa
open Go.RowKit Go.Shelf Tk
set_option linter.unusedVariables false
set_option linter.unusedSimpArgs false

/-- Make, its answer known, in the walk's spelling. -/
theorem make_as (t t' : Tab) (h e : Nat) (x : Int) (hx : x = h) (ht : t.ok) (hm : t.make = (t', h, e)) (b : Nat) (w : World) (hA : Arr w b 513 t.v) :
    Calls Try.prog 10 #[.pointer (some ⟨b, 0, none⟩)] w fun y w' => y = .returned (.tuple #[.int .u32 x, .int .i64 e]) ∧ Arr w' b 513 t'.v ∧ w.grownBy w' (some b) := by
  subst hx; exact make_is t t' h e ht hm b w hA
theorem find_range_first {n : Nat} {p : Nat → Bool} (hn : 0 < n) (h : p 0 = true) : (List.range n).find? p = some 0 := by
  rw [List.find?_range_eq_some]; exact ⟨h, by simpa using hn, fun j hj => absurd hj (Nat.not_lt_zero _)⟩
/-- Three places, of which the first is used. -/
def tO (a : Nat) (q : Bool) : Tab := ⟨fun j => if j = 0 then a else 0, fun j => if j = 0 then q else false, 3⟩
theorem tO_ok {a : Nat} (ha : a ≤ 16777215) (q : Bool) : (tO a q).ok := by
  refine ⟨fun i => ?_, by simp [tO], by simp [tO]⟩
  simp only [tO]; split <;> omega
theorem tO_zero : tab0 3 = tO 0 false := by
  unfold tab0 tO; congr <;> (funext j; split <;> rfl)
theorem tO_make {a : Nat} (ha : a < 16777215) : (tO a false).make = (tO (a + 1) true, 256 * (a + 1), 0) := by
  have hl : (tO a false).least = some 0 := find_range_first (by simp [tO]) (by simp [Tab.free, tO]; omega)
  unfold Tab.make
  rw [hl]
  simp only [Tab.take, Tab.h, tO]
  refine Prod.ext ?_ (Prod.ext ?_ rfl)
  · simp only [Tab.mk.injEq, and_true]
    constructor <;> (funext j; by_cases e : j = 0 <;> simp [e])
  · simp; omega
theorem tO_place (a p : Nat) (h : Nat) (e : Nat) (hp : (tO a true).place h = (p, e)) : ((tO a true).place h).2 = e := by rw [hp]
theorem tO_newer {a k : Nat} : (tO a true).place (256 * (a + 1 + k)) = (0, 5) := by
  unfold Tab.place
  have h1 : 256 * (a + 1 + k) / 256 = a + 1 + k := by omega
  have h2 : 256 * (a + 1 + k) % 256 = 0 := by omega
  rw [h1, h2, if_pos (.inr (by simp [tO]; omega))]
theorem tO_beside {a : Nat} (ha : 1 ≤ a) : (tO a true).place (256 * a + 1) = (0, 5) := by
  unfold Tab.place
  have h1 : (256 * a + 1) / 256 = a := by omega
  have h2 : (256 * a + 1) % 256 = 1 := by omega
  rw [h1, h2, if_pos (.inr (by simp [tO]; omega))]
theorem tO_older {a b : Nat} (h1 : 1 ≤ b) (h2 : b < a) : (tO a true).place (256 * b) = (0, 6) := by
  unfold Tab.place
  have h3 : 256 * b / 256 = b := by omega
  have h4 : 256 * b % 256 = 0 := by omega
  rw [h3, h4, if_neg (by simp [tO]; omega), if_pos (.inl (by simp [tO]; omega))]
theorem tO_now {a : Nat} (ha : 1 ≤ a) : (tO a true).place (256 * a) = (0, 0) := by
  unfold Tab.place
  have h3 : 256 * a / 256 = a := by omega
  have h4 : 256 * a % 256 = 0 := by omega
  rw [h3, h4, if_neg (by simp [tO]; omega), if_neg (by simp [tO])]
theorem tO_drop {a : Nat} (ha : 1 ≤ a) : (tO a true).drop (256 * a) = tO a false := by
  unfold Tab.drop
  rw [tO_now ha, if_pos rfl]
  have h4 : 256 * a % 256 = 0 := by omega
  rw [h4]
  simp only [Tab.let, tO, Tab.mk.injEq, and_true, true_and]
  funext j; by_cases e : j = 0 <;> simp [e]
theorem tO_drop_old {a b : Nat} (h1 : 1 ≤ b) (h2 : b < a) : (tO a true).drop (256 * b) = tO a true := by
  unfold Tab.drop
  rw [tO_older h1 h2, if_neg (by decide)]
theorem tO_list (a : Nat) : (tO a true).list = [(256 * a : Int)] := by
  unfold Tab.list Tab.upto
  rw [show (tO a true).many = 3 from rfl, show (List.range 3).filter (tO a true).tk = [0] from rfl]
  simp [Tab.h, tO, Int.mul_comm]

set_option maxRecDepth 100000 in
set_option maxHeartbeats 4000000 in
theorem handlesOlder_walk (a0 : Int) (w0 : (Lit.int .u16 a0).wf = true) (a1 : Int) (w1 : (Lit.int .u8 a1).wf = true) (w : World) :
    Calls Try.prog 6 #[.int .u16 a0, .int .u8 a1] w fun e w' => e = .returned (.bool true) ∧ w.grownBy w' none := by
  obtain ⟨h0, h1⟩ := wf_u16 w0
  obtain ⟨h2, h3⟩ := wf_u8 w1
  clear w0 w1
  obtain ⟨m, rfl⟩ := Int.eq_ofNat_of_zero_le h0
  obtain ⟨q, rfl⟩ := Int.eq_ofNat_of_zero_le h2
  obtain ⟨n, hn, hn1, hn2⟩ : ∃ n : Nat, n = 1 + m % 500 ∧ 1 ≤ n ∧ n ≤ 500 := ⟨_, rfl, by omega, by omega⟩
  have hn' : (1 : Int) + (m : Int) % 500 = n := by omega
  clear hn h0 h2
  have hN := new_any 3 (by decide) (by decide) w
  rw [tO_zero] at hN
  have hN := Lib.hid hN
  go_enter Try.func6, Try.ntmps6
  go_wp2_with fail
  refine hN.out.mono ?_; rintro e wa ⟨rfl, hA, hg, hsz⟩
  clear hN
  go_wp2_with fail
  try rw [hn']

  obtain ⟨B, hB⟩ : ∃ B, w.heap.size = B := ⟨_, rfl⟩
  rw [hB] at hA ⊢
  go_loopw [8, 9, 10] (fun i _ _ wr => ∃ k k1 : Nat, k ≤ n ∧ Hid (k1 = k + 1) ∧ i = .int .u32 k1 ∧ Arr wr B 513 (tO k (decide (k = n))).v ∧ wa.grownBy wr (some B)) (fun i _ _ _ => n + 1 - (intOf i).toNat)
  case atStart => exact ⟨0, 1, Nat.zero_le _, rfl, rfl, by rw [decide_eq_false (by omega)]; exact hA, grown_refl _ _⟩
  case round =>
    obtain ⟨k, k1, hk, hk1, rfl, hA1, hg1⟩ := hrel
    clear hn'
    have hk2 := hk1.out
    have hk3 : k1 ≤ n ↔ k < n := by omega
    have hk4 : k1 < n ↔ k + 1 < n := by omega
    have hk5 : k1 ≤ 501 := by omega
    clear hk2
    by_cases hlt : k < n
    · rw [decide_eq_false (by omega)] at hA1
      have hk6 := hk3.2 hlt
      clear hk3 hk4
      go_wp2_with fail
      refine (make_as (tO k false) (tO (k + 1) true) _ 0 (256 * (k1 : Int)) (by have := hk1.out; omega) (tO_ok (by omega) _) (tO_make (by omega)) _ _ hA1).mono ?_; rintro e w1 ⟨rfl, hA2, hg2⟩
      have hg2 := grown_trans hg1 hg2
      by_cases he : k1 < n
      · go_wp2_with fail
        refine (drop_is (tO (k + 1) true) (tO (k + 1) false) (256 * (k + 1)) 0 (tO_ok (by omega) _) (by rw [tO_now (by omega)]) (tO_drop (by omega)) _ _ (by have := hk1.out; omega) (by omega) _ hA2).mono ?_; rintro e w2 ⟨rfl, hA3, hg3⟩
        go_wp2_with fail
        go_roundw
        case rel => exact ⟨k + 1, k1 + 1, by omega, by have := hk1.out; show _ = _; omega, by go_num, by have := hk1.out; rw [decide_eq_false (by omega)]; exact hA3, grown_trans hg2 hg3⟩
        case measure => have := hk1.out; simp [intOf]; omega
      · go_wp2_with fail
        go_roundw
        case rel => exact ⟨k + 1, k1 + 1, by omega, by have := hk1.out; show _ = _; omega, by go_num, by have := hk1.out; rw [decide_eq_true (by omega)]; exact hA2, hg2⟩
        case measure => have := hk1.out; simp [intOf]; omega
    · have hk6 : ¬ k1 ≤ n := fun h => hlt (hk3.1 h)
      obtain rfl : k = n := by omega
      clear hk3 hk4
      rw [decide_eq_true rfl] at hA1
      have hok := Lib.hid (tO_ok (a := k) (by omega) true)
      have hgw : w.grownBy wr none := grown_step hg hg1 (by omega)
      clear hA hg1
      go_wp2_with fail
      refine (place_is _ (256 * (k + 1 + q)) 0 5 hok.out tO_newer _ _ (by omega) (by omega) _ hA1).mono ?_; rintro e w1 ⟨rfl, hg1⟩
      have hA2 := hA1.kept hg1 (by simp)
      have hgw1 := grown_trans hgw hg1
      clear hA1 hgw hg1
      go_wp2_with fail
      refine (place_is _ (256 * k + 1) 0 5 hok.out (tO_beside hn1) _ _ (by omega) (by omega) _ hA2).mono ?_; rintro e w2 ⟨rfl, hg2⟩
      have hA3 := hA2.kept hg2 (by simp)
      have hgw2 := grown_trans hgw1 hg2
      clear hA2 hgw1 hg2
      have hq3 : q = 0 ∨ k ≤ q ∨ (1 ≤ q ∧ q < k) := by omega
      rcases hq3 with rfl | hq | ⟨hq, hq'⟩
      · go_wp2_with fail
        refine (alive_any _).mono ?_; rintro e w3 ⟨rfl, hg3⟩
        go_wp2_with fail
        go_ret
        exact ⟨rfl, grown_trans hgw2 hg3⟩
      · have hz : ((q : Int) == 0) = false := by simp; omega
        go_wp2_with fail
        refine (alive_any _).mono ?_; rintro e w3 ⟨rfl, hg3⟩
        go_wp2_with fail
        go_ret
        exact ⟨rfl, grown_trans hgw2 hg3⟩
      · have hz : ((q : Int) == 0) = false := by simp; omega
        obtain ⟨d, hd, hd1, hd2⟩ : ∃ d : Nat, ((k : Int) - (q : Int)) = d ∧ 1 ≤ d ∧ d < k := ⟨k - q, by omega, by omega, by omega⟩
        have hw1 : IntKind.u32.wrap ((k : Int) - (q : Int)) = d := by rw [hd, IntKind.wrap_u32]; omega
        have hge : ¬ k ≤ q := by omega
        clear hk1 hk5 hk6 hd hq hq' hlt hk hsz
        go_wp2_with fail
        refine (place_is _ (256 * d) 0 6 hok.out (tO_older (by omega) (by omega)) _ _ (by omega) (by omega) _ hA3).mono ?_; rintro e w3 ⟨rfl, hg3⟩
        have hA4 := hA3.kept hg3 (by simp)
        have hgw3 := grown_trans hgw2 hg3
        clear hA3 hgw2 hg3
        go_wp2_with fail
        refine (alive_any _).mono ?_; rintro e w4 ⟨rfl, hg4⟩
        have hA5 := hA4.kept hg4 (by simp)
        have hgw4 := grown_trans hgw3 hg4
        clear hA4 hgw3 hg4
        go_wp2_with fail
        refine (drop_is _ _ (256 * d) 6 hok.out (by rw [tO_older (by omega) (by omega)]) (tO_drop_old (by omega) (by omega)) _ _ (by omega) (by omega) _ hA5).mono ?_; rintro e w5 ⟨rfl, hA6, hg5⟩
        have hgw5 := grown_step hgw4 hg5 (by omega)
        go_wp2_with fail
        refine (list_any _ hok.out.1 hok.out.2.2 _ _ hA6).mono ?_; rw [tO_list]; rintro e w6 ⟨A, c, rfl, hc, hs, hg6⟩
        have hgw6 := grown_trans hgw5 hg6
        go_wp2_with fail
        refine (sameWords_any _ _ _ _ _ _ _ _ [256 * (k : Int)] [256 * (k : Int)] _ hc (by simp) (by simp) (by simp) (hs.alloc _) (SlA.made _ _ _ _ _ rfl)).mono ?_; rw [decide_eq_true rfl]; rintro e wd ⟨rfl, nn, rfl⟩
        go_wp2_with fail
        go_ret
        exact ⟨rfl, grown_drewN (grown_alloc hgw6 _) _⟩
end Go.Proofs.Ytoocpofcmnnlfaa
