/- Several texts in one (merge.py): SameW, ObTh, ObPP1, ObPP2, ObPP3, ObPP4, ObPlay. -/
import Derived.Test.YtneamjaglgnmkaaGreatDoorRows
import Derived.Test.YtneamjaglgnmkaaGreatDoorBase
import Derived.Test.YtneamjaglgnmkaaGreatDoorObRefA
import Derived.Test.YtneamjaglgnmkaaGreatDoorBkW8
import Derived.Test.YtneamjaglgnmkaaGreatDoorVrw
namespace Go.Proofs.YtneamjaglgnmkaaGreatDoor
open Go.RowKit Go.Shelf Tk
set_option linter.unusedVariables false
set_option linter.unusedSimpArgs false
set_option maxHeartbeats 1000000 in
theorem sameWords_any (A B : Option Addr) (c d lo hi lo' hi' : Nat) (xs ys : List Int) (w : World) (hl : xs.length ≤ c) (hl' : ys.length ≤ d) (hm : xs.length ≤ 1000000) (hm' : ys.length ≤ 1000000)
    (hs : SlA w lo hi .u32 A xs) (hs' : SlA w lo' hi' .u32 B ys) :
    Calls Tryz.prog 26 #[.slice A xs.length c, .slice B ys.length d] w fun e w' => e = .returned (.bool (decide (xs = ys))) ∧ ∃ n, w.drewN n = w' := by
  by_cases hle : xs.length = ys.length
  · have hlb : ((xs.length : Int) != (ys.length : Int)) = false := by simp [hle]
    have hle' : xs.length ≤ ys.length ∧ ys.length ≤ xs.length := by omega
    have HL := Lib.hid hle
    clear hle
    go_enter Tryz.func26, Tryz.ntmps26
    go_wp2
    go_loopw [5] (fun i wr => ∃ (k n : Nat), k ≤ xs.length ∧ i = .int .i64 k ∧ Hid (∀ j, j < k → gd xs j = gd ys j) ∧ wr = w.drewN n) (fun i _ => xs.length - (intOf i).toNat)
    case atStart => exact ⟨0, 0, Nat.zero_le _, rfl, fun j hj => absurd hj (Nat.not_lt_zero _), rfl⟩
    case round =>
      obtain ⟨k, n, hk, rfl, hno, rfl⟩ := hrel
      by_cases hlt : k < xs.length
      · obtain ⟨b, o, rfl, hc⟩ := hs.at hlt
        obtain ⟨b', o', rfl, hc'⟩ := hs'.at (show k < ys.length by omega)
        have hlt' : k < ys.length := by omega
        clear hs hs'
        by_cases he : gd xs k = gd ys k
        · have hb : (gd xs k != gd ys k) = false := by simpa using he
          have hno' : Hid (∀ j, j < k + 1 → gd xs j = gd ys j) := fun j hj => by
            by_cases e : j = k
            · subst e; exact he
            · exact hno.out j (by omega)
          clear he
          go_wp2
          go_quiet (fail)
          go_wp2
          go_roundw
          case rel => exact ⟨k + 1, _, by omega, by go_num, hno', rfl⟩
          case measure => simp [intOf]; omega
        · have hb : (gd xs k != gd ys k) = true := by simpa using he
          have hne : Hid (decide (xs = ys) = false) := by
            have : xs ≠ ys := fun e => he (by rw [e])
            simpa [Hid] using this
          clear he
          go_wp2
          go_quiet (fail)
          go_wp2
          go_ret
          exact ⟨by rw [hne.out]; rfl, n + nq, (World.drewN_drewN _ _ _).symm⟩
      · have heq : Hid (decide (xs = ys) = true) := by
          have : xs = ys := ext_gd HL.out fun i hi => hno.out i (by omega)
          simpa [Hid] using this
        go_wp2
        go_ret
        exact ⟨by rw [heq.out]; rfl, n, rfl⟩
  · have hlb : ((xs.length : Int) != (ys.length : Int)) = true := by simp; omega
    have hne : Hid (decide (xs = ys) = false) := by
      have : xs ≠ ys := fun e => hle (by rw [e])
      simpa [Hid] using this
    clear hle
    go_enter Tryz.func26, Tryz.ntmps26
    go_wp2
    go_ret
    exact ⟨by rw [hne.out]; rfl, 0, rfl⟩

end Go.Proofs.YtneamjaglgnmkaaGreatDoor
namespace Go.Proofs.YtneamjaglgnmkaaGreatDoor
open Go.RowKit Go.Shelf Tk Tk.Msk
set_option linter.unusedVariables false
set_option linter.unusedSimpArgs false
/-- A slice that holds the words. -/
def Ws (w : World) (v : Value) (xs : List Int) : Prop := ∃ A c, v = .slice A xs.length c ∧ xs.length ≤ c ∧ SlA w 0 w.heap.size .u32 A xs
theorem Ws.of {w : World} {base : Nat} {v : Value} {xs : List Int} (h : Mine w base 23 .u32 v xs) : Ws w v xs := by
  obtain ⟨A, c, rfl, h1, h2, h3⟩ := h.form
  exact ⟨A, c, rfl, h1, h.sl.wide (Nat.zero_le _) (Nat.le_refl _) (Nat.le_refl _)⟩
theorem Ws.nil (w : World) : Ws w (.slice none 0 0) [] := ⟨none, 0, rfl, Nat.le_refl _, Nat.le_refl _, .inl rfl⟩
theorem Ws.keep {w w' : World} {v : Value} {xs : List Int} (h : Ws w v xs) (g : w.grownBy w' none) : Ws w' v xs := by
  obtain ⟨A, c, rfl, h1, h2⟩ := h
  exact ⟨A, c, rfl, h1, (h2.kept g (by simp)).wide (Nat.le_refl _) g.size (Nat.le_refl _)⟩
theorem Ws.same {w : World} {v u : Value} {xs : List Int} (h : Ws w v xs) (k : Ws w u xs) (hx : xs.length ≤ 1000) :
    Calls Tryz.prog 26 #[v, u] w fun e w' => e = .returned (.bool true) ∧ w.grownBy w' none := by
  obtain ⟨A, c, rfl, h1, h2⟩ := h
  obtain ⟨B, d, rfl, k1, k2⟩ := k
  refine (sameWords_any A B c d _ _ _ _ xs xs w h1 k1 (by omega) (by omega) h2 k2).mono ?_
  rintro e w' ⟨rfl, n, rfl⟩
  exact ⟨by rw [decide_eq_true rfl], grown_drewN (grown_refl _ _) n⟩
set_option maxRecDepth 100000 in
set_option maxHeartbeats 8000000 in
theorem sameThing_ok {w : World} (k : Nat) (a b n o : Int) {r1 r2 o1 o2 : Value} {rs os : List Int} (h1 : Ws w r1 rs) (h2 : Ws w r2 rs) (h3 : Ws w o1 os) (h4 : Ws w o2 os) (hr : rs.length ≤ 1000) (ho : os.length ≤ 1000) :
    Calls Tryz.prog 12 #[thV k a b n o r1 o1, thV k a b n o r2 o2] w fun e w' => e = .returned (.bool true) ∧ w.grownBy w' none := by
  have hG := Lib.hid (fun A B => grown_alloc (World.grownBy_alloc w A none) B)
  have s1 := Lib.hid (fun W (g : w.grownBy W none) => (h1.keep g).same (h2.keep g) hr)
  have s2 := Lib.hid (fun W (g : w.grownBy W none) => (h3.keep g).same (h4.keep g) ho)
  have s3 := Lib.hid (fun W => (Ws.nil W).same (Ws.nil W) (by simp))
  obtain ⟨A1, c1, rfl, -, -⟩ := h1
  obtain ⟨A2, c2, rfl, -, -⟩ := h2
  obtain ⟨A3, c3, rfl, -, -⟩ := h3
  obtain ⟨A4, c4, rfl, -, -⟩ := h4
  unfold thV
  go_enter Tryz.func12, Tryz.ntmps12
  go_wp2_with fail
  have hX := heap2_0 w (.cells #[.int .u32 0, .int .u8 k, .int .u32 a, .int .u32 b, .int .u32 n, .int .u32 o, .slice A1 rs.length c1, .slice A3 os.length c3, .int .i64 0, .slice none 0 0] 55) (.cells #[.int .u32 0, .int .u8 k, .int .u32 a, .int .u32 b, .int .u32 n, .int .u32 o, .slice A2 rs.length c2, .slice A4 os.length c4, .int .i64 0, .slice none 0 0] 55)
  have hY := heap2_1 w (.cells #[.int .u32 0, .int .u8 k, .int .u32 a, .int .u32 b, .int .u32 n, .int .u32 o, .slice A1 rs.length c1, .slice A3 os.length c3, .int .i64 0, .slice none 0 0] 55) (.cells #[.int .u32 0, .int .u8 k, .int .u32 a, .int .u32 b, .int .u32 n, .int .u32 o, .slice A2 rs.length c2, .slice A4 os.length c4, .int .i64 0, .slice none 0 0] 55)
  have hg := hG.out (.cells #[.int .u32 0, .int .u8 k, .int .u32 a, .int .u32 b, .int .u32 n, .int .u32 o, .slice A1 rs.length c1, .slice A3 os.length c3, .int .i64 0, .slice none 0 0] 55) (.cells #[.int .u32 0, .int .u8 k, .int .u32 a, .int .u32 b, .int .u32 n, .int .u32 o, .slice A2 rs.length c2, .slice A4 os.length c4, .int .i64 0, .slice none 0 0] 55)
  generalize ((w.alloc (.cells #[.int .u32 0, .int .u8 k, .int .u32 a, .int .u32 b, .int .u32 n, .int .u32 o, .slice A1 rs.length c1, .slice A3 os.length c3, .int .i64 0, .slice none 0 0] 55)).alloc (.cells #[.int .u32 0, .int .u8 k, .int .u32 a, .int .u32 b, .int .u32 n, .int .u32 o, .slice A2 rs.length c2, .slice A4 os.length c4, .int .i64 0, .slice none 0 0] 55)) = W0 at *
  generalize w.heap.size = Z at *
  refine (s1.out _ hg).mono ?_; rintro e w7 ⟨rfl, hg7⟩
  replace hX := (hg7.block Z (Array.getElem?_eq_some_iff.1 hX).1 (by simp)).trans hX
  replace hY := (hg7.block (Z + 1) (Array.getElem?_eq_some_iff.1 hY).1 (by simp)).trans hY
  replace hg := grown_trans hg hg7
  clear hg7
  have x7 := cell_of (i := 7) (v := .slice A3 os.length c3) hX rfl
  have y7 := cell_of (i := 7) (v := .slice A4 os.length c4) hY rfl
  have x8 := cell_of (i := 8) (v := .int .i64 0) hX rfl
  have y8 := cell_of (i := 8) (v := .int .i64 0) hY rfl
  have x9 := cell_of (i := 9) (v := .slice none 0 0) hX rfl
  have y9 := cell_of (i := 9) (v := .slice none 0 0) hY rfl
  replace hX := Lib.hid hX
  replace hY := Lib.hid hY
  replace hg := Lib.hid hg
  go_wp2_with fail
  refine (s2.out _ hg.out).mono ?_; rintro e w8 ⟨rfl, hg7⟩
  have hX := (hg7.block Z (Array.getElem?_eq_some_iff.1 hX.out).1 (by simp)).trans hX.out
  have hY := (hg7.block (Z + 1) (Array.getElem?_eq_some_iff.1 hY.out).1 (by simp)).trans hY.out
  replace hg := Lib.hid (grown_trans hg.out hg7)
  clear hg7 x7 x8 x9 y7 y8 y9
  have x7 := cell_of (i := 7) (v := .slice A3 os.length c3) hX rfl
  have y7 := cell_of (i := 7) (v := .slice A4 os.length c4) hY rfl
  have x8 := cell_of (i := 8) (v := .int .i64 0) hX rfl
  have y8 := cell_of (i := 8) (v := .int .i64 0) hY rfl
  have x9 := cell_of (i := 9) (v := .slice none 0 0) hX rfl
  have y9 := cell_of (i := 9) (v := .slice none 0 0) hY rfl
  go_wp2_with fail
  refine (s3.out _).mono ?_; rintro e w9 ⟨rfl, hg7⟩
  replace hg := Lib.hid (grown_trans hg.out hg7)
  go_wp2_with fail
  go_ret
  exact ⟨rfl, hg.out⟩
end Go.Proofs.YtneamjaglgnmkaaGreatDoor
namespace Go.Proofs.YtneamjaglgnmkaaGreatDoor
open Go.RowKit Go.Shelf Tk Tk.Msk
set_option linter.unusedVariables false
set_option linter.unusedSimpArgs false
/-- The state of a thing. -/
inductive Ts where
  | cnt (a b n : Int)
  | lck (o : Int)
  | row (m : Nat) (ms : List Int)
  | flg (a : Int) (n : Nat)
  | pol (z : Int) (os : List Int)
  | alm (a b : Int)
/-- What the reference holds. -/
def Ts.tr : Ts → RefO.TR
  | .cnt a b n => ⟨1, a, b, n, 0, [], []⟩
  | .lck o => ⟨2, 0, 0, 0, o, [], []⟩
  | .row m ms => ⟨3, m, 0, 0, 0, ms, []⟩
  | .flg a n => ⟨4, a, 0, n, 0, [], []⟩
  | .pol z os => ⟨5, os.length, z, 0, 0, [], os⟩
  | .alm a b => ⟨6, a, b, 0, 0, [], []⟩
/-- How many there are, as it is seen. -/
def Ts.cn : Ts → Int
  | .cnt _ _ n => n
  | .flg _ n => n
  | .pol _ os => os.count 0
  | _ => 0
def Ts.ok : Ts → Prop
  | .cnt a b n => 0 ≤ n ∧ n ≤ b ∧ b ≤ 1073741824
  | .row m ms => 1 ≤ m ∧ m ≤ 64 ∧ ms.length ≤ m
  | .flg a n => n < 4294967296
  | .pol z os => 1 ≤ os.length ∧ os.length ≤ 64
  | _ => True
/-- The thing itself. -/
def ObT (w : World) (p q B : Nat) : Ts → Prop
  | .cnt a b n => Cnt w p q a n b
  | .lck o => Lok w p q o
  | .row m ms => Rwt w p q B m ms
  | .flg a n => Flg w p q a n
  | .pol z os => Plt w p q B z os
  | .alm a b => Alm w p a b
def OwnT (p q B : Nat) (b : Nat) : Prop := b = p ∨ b = q ∨ b = B
theorem Ts.k16 (T : Ts) : 1 ≤ T.tr.k ∧ T.tr.k ≤ 6 := by cases T <;> simp [Ts.tr]
theorem Ts.ls (T : Ts) (h : T.ok) : T.tr.rs.length ≤ 64 ∧ T.tr.os.length ≤ 64 := by
  cases T
  case row m ms => exact ⟨by have := h.2.2; have := h.2.1; show ms.length ≤ 64; omega, by simp [Ts.tr]⟩
  case pol z os => exact ⟨by simp [Ts.tr], h.2⟩
  all_goals exact ⟨by simp [Ts.tr], by simp [Ts.tr]⟩
variable {w w' : World} {p q B : Nat} {T : Ts}
theorem ObT.hd (h : ObT w p q B T) : ∃ a b Tt x, Hd w p T.tr.k a b Tt x := by
  cases T
  case cnt a b n => exact ⟨_, _, _, _, Cnt.hd h⟩
  case lck o => exact ⟨_, _, _, _, Lok.hd h⟩
  case row m ms => exact ⟨_, _, _, _, Rwt.hd h⟩
  case flg a n => exact ⟨_, _, _, _, Flg.hd h⟩
  case pol z os => exact ⟨_, _, _, _, Plt.hd h⟩
  case alm a b => exact ⟨_, _, _, _, h⟩
theorem ObT.fr {S : Nat → Prop} (h : ObT w p q B T) (g : Fr S w w') (hs : ∀ b, OwnT p q B b → ¬ S b) : ObT w' p q B T := by
  have sp := hs p (.inl rfl)
  have sq := hs q (.inr (.inl rfl))
  have sB := hs B (.inr (.inr rfl))
  cases T
  case cnt a b n => exact ⟨(g.block p (Hd.lt (Cnt.hd h)) sp).trans (Cnt.hd h), (g.block q (CntB.lt (Cnt.cb h)) sq).trans (Cnt.cb h), Cnt.ne h⟩
  case lck o => exact ⟨(g.block p (Hd.lt (Lok.hd h)) sp).trans (Lok.hd h), (g.block q (LokB.lt (Lok.cb h)) sq).trans (Lok.cb h), Lok.ne h⟩
  case row m ms =>
    obtain ⟨f, c, hq⟩ := Rwt.qu h
    exact ⟨(g.block p (Hd.lt (Rwt.hd h)) sp).trans (Rwt.hd h), (g.block q (RowB.lt (Rwt.rb h)) sq).trans (Rwt.rb h), ⟨f, c, ⟨hq.arr.fr g sB, hq.fl, hq.le, hq.m64, hq.m1, hq.get⟩⟩, Rwt.pB h, Rwt.qB h⟩
  case flg a n => exact ⟨(g.block p (Hd.lt (Flg.hd h)) sp).trans (Flg.hd h), (g.block q (FlgB.lt (Flg.cb h)) sq).trans (Flg.cb h), Flg.ne h, Flg.lt h⟩
  case pol z os =>
    have hp := Plt.pl h
    exact ⟨(g.block p (Hd.lt (Plt.hd h)) sp).trans (Plt.hd h), (g.block q (PolB.lt (Plt.pb h)) sq).trans (Plt.pb h), ⟨hp.arr.fr g sB, hp.n1, hp.n64⟩, Plt.pB h, Plt.qB h⟩
  case alm a b => exact (g.block p (Hd.lt h) sp).trans h
theorem ObT.keep (h : ObT w p q B T) (g : w.grownBy w' none) : ObT w' p q B T := h.fr (S := fun _ => False) (Fr.of_grown g (by simp)) (fun _ _ => id)
theorem fr_none {S : Nat → Prop} (g : w.grownBy w' none) : Fr S w w' := Fr.of_grown g (by simp)
theorem fr_q (g : w.grownBy w' (some q)) : Fr (OwnT p q B) w w' := Fr.of_grown g (fun k e _ => by cases e; exact .inr (.inl rfl))
theorem fr_B (g : w.grownBy w' (some B)) : Fr (OwnT p q B) w w' := Fr.of_grown g (fun k e _ => by cases e; exact .inr (.inr rfl))
/-! ### Seen -/
theorem Apart.nil1 (v : Value) : Apart (.slice none 0 0) v := .inl rfl
theorem Apart.nil2 (v : Value) : Apart v (.slice none 0 0) := (Apart.nil1 v).symm
theorem ObT.see (h : ObT w p q B T) : Calls Tryz.prog 11 #[.pointer (some ⟨p, 0, none⟩)] w fun e w' =>
    ∃ u1 u2, e = .returned (thV T.tr.k T.tr.a T.tr.b T.cn T.tr.o u1 u2) ∧ Mine w' w.heap.size 23 .u32 u1 T.tr.rs ∧ Mine w' w.heap.size 23 .u32 u2 T.tr.os ∧ Apart u1 u2 ∧ w.grownBy w' none := by
  cases T
  case cnt a b n => exact (Cnt.see h).mono fun e w' ⟨he, hg⟩ => ⟨_, _, he, Mine.nil _ _ _ _, Mine.nil _ _ _ _, Apart.nil1 _, hg⟩
  case lck o => exact (Lok.see h).mono fun e w' ⟨he, hg⟩ => ⟨_, _, he, Mine.nil _ _ _ _, Mine.nil _ _ _ _, Apart.nil1 _, hg⟩
  case row m ms => exact (Rwt.see h).mono fun e w' ⟨A, k, he, _, hM, hg⟩ => ⟨_, _, he, hM.low (by omega), Mine.nil _ _ _ _, Apart.nil2 _, hg⟩
  case flg a n => exact (Flg.see h).mono fun e w' ⟨he, hg⟩ => ⟨_, _, he, Mine.nil _ _ _ _, Mine.nil _ _ _ _, Apart.nil1 _, hg⟩
  case pol z os => exact (Plt.see h).mono fun e w' ⟨A, k, he, _, hM, hg⟩ => ⟨_, _, he, Mine.nil _ _ _ _, hM.low (by omega), Apart.nil1 _, hg⟩
  case alm a b => exact (Alm.see h).mono fun e w' ⟨he, hg⟩ => ⟨_, _, he, Mine.nil _ _ _ _, Mine.nil _ _ _ _, Apart.nil1 _, hg⟩
theorem ref_see {R : Nat} {vr vo : Value} (h : RefO.RQ w R vr vo T.tr) : Calls Tryz.prog 13 #[.pointer (some ⟨R, 0, none⟩)] w fun e w' =>
    ∃ u1 u2, e = .returned (thV T.tr.k T.tr.a T.tr.b T.cn T.tr.o u1 u2) ∧ Mine w' w.heap.size 23 .u32 u1 T.tr.rs ∧ Mine w' w.heap.size 23 .u32 u2 T.tr.os ∧ Apart u1 u2 ∧ w.grownBy w' none := by
  cases T
  case cnt a b n => exact RefO.rsee_n h (.inl rfl) rfl
  case lck o => exact RefO.rsee_x h ⟨rfl, rfl⟩
  case row m ms => exact RefO.rsee_x h ⟨rfl, rfl⟩
  case flg a n => exact RefO.rsee_n h (.inr ⟨rfl, rfl⟩) rfl
  case pol z os => exact RefO.rsee_x h ⟨rfl, rfl⟩
  case alm a b => exact RefO.rsee_x h ⟨rfl, rfl⟩
/-! ### Left -/
theorem pair_leave (T : Ts) (hT : T.ok) (who : Int) : ∃ (b : Bool) (T' : Ts), T'.ok ∧
    (∀ w p q B, ObT w p q B T → Calls Tryz.prog 8 #[.pointer (some ⟨p, 0, none⟩), .int .u32 who] w fun e w' => e = .returned (.bool b) ∧ ObT w' p q B T' ∧ Fr (OwnT p q B) w w') ∧
    (∀ w R vr vo, RefO.RQ w R vr vo T.tr → Calls Tryz.prog 9 #[.pointer (some ⟨R, 0, none⟩), .int .u32 who] w fun e w' => e = .returned (.bool b) ∧ RefO.Post w R vr vo T'.tr w') := by
  by_cases hw : who = 0
  · subst hw
    refine ⟨false, T, hT, fun w p q B h => ?_, fun w R vr vo h => (RefO.rleave_zero h).mono fun e w' ⟨he, hw⟩ => ⟨he, hw ▸ h.same (grown_refl _ _)⟩⟩
    obtain ⟨a, b, Tt, x, hd⟩ := h.hd
    exact hd.leave_zero.mono fun e w' ⟨he, hw⟩ => ⟨he, hw ▸ h, hw ▸ Fr.refl _ _⟩
  · have hn0 : ∀ (S : RefO.TR), S.o = 0 → S.os = [] → (decide (S.o = who) || decide (0 < S.os.count who)) = false := fun S h1 h2 => by
      rw [h1, h2]; simp; exact fun e => hw e.symm
    have href : ∀ (T : Ts), T.tr.o = 0 → T.tr.os = [] → ∀ w R vr vo, RefO.RQ w R vr vo T.tr → Calls Tryz.prog 9 #[.pointer (some ⟨R, 0, none⟩), .int .u32 who] w fun e w' => e = .returned (.bool false) ∧ RefO.Post w R vr vo T.tr w' := fun T h1 h2 w R vr vo h => by
      refine (RefO.rleave h who hw).mono ?_
      rintro e w' ⟨he, hP⟩
      rw [hn0 _ h1 h2] at he
      refine ⟨he, ?_⟩
      have e1 : ({ T.tr with o := if T.tr.o = who then 0 else T.tr.o, os := T.tr.os.map fun x => if x = who then 0 else x } : RefO.TR) = T.tr := by
        rw [h1, h2]
        have : (if (0 : Int) = who then (0 : Int) else 0) = 0 := by split <;> rfl
        rw [this, List.map_nil]
        rw [← h1, ← h2]
      rw [e1] at hP
      exact hP
    cases T
    case cnt a b n => exact ⟨false, .cnt a b n, hT, fun w p q B h => (Cnt.leave h who hw).mono fun e w' ⟨he, hg⟩ => ⟨he, ObT.keep (T := .cnt a b n) h hg, fr_none hg⟩, href (.cnt a b n) rfl rfl⟩
    case lck o =>
      by_cases ho : o = who
      · subst ho
        refine ⟨true, .lck 0, trivial, fun w p q B h => (Lok.leave h hw).mono fun e w' ⟨he, h1, hg⟩ => ⟨he, h1, fr_q hg⟩, fun w R vr vo h => (RefO.rleave h o hw).mono fun e w' ⟨he, hP⟩ => ⟨by rw [he]; simp [Ts.tr], ?_⟩⟩
        simpa [Ts.tr] using hP
      · refine ⟨false, .lck o, trivial, fun w p q B h => (Lok.leave_no h ho hw).mono fun e w' ⟨he, hw2⟩ => ⟨he, hw2 ▸ h, hw2 ▸ Fr.refl _ _⟩, fun w R vr vo h => (RefO.rleave h who hw).mono fun e w' ⟨he, hP⟩ => ⟨by rw [he]; simp [Ts.tr, ho], ?_⟩⟩
        simpa [Ts.tr, ho] using hP
    case row m ms => exact ⟨false, .row m ms, hT, fun w p q B h => (Rwt.leave h who hw).mono fun e w' ⟨he, hg⟩ => ⟨he, ObT.keep (T := .row m ms) h hg, fr_none hg⟩, href (.row m ms) rfl rfl⟩
    case flg a n => exact ⟨false, .flg a n, hT, fun w p q B h => (Flg.leave h who hw).mono fun e w' ⟨he, hg⟩ => ⟨he, ObT.keep (T := .flg a n) h hg, fr_none hg⟩, href (.flg a n) rfl rfl⟩
    case pol z os =>
      have h0 : ¬ (0 : Int) = who := fun e => hw e.symm
      refine ⟨decide (0 < os.count who), .pol z (os.map fun x => if x = who then 0 else x), by simpa [Ts.ok] using hT, fun w p q B h => (Plt.leave h who hw).mono fun e w' ⟨he, h1, hg⟩ => ⟨he, h1, fr_B hg⟩, fun w R vr vo h => (RefO.rleave h who hw).mono fun e w' ⟨he, hP⟩ => ⟨by rw [he]; simp [Ts.tr, h0], ?_⟩⟩
      simpa [Ts.tr, h0] using hP
    case alm a b => exact ⟨false, .alm a b, hT, fun w p q B h => (Alm.leave h who hw).mono fun e w' ⟨he, hg⟩ => ⟨he, ObT.keep (T := .alm a b) h hg, fr_none hg⟩, href (.alm a b) rfl rfl⟩
end Go.Proofs.YtneamjaglgnmkaaGreatDoor
namespace Go.Proofs.YtneamjaglgnmkaaGreatDoor
open Go.RowKit Go.Shelf Tk Tk.Msk
set_option linter.unusedVariables false
set_option linter.unusedSimpArgs false
theorem nil_own {R : Nat} : ∀ b, RefO.OwnQ R (.slice none 0 0) (.slice none 0 0) b → b = R := by
  rintro b (h | h | h)
  · exact h
  · cases h
  · cases h
theorem pair_new (k a b : Int) (ha : 0 ≤ a ∧ a < 4294967296) (h : MayP k a b) : ∃ T : Ts, T.ok ∧
    (∀ w, Calls Tryz.prog 5 #[.agg #[.int .u8 k, .int .u32 a, .int .u32 b]] w fun e w' => ∃ p q B, e = .returned (.tuple #[.pointer (some ⟨p, 0, none⟩), .int .i64 0]) ∧ ObT w' p q B T ∧ (∀ b, OwnT p q B b → w.heap.size ≤ b ∧ b < w'.heap.size) ∧ w.grownBy w' none) ∧
    (∀ w, Calls Tryz.prog 6 #[.agg #[.int .u8 k, .int .u32 a, .int .u32 b]] w fun e w' => ∃ R vr vo, e = .returned (.tuple #[.pointer (some ⟨R, 0, none⟩), .int .i64 0]) ∧ RefO.RQ w' R vr vo T.tr ∧ (∀ b, RefO.OwnQ R vr vo b → w.heap.size ≤ b) ∧ w.grownBy w' none) := by
  have hmay := h
  rcases h with ⟨rfl, h1, h2, h3⟩ | ⟨rfl, rfl, rfl⟩ | ⟨rfl, h1, h2, rfl⟩ | ⟨rfl, rfl⟩ | ⟨rfl, h1, h2, h3, h4⟩ | ⟨rfl, h1⟩
  · refine ⟨.cnt a b a, ⟨ha.1, h1, h3⟩, fun w => (new_count a b h1 h2 h3 w).mono ?_, fun w => (RefO.rnew_n 1 a b hmay (.inl rfl) rfl w).mono ?_⟩
    · rintro e w' ⟨p, q, he, hd, hb, hp, hq, hne, hg⟩
      refine ⟨p, q, q, he, ⟨hd, hb, hne⟩, ?_, hg⟩
      rintro x (rfl | rfl | rfl)
      · exact ⟨hp, hd.lt⟩
      · exact ⟨hq, hb.lt⟩
      · exact ⟨hq, hb.lt⟩
    · rintro e w' ⟨R, he, hR, hl, hg⟩
      exact ⟨R, _, _, he, hR, fun x hx => by rw [nil_own x hx]; exact hl, hg⟩
  · refine ⟨.lck 0, trivial, fun w => (new_lock w).mono ?_, fun w => (RefO.rnew_plain 2 0 0 hmay ⟨rfl, rfl, rfl⟩ w).mono ?_⟩
    · rintro e w' ⟨p, q, he, hd, hb, hp, hq, hne, hg⟩
      refine ⟨p, q, q, he, ⟨hd, hb, hne⟩, ?_, hg⟩
      rintro x (rfl | rfl | rfl)
      · exact ⟨hp, hd.lt⟩
      · exact ⟨hq, hb.lt⟩
      · exact ⟨hq, hb.lt⟩
    · rintro e w' ⟨R, he, hR, hl, hg⟩
      exact ⟨R, _, _, he, hR, fun x hx => by rw [nil_own x hx]; exact hl, hg⟩
  · obtain ⟨m, rfl⟩ := Int.eq_ofNat_of_zero_le (by omega : 0 ≤ a)
    refine ⟨.row m [], ⟨by omega, by omega, Nat.zero_le _⟩, fun w => (new_row m (by omega) (by omega) w).mono ?_, fun w => (RefO.rnew_plain 3 m 0 hmay ⟨rfl, rfl, rfl⟩ w).mono ?_⟩
    · rintro e w' ⟨p, q, B, he, hd, hp, hq, hB, hg⟩
      refine ⟨p, q, B, he, hd, ?_, hg⟩
      obtain ⟨f, c, hqq⟩ := hd.qu
      rintro x (rfl | rfl | rfl)
      · exact ⟨hp, hd.hd.lt⟩
      · exact ⟨hq, hd.rb.lt⟩
      · exact ⟨hB, hqq.arr.lt⟩
    · rintro e w' ⟨R, he, hR, hl, hg⟩
      exact ⟨R, _, _, he, hR, fun x hx => by rw [nil_own x hx]; exact hl, hg⟩
  · obtain ⟨n, rfl⟩ := Int.eq_ofNat_of_zero_le ha.1
    have hn : n < 4294967296 := by omega
    refine ⟨.flg n n, hn, fun w => (new_flags n hn w).mono ?_, fun w => (RefO.rnew_n 4 n 0 hmay (.inr ⟨rfl, rfl⟩) rfl w).mono ?_⟩
    · rintro e w' ⟨p, q, he, hd, hp, hq, hg⟩
      refine ⟨p, q, q, he, hd, ?_, hg⟩
      rintro x (rfl | rfl | rfl)
      · exact ⟨hp, hd.hd.lt⟩
      · exact ⟨hq, hd.cb.lt⟩
      · exact ⟨hq, hd.cb.lt⟩
    · rintro e w' ⟨R, he, hR, hl, hg⟩
      exact ⟨R, _, _, he, hR, fun x hx => by rw [nil_own x hx]; exact hl, hg⟩
  · obtain ⟨n, rfl⟩ := Int.eq_ofNat_of_zero_le (by omega : 0 ≤ a)
    refine ⟨.pol b (List.replicate n 0), ⟨by simp; omega, by simp; omega⟩, fun w => (new_pool n (by omega) (by omega) b h3 h4 w).mono ?_, fun w => (RefO.rnew_pool n b hmay w).mono ?_⟩
    · rintro e w' ⟨p, q, B, he, hd, hp, hq, hB, hg⟩
      refine ⟨p, q, B, he, hd, ?_, hg⟩
      rintro x (rfl | rfl | rfl)
      · exact ⟨hp, hd.hd.lt⟩
      · exact ⟨hq, hd.pb.lt⟩
      · exact ⟨hB, hd.pl.arr.lt⟩
    · rintro e w' ⟨R, vo, he, hR, hl, hv, hg⟩
      refine ⟨R, _, vo, he, by simpa [Ts.tr] using hR, ?_, hg⟩
      rintro x (rfl | e | e)
      · exact hl
      · cases e
      · exact hv x e
  · refine ⟨.alm a b, trivial, fun w => (new_alarm a b h1 w).mono ?_, fun w => (RefO.rnew_plain 6 a b hmay ⟨rfl, rfl, rfl⟩ w).mono ?_⟩
    · rintro e w' ⟨p, he, hd, hp, hg⟩
      refine ⟨p, p, p, he, hd, ?_, hg⟩
      rintro x (rfl | rfl | rfl) <;> exact ⟨hp, Hd.lt hd⟩
    · rintro e w' ⟨R, he, hR, hl, hg⟩
      exact ⟨R, _, _, he, hR, fun x hx => by rw [nil_own x hx]; exact hl, hg⟩
/-! ### What is asked -/
theorem ref_more {w : World} {R : Nat} {vr vo : Value} {S S' : RefO.TR} {y g : Int} (h : RefO.RQ w R vr vo S) (hk : 1 ≤ S.k ∧ S.k ≤ 6) (h6 : S.k ≠ 6) (who c hh v m t : Int) (hw : who ≠ 0) (hc : c ∈ fitL S.k) (hcm : c = 11 → m ≤ 3) (hc3 : c ≠ 3 ∧ c ≠ 4 ∧ c ≠ 5 ∧ c ≠ 6)
    (hm : ∀ W, RefO.RQ W R vr vo S → Calls Tryz.prog 22 #[.pointer (some ⟨R, 0, none⟩), .int .u32 who, askV c hh v m t] W fun e w' => e = .returned (.tuple #[.int .u32 y, .int .i64 g]) ∧ RefO.Post W R vr vo S' w') :
    Calls Tryz.prog 10 #[.pointer (some ⟨R, 0, none⟩), .int .u32 who, askV c hh v m t] w fun e w' => e = .returned (.tuple #[.int .u32 y, .int .i64 g]) ∧ RefO.Post w R vr vo S' w' := by
  refine (RefO.rtry_more h hk who c hh v m t hw h6 hc hcm hc3 (Rm := fun W u r w' => u = .int .u32 y ∧ r = .int .i64 g ∧ RefO.Post W R vr vo S' w') (fun W hg => (hm W (h.keep hg)).mono ?_)).mono ?_
  · rintro e w' ⟨rfl, hP⟩; exact ⟨_, _, rfl, rfl, rfl, hP⟩
  · rintro e w' ⟨W, u, r, hg, rfl, rfl, rfl, hP⟩; exact ⟨rfl, RefO.Post.back hg hP⟩
/-- Both answer (y, g), and are then T'. -/
def Alike (who c hh v m t : Int) (T T' : Ts) (y g : Int) : Prop := T'.ok ∧
    (∀ w p q B, ObT w p q B T → Calls Tryz.prog 7 #[.pointer (some ⟨p, 0, none⟩), .int .u32 who, askV c hh v m t] w fun e w' => e = .returned (.tuple #[.int .u32 y, .int .i64 g]) ∧ ObT w' p q B T' ∧ Fr (OwnT p q B) w w') ∧
    (∀ w R vr vo, RefO.RQ w R vr vo T.tr → Calls Tryz.prog 10 #[.pointer (some ⟨R, 0, none⟩), .int .u32 who, askV c hh v m t] w fun e w' => e = .returned (.tuple #[.int .u32 y, .int .i64 g]) ∧ RefO.Post w R vr vo T'.tr w')
theorem alike_no {who c hh v m t : Int} {T : Ts} {y g : Int} (hT : T.ok)
    (h1 : ∀ w p q B, ObT w p q B T → Calls Tryz.prog 7 #[.pointer (some ⟨p, 0, none⟩), .int .u32 who, askV c hh v m t] w fun e w' => e = .returned (.tuple #[.int .u32 y, .int .i64 g]) ∧ w.grownBy w' none)
    (h2 : ∀ w R vr vo, RefO.RQ w R vr vo T.tr → Calls Tryz.prog 10 #[.pointer (some ⟨R, 0, none⟩), .int .u32 who, askV c hh v m t] w fun e w' => e = .returned (.tuple #[.int .u32 y, .int .i64 g]) ∧ w.grownBy w' none) : Alike who c hh v m t T T y g :=
  ⟨hT, fun w p q B h => (h1 w p q B h).mono fun e w' ⟨he, hg⟩ => ⟨he, h.keep hg, fr_none hg⟩, fun w R vr vo h => (h2 w R vr vo h).mono fun e w' ⟨he, hg⟩ => ⟨he, h.same hg⟩⟩
/-- As alike_no, the reference by 'more'. -/
theorem alike_no2 {who c hh v m t : Int} {T : Ts} {y g : Int} (hT : T.ok) (h6 : T.tr.k ≠ 6) (hw : who ≠ 0) (hc : c ∈ fitL T.tr.k) (hcm : c = 11 → m ≤ 3) (hc3 : c ≠ 3 ∧ c ≠ 4 ∧ c ≠ 5 ∧ c ≠ 6)
    (h1 : ∀ w p q B, ObT w p q B T → Calls Tryz.prog 7 #[.pointer (some ⟨p, 0, none⟩), .int .u32 who, askV c hh v m t] w fun e w' => e = .returned (.tuple #[.int .u32 y, .int .i64 g]) ∧ w.grownBy w' none)
    (h2 : ∀ w R vr vo, RefO.RQ w R vr vo T.tr → Calls Tryz.prog 22 #[.pointer (some ⟨R, 0, none⟩), .int .u32 who, askV c hh v m t] w fun e w' => e = .returned (.tuple #[.int .u32 y, .int .i64 g]) ∧ w.grownBy w' none) : Alike who c hh v m t T T y g :=
  ⟨hT, fun w p q B h => (h1 w p q B h).mono fun e w' ⟨he, hg⟩ => ⟨he, h.keep hg, fr_none hg⟩, fun w R vr vo h => ref_more h T.k16 h6 who c hh v m t hw hc hcm hc3 fun W hW => (h2 W R vr vo hW).mono fun e w' ⟨he, hg⟩ => ⟨he, hW.same hg⟩⟩
/-- A step, the reference by 'more'. -/
theorem alike_yes {who c hh v m t : Int} {T T' : Ts} {y g : Int} (hT : T'.ok) (h6 : T.tr.k ≠ 6) (hw : who ≠ 0) (hc : c ∈ fitL T.tr.k) (hcm : c = 11 → m ≤ 3) (hc3 : c ≠ 3 ∧ c ≠ 4 ∧ c ≠ 5 ∧ c ≠ 6)
    (h1 : ∀ w p q B, ObT w p q B T → Calls Tryz.prog 7 #[.pointer (some ⟨p, 0, none⟩), .int .u32 who, askV c hh v m t] w fun e w' => e = .returned (.tuple #[.int .u32 y, .int .i64 g]) ∧ ObT w' p q B T' ∧ Fr (OwnT p q B) w w')
    (h2 : ∀ w R vr vo, RefO.RQ w R vr vo T.tr → Calls Tryz.prog 22 #[.pointer (some ⟨R, 0, none⟩), .int .u32 who, askV c hh v m t] w fun e w' => e = .returned (.tuple #[.int .u32 y, .int .i64 g]) ∧ RefO.Post w R vr vo T'.tr w') : Alike who c hh v m t T T' y g :=
  ⟨hT, h1, fun w R vr vo h => ref_more h T.k16 h6 who c hh v m t hw hc hcm hc3 fun W hW => h2 W R vr vo hW⟩
end Go.Proofs.YtneamjaglgnmkaaGreatDoor
namespace Go.Proofs.YtneamjaglgnmkaaGreatDoor
open Go.RowKit Go.Shelf Tk Tk.Msk
set_option linter.unusedVariables false
set_option linter.unusedSimpArgs false
variable {who : Int} {c hh t : Int} {v m : Nat}
theorem try_cnt (a b n : Int) (hT : (Ts.cnt a b n).ok) (hw : who ≠ 0) (hc : c ∈ fitL 1) : ∃ T' y g, Alike who c hh v m t (.cnt a b n) T' y g := by
  obtain ⟨h1, h2, h3⟩ := hT
  rcases (by simpa [fitL] using hc : c = 3 ∨ c = 4) with rfl | rfl
  · by_cases hn : n = 0
    · subst hn
      refine ⟨_, 0, 7, alike_no ⟨h1, h2, h3⟩ (fun w p q B h => (Cnt.take_no h rfl who hw hh v m t).mono fun e w' ⟨he, _, hg⟩ => ⟨he, hg⟩) (fun w R vr vo h => (RefO.rtry_take h rfl ⟨Int.le_refl _, by show (0 : Int) < 4294967296; decide⟩ who hh v m t hw).mono ?_)⟩
      rintro e w' (⟨-, he, hg⟩ | ⟨h0, -⟩)
      · exact ⟨he, hg⟩
      · exact absurd rfl h0
    · refine ⟨.cnt a b (n - 1), 0, 0, ⟨by omega, by omega, h3⟩, fun w p q B h => (Cnt.take h ⟨by omega, by omega⟩ who hw hh v m t).mono fun e w' ⟨he, hC, hg⟩ => ⟨he, hC, fr_q hg⟩, fun w R vr vo h => (RefO.rtry_take h rfl ⟨h1, by show n < 4294967296; omega⟩ who hh v m t hw).mono ?_⟩
      rintro e w' (⟨h0, -⟩ | ⟨-, he, hP⟩)
      · exact absurd h0 hn
      · exact ⟨he, hP⟩
  · by_cases hn : b ≤ n
    · refine ⟨_, 0, 10, alike_no ⟨h1, h2, h3⟩ (fun w p q B h => (Cnt.give_no h hn who hw hh v m t).mono fun e w' ⟨he, _, hg⟩ => ⟨he, hg⟩) (fun w R vr vo h => (RefO.rtry_give h rfl ⟨h1, by show b < 4294967296; omega⟩ who hh v m t hw).mono ?_)⟩
      rintro e w' (⟨-, he, hg⟩ | ⟨h0, -⟩)
      · exact ⟨he, hg⟩
      · exact absurd h0 (by show ¬ n < b; omega)
    · refine ⟨.cnt a b (n + 1), 0, 0, ⟨by omega, by omega, h3⟩, fun w p q B h => (Cnt.give h ⟨by omega, h1, by omega⟩ who hw hh v m t).mono fun e w' ⟨he, hC, hg⟩ => ⟨he, hC, fr_q hg⟩, fun w R vr vo h => (RefO.rtry_give h rfl ⟨h1, by show b < 4294967296; omega⟩ who hh v m t hw).mono ?_⟩
      rintro e w' (⟨h0, -⟩ | ⟨-, he, hP⟩)
      · exact absurd h0 hn
      · exact ⟨he, hP⟩
theorem try_lck (o : Int) (hw : who ≠ 0) (hc : c ∈ fitL 2) : ∃ T' y g, Alike who c hh v m t (.lck o) T' y g := by
  rcases (by simpa [fitL] using hc : c = 5 ∨ c = 6) with rfl | rfl
  · by_cases ho : o = who
    · subst ho
      refine ⟨_, 0, 13, alike_no trivial (fun w p q B h => (Lok.lock_own h hw hh v m t).mono fun e w' ⟨he, _, hg⟩ => ⟨he, hg⟩) (fun w R vr vo h => (RefO.rtry_lock h rfl o hh v m t hw).mono ?_)⟩
      rintro e w' (⟨-, he, hg⟩ | ⟨h0, -⟩ | ⟨h0, -⟩)
      · exact ⟨he, hg⟩
      · exact absurd rfl h0
      · exact absurd rfl h0
    · by_cases h0 : o = 0
      · subst h0
        refine ⟨.lck who, 0, 0, trivial, fun w p q B h => (Lok.lock h hw hh v m t).mono fun e w' ⟨he, hC, hg⟩ => ⟨he, hC, fr_q hg⟩, fun w R vr vo h => (RefO.rtry_lock h rfl who hh v m t hw).mono ?_⟩
        rintro e w' (⟨h0, -⟩ | ⟨-, h0, -⟩ | ⟨-, -, he, hP⟩)
        · exact absurd h0 ho
        · exact absurd rfl h0
        · exact ⟨he, hP⟩
      · refine ⟨_, 0, 7, alike_no trivial (fun w p q B h => (Lok.lock_busy h ho h0 hw hh v m t).mono fun e w' ⟨he, _, hg⟩ => ⟨he, hg⟩) (fun w R vr vo h => (RefO.rtry_lock h rfl who hh v m t hw).mono ?_)⟩
        rintro e w' (⟨h2, -⟩ | ⟨-, -, he, hg⟩ | ⟨-, h2, -⟩)
        · exact absurd h2 ho
        · exact ⟨he, hg⟩
        · exact absurd h2 h0
  · by_cases ho : o = who
    · subst ho
      refine ⟨.lck 0, 0, 0, trivial, fun w p q B h => (Lok.unlock h hw hh v m t).mono fun e w' ⟨he, hC, hg⟩ => ⟨he, hC, fr_q hg⟩, fun w R vr vo h => (RefO.rtry_unlock h rfl o hh v m t hw).mono ?_⟩
      rintro e w' (⟨h0, -⟩ | ⟨-, he, hP⟩)
      · exact absurd rfl h0
      · exact ⟨he, hP⟩
    · refine ⟨_, 0, 13, alike_no trivial (fun w p q B h => (Lok.unlock_no h ho hw hh v m t).mono fun e w' ⟨he, _, hg⟩ => ⟨he, hg⟩) (fun w R vr vo h => (RefO.rtry_unlock h rfl who hh v m t hw).mono ?_)⟩
      rintro e w' (⟨-, he, hg⟩ | ⟨h0, -⟩)
      · exact ⟨he, hg⟩
      · exact absurd h0 ho
theorem try_row (k : Nat) (ms : List Int) (hT : (Ts.row k ms).ok) (hw : who ≠ 0) (hc : c ∈ fitL 3) : ∃ T' y g, Alike who c hh v m t (.row k ms) T' y g := by
  obtain ⟨h1, h2, h3⟩ := hT
  have h6 : (Ts.row k ms).tr.k ≠ 6 := by show (3 : Nat) ≠ 6; decide
  have hc' : c ∈ fitL (Ts.row k ms).tr.k := hc
  rcases (by simpa [fitL] using hc : c = 7 ∨ c = 8 ∨ c = 9 ∨ c = 10) with rfl | rfl | rfl | rfl
  · by_cases hl : ms.length < k
    · exact ⟨.row k (ms ++ [(v : Int)]), 0, 0, alike_yes ⟨h1, h2, by simp; omega⟩ h6 hw hc' (fun e => absurd e (by decide)) (by decide) (fun w p q B h => (Rwt.put h hl who hw hh v m t).mono fun e w' ⟨he, hC, hg⟩ => ⟨he, hC, fr_B hg⟩) (fun w R vr vo h => RefO.more_put h k rfl h2 hl who hh v m t)⟩
    · exact ⟨_, 0, 7, alike_no2 ⟨h1, h2, h3⟩ h6 hw hc' (fun e => absurd e (by decide)) (by decide) (fun w p q B h => (Rwt.put_no h (by omega) who hw hh v m t).mono fun e w' ⟨he, _, hg⟩ => ⟨he, hg⟩) (fun w R vr vo h => RefO.more_put_no h k rfl h2 (by show k ≤ ms.length; omega) who hh v m t)⟩
  · by_cases hl : ms.length < k
    · exact ⟨.row k ((v : Int) :: ms), 0, 0, alike_yes ⟨h1, h2, by simp; omega⟩ h6 hw hc' (fun e => absurd e (by decide)) (by decide) (fun w p q B h => (Rwt.push h hl who hw hh v m t).mono fun e w' ⟨he, hC, hg⟩ => ⟨he, hC, fr_B hg⟩) (fun w R vr vo h => RefO.more_push h k rfl h2 hl who hh v m t)⟩
    · exact ⟨_, 0, 7, alike_no2 ⟨h1, h2, h3⟩ h6 hw hc' (fun e => absurd e (by decide)) (by decide) (fun w p q B h => (Rwt.push_no h (by omega) who hw hh v m t).mono fun e w' ⟨he, _, hg⟩ => ⟨he, hg⟩) (fun w R vr vo h => RefO.more_push_no h k rfl h2 (by show k ≤ ms.length; omega) who hh v m t)⟩
  · cases ms with
    | nil => exact ⟨_, 0, 7, alike_no2 ⟨h1, h2, h3⟩ h6 hw hc' (fun e => absurd e (by decide)) (by decide) (fun w p q B h => (Rwt.get_no h who hw hh v m t).mono fun e w' ⟨he, _, hg⟩ => ⟨he, hg⟩) (fun w R vr vo h => RefO.more_get_no h rfl who hh v m t)⟩
    | cons u ms => exact ⟨.row k ms, u, 0, alike_yes ⟨h1, h2, by simp at h3; omega⟩ h6 hw hc' (fun e => absurd e (by decide)) (by decide) (fun w p q B h => (Rwt.get h who hw hh v m t).mono fun e w' ⟨he, hC, hg⟩ => ⟨he, hC, fr_B hg⟩) (fun w R vr vo h => RefO.more_get h rfl who hh v m t)⟩
  · cases ms with
    | nil => exact ⟨_, 0, 11, alike_no2 ⟨h1, h2, h3⟩ h6 hw hc' (fun e => absurd e (by decide)) (by decide) (fun w p q B h => (Rwt.peek_no h who hw hh v m t).mono fun e w' ⟨he, _, hg⟩ => ⟨he, hg⟩) (fun w R vr vo h => RefO.more_peek_no h rfl who hh v m t)⟩
    | cons u ms => exact ⟨_, u, 0, alike_no2 ⟨h1, h2, h3⟩ h6 hw hc' (fun e => absurd e (by decide)) (by decide) (fun w p q B h => (Rwt.peek h who hw hh v m t).mono fun e w' ⟨he, _, hg⟩ => ⟨he, hg⟩) (fun w R vr vo h => RefO.more_peek h rfl who hh v m t)⟩
theorem try_flg (a : Int) (n : Nat) (hn : n < 4294967296) (hw : who ≠ 0) (hc : c ∈ fitL 4) (hv : v < 4294967296) (hm : c = 11 → m ≤ 3) : ∃ T' y g, Alike who c hh v m t (.flg a n) T' y g := by
  have h6 : (Ts.flg a n).tr.k ≠ 6 := by show (4 : Nat) ≠ 6; decide
  have hc' : c ∈ fitL (Ts.flg a n).tr.k := hc
  rcases (by simpa [fitL] using hc : c = 11 ∨ c = 12 ∨ c = 13) with rfl | rfl | rfl
  · have hm3 := hm rfl
    cases hh2 : holdsN n v (decide (m % 2 = 1))
    · exact ⟨_, 0, 7, alike_no2 hn h6 hw hc' (fun _ => by omega) (by decide) (fun w p q B h => Flg.await_no h who hw v hv m hm3 hh2 hh t) (fun w R vr vo h => RefO.more_await_no h n rfl hn v hv m hm3 hh2 who hh t)⟩
    · exact ⟨.flg a (afterN n v (decide (m % 2 = 1)) (decide (2 ≤ m))), _, 0, alike_yes (afterN_lt hn _ _) h6 hw hc' (fun _ => by omega) (by decide) (fun w p q B h => (Flg.await h who hw v hv m hm3 hh2 hh t).mono fun e w' ⟨he, hC, hg⟩ => ⟨he, hC, fr_q hg⟩) (fun w R vr vo h => RefO.more_await h n rfl hn v hv m hm3 hh2 who hh t)⟩
  · exact ⟨.flg a (n ||| v), _, 0, alike_yes (or_lt hn hv) h6 hw hc' (fun e => absurd e (by decide)) (by decide) (fun w p q B h => (Flg.raise h who hw v hv hh m t).mono fun e w' ⟨he, hC, hg⟩ => ⟨he, hC, fr_q hg⟩) (fun w R vr vo h => RefO.more_raise h n rfl hn v hv who hh m t)⟩
  · exact ⟨.flg a (goneN n v), _, 0, alike_yes (goneN_lt hn) h6 hw hc' (fun e => absurd e (by decide)) (by decide) (fun w p q B h => (Flg.lower h who hw v hv hh m t).mono fun e w' ⟨he, hC, hg⟩ => ⟨he, hC, fr_q hg⟩) (fun w R vr vo h => RefO.more_lower h n rfl hn v hv who hh m t)⟩
theorem first_nought (os : List Int) : ∀ n, (∃ j, j < n ∧ gd os j = 0 ∧ ∀ i, i < j → gd os i ≠ 0) ∨ ∀ i, i < n → gd os i ≠ 0
  | 0 => .inr fun i hi => absurd hi (Nat.not_lt_zero _)
  | n + 1 => by
    rcases first_nought os n with ⟨j, h1, h2, h3⟩ | h
    · exact .inl ⟨j, by omega, h2, h3⟩
    · by_cases e : gd os n = 0
      · exact .inl ⟨n, by omega, e, h⟩
      · refine .inr fun i hi => ?_
        by_cases e2 : i = n
        · subst e2; exact e
        · exact h i (by omega)
theorem tr_set (z : Int) (os : List Int) (j : Nat) (x : Int) : (Ts.pol z (os.set j x)).tr = { (Ts.pol z os).tr with os := os.set j x } := by simp [Ts.tr]
theorem try_pol (z : Int) (os : List Int) (hT : (Ts.pol z os).ok) (hw : who ≠ 0) (hc : c ∈ fitL 5) (hv : v < 4294967296) : ∃ T' y g, Alike who c hh v m t (.pol z os) T' y g := by
  obtain ⟨h1, h2⟩ := hT
  have h6 : (Ts.pol z os).tr.k ≠ 6 := by show (5 : Nat) ≠ 6; decide
  have hc' : c ∈ fitL (Ts.pol z os).tr.k := hc
  have hok : ∀ j x, (Ts.pol z (os.set j x)).ok := fun j x => by show 1 ≤ (os.set j x).length ∧ (os.set j x).length ≤ 64; rw [List.length_set]; exact ⟨h1, h2⟩
  rcases (by simpa [fitL] using hc : c = 14 ∨ c = 15) with rfl | rfl
  · rcases first_nought os os.length with ⟨j, hj, hj0, hmin⟩ | hno
    · refine ⟨.pol z (os.set j who), j, 0, alike_yes (hok j who) h6 hw hc' (fun e => absurd e (by decide)) (by decide) (fun w p q B h => (Plt.alloc h who hw hh v m t).mono ?_) (fun w R vr vo h => (RefO.more_alloc h j hj hj0 hmin who hh v m t).mono fun e w' ⟨he, hP⟩ => ⟨he, by rw [tr_set]; exact hP⟩)⟩
      rintro e w' (⟨j', rfl, q1, q2, q3, q4, q5⟩ | ⟨-, q, -⟩)
      · have : j' = j := by
          rcases Nat.lt_trichotomy j' j with e | e | e
          · exact absurd q2 (hmin j' e)
          · exact e
          · exact absurd hj0 (q3 j e)
        subst this
        exact ⟨rfl, q4, fr_B q5⟩
      · exact absurd hj0 (q j hj)
    · refine ⟨_, 0, 7, alike_no2 ⟨h1, h2⟩ h6 hw hc' (fun e => absurd e (by decide)) (by decide) (fun w p q B h => (Plt.alloc h who hw hh v m t).mono ?_) (fun w R vr vo h => RefO.more_alloc_no h hno who hh v m t)⟩
      rintro e w' (⟨j', rfl, q1, q2, -⟩ | ⟨rfl, -, -, hg⟩)
      · exact absurd q2 (hno j' q1)
      · exact ⟨rfl, hg⟩
  · by_cases hl : os.length ≤ v
    · exact ⟨_, 0, 1, alike_no2 ⟨h1, h2⟩ h6 hw hc' (fun e => absurd e (by decide)) (by decide) (fun w p q B h => Plt.free_arg h who hw v hl hv hh m t) (fun w R vr vo h => RefO.more_free_arg h v hl who hh m t)⟩
    · by_cases ho : gd os v = who
      · exact ⟨.pol z (os.set v 0), 0, 0, alike_yes (hok v 0) h6 hw hc' (fun e => absurd e (by decide)) (by decide) (fun w p q B h => (Plt.free h who hw v (by omega) ho hh m t).mono fun e w' ⟨he, hC, hg⟩ => ⟨he, hC, fr_B hg⟩) (fun w R vr vo h => (RefO.more_free h v (by show v < os.length; omega) who ho hh m t).mono fun e w' ⟨he, hP⟩ => ⟨he, by rw [tr_set]; exact hP⟩)⟩
      · exact ⟨_, 0, 13, alike_no2 ⟨h1, h2⟩ h6 hw hc' (fun e => absurd e (by decide)) (by decide) (fun w p q B h => (Plt.free_no h who hw v (by omega) ho hh m t).mono fun e w' ⟨he, _, hg⟩ => ⟨he, hg⟩) (fun w R vr vo h => RefO.more_free_no h v (by show v < os.length; omega) who ho hh m t)⟩
theorem pair_try (T : Ts) (hT : T.ok) (hv : v < 4294967296) : ∃ T' y g, Alike who c hh v m t T T' y g := by
  by_cases hw : who = 0
  · exact ⟨T, 0, 1, alike_no hT (fun w p q B h => by obtain ⟨a, b, Tt, x, hd⟩ := h.hd; exact hd.try_zero T.k16 who c hh v m t hw) (fun w R vr vo h => RefO.rtry_zero h T.k16 who c hh v m t hw)⟩
  · by_cases hc : c ∈ fitL T.tr.k
    · by_cases h11 : c = 11 ∧ 3 < m
      · have hk6 : T.tr.k ≠ 6 := fun e => by rw [e, h11.1] at hc; revert hc; decide
        exact ⟨T, 0, 1, alike_no hT (fun w p q B h => by obtain ⟨a, b, Tt, x, hd⟩ := h.hd; exact hd.try_much T.k16 who c hh v m t hw hc h11.1 (by omega)) (fun w R vr vo h => RefO.rtry_much h T.k16 who c hh v m t hw hk6 hc h11.1 (by omega))⟩
      · have hm : c = 11 → m ≤ 3 := fun e => by
          rcases Nat.lt_or_ge 3 m with h | h
          · exact absurd ⟨e, h⟩ h11
          · exact h
        cases T
        case cnt a b n => exact try_cnt a b n hT hw hc
        case lck o => exact try_lck o hw hc
        case row k ms => exact try_row k ms hT hw hc
        case flg a n => exact try_flg a n hT hw hc hv hm
        case pol z os => exact try_pol z os hT hw hc hv
        case alm a b => exact ⟨_, 0, 1, alike_no hT (fun w p q B h => Alm.try h who hw c hc hh v m t) (fun w R vr vo h => RefO.rtry_alarm h (Ts.k16 (.alm a b)) who c hh v m t hw rfl)⟩
    · by_cases hk6 : T.tr.k = 6
      · exact ⟨T, 0, 1, alike_no hT (fun w p q B h => by obtain ⟨a, b, Tt, x, hd⟩ := h.hd; exact hd.try_unfit T.k16 who c hh v m t hw hc) (fun w R vr vo h => RefO.rtry_alarm h T.k16 who c hh v m t hw hk6)⟩
      · exact ⟨T, 0, 1, alike_no hT (fun w p q B h => by obtain ⟨a, b, Tt, x, hd⟩ := h.hd; exact hd.try_unfit T.k16 who c hh v m t hw hc) (fun w R vr vo h => RefO.rtry_unfit h T.k16 who c hh v m t hw hk6 hc)⟩
end Go.Proofs.YtneamjaglgnmkaaGreatDoor
namespace Go.Proofs.YtneamjaglgnmkaaGreatDoor
open Go.RowKit Go.Shelf Tk Tk.Msk
set_option linter.unusedVariables false
set_option linter.unusedSimpArgs false
theorem BkWord.BkL.fr {w w' : World} {base K q : Nat} {rv : Value} {V U : Nat → Value} {N : Nat → Nat} {S : Nat → Prop} (h : BkWord.BkL base w K rv q V U N) (g : Fr S w w') (hs : ∀ b, BkWord.OwnB K rv b ∨ BkWord.OwnV q V b → ¬ S b) : BkWord.BkL base w' K rv q V U N :=
  ⟨h.bk.fr g (hs _ (.inl (.inl rfl))) (fun b hb => hs b (.inl (.inr hb))), fun i hi => by
    obtain ⟨xs, hl, hL⟩ := h.ls i hi
    exact ⟨xs, hl, hL.fr g (fun b hb => hs b (.inr ⟨i, hi, hb⟩))⟩, h.us, h.ap, h.sep, h.lo, h.len⟩
theorem BkWord.BkL.lt {w : World} {base K q : Nat} {rv : Value} {V U : Nat → Value} {N : Nat → Nat} (h : BkWord.BkL base w K rv q V U N) : ∀ b, BkWord.OwnB K rv b ∨ BkWord.OwnV q V b → b < w.heap.size := by
  rintro b (hb | ⟨i, hi, hb⟩)
  · exact h.bk.lt b hb
  · obtain ⟨xs, -, hL⟩ := h.ls i hi; exact hL.lt b hb
/-- The book's blocks. -/
def OwnK (K k : Nat) (rv : Value) (V : Nat → Value) (b : Nat) : Prop := BkWord.OwnB K rv b ∨ BkWord.OwnV k V b
/-- All together. -/
structure QY (w0 w : World) (p q B R K k : Nat) (T TB : Ts) (ls : List (Value × List Int)) (X : Nat) (O : Obj) (vr vo rv : Value) (V U : Nat → Value) (N : Nat → Nat) : Prop where
  obj : ObT w p q B T
  ref : RefO.RQ w R vr vo TB.tr
  bk : BkWord.BkL w0.heap.size w K rv k V U N
  oR : ∀ b, OwnT p q B b → ¬ RefO.OwnQ R vr vo b
  oK : ∀ b, OwnT p q B b → ¬ OwnK K k rv V b
  rK : ∀ b, RefO.OwnQ R vr vo b → ¬ OwnK K k rv V b
  lo1 : ∀ b, OwnT p q B b → w0.heap.size ≤ b ∧ b < w.heap.size
  lo2 : ∀ b, RefO.OwnQ R vr vo b → w0.heap.size ≤ b
  g : w0.grownBy w none
  lg : ∀ e ∈ ls, Lg w 23 .u32 e.1 e.2 ∧ e.2.length ≤ 5000
  far : ∀ e ∈ ls, ∀ b, e.1.ownBlock = some b → w0.heap.size ≤ b ∧ ¬ OwnT p q B b ∧ ¬ RefO.OwnQ R vr vo b ∧ ¬ OwnK K k rv V b ∧ b ≠ X
  ap : ls.Pairwise (fun a b => Apart a.1 b.1)
  hx : w.heap[X]? = some O
  xT : ¬ OwnT p q B X
  xR : ¬ RefO.OwnQ R vr vo X
  xK : ¬ OwnK K k rv V X
def QE (w0 w : World) (p q B R K k : Nat) (T TB : Ts) (ls : List (Value × List Int)) (X : Nat) (O : Obj) : Prop := ∃ vr vo rv V U N, QY w0 w p q B R K k T TB ls X O vr vo rv V U N
variable {w0 w w' : World} {p q B R K k X : Nat} {T T' TB : Ts} {ls : List (Value × List Int)} {O : Obj} {vr vo rv : Value} {V U : Nat → Value} {N : Nat → Nat}
theorem grown_new {S : Nat → Prop} (h : w0.grownBy w none) (g : Fr S w w') (hs : ∀ b, S b → w0.heap.size ≤ b) : w0.grownBy w' none := BkWord.grown_fr h g hs
theorem QE.g (h : QE w0 w p q B R K k T TB ls X O) : w0.grownBy w none := by obtain ⟨vr, vo, rv, V, U, N, h⟩ := h; exact h.g
theorem QE.hx (h : QE w0 w p q B R K k T TB ls X O) : w.heap[X]? = some O := by obtain ⟨vr, vo, rv, V, U, N, h⟩ := h; exact h.hx
theorem QE.obT (h : QE w0 w p q B R K k T TB ls X O) : ObT w p q B T := by obtain ⟨vr, vo, rv, V, U, N, h⟩ := h; exact h.obj
theorem QE.keep (h : QE w0 w p q B R K k T TB ls X O) (g : w.grownBy w' none) : QE w0 w' p q B R K k T TB ls X O := by
  obtain ⟨vr, vo, rv, V, U, N, h⟩ := h
  exact ⟨vr, vo, rv, V, U, N, h.obj.keep g, h.ref.keep g, h.bk.keep g, h.oR, h.oK, h.rK, fun b hb => ⟨(h.lo1 b hb).1, Nat.lt_of_lt_of_le (h.lo1 b hb).2 g.size⟩, h.lo2, grown_trans h.g g, fun e he => ⟨(h.lg e he).1.keep g, (h.lg e he).2⟩, h.far, h.ap, (g.block X (Array.getElem?_eq_some_iff.1 h.hx).1 (by simp)).trans h.hx, h.xT, h.xR, h.xK⟩
/-- Another block of the law's own, new. -/
theorem QE.turnX (h : QE w0 w p q B R K k T TB [] X O) (O' : Obj) : QE w0 (w.alloc O') p q B R K k T TB [] w.heap.size O' := by
  have g := World.grownBy_alloc w O' none
  obtain ⟨vr, vo, rv, V, U, N, h⟩ := h
  exact ⟨vr, vo, rv, V, U, N, h.obj.keep g, h.ref.keep g, h.bk.keep g, h.oR, h.oK, h.rK, fun b hb => ⟨(h.lo1 b hb).1, Nat.lt_of_lt_of_le (h.lo1 b hb).2 g.size⟩, h.lo2, grown_trans h.g g, by simp, by simp, List.Pairwise.nil, World.alloc_heap_new w O',
    fun e => by have := (h.lo1 _ e).2; omega, fun e => by have := h.ref.lt _ e; omega, fun e => by have := h.bk.lt _ e; omega⟩
/-- The thing's step. -/
theorem QE.obj {F : Nat} {args : Array Value} {E : Ending → Prop} (h : QE w0 w p q B R K k T TB [] X O) (hc : ObT w p q B T → Calls Tryz.prog F args w fun e w' => E e ∧ ObT w' p q B T' ∧ Fr (OwnT p q B) w w') :
    Calls Tryz.prog F args w fun e w' => E e ∧ QE w0 w' p q B R K k T' TB [] X O := by
  obtain ⟨vr, vo, rv, V, U, N, h⟩ := h
  refine (hc h.obj).mono ?_
  rintro e w' ⟨he, hO, g⟩
  exact ⟨he, vr, vo, rv, V, U, N, hO, h.ref.fr g (fun b hb hb2 => h.oR b hb2 hb), h.bk.fr g (fun b hb hb2 => h.oK b hb2 hb), h.oR, h.oK, h.rK, fun b hb => ⟨(h.lo1 b hb).1, Nat.lt_of_lt_of_le (h.lo1 b hb).2 g.size⟩, h.lo2, grown_new h.g g (fun b hb => (h.lo1 b hb).1), by simp, by simp, List.Pairwise.nil, (g.block X (Array.getElem?_eq_some_iff.1 h.hx).1 h.xT).trans h.hx, h.xT, h.xR, h.xK⟩
/-- The reference's step. -/
theorem QE.ref {F : Nat} {args : Array Value} {E : Ending → Prop} (h : QE w0 w p q B R K k T TB [] X O) (hc : ∀ vr vo, RefO.RQ w R vr vo TB.tr → Calls Tryz.prog F args w fun e w' => E e ∧ RefO.Post w R vr vo T'.tr w') :
    Calls Tryz.prog F args w fun e w' => E e ∧ QE w0 w' p q B R K k T T' [] X O := by
  obtain ⟨vr, vo, rv, V, U, N, h⟩ := h
  refine (hc vr vo h.ref).mono ?_
  rintro e w' ⟨he, vr', vo', hR, g, hat⟩
  refine ⟨he, vr', vo', rv, V, U, N, h.obj.fr g h.oR, hR, h.bk.fr g (fun b hb hb2 => h.rK b hb2 hb), fun b hb hb2 => ?_, h.oK, fun b hb hb2 => ?_, fun b hb => ⟨(h.lo1 b hb).1, Nat.lt_of_lt_of_le (h.lo1 b hb).2 g.size⟩, fun b hb => ?_, grown_new h.g g h.lo2, by simp, by simp, List.Pairwise.nil, (g.block X (Array.getElem?_eq_some_iff.1 h.hx).1 h.xR).trans h.hx, h.xT, fun hb => ?_, h.xK⟩
  · rcases hat b hb2 with h1 | h1
    · exact h.oR b hb h1
    · have := (h.lo1 b hb).2; omega
  · rcases hat b hb with h1 | h1
    · exact h.rK b h1 hb2
    · have := h.bk.lt b hb2; omega
  · rcases hat b hb with h1 | h1
    · exact h.lo2 b h1
    · exact Nat.le_trans h.g.size h1
  · rcases hat X hb with h1 | h1
    · exact h.xR h1
    · have := (Array.getElem?_eq_some_iff.1 h.hx).1; omega
/-- How the thing is seen; its lists are to be kept. -/
theorem QE.see (h : QE w0 w p q B R K k T TB [] X O) (hT : T.ok) : Calls Tryz.prog 11 #[.pointer (some ⟨p, 0, none⟩)] w fun e w' =>
    ∃ u1 u2, e = .returned (thV T.tr.k T.tr.a T.tr.b T.cn T.tr.o u1 u2) ∧ Mine w' w.heap.size 23 .u32 u1 T.tr.rs ∧ Mine w' w.heap.size 23 .u32 u2 T.tr.os ∧ w.grownBy w' none ∧ QE w0 w' p q B R K k T TB [(u1, T.tr.rs), (u2, T.tr.os), (.slice none 0 0, [])] X O := by
  have h2 := h
  obtain ⟨vr, vo, rv, V, U, N, h⟩ := h
  refine h.obj.see.mono ?_
  rintro e w' ⟨u1, u2, he, m1, m2, hap, g⟩
  refine ⟨u1, u2, he, m1, m2, g, ?_⟩
  obtain ⟨vr, vo, rv, V, U, N, h⟩ := h2
  obtain ⟨l1, l2⟩ := T.ls hT
  have hfar : ∀ {v : Value} {xs : List Int}, Mine w' w.heap.size 23 .u32 v xs → ∀ b, v.ownBlock = some b → w0.heap.size ≤ b ∧ ¬ OwnT p q B b ∧ ¬ RefO.OwnQ R vr vo b ∧ ¬ OwnK K k rv V b ∧ b ≠ X := fun hM b hb => by
    have hlt := (World.ownsRow.lt hM b hb).1
    have hXl := (Array.getElem?_eq_some_iff.1 h.hx).1
    exact ⟨Nat.le_trans h.g.size hlt, fun e => by have := (h.lo1 b e).2; omega, fun e => by have := h.ref.lt b e; omega, fun e => by have := h.bk.lt b e; omega, by omega⟩
  refine ⟨vr, vo, rv, V, U, N, h.obj.keep g, h.ref.keep g, h.bk.keep g, h.oR, h.oK, h.rK, fun b hb => ⟨(h.lo1 b hb).1, Nat.lt_of_lt_of_le (h.lo1 b hb).2 g.size⟩, h.lo2, grown_trans h.g g, ?_, ?_, ?_, (g.block X (Array.getElem?_eq_some_iff.1 h.hx).1 (by simp)).trans h.hx, h.xT, h.xR, h.xK⟩
  · intro e he
    simp only [List.mem_cons, List.not_mem_nil, or_false] at he
    rcases he with rfl | rfl | rfl
    · exact ⟨Lg.of_mine m1, by show T.tr.rs.length ≤ 5000; omega⟩
    · exact ⟨Lg.of_mine m2, by show T.tr.os.length ≤ 5000; omega⟩
    · exact ⟨Lg.of_mine (base := 0) (Mine.nil _ _ _ _), by simp⟩
  · intro e he
    simp only [List.mem_cons, List.not_mem_nil, or_false] at he
    rcases he with rfl | rfl | rfl
    · exact hfar m1
    · exact hfar m2
    · intro b hb; cases hb
  · exact List.Pairwise.cons (by
      intro e he
      simp only [List.mem_cons, List.not_mem_nil, or_false] at he
      rcases he with rfl | rfl
      · exact hap
      · exact Apart.nil2 _) (List.Pairwise.cons (by
      intro e he
      simp only [List.mem_cons, List.not_mem_nil, or_false] at he
      subst he
      exact Apart.nil2 _) (List.Pairwise.cons (by simp) List.Pairwise.nil))
/-- How the reference's is seen. -/
theorem QE.rsee (h : QE w0 w p q B R K k T TB ls X O) : Calls Tryz.prog 13 #[.pointer (some ⟨R, 0, none⟩)] w fun e w' =>
    ∃ u1 u2, e = .returned (thV TB.tr.k TB.tr.a TB.tr.b TB.cn TB.tr.o u1 u2) ∧ Mine w' w.heap.size 23 .u32 u1 TB.tr.rs ∧ Mine w' w.heap.size 23 .u32 u2 TB.tr.os ∧ w.grownBy w' none := by
  obtain ⟨vr, vo, rv, V, U, N, h⟩ := h
  exact (ref_see h.ref).mono fun e w' ⟨u1, u2, he, m1, m2, _, g⟩ => ⟨u1, u2, he, m1, m2, g⟩
/-- One list is kept. -/
theorem QE.words {l : Value} {xs : List Int} (h : QE w0 w p q B R K k T TB ((l, xs) :: ls) X O) (hk : k ≤ 999) : Calls Tryz.prog 27 #[.pointer (some ⟨K, 0, none⟩), l] w fun e w' => (∃ x, e = .returned x) ∧ QE w0 w' p q B R K (k + 1) T TB ls X O := by
  obtain ⟨vr, vo, rv, V, U, N, h⟩ := h
  obtain ⟨hL, hx⟩ := h.lg (l, xs) List.mem_cons_self
  have hd := h.far (l, xs) List.mem_cons_self
  have hap := List.pairwise_cons.1 h.ap
  refine (BkWord.ints_ok h.bk hk hL hx (fun i hi => ?_) (fun b hb hB => (hd b hb).2.2.2.1 (.inl hB)) (fun b hb => (hd b hb).1) h.g.size).mono ?_
  · rcases e : l.ownBlock with _ | b
    · exact .inl e
    · exact .inr fun e2 => (hd b e).2.2.2.1 (.inr ⟨i, hi, by rw [← e2, e]⟩)
  rintro e w' ⟨he, rv', hB', hF, hn⟩
  have hV : ∀ b, BkWord.OwnV (k + 1) (BkWord.up V k l) b → BkWord.OwnV k V b ∨ l.ownBlock = some b := by
    rintro b ⟨i, hi, e⟩
    by_cases hi2 : i = k
    · subst hi2; rw [BkWord.up_same] at e; exact .inr e
    · rw [BkWord.up_ne _ _ hi2] at e; exact .inl ⟨i, by omega, e⟩
  have hK : ∀ b, OwnK K (k + 1) rv' (BkWord.up V k l) b → OwnK K k rv V b ∨ l.ownBlock = some b ∨ w.heap.size ≤ b := by
    rintro b (hb | hb)
    · rcases hn b hb with h1 | h1
      · exact .inl (.inl h1)
      · exact .inr (.inr h1)
    · rcases hV b hb with h1 | h1
      · exact .inl (.inr h1)
      · exact .inr (.inl h1)
  refine ⟨he, vr, vo, rv', _, _, _, h.obj.fr hF (fun b hb hb2 => h.oK b hb (.inl hb2)), h.ref.fr hF (fun b hb hb2 => h.rK b hb (.inl hb2)), hB', h.oR, fun b hb hb2 => ?_, fun b hb hb2 => ?_, fun b hb => ⟨(h.lo1 b hb).1, Nat.lt_of_lt_of_le (h.lo1 b hb).2 hF.size⟩, h.lo2, grown_new h.g hF (fun b hb => h.bk.lo b (.inr hb)), fun e he2 => ?_, fun e he2 b hb => ?_, hap.2, (hF.block X (Array.getElem?_eq_some_iff.1 h.hx).1 (fun e => h.xK (.inl e))).trans h.hx, h.xT, h.xR, fun hb => ?_⟩
  · rcases hK b hb2 with h1 | h1 | h1
    · exact h.oK b hb h1
    · exact (hd b h1).2.1 hb
    · have := (h.lo1 b hb).2; omega
  · rcases hK b hb2 with h1 | h1 | h1
    · exact h.rK b hb h1
    · exact (hd b h1).2.2.1 hb
    · have := h.ref.lt b hb; omega
  · obtain ⟨q1, q2⟩ := h.lg e (List.mem_cons_of_mem _ he2)
    exact ⟨q1.fr hF (fun b hb hb2 => (h.far e (List.mem_cons_of_mem _ he2) b hb).2.2.2.1 (.inl hb2)), q2⟩
  · obtain ⟨q1, q2, q3, q4, q5⟩ := h.far e (List.mem_cons_of_mem _ he2) b hb
    refine ⟨q1, q2, q3, fun hb2 => ?_, q5⟩
    rcases hK b hb2 with h1 | h1 | h1
    · exact q4 h1
    · have := hap.1 e he2
      rcases this with h2 | h2
      · have h2 : l.ownBlock = none := h2
        rw [h2] at h1; cases h1
      · exact h2 (by show l.ownBlock = e.1.ownBlock; rw [h1, hb])
    · have := (h.lg e (List.mem_cons_of_mem _ he2)).1.lt b hb; omega
  · rcases hK X hb with h1 | h1 | h1
    · exact h.xK h1
    · exact (hd X h1).2.2.2.2 rfl
    · have := (Array.getElem?_eq_some_iff.1 h.hx).1; omega
theorem QE.apart (h : QE w0 w p q B R K k T TB ls X O) (hk : k ≤ 1000) : Calls Tryz.prog 15 #[.pointer (some ⟨K, 0, none⟩)] w fun e w' => e = .returned (.bool true) ∧ w0.grownBy w' none := by
  obtain ⟨vr, vo, rv, V, U, N, h⟩ := h
  exact (BkWord.apart_own h.bk hk).mono fun e w' ⟨he, hF⟩ => ⟨he, grown_new h.g hF (fun b hb => hb)⟩
/-- Another block, beside lists. -/
theorem QE.boxed (h : QE w0 w p q B R K k T TB ls X O) (O' : Obj) : QE w0 (w.alloc O') p q B R K k T TB ls w.heap.size O' := by
  have g := World.grownBy_alloc w O' none
  obtain ⟨vr, vo, rv, V, U, N, h⟩ := h
  exact ⟨vr, vo, rv, V, U, N, h.obj.keep g, h.ref.keep g, h.bk.keep g, h.oR, h.oK, h.rK, fun b hb => ⟨(h.lo1 b hb).1, Nat.lt_of_lt_of_le (h.lo1 b hb).2 g.size⟩, h.lo2, grown_trans h.g g, fun e he => ⟨(h.lg e he).1.keep g, (h.lg e he).2⟩,
    fun e he b hb => by
      obtain ⟨q1, q2, q3, q4, q5⟩ := h.far e he b hb
      have := (h.lg e he).1.lt b hb
      exact ⟨q1, q2, q3, q4, by omega⟩, h.ap, World.alloc_heap_new w O',
    fun e => by have := (h.lo1 _ e).2; omega, fun e => by have := h.ref.lt _ e; omega, fun e => by have := h.bk.lt _ e; omega⟩
/-- The book keeps a thing's lists. -/
theorem QE.thing {u1 u2 : Value} {rs os : List Int} (kk : Nat) (a b n o : Int) (h : QE w0 w p q B R K k T TB [(u1, rs), (u2, os), (.slice none 0 0, [])] X O) (hk : k ≤ 997) :
    Calls Tryz.prog 14 #[.pointer (some ⟨K, 0, none⟩), thV kk a b n o u1 u2] w fun e w' => (∃ x, e = .returned x) ∧ ∃ X' O', QE w0 w' p q B R K (k + 3) T TB [] X' O' := by
  obtain ⟨A1, c1, e1⟩ : ∃ A1 c1, u1 = .slice A1 rs.length c1 := by
    obtain ⟨vr, vo, rv, V, U, N, h⟩ := h
    obtain ⟨A, c, e, -⟩ := (h.lg (u1, rs) (by simp)).1.sl
    exact ⟨A, c, e⟩
  obtain ⟨A2, c2, e2⟩ : ∃ A2 c2, u2 = .slice A2 os.length c2 := by
    obtain ⟨vr, vo, rv, V, U, N, h⟩ := h
    obtain ⟨A, c, e, -⟩ := (h.lg (u2, os) (by simp)).1.sl
    exact ⟨A, c, e⟩
  subst e1 e2
  have hB := Lib.hid (h.boxed (.cells #[.int .u32 0, .int .u8 kk, .int .u32 a, .int .u32 b, .int .u32 n, .int .u32 o, .slice A1 rs.length c1, .slice A2 os.length c2, .int .i64 0, .slice none 0 0] 55))
  clear h
  unfold thV
  go_enter Tryz.func14, Tryz.ntmps14
  go_wp2_with fail
  refine (hB.out.words (by omega)).mono ?_; rintro e w1 ⟨⟨y1, rfl⟩, h1⟩
  have hx1 := h1.hx
  have c7 := cell_of (i := 7) (v := .slice A2 os.length c2) hx1 rfl
  replace hx1 := Lib.hid hx1
  replace h1 := Lib.hid h1
  clear hB
  go_wp2_with fail
  refine (h1.out.words (by omega)).mono ?_; rintro e w2 ⟨⟨y2, rfl⟩, h2⟩
  have hx2 := h2.hx
  have c9 := cell_of (i := 9) (v := .slice none 0 0) hx2 rfl
  replace hx2 := Lib.hid hx2
  replace h2 := Lib.hid h2
  clear h1 hx1 c7
  go_wp2_with fail
  refine (h2.out.words (by omega)).mono ?_; rintro e w3 ⟨⟨y3, rfl⟩, h3⟩
  replace h3 := Lib.hid h3
  clear h2 hx2 c9
  go_wp2_with fail
  refine bodyPost_end (results_none rfl _ _ _) rfl ?_
  exact ⟨⟨_, rfl⟩, _, _, h3.out⟩
end Go.Proofs.YtneamjaglgnmkaaGreatDoor
namespace Go.Proofs.YtneamjaglgnmkaaGreatDoor
open Go.RowKit Go.Shelf Tk Tk.Msk
set_option linter.unusedVariables false
set_option linter.unusedSimpArgs false
theorem meas_p (n k : Nat) (h : k < n) : n - (intOf (.int .i64 ((k : Int) + 1))).toNat < n - (intOf (.int .i64 (k : Int))).toNat := by simp [intOf]; omega
theorem QE.start {w0 wM w1 w2 : World} {p q B R : Nat} {vr vo : Value} {T : Ts} {O : Obj} (hM : w0.alloc O = wM) (ho : ObT w1 p q B T) (hlo : ∀ b, OwnT p q B b → wM.heap.size ≤ b ∧ b < w1.heap.size) (g1 : wM.grownBy w1 none)
    (hr : RefO.RQ w2 R vr vo T.tr) (hlo2 : ∀ b, RefO.OwnQ R vr vo b → w1.heap.size ≤ b) (g2 : w1.grownBy w2 none) :
    QE w0 (w2.alloc (.cells #[.int .i64 0, .slice none 0 0, .slice none 0 0, .slice none 0 0, .slice none 0 0, .slice none 0 0, .slice none 0 0, .slice none 0 0, .slice none 0 0] 50)) p q B R w2.heap.size 0 T T [] w0.heap.size O := by
  have gA := World.grownBy_alloc w2 (.cells #[.int .i64 0, .slice none 0 0, .slice none 0 0, .slice none 0 0, .slice none 0 0, .slice none 0 0, .slice none 0 0, .slice none 0 0, .slice none 0 0] 50) none
  have hsz : wM.heap.size = w0.heap.size + 1 := by rw [← hM]; exact World.size_alloc _ _
  have gM : w0.grownBy wM none := by rw [← hM]; exact World.grownBy_alloc _ _ _
  have hX : wM.heap[w0.heap.size]? = some O := by rw [← hM]; exact World.alloc_heap_new _ _
  have s1 := g1.size
  have s2 := g2.size
  have hK : ∀ b, OwnK w2.heap.size 0 (.slice none 0 0) (fun _ => .slice none 0 0) b → b = w2.heap.size := by
    rintro b ((h | h) | ⟨i, hi, -⟩)
    · exact h
    · cases h
    · exact absurd hi (Nat.not_lt_zero _)
  refine ⟨vr, vo, .slice none 0 0, _, _, _, (ho.keep g2).keep gA, hr.keep gA, (BkWord.BkU.made (base := w0.heap.size) w2 _ (by omega)).toBkL, fun b hb hb2 => ?_, fun b hb hb2 => ?_, fun b hb hb2 => ?_, fun b hb => ?_, fun b hb => ?_, grown_trans (grown_trans gM (grown_trans g1 g2)) gA, by simp, by simp, List.Pairwise.nil, ?_, fun hb => ?_, fun hb => ?_, fun hb => ?_⟩
  · have := (hlo b hb).2; have := hlo2 b hb2; omega
  · have := (hlo b hb).2; have := hK b hb2; omega
  · have := hr.lt b hb; have := hK b hb2; omega
  · have := hlo b hb; have := gA.size; exact ⟨by omega, by omega⟩
  · have := hlo2 b hb; omega
  · exact (gA.block _ (by omega) (by simp)).trans ((g2.block _ (by omega) (by simp)).trans ((g1.block _ (by omega) (by simp)).trans hX))
  · have := (hlo _ hb).1; omega
  · have := hlo2 _ hb; omega
  · have := hK _ hb; omega
set_option maxRecDepth 100000 in
set_option maxHeartbeats 16000000 in
theorem objectsPlay_walk (kk : Int) (wk : (Lit.int .u8 kk).wf = true) (a : Int) (wa : (Lit.int .u32 a).wf = true) (b : Int) (wb : (Lit.int .u32 b).wf = true) (A : Option Addr) (c n : Nat) (V : Nat → Nat → Value) (hl : n ≤ c) (w : World)
    (hs : VRow w 7 A n V) (hf : ∀ i, i < n → ∀ q, q < 7 → Fit (([none, some .u32, some .u8, some .u32, some .u32, some .u32, some .i64] : List (Option IntKind)).getD q none) (V i q)) (hbd : n * 32 ≤ 140737488351232) :
    Calls Tryz.prog 3 #[.agg #[.int .u8 kk, .int .u32 a, .int .u32 b], .slice A n c] w fun e w' => e = .returned (.bool true) ∧ w.grownBy w' none := by
  have ha := wf_u32 wa
  clear wk wa wb
  have hgM := Lib.hid (World.grownBy_alloc w (.cells #[.int .u8 kk, .int .u32 a, .int .u32 b] 25) none)
  have hcM := World.alloc_heap_new w (.cells #[.int .u8 kk, .int .u32 a, .int .u32 b] 25)
  have hlv := Lib.hid lives_ok
  by_cases hlen : n ≤ 300
  · have hlI : decide ((300 : Int) < (n : Int)) = false := decide_eq_false (by omega)
    by_cases hmay : MayP kk a b
    · obtain ⟨T0, hT0, hO, hR⟩ := pair_new kk a b ha hmay
      replace hO := Lib.hid hO
      replace hR := Lib.hid hR
      replace hs := Lib.hid hs
      replace hf := Lib.hid hf
      replace hmay := Lib.hid hmay
      replace hT0 := Lib.hid hT0
      clear ha
      go_enter Tryz.func3, Tryz.ntmps3
      go_wp2_with fail
      obtain ⟨wM, hwM⟩ : ∃ wM, w.alloc (.cells #[.int .u8 kk, .int .u32 a, .int .u32 b] 25) = wM := ⟨_, rfl⟩
      rw [hwM] at hcM hgM ⊢
      refine (hO.out _).mono ?_; rintro e w1 ⟨p, q, B, rfl, hob, hlo, g1⟩
      have hc1 := (g1.block _ (Array.getElem?_eq_some_iff.1 hcM).1 (by simp)).trans hcM
      have m0 := cell_of (i := 0) (v := .int .u8 kk) hc1 rfl
      have m1 := cell_of (i := 1) (v := .int .u32 a) hc1 rfl
      have m2 := cell_of (i := 2) (v := .int .u32 b) hc1 rfl
      replace hcM := Lib.hid hcM
      replace hc1 := Lib.hid hc1
      replace hob := Lib.hid hob
      replace hlo := Lib.hid hlo
      replace g1 := Lib.hid g1
      go_wp2_with fail
      refine (hR.out _).mono ?_; rintro e w2 ⟨R, vr, vo, rfl, hrq, hlo2, g2⟩
      have hst := Lib.hid (QE.start hwM hob.out hlo.out g1.out hrq hlo2 g2)
      clear hrq hlo2 g2 hob hlo g1 hcM hc1 m0 m1 m2
      replace hwM := Lib.hid hwM
      go_wp2_with fail
      generalize hX0 : w.heap.size = X0 at hst ⊢
      generalize w2.alloc (.cells #[.int .i64 0, .slice none 0 0, .slice none 0 0, .slice none 0 0, .slice none 0 0, .slice none 0 0, .slice none 0 0, .slice none 0 0, .slice none 0 0] 50) = w3 at *
      generalize w2.heap.size = K at *
      go_loopw [12] (fun i wr => ∃ (k : Nat) (T : Ts) (X : Nat) (O : Obj), k ≤ n ∧ i = .int .i64 k ∧ Hid T.ok ∧ Hid (QE w wr p q B R K (3 * k) T T [] X O)) (fun i _ => n - (intOf i).toNat)
      case atStart => exact ⟨0, T0, _, _, Nat.zero_le _, rfl, hT0, hst⟩
      case round =>
        obtain ⟨k, T, X, O, hk, rfl, hT, hS⟩ := hrel
        clear hst
        by_cases hlt : k < n
        · obtain ⟨gb, o, rfl, hgb, hcs⟩ := (hs.out.kept hS.out.g).at hlt
          obtain ⟨lv, e0⟩ : ∃ tk, V k 0 = .bool tk := hf.out k hlt 0 (by decide)
          obtain ⟨x1, e1, f1⟩ : ∃ x, V k 1 = .int .u32 x ∧ (Lit.int .u32 x).wf = true := hf.out k hlt 1 (by decide)
          obtain ⟨x2, e2, f2⟩ : ∃ x, V k 2 = .int .u8 x ∧ (Lit.int .u8 x).wf = true := hf.out k hlt 2 (by decide)
          obtain ⟨x3, e3, f3⟩ : ∃ x, V k 3 = .int .u32 x ∧ (Lit.int .u32 x).wf = true := hf.out k hlt 3 (by decide)
          obtain ⟨z4, e4, f4⟩ : ∃ x, V k 4 = .int .u32 x ∧ (Lit.int .u32 x).wf = true := hf.out k hlt 4 (by decide)
          obtain ⟨z5, e5, f5⟩ : ∃ x, V k 5 = .int .u32 x ∧ (Lit.int .u32 x).wf = true := hf.out k hlt 5 (by decide)
          obtain ⟨x6, e6, f6⟩ : ∃ x, V k 6 = .int .i64 x ∧ (Lit.int .i64 x).wf = true := hf.out k hlt 6 (by decide)
          have r4 := wf_u32 f4
          have r5 := wf_u32 f5
          obtain ⟨x4, rfl⟩ := Int.eq_ofNat_of_zero_le r4.1
          obtain ⟨x5, rfl⟩ := Int.eq_ofNat_of_zero_le r5.1
          have hx4 : Hid (x4 < 4294967296) := by show _ < _; omega
          have hc0 := hcs 0 (by decide); rw [e0] at hc0
          have hc1 := hcs 1 (by decide); rw [e1] at hc1
          have hc2 := hcs 2 (by decide); rw [e2] at hc2
          have hc3 := hcs 3 (by decide); rw [e3] at hc3
          have hc4 := hcs 4 (by decide); rw [e4] at hc4
          have hc5 := hcs 5 (by decide); rw [e5] at hc5
          have hc6 := hcs 6 (by decide); rw [e6] at hc6
          simp only [Nat.add_zero] at hc0
          clear hcs e0 e1 e2 e3 e4 e5 e6 hgb f1 f2 f3 f4 f5 f6 r4 r5
          have hkI : (k : Int) < (n : Int) := by omega
          cases lv
          · obtain ⟨T', y, g, hT', hA, hB⟩ := pair_try (who := x1) (c := x2) (hh := x3) (t := x6) (v := x4) (m := x5) T hT.out hx4.out
            replace hA := Lib.hid hA
            replace hB := Lib.hid hB
            have hX := Lib.hid (hS.out.turnX (.cells #[.bool false, .int .u32 x1, .int .u8 x2, .int .u32 x3, .int .u32 (x4 : Nat), .int .u32 (x5 : Nat), .int .i64 x6] 52))
            clear hS
            go_wp2_with fail
            unfold askV at hA hB
            generalize wr.alloc (.cells #[.bool false, .int .u32 x1, .int .u8 x2, .int .u32 x3, .int .u32 (x4 : Nat), .int .u32 (x5 : Nat), .int .i64 x6] 52) = wa at *
            generalize wr.heap.size = Xa at *
            clear hc0 hc1 hc2 hc3 hc4 hc5 hc6
            refine (hX.out.obj (E := fun e => e = .returned (.tuple #[.int .u32 y, .int .i64 g])) (fun h => hA.out _ _ _ _ h)).mono ?_; rintro e wb ⟨rfl, h3⟩
            have hx3 := h3.hx
            have xx1 := cell_of (i := 1) (v := .int .u32 x1) hx3 rfl; have xx2 := cell_of (i := 2) (v := .int .u8 x2) hx3 rfl; have xx3 := cell_of (i := 3) (v := .int .u32 x3) hx3 rfl; have xx4 := cell_of (i := 4) (v := .int .u32 (x4 : Nat)) hx3 rfl; have xx5 := cell_of (i := 5) (v := .int .u32 (x5 : Nat)) hx3 rfl; have xx6 := cell_of (i := 6) (v := .int .i64 x6) hx3 rfl
            replace hx3 := Lib.hid hx3
            replace h3 := Lib.hid h3
            clear hX
            go_wp2_with fail
            refine (h3.out.ref (E := fun e => e = .returned (.tuple #[.int .u32 y, .int .i64 g])) (fun vr vo h => hB.out _ _ _ _ h)).mono ?_; rintro e w4 ⟨rfl, h4⟩
            replace h4 := Lib.hid h4
            clear h3 hx3 xx1 xx2 xx3 xx4 xx5 xx6
            have hyy : (y != y) = false := by simp
            have hgg : (g != g) = false := by simp
            have hT3 := Lib.hid hT'
            have hl3 := Lib.hid (T'.ls hT')
            go_wp2_with fail
            refine (h4.out.see hT').mono ?_; rintro e w5 ⟨u1, u2, rfl, m1, m2, g5, h5⟩
            obtain ⟨A1, c1, e1, -⟩ := m1.form
            obtain ⟨A2, c2, e2, -⟩ := m2.form
            subst e1 e2
            clear hT' h4 g5
            replace m1 := Lib.hid m1
            replace m2 := Lib.hid m2
            have h6 := Lib.hid (h5.boxed (.cells #[.int .u32 0, .int .u8 T'.tr.k, .int .u32 T'.tr.a, .int .u32 T'.tr.b, .int .u32 T'.cn, .int .u32 T'.tr.o, .slice A1 T'.tr.rs.length c1, .slice A2 T'.tr.os.length c2, .int .i64 0, .slice none 0 0] 55))
            have hg6 := Lib.hid (World.grownBy_alloc w5 (.cells #[.int .u32 0, .int .u8 T'.tr.k, .int .u32 T'.tr.a, .int .u32 T'.tr.b, .int .u32 T'.cn, .int .u32 T'.tr.o, .slice A1 T'.tr.rs.length c1, .slice A2 T'.tr.os.length c2, .int .i64 0, .slice none 0 0] 55) none)
            clear h5
            unfold thV
            go_wp2_with fail
            generalize w5.alloc (.cells #[.int .u32 0, .int .u8 T'.tr.k, .int .u32 T'.tr.a, .int .u32 T'.tr.b, .int .u32 T'.cn, .int .u32 T'.tr.o, .slice A1 T'.tr.rs.length c1, .slice A2 T'.tr.os.length c2, .int .i64 0, .slice none 0 0] 55) = w6 at *
            generalize w5.heap.size = Y at *
            have hx6 := h6.out.hx
            have s0 := cell_of (i := 0) (v := .int .u32 0) hx6 rfl
            have s1 := cell_of (i := 1) (v := .int .u8 T'.tr.k) hx6 rfl
            have s2 := cell_of (i := 2) (v := .int .u32 T'.tr.a) hx6 rfl
            have s3 := cell_of (i := 3) (v := .int .u32 T'.tr.b) hx6 rfl
            have s4 := cell_of (i := 4) (v := .int .u32 T'.cn) hx6 rfl
            have s5 := cell_of (i := 5) (v := .int .u32 T'.tr.o) hx6 rfl
            have s6 := cell_of (i := 6) (v := .slice A1 T'.tr.rs.length c1) hx6 rfl
            have s7 := cell_of (i := 7) (v := .slice A2 T'.tr.os.length c2) hx6 rfl
            have s8 := cell_of (i := 8) (v := .int .i64 0) hx6 rfl
            have s9 := cell_of (i := 9) (v := .slice none 0 0) hx6 rfl
            replace hx6 := Lib.hid hx6
            go_region_held3 (fun w' => w'.cell? ⟨Y, 0, none⟩ = some (.int .u32 0) ∧ w'.cell? ⟨Y, 1, none⟩ = some (.int .u8 T'.tr.k) ∧ w'.cell? ⟨Y, 2, none⟩ = some (.int .u32 T'.tr.a) ∧ w'.cell? ⟨Y, 3, none⟩ = some (.int .u32 T'.tr.b) ∧ w'.cell? ⟨Y, 4, none⟩ = some (.int .u32 T'.cn) ∧ w'.cell? ⟨Y, 5, none⟩ = some (.int .u32 T'.tr.o) ∧ w'.cell? ⟨Y, 6, none⟩ = some (.slice A1 T'.tr.rs.length c1) ∧ w'.cell? ⟨Y, 7, none⟩ = some (.slice A2 T'.tr.os.length c2) ∧ w'.cell? ⟨Y, 8, none⟩ = some (.int .i64 0) ∧ w'.cell? ⟨Y, 9, none⟩ = some (.slice none 0 0)) (first | exact ⟨grown_cell g7 s0, grown_cell g7 s1, grown_cell g7 s2, grown_cell g7 s3, grown_cell g7 s4, grown_cell g7 s5, grown_cell g7 s6, grown_cell g7 s7, grown_cell g7 s8, grown_cell g7 s9⟩ | exact ⟨s0, s1, s2, s3, s4, s5, s6, s7, s8, s9⟩ | exact ⟨grown_cell g8 s0, grown_cell g8 s1, grown_cell g8 s2, grown_cell g8 s3, grown_cell g8 s4, grown_cell g8 s5, grown_cell g8 s6, grown_cell g8 s7, grown_cell g8 s8, grown_cell g8 s9⟩)
              (first
              | (go_at_call 13; refine ((h6.out.keep (grown_drewN (grown_refl _ _) 1)).rsee).mono ?_; rintro e w7 ⟨v1, v2, rfl, n1, n2, g7⟩; replace g7 := grown_undrew g7; have n1' := Lib.hid n1; have n2' := Lib.hid n2; clear n1 n2)
              | (go_at_call 12; refine (sameThing_ok T'.tr.k T'.tr.a T'.tr.b T'.cn T'.tr.o (Ws.of (m1.out.keep (grown_trans hg6.out g7))) (Ws.of n1'.out) (Ws.of (m2.out.keep (grown_trans hg6.out g7))) (Ws.of n2'.out) (by have := hl3.out.1; omega) (by have := hl3.out.2; omega)).mono ?_; rintro e w8 ⟨rfl, g8⟩; replace g8 := grown_trans g7 g8))
            all_goals
              have h8 := Lib.hid (h6.out.keep g8)
              have hx8 := h8.out.hx
              clear s0 s1 s2 s3 s4 s5 s6 s7 s8 s9 h6 hx6 g7 g8
              have y0 := cell_of (i := 0) (v := .int .u32 0) hx8 rfl
              have y1 := cell_of (i := 1) (v := .int .u8 T'.tr.k) hx8 rfl
              have y2 := cell_of (i := 2) (v := .int .u32 T'.tr.a) hx8 rfl
              have y3 := cell_of (i := 3) (v := .int .u32 T'.tr.b) hx8 rfl
              have y4 := cell_of (i := 4) (v := .int .u32 T'.cn) hx8 rfl
              have y5 := cell_of (i := 5) (v := .int .u32 T'.tr.o) hx8 rfl
              have y6 := cell_of (i := 6) (v := .slice A1 T'.tr.rs.length c1) hx8 rfl
              have y7 := cell_of (i := 7) (v := .slice A2 T'.tr.os.length c2) hx8 rfl
              have y8 := cell_of (i := 8) (v := .int .i64 0) hx8 rfl
              have y9 := cell_of (i := 9) (v := .slice none 0 0) hx8 rfl
              replace hx8 := Lib.hid hx8
              go_wp2_with fail
              refine (QE.thing T'.tr.k T'.tr.a T'.tr.b T'.cn T'.tr.o h8.out (by omega)).mono ?_; rintro e w9 ⟨⟨yy, rfl⟩, X9, O9, h9⟩
              replace h9 := Lib.hid h9
              clear y0 y1 y2 y3 y4 y5 y6 y7 y8 y9 h8 hx8
              go_wp2_with fail
              go_roundw
              case rel => exact ⟨k + 1, T', X9, O9, by omega, by go_num, hT3, h9⟩
              case measure => exact meas_p n k hlt
          · obtain ⟨bb, T', hT', hA, hB⟩ := pair_leave T hT.out x1
            replace hA := Lib.hid hA
            replace hB := Lib.hid hB
            have hX := Lib.hid (hS.out.turnX (.cells #[.bool true, .int .u32 x1, .int .u8 x2, .int .u32 x3, .int .u32 (x4 : Nat), .int .u32 (x5 : Nat), .int .i64 x6] 52))
            clear hS
            go_wp2_with fail
            generalize wr.alloc (.cells #[.bool true, .int .u32 x1, .int .u8 x2, .int .u32 x3, .int .u32 (x4 : Nat), .int .u32 (x5 : Nat), .int .i64 x6] 52) = wa at *
            generalize wr.heap.size = Xa at *
            clear hc0 hc1 hc2 hc3 hc4 hc5 hc6
            have s1 := cell_of (i := 1) (v := .int .u32 x1) hX.out.hx rfl
            have hXd := Lib.hid (hX.out.keep (grown_drewN (grown_refl _ _) 1))
            have hbb : (bb != bb) = false := by simp
            go_region_held3 (fun w' => w'.cell? ⟨Xa, 1, none⟩ = some (.int .u32 x1)) (first | exact t1 | exact s1 | exact u1)
              (first
              | (go_at_call 8; refine (hXd.out.obj (E := fun e => e = .returned (.bool bb)) (fun h => hA.out _ _ _ _ h)).mono ?_; rintro e wb ⟨rfl, h3⟩; have t1 := cell_of (i := 1) (v := .int .u32 x1) h3.hx rfl; replace h3 := Lib.hid h3)
              | (go_at_call 9; refine (h3.out.ref (E := fun e => e = .returned (.bool bb)) (fun vr vo h => hB.out _ _ _ _ h)).mono ?_; rintro e w4 ⟨rfl, h4⟩; have u1 := cell_of (i := 1) (v := .int .u32 x1) h4.hx rfl; replace h4 := Lib.hid h4))
            all_goals
              clear hX hXd h3 s1 t1 u1
              have hT3 := Lib.hid hT'
              have hl3 := Lib.hid (T'.ls hT')
              go_wp2_with fail
              refine (h4.out.see hT').mono ?_; rintro e w5 ⟨u1, u2, rfl, m1, m2, g5, h5⟩
              obtain ⟨A1, c1, e1, -⟩ := m1.form
              obtain ⟨A2, c2, e2, -⟩ := m2.form
              subst e1 e2
              clear hT' h4 g5
              replace m1 := Lib.hid m1
              replace m2 := Lib.hid m2
              have h6 := Lib.hid (h5.boxed (.cells #[.int .u32 0, .int .u8 T'.tr.k, .int .u32 T'.tr.a, .int .u32 T'.tr.b, .int .u32 T'.cn, .int .u32 T'.tr.o, .slice A1 T'.tr.rs.length c1, .slice A2 T'.tr.os.length c2, .int .i64 0, .slice none 0 0] 55))
              have hg6 := Lib.hid (World.grownBy_alloc w5 (.cells #[.int .u32 0, .int .u8 T'.tr.k, .int .u32 T'.tr.a, .int .u32 T'.tr.b, .int .u32 T'.cn, .int .u32 T'.tr.o, .slice A1 T'.tr.rs.length c1, .slice A2 T'.tr.os.length c2, .int .i64 0, .slice none 0 0] 55) none)
              clear h5
              unfold thV
              go_wp2_with fail
              generalize w5.alloc (.cells #[.int .u32 0, .int .u8 T'.tr.k, .int .u32 T'.tr.a, .int .u32 T'.tr.b, .int .u32 T'.cn, .int .u32 T'.tr.o, .slice A1 T'.tr.rs.length c1, .slice A2 T'.tr.os.length c2, .int .i64 0, .slice none 0 0] 55) = w6 at *
              generalize w5.heap.size = Y at *
              have hx6 := h6.out.hx
              have s0 := cell_of (i := 0) (v := .int .u32 0) hx6 rfl
              have s1 := cell_of (i := 1) (v := .int .u8 T'.tr.k) hx6 rfl
              have s2 := cell_of (i := 2) (v := .int .u32 T'.tr.a) hx6 rfl
              have s3 := cell_of (i := 3) (v := .int .u32 T'.tr.b) hx6 rfl
              have s4 := cell_of (i := 4) (v := .int .u32 T'.cn) hx6 rfl
              have s5 := cell_of (i := 5) (v := .int .u32 T'.tr.o) hx6 rfl
              have s6 := cell_of (i := 6) (v := .slice A1 T'.tr.rs.length c1) hx6 rfl
              have s7 := cell_of (i := 7) (v := .slice A2 T'.tr.os.length c2) hx6 rfl
              have s8 := cell_of (i := 8) (v := .int .i64 0) hx6 rfl
              have s9 := cell_of (i := 9) (v := .slice none 0 0) hx6 rfl
              replace hx6 := Lib.hid hx6
              go_region_held3 (fun w' => w'.cell? ⟨Y, 0, none⟩ = some (.int .u32 0) ∧ w'.cell? ⟨Y, 1, none⟩ = some (.int .u8 T'.tr.k) ∧ w'.cell? ⟨Y, 2, none⟩ = some (.int .u32 T'.tr.a) ∧ w'.cell? ⟨Y, 3, none⟩ = some (.int .u32 T'.tr.b) ∧ w'.cell? ⟨Y, 4, none⟩ = some (.int .u32 T'.cn) ∧ w'.cell? ⟨Y, 5, none⟩ = some (.int .u32 T'.tr.o) ∧ w'.cell? ⟨Y, 6, none⟩ = some (.slice A1 T'.tr.rs.length c1) ∧ w'.cell? ⟨Y, 7, none⟩ = some (.slice A2 T'.tr.os.length c2) ∧ w'.cell? ⟨Y, 8, none⟩ = some (.int .i64 0) ∧ w'.cell? ⟨Y, 9, none⟩ = some (.slice none 0 0)) (first | exact ⟨grown_cell g7 s0, grown_cell g7 s1, grown_cell g7 s2, grown_cell g7 s3, grown_cell g7 s4, grown_cell g7 s5, grown_cell g7 s6, grown_cell g7 s7, grown_cell g7 s8, grown_cell g7 s9⟩ | exact ⟨s0, s1, s2, s3, s4, s5, s6, s7, s8, s9⟩ | exact ⟨grown_cell g8 s0, grown_cell g8 s1, grown_cell g8 s2, grown_cell g8 s3, grown_cell g8 s4, grown_cell g8 s5, grown_cell g8 s6, grown_cell g8 s7, grown_cell g8 s8, grown_cell g8 s9⟩)
                (first
                | (go_at_call 13; refine ((h6.out.keep (grown_drewN (grown_refl _ _) 1)).rsee).mono ?_; rintro e w7 ⟨v1, v2, rfl, n1, n2, g7⟩; replace g7 := grown_undrew g7; have n1' := Lib.hid n1; have n2' := Lib.hid n2; clear n1 n2)
                | (go_at_call 12; refine (sameThing_ok T'.tr.k T'.tr.a T'.tr.b T'.cn T'.tr.o (Ws.of (m1.out.keep (grown_trans hg6.out g7))) (Ws.of n1'.out) (Ws.of (m2.out.keep (grown_trans hg6.out g7))) (Ws.of n2'.out) (by have := hl3.out.1; omega) (by have := hl3.out.2; omega)).mono ?_; rintro e w8 ⟨rfl, g8⟩; replace g8 := grown_trans g7 g8))
              all_goals
                have h8 := Lib.hid (h6.out.keep g8)
                have hx8 := h8.out.hx
                clear s0 s1 s2 s3 s4 s5 s6 s7 s8 s9 h6 hx6 g7 g8
                have y0 := cell_of (i := 0) (v := .int .u32 0) hx8 rfl
                have y1 := cell_of (i := 1) (v := .int .u8 T'.tr.k) hx8 rfl
                have y2 := cell_of (i := 2) (v := .int .u32 T'.tr.a) hx8 rfl
                have y3 := cell_of (i := 3) (v := .int .u32 T'.tr.b) hx8 rfl
                have y4 := cell_of (i := 4) (v := .int .u32 T'.cn) hx8 rfl
                have y5 := cell_of (i := 5) (v := .int .u32 T'.tr.o) hx8 rfl
                have y6 := cell_of (i := 6) (v := .slice A1 T'.tr.rs.length c1) hx8 rfl
                have y7 := cell_of (i := 7) (v := .slice A2 T'.tr.os.length c2) hx8 rfl
                have y8 := cell_of (i := 8) (v := .int .i64 0) hx8 rfl
                have y9 := cell_of (i := 9) (v := .slice none 0 0) hx8 rfl
                replace hx8 := Lib.hid hx8
                go_wp2_with fail
                refine (QE.thing T'.tr.k T'.tr.a T'.tr.b T'.cn T'.tr.o h8.out (by omega)).mono ?_; rintro e w9 ⟨⟨yy, rfl⟩, X9, O9, h9⟩
                replace h9 := Lib.hid h9
                clear y0 y1 y2 y3 y4 y5 y6 y7 y8 y9 h8 hx8
                go_wp2_with fail
                go_roundw
                case rel => exact ⟨k + 1, T', X9, O9, by omega, by go_num, hT3, h9⟩
                case measure => exact meas_p n k hlt
        · obtain rfl : k = n := by omega
          go_wp2_with fail
          refine (hS.out.apart (by omega)).mono ?_; rintro e w4 ⟨rfl, g4⟩
          replace g4 := Lib.hid g4
          go_wp2_with fail
          refine (hlv.out _).mono ?_; rintro e w5 ⟨rfl, g5⟩
          replace g5 := Lib.hid (grown_trans g4.out g5)
          go_wp2_with fail
          go_ret
          exact ⟨rfl, g5.out⟩
    · have hO := Lib.hid (new_no kk a b hmay)
      have hR := Lib.hid (RefO.rnew_no kk a b hmay)
      replace hmay := Lib.hid hmay
      clear ha hs hf
      go_enter Tryz.func3, Tryz.ntmps3
      go_wp2_with fail
      obtain ⟨wM, hwM⟩ : ∃ wM, w.alloc (.cells #[.int .u8 kk, .int .u32 a, .int .u32 b] 25) = wM := ⟨_, rfl⟩
      rw [hwM] at hcM hgM ⊢
      refine (hO.out _).mono ?_; rintro e w1 ⟨rfl, g1⟩
      have hc1 := (g1.block _ (Array.getElem?_eq_some_iff.1 hcM).1 (by simp)).trans hcM
      have m0 := cell_of (i := 0) (v := .int .u8 kk) hc1 rfl
      have m1 := cell_of (i := 1) (v := .int .u32 a) hc1 rfl
      have m2 := cell_of (i := 2) (v := .int .u32 b) hc1 rfl
      replace hc1 := Lib.hid hc1
      replace g1 := Lib.hid (grown_trans hgM.out g1)
      clear hcM hgM
      replace hwM := Lib.hid hwM
      go_wp2_with fail
      refine (hR.out _).mono ?_; rintro e w2 ⟨rfl, g2⟩
      replace g2 := Lib.hid (grown_trans g1.out g2)
      clear g1 m0 m1 m2 hc1
      go_wp2_with fail
      refine (ttry_nil 1 0 0 0 0 0 _).mono ?_; rintro e w3 ⟨rfl, g3⟩
      replace g3 := Lib.hid (grown_trans g2.out g3)
      clear g2
      go_wp2_with (first
        | (go_at_call 8; refine (tleave_nil 1 _).mono ?_; rintro e w4 ⟨rfl, rfl⟩)
        | (go_at_call 4; refine (hlv.out _).mono ?_; rintro e w5 ⟨rfl, g5⟩; replace g5 := Lib.hid (grown_trans g3.out g5)))
      go_ret
      exact ⟨rfl, g5.out⟩
  · have hlI : decide ((300 : Int) < (n : Int)) = true := decide_eq_true (by omega)
    have hn' : 300 < n := by omega
    clear hs hf ha hcM hlen
    go_enter Tryz.func3, Tryz.ntmps3
    go_wp2_with fail
    refine (hlv.out _).mono ?_; rintro e w5 ⟨rfl, g5⟩
    replace g5 := Lib.hid (grown_trans hgM.out g5)
    go_wp2_with fail
    go_ret
    exact ⟨rfl, g5.out⟩
end Go.Proofs.YtneamjaglgnmkaaGreatDoor
