/- timekeeperref16: rows of pairs; the reference's queue; New, at, First, List. -/
import Derived.Test.YtiakbgdeanllnaaDoorRows
import Derived.Test.YtiakbgdeanllnaaDoorOwn
import Derived.BigQuiet
import Derived.Laws.OwnMore
import Derived.Laws.AppendOwnNone
namespace Go.Proofs.YtiakbgdeanllnaaDoor
open Go.RowKit Go.Shelf Tk
set_option linter.unusedVariables false
set_option linter.unusedSimpArgs false
namespace RefT
theorem infoOne : (Tryd.prog.info? 65).map (fun i => (i.zero, i.size, i.bytes)) = some (some (.agg #[.int .i64 0, .int .i64 0]), 2, 16) := by kernel_rfl
theorem infoI : (Tryd.prog.info? 3).map (fun i => (i.zero, i.size, i.bytes)) = some (some (.int .i64 0), 1, 8) := by kernel_rfl
/-- The cells of pairs. -/
def fl : List (Int × Int) → List Value
  | [] => []
  | p :: l => .int .i64 p.1 :: .int .i64 p.2 :: fl l
theorem fl_len : ∀ ns : List (Int × Int), (fl ns).length = ns.length * 2
  | [] => rfl
  | p :: l => by simp [fl, fl_len l]; omega
theorem fl_app : ∀ a b : List (Int × Int), fl (a ++ b) = fl a ++ fl b
  | [], b => rfl
  | p :: l, b => by simp [fl, fl_app l b]
theorem fl_drop : ∀ (k : Nat) (ns : List (Int × Int)), fl (ns.drop k) = (fl ns).drop (k * 2)
  | 0, ns => by simp
  | k + 1, [] => by simp [fl]
  | k + 1, p :: l => by
    have := fl_drop k l
    simp only [List.drop_succ_cons, this, fl]
    rw [show (k + 1) * 2 = k * 2 + 1 + 1 by omega]
    rfl
theorem fl_take : ∀ (k : Nat) (ns : List (Int × Int)), fl (ns.take k) = (fl ns).take (k * 2)
  | 0, ns => by simp [fl]
  | k + 1, [] => by simp [fl]
  | k + 1, p :: l => by
    have := fl_take k l
    simp only [List.take_succ_cons, this, fl]
    rw [show (k + 1) * 2 = k * 2 + 1 + 1 by omega]
    rfl
/-- A pair; (0, 0) behind the end. -/
def gp (ns : List (Int × Int)) (i : Nat) : Int × Int := ns[i]?.getD (0, 0)
theorem fl_at : ∀ (ns : List (Int × Int)) (i : Nat), i < ns.length → (fl ns)[i * 2]? = some (.int .i64 (gp ns i).1) ∧ (fl ns)[i * 2 + 1]? = some (.int .i64 (gp ns i).2)
  | [], i, h => absurd h (Nat.not_lt_zero _)
  | p :: l, 0, h => by simp [fl, gp]
  | p :: l, i + 1, h => by
    have := fl_at l i (by simpa using h)
    rw [show (i + 1) * 2 = i * 2 + 1 + 1 by omega]
    simp only [fl, List.getElem?_cons_succ]
    have e : gp (p :: l) (i + 1) = gp l i := by simp [gp]
    rw [e]; exact this
theorem fl_one : ∀ (ns : List (Int × Int)), ∀ u ∈ fl ns, u.oneCell' = true
  | [], u, h => by cases h
  | p :: l, u, h => by
    simp only [fl, List.mem_cons] at h
    rcases h with rfl | rfl | h
    · rfl
    · rfl
    · exact fl_one l u h
/-- The row v, of the call's own, has the pairs. -/
def MineP (w : World) (base : Nat) (v : Value) (ns : List (Int × Int)) : Prop := w.ownsRow base 65 2 v ns.length (fl ns)
theorem MineP.nil (w : World) (base : Nat) : MineP w base (.slice none 0 0) [] := World.ownsRow_nil _ _ _ _
theorem MineP.form {w : World} {base : Nat} {v : Value} {ns : List (Int × Int)} (h : MineP w base v ns) : (v = .slice none 0 0 ∧ ns = []) ∨ ∃ g c, v = .slice (some ⟨g, 0, none⟩) ns.length c ∧ ns.length ≤ c ∧ c ≤ maxLen ∧ base ≤ g ∧ g < w.heap.size := by
  obtain ⟨hl, h2⟩ := h
  rcases h2 with ⟨rfl, h0⟩ | ⟨g, cap, cur, rfl, hg, hh, hn, hm, -⟩
  · exact .inl ⟨rfl, List.length_eq_zero_iff.1 h0⟩
  · exact .inr ⟨g, cap, rfl, hn, hm, hg, (Array.getElem?_eq_some_iff.1 hh).1⟩
theorem MineP.fr {S : Nat → Prop} {w w' : World} {base : Nat} {v : Value} {ns : List (Int × Int)} (h : MineP w base v ns) (g : Fr S w w') (hs : ∀ b, v.ownBlock = some b → ¬ S b) : MineP w' base v ns := by
  obtain ⟨hl, hr⟩ := h
  refine ⟨hl, hr.imp id ?_⟩
  rintro ⟨b, cap, cur, e, hb, hh, r⟩
  exact ⟨b, cap, cur, e, hb, (g.block b (Array.getElem?_eq_some_iff.1 hh).1 (hs b (by rw [e]; rfl))).trans hh, r⟩
theorem MineP.lt {w : World} {base : Nat} {v : Value} {ns : List (Int × Int)} (h : MineP w base v ns) : ∀ b, v.ownBlock = some b → base ≤ b ∧ b < w.heap.size := fun b hb => World.ownsRow.lt h b hb
theorem MineP.base {w : World} {base lo : Nat} {v : Value} {ns : List (Int × Int)} (h : MineP w base v ns) (hl : lo ≤ base) : MineP w lo v ns := by
  obtain ⟨h1, hr⟩ := h
  exact ⟨h1, hr.imp id fun ⟨b, cap, cur, e, hb, r⟩ => ⟨b, cap, cur, e, Nat.le_trans hl hb, r⟩⟩
theorem MineP.cell {w : World} {base g c n : Nat} {ns : List (Int × Int)} (h : MineP w base (.slice (some ⟨g, 0, none⟩) n c) ns) {i : Nat} (hi : i < ns.length) :
    w.cell? ⟨g, i * 2, none⟩ = some (.int .i64 (gp ns i).1) ∧ w.cell? ⟨g, i * 2 + 1, none⟩ = some (.int .i64 (gp ns i).2) := by
  have hn : n = ns.length := by
    rcases h.form with ⟨e, -⟩ | ⟨g, c, e, -⟩
    · cases e
    · cases e; rfl
  subst hn
  obtain ⟨h1, h2⟩ := fl_at ns i hi
  exact ⟨by rw [World.ownsRow.cellAt h (i * 2) (by omega), h1], by rw [World.ownsRow.cellAt h (i * 2 + 1) (by omega), h2]⟩
/-- The reference's queue: the slice v has the pairs. -/
structure RQ (w : World) (R : Nat) (v : Value) (ns : List (Int × Int)) : Prop where
  hdr : Arr w R 1 (fun _ => v)
  row : MineP w 0 v ns
  ne : v.ownBlock ≠ some R
def OwnQ (R : Nat) (v : Value) (k : Nat) : Prop := k = R ∨ v.ownBlock = some k
variable {w w' : World} {R : Nat} {v : Value} {ns : List (Int × Int)}
theorem RQ.fr {S : Nat → Prop} (h : RQ w R v ns) (g : Fr S w w') (hs : ∀ k, OwnQ R v k → ¬ S k) : RQ w' R v ns :=
  ⟨h.hdr.fr g (hs _ (.inl rfl)), h.row.fr g (fun b hb => hs b (.inr hb)), h.ne⟩
theorem RQ.keep (h : RQ w R v ns) (g : w.grownBy w' none) : RQ w' R v ns := h.fr (S := fun _ => False) (Fr.of_grown g (by simp)) (fun _ _ => id)
theorem RQ.lt (h : RQ w R v ns) : ∀ k, OwnQ R v k → k < w.heap.size := by
  rintro k (rfl | e)
  · exact h.hdr.lt
  · exact (h.row.lt k e).2
theorem RQ.c0 (h : RQ w R v ns) : w.cell? ⟨R, 0, none⟩ = some v := h.hdr.cell (i := 0) (by decide)
def Post (w : World) (R : Nat) (v : Value) (ns' : List (Int × Int)) (w' : World) : Prop := ∃ v', RQ w' R v' ns' ∧ Fr (OwnQ R v) w w' ∧ ∀ b, v'.ownBlock = some b → v.ownBlock = some b ∨ w.heap.size ≤ b
theorem RQ.same (h : RQ w R v ns) (g : w.grownBy w' none) : Post w R v ns w' := ⟨v, h.keep g, Fr.of_grown g (by simp), fun b hb => .inl hb⟩
/-- A row of the call's own is put into the queue. -/
theorem fin {W w5 : World} {v' : Value} {ns' : List (Int × Int)} (h : RQ W R v ns) (hs : MineP w5 W.heap.size v' ns') (hg : W.grownBy w5 none) :
    w5.cell? ⟨R, 0, none⟩ = some v ∧ w5.frozen? ⟨R, 0, none⟩ = false ∧ Post W R v ns' (w5.setCell ⟨R, 0, none⟩ v') := by
  have hRl := h.hdr.lt
  have hh := h.hdr.kept hg (by simp)
  have hlt : ∀ b, v'.ownBlock = some b → W.heap.size ≤ b := fun b hb => (hs.lt b hb).1
  have hatR : v'.ownBlock ≠ some R := fun e => by have := hlt R e; omega
  have gS := grownBy_setCell w5 R 0 v'
  refine ⟨hh.cell (i := 0) (by decide), hh.frozen 0, v', ⟨?_, ?_, hatR⟩, ?_, fun b hb => .inr (hlt b hb)⟩
  · refine (hh.set (k := 0) (by decide) v').congr fun i hi => ?_
    rw [if_pos (by omega)]
  · exact (hs.base (Nat.zero_le _)).fr (Fr.of_grown (S := fun b => b = R) gS (fun k e _ => by cases e; rfl)) (fun b hb e => hatR (by rw [hb, e]))
  · exact (Fr.of_grown hg (by simp)).trans (Fr.of_grown gS (fun k e _ => by cases e; exact .inl rfl))
theorem meas (n k : Nat) (h : k < n) : n - (intOf (.int .i64 ((k : Int) + 1))).toNat < n - (intOf (.int .i64 (k : Int))).toNat := by simp [intOf]; omega
theorem new_ok (w : World) : Calls Tryd.prog 6 #[] w fun e w' => e = .returned (.pointer (some ⟨w.heap.size, 0, none⟩)) ∧ RQ w' w.heap.size (.slice none 0 0) [] ∧ w.grownBy w' none ∧ w'.heap.size = w.heap.size + 1 := by
  have hA := Arr.new w #[.slice none 0 0] 59 1 (fun _ => .slice none 0 0) rfl (fun i hi => by
    obtain rfl : i = 0 := by omega
    rfl)
  have hg := World.grownBy_alloc w (.cells #[.slice none 0 0] 59) none
  go_enter Tryd.func6, Tryd.ntmps6
  go_wp2_with fail
  go_ret
  exact ⟨rfl, ⟨hA, MineP.nil _ _, by simp [Value.ownBlock]⟩, hg, by simp⟩
/-- The place of somebody; below 0: nowhere. -/
def At (x : Int) (ns : List (Int × Int)) (r : Int) : Prop := (∃ j : Nat, r = j ∧ j < ns.length ∧ (gp ns j).1 = x ∧ ∀ i, i < j → (gp ns i).1 ≠ x) ∨ (r = -1 ∧ ∀ i, i < ns.length → (gp ns i).1 ≠ x)
theorem RQ.open (h : RQ w R v ns) : (v = .slice none 0 0 ∧ ns = []) ∨ ∃ g c, v = .slice (some ⟨g, 0, none⟩) ns.length c ∧ ns.length ≤ c ∧ c ≤ maxLen ∧ (∀ i, i < ns.length → w.cell? ⟨g, i * 2, none⟩ = some (.int .i64 (gp ns i).1) ∧ w.cell? ⟨g, i * 2 + 1, none⟩ = some (.int .i64 (gp ns i).2)) := by
  rcases h.row.form with ⟨e, h2⟩ | ⟨g, c, rfl, h1, h2, -⟩
  · exact .inl ⟨e, h2⟩
  · exact .inr ⟨g, c, rfl, h1, h2, fun i hi => h.row.cell hi⟩
set_option maxRecDepth 100000 in
theorem at_ok (x : Int) (h : RQ w R v ns) (hl : ns.length ≤ 2000) : Calls Tryd.prog 23 #[.pointer (some ⟨R, 0, none⟩), .int .i64 x] w fun e w' => ∃ r, e = .returned (.int .i64 r) ∧ At x ns r ∧ w = w' := by
  have c0 := h.c0
  obtain ⟨n, hn⟩ : ∃ n, ns.length = n := ⟨_, rfl⟩
  obtain ⟨A, c, rfl, hcell⟩ : ∃ A c, v = .slice A n c ∧ ∀ i, i < n → ∃ g, A = some ⟨g, 0, none⟩ ∧ w.cell? ⟨g, i * 2, none⟩ = some (.int .i64 (gp ns i).1) := by
    rcases h.open with ⟨rfl, h2⟩ | ⟨g, c, rfl, -, -, hc⟩
    · subst h2; exact ⟨none, 0, by simp at hn; subst hn; rfl, fun i hi => by simp at hn; omega⟩
    · rw [hn] at hc ⊢; exact ⟨_, c, rfl, fun i hi => ⟨g, rfl, (hc i hi).1⟩⟩
  rw [hn] at hl
  replace hcell := Lib.hid hcell
  replace hn := Lib.hid hn
  clear h
  go_enter Tryd.func23, Tryd.ntmps23
  go_wp2_with fail
  go_loopw [5] (fun i wr => ∃ k : Nat, k ≤ n ∧ i = .int .i64 k ∧ Hid (∀ j, j < k → (gp ns j).1 ≠ x) ∧ wr = w) (fun i _ => n - (intOf i).toNat)
  case atStart => exact ⟨0, Nat.zero_le _, rfl, fun j hj => absurd hj (Nat.not_lt_zero _), rfl⟩
  case round =>
    obtain ⟨k, hk, rfl, hno, hww⟩ := hrel
    obtain rfl : w = wr := hww.symm
    by_cases hlt : k < n
    · obtain ⟨g, hA, q⟩ := hcell.out k hlt
      subst hA
      have hkI : (k : Int) < (n : Int) := by omega
      by_cases he : (gp ns k).1 = x
      · have hF : Hid (At x ns (k : Int)) := .inl ⟨k, rfl, by rw [hn.out]; exact hlt, he, hno.out⟩
        rw [he] at q
        clear he
        go_wp2_with fail
        go_ret
        exact ⟨_, rfl, hF.out, rfl⟩
      · have hno' : Hid (∀ j, j < k + 1 → (gp ns j).1 ≠ x) := fun j hj => by
          by_cases e : j = k
          · subst e; exact he
          · exact hno.out j (by omega)
        have d1 : ((gp ns k).1 == x) = false := by rw [beq_eq_false_iff_ne]; exact he
        generalize (gp ns k).1 = y at *
        clear he
        go_wp2_with fail
        go_roundw
        case rel => exact ⟨k + 1, by omega, by go_num, hno', by first | rfl | trivial⟩
        case measure => exact meas n k hlt
    · obtain rfl : n = k := by omega
      have hF : Hid (At x ns (-1)) := .inr ⟨rfl, fun i hi => hno.out i (by rw [← hn.out]; exact hi)⟩
      go_wp2_with fail
      go_ret
      exact ⟨_, rfl, hF.out, rfl⟩
theorem first_none (h : RQ w R v []) : Calls Tryd.prog 15 #[.pointer (some ⟨R, 0, none⟩)] w fun e w' => e = .returned (.tuple #[.int .i64 0, .bool false]) ∧ w = w' := by
  obtain ⟨A, c, rfl⟩ : ∃ A c, v = .slice A 0 c := by
    rcases h.open with ⟨rfl, -⟩ | ⟨g, c, rfl, -⟩
    · exact ⟨_, _, rfl⟩
    · exact ⟨_, _, rfl⟩
  have c0 := h.c0
  clear h
  go_enter Tryd.func15, Tryd.ntmps15
  go_wp2_with fail
  go_ret2
  exact ⟨rfl, rfl⟩
theorem first_some (p : Int × Int) (h : RQ w R v (p :: ns)) (hl : ns.length ≤ 2000) : Calls Tryd.prog 15 #[.pointer (some ⟨R, 0, none⟩)] w fun e w' => e = .returned (.tuple #[.int .i64 p.1, .bool true]) ∧ w = w' := by
  obtain ⟨n, hn⟩ : ∃ n, ns.length = n := ⟨_, rfl⟩
  obtain ⟨g, c, rfl, q⟩ : ∃ g c, v = .slice (some ⟨g, 0, none⟩) (n + 1) c ∧ w.cell? ⟨g, 0, none⟩ = some (.int .i64 p.1) := by
    rcases h.open with ⟨-, h2⟩ | ⟨g, c, rfl, -, -, hc⟩
    · cases h2
    · exact ⟨g, c, by simp [hn], by have := (hc 0 (by simp)).1; simpa [gp] using this⟩
  have c0 := h.c0
  rw [hn] at hl
  have h1 : ((n + 1 : Nat) : Int) = (n : Int) + 1 := by push_cast; rfl
  have h2 : (0 : Int) ≤ (n : Int) := Int.natCast_nonneg _
  have h3 : (((n + 1 : Nat) : Int) == 0) = false := by rw [beq_eq_false_iff_ne]; omega
  clear h hn
  go_enter Tryd.func15, Tryd.ntmps15
  go_wp2_with fail
  go_ret2
  exact ⟨rfl, rfl⟩
theorem whos_snoc {k : Nat} (hk : k < ns.length) : (ns.take (k + 1)).map Prod.fst = (ns.take k).map Prod.fst ++ [(gp ns k).1] := by
  rw [List.take_add_one, List.map_append]
  simp [gp, hk]
set_option maxRecDepth 100000 in
theorem list_ok (h : RQ w R v ns) (hl : ns.length ≤ 1000) : Calls Tryd.prog 17 #[.pointer (some ⟨R, 0, none⟩)] w fun e w' => ∃ u, e = .returned u ∧ Mine w' w.heap.size 3 .i64 u (ns.map Prod.fst) ∧ w.grownBy w' none := by
  obtain ⟨i0, hi, hz0, hz1, hz2⟩ := info_parts infoI
  have c0 := h.c0
  obtain ⟨n, hn⟩ : ∃ n, ns.length = n := ⟨_, rfl⟩
  obtain ⟨A, c, rfl⟩ : ∃ A c, v = .slice A n c := by
    rcases h.open with ⟨rfl, h2⟩ | ⟨g, c, rfl, -⟩
    · subst h2; exact ⟨none, 0, by simp at hn; subst hn; rfl⟩
    · rw [hn]; exact ⟨_, _, rfl⟩
  have hcell : Hid (∀ wr, w.grownBy wr none → ∀ i, i < n → ∃ g, A = some ⟨g, 0, none⟩ ∧ wr.cell? ⟨g, i * 2, none⟩ = some (.int .i64 (gp ns i).1)) := fun wr hg i hi => by
    rcases (h.keep hg).open with ⟨e, h2⟩ | ⟨g, c, e, -, -, hc⟩
    · subst h2; simp at hn; omega
    · cases e; exact ⟨g, rfl, (hc i (by omega)).1⟩
  have hcell0 := Lib.hid (fun wr hg => (h.keep (w' := wr) hg).c0)
  have hwhole : Hid ((ns.take n).map Prod.fst = ns.map Prod.fst) := by show _ = _; rw [← hn, List.take_length]
  rw [hn] at hl
  replace hn := Lib.hid hn
  clear h
  go_enter Tryd.func17, Tryd.ntmps17
  go_wp2_with fail
  go_loopw [3, 4] (fun u i wr => ∃ k : Nat, k ≤ n ∧ i = .int .i64 k ∧ Mine wr w.heap.size 3 .i64 u ((ns.take k).map Prod.fst) ∧ w.grownBy wr none) (fun _ i _ => n - (intOf i).toNat)
  case atStart => exact ⟨0, Nat.zero_le _, rfl, Mine.nil _ _ _ _, grown_refl _ _⟩
  case round =>
    obtain ⟨k, hk, rfl, hM, hg⟩ := hrel
    clear c0
    have c0 := hcell0.out wr hg
    obtain ⟨A1, d1, rfl, hd1, hd2, -⟩ := hM.form
    have hkl : ((ns.take k).map Prod.fst).length = k := by rw [List.length_map, List.length_take, hn.out]; omega
    have hMh := Lib.hid hM
    rw [hkl] at hd1 ⊢
    have hrow2 : Hid (wr.ownsRow w.heap.size 3 1 (.slice A1 k d1) k (((ns.take k).map Prod.fst).map (Value.int .i64))) := by
      have := hMh.out; unfold Mine at this; rwa [hkl] at this
    replace hkl := Lib.hid hkl
    clear hM
    by_cases hlt : k < n
    · have hkI : (k : Int) < (n : Int) := by omega
      obtain ⟨g, hA, q⟩ := hcell.out wr hg k hlt
      subst hA
      have hu := Lib.hid (whos_snoc (ns := ns) (k := k) (by rw [hn.out]; exact hlt))
      have hws := hg.size
      generalize (gp ns k).1 = y at *
      have hgA := Lib.hid (World.grownBy_alloc wr (.cells #[.int .i64 y] 3) none)
      go_wp2_with (at_builtin; refine wpList_append_own _ rfl _ _ 43 rfl w.heap.size 3 i0 (.int .i64 0) 1 8 Tryd.underlying43 hi hz0 hz1 hz2 rfl (by decide) (.slice A1 k d1) k (((ns.take k).map Prod.fst).map (Value.int .i64)) rfl (World.ownsRow.alloc hrow2.out _) ⟨wr.heap.size, 0, none⟩ 1 1 [.int .i64 y] rfl rfl (cell_one_new _ _ _) (by simp [Value.oneCell']) (by unfold maxLen; omega) (by omega) (by simp; omega) ?_; intro v' w5 hown hgrow _)
      go_roundw
      case rel =>
        refine ⟨k + 1, by omega, by go_num, ?_, ?_⟩
        · rw [hu.out]
          have h9 : w5.ownsRow w.heap.size 3 1 v' (((ns.take k).map Prod.fst).length + 1) (((ns.take k).map Prod.fst).map (Value.int .i64) ++ [.int .i64 y]) := by rw [hkl.out]; exact hown
          exact Mine.add h9
        · have h9 : Mine wr w.heap.size 3 .i64 (.slice A1 k d1) ((ns.take k).map Prod.fst) := by unfold Mine; rw [hkl.out]; exact hrow2.out
          exact (h9.keep hgA.out).far (grown_trans hg hgA.out) (Nat.le_refl _) hgrow
      case measure => exact meas n k hlt
    · obtain rfl : n = k := by omega
      have h9 : Hid (Mine wr w.heap.size 3 .i64 (.slice A1 n d1) (ns.map Prod.fst)) := by
        show Mine _ _ _ _ _ _
        rw [← hwhole.out]; unfold Mine; rw [hkl.out]; exact hrow2.out
      go_wp2_with fail
      go_ret
      exact ⟨_, rfl, h9.out, hg⟩
end RefT
end Go.Proofs.YtiakbgdeanllnaaDoor
