/- timekeeperref16: a row behind a row, as a step of a region; Remove. -/
import Derived.Test.YtiakbgdeanllnaaDoorWtRef
namespace Go.Proofs.YtiakbgdeanllnaaDoor
open Go.RowKit Go.Shelf Tk
set_option linter.unusedVariables false
set_option linter.unusedSimpArgs false
namespace RefT
/-- At A there are the cells. -/
def SlV (w : World) (A : Option Addr) (vs : List Value) : Prop := vs = [] ∨ ∃ ad, A = some ad ∧ ∀ j u, vs[j]? = some u → w.cell? (ad.add j) = some u
theorem SlV.kept {w w' : World} {A : Option Addr} {vs : List Value} (h : SlV w A vs) (hb : ∀ ad, A = some ad → ad.block < w.heap.size) (hg : w.grownBy w' none) : SlV w' A vs := by
  refine h.imp id ?_
  rintro ⟨ad, hA, hc⟩
  refine ⟨ad, hA, fun j u hu => ?_⟩
  rw [← hc j u hu]
  have := hb ad hA
  exact World.cell?_of_block (w := w) (by
    have e : (ad.add j).block = ad.block := by unfold Addr.add; split <;> rfl
    rw [e]; exact hg.block _ this (by simp))
theorem run_nil_any {P : Program} {w : World} (base : Nat) (t ty e : TypeId) (i : TypeInfo) (size : Nat) (ht : P.underlying t = some (.slice e)) (hi : P.info? e = some i)
    (v : Value) (n m c : Nat) (A : Option Addr) (hm : m = 0) (hA : A = none) (xs : List Value) (hown : w.ownsRow base e size v n xs) :
    (Builtin.append_ #[t, t] ty #[v, .slice A m c]).run P w = .ok v w := by
  subst hm hA
  rcases hown.2 with ⟨rfl, rfl⟩ | ⟨g, cap, cur, rfl, _, _, hnc, _⟩
  · simp [Builtin.append_, run_underlying ht, sizeOf, typeInfo, hi, Builtin.lenOf, Builtin.firstCells]
  · simp [Builtin.append_, run_underlying ht, sizeOf, typeInfo, hi, Builtin.lenOf, Builtin.firstCells, hnc, storeCells]
/-- append of a row of pairs, as a step of a region that draws. -/
theorem step_join {P : Program} {ops : Array Oper} {o : Oper} {a : Go.Act} {w : World} {K : Go.Act → World → Prop} {Q : Exit → Go.Act → World → Prop} {E : Prop}
    (hg : o.guard = none) (s x : Operand) (t : TypeId) (hop : o.op = Op.call { callee := Callee.builtin Builtin.append, args := #[s, x], argTypes := #[t, t] })
    (base : Nat) (e : TypeId) (i : TypeInfo) (z : Value) (ht : P.underlying t = some (.slice e)) (hi : P.info? e = some i) (hz : i.zero = some z)
    (hsize : i.size = 2) (hby : i.bytes = 16) (hzs : z.cells.size = 2)
    (v : Value) (n : Nat) (xs : List Value) (hs : a.eval s = v) (hown : w.ownsRow base e 2 v n xs)
    (A : Option Addr) (m c : Nat) (news : List Value) (hx : a.eval x = .slice A m c) (hl : news.length = m * 2) (hnews : SlV w A news) (h1 : ∀ u ∈ news, u.oneCell' = true)
    (h63 : n + m ≤ 5000) (hbase : base ≤ w.heap.size)
    (hK : ∀ v' w', w'.ownsRow base e 2 v' (n + m) (xs ++ news) → w.grownBy w' v.ownBlock → K (a.put o.dst v') w') :
    if Region.wanted o (yielded ops a.tmps) = true then Oper.wp P o a w K Q else E := by
  have hw : Region.wanted o (yielded ops a.tmps) = true := by simp [Region.wanted, hg]
  rw [if_pos hw]
  rcases A with _ | ad
  · have h0 : news = [] := by
      rcases hnews with h | ⟨ad, h, -⟩
      · exact h
      · cases h
    have hm : m = 0 := by rw [h0] at hl; simp at hl; omega
    have hr := run_nil_any (P := P) (w := w) base t o.type e i 2 ht hi v n m c none hm rfl xs hown
    unfold Oper.wp
    simp [execOp, hop, resolve, invoke, builtin, hs, hx, hr, Result.andThen]
    refine hK v w ?_ (grown_refl _ _)
    subst hm h0
    simpa using hown
  · have hn : ∀ j u, news[j]? = some u → w.cell? (ad.add j) = some u := by
      rcases hnews with h | ⟨ad', h, hc⟩
      · intro j u hu; rw [h] at hu; cases hu
      · cases h; exact hc
    obtain ⟨v', w', hr, h2, h3, -, -⟩ := run_append_own_at (P := P) (w := w) base t o.type e i z 2 16 ht hi hz hsize hby hzs (by decide) v n xs hown ad m c news hl hn h1 (by unfold maxLen; omega) (by omega) hbase
    unfold Oper.wp
    simp [execOp, hop, resolve, invoke, builtin, hs, hx, hr, Result.andThen]
    exact hK _ _ h2 h3
theorem grown_two {W WA w5 : World} (h : W.grownBy WA none) (hg : ∃ r, WA.grownBy w5 r ∧ ∀ b, r = some b → W.heap.size ≤ b) : W.grownBy w5 none := by
  obtain ⟨r, hg, hr⟩ := hg
  exact ⟨hg.os.trans h.os, hg.tape.trans h.tape, hg.output.trans h.output, Nat.le_trans h.size hg.size, fun k hk _ => (hg.block k (Nat.lt_of_lt_of_le hk h.size) (fun e => by have := hr k e.symm; omega)).trans (h.block k hk (by simp))⟩
theorem grown_row {W WA w5 : World} {e : TypeId} {v : Value} {n : Nat} {xs : List Value} (h : W.grownBy WA none) (hown : WA.ownsRow W.heap.size e 2 v n xs) (hg : WA.grownBy w5 v.ownBlock) : W.grownBy w5 none :=
  grown_two h ⟨_, hg, fun b hb => (World.ownsRow.lt hown b hb).1⟩
theorem SlV.kept3 {w w' : World} {A : Option Addr} {vs : List Value} {lo : Nat} {r : Option Nat} (h : SlV w A vs) (hb : ∀ ad, A = some ad → ad.block < lo) (hlo : lo ≤ w.heap.size) (hg : w.grownBy w' r) (hr : ∀ b, r = some b → lo ≤ b) : SlV w' A vs := by
  refine h.imp id ?_
  rintro ⟨ad, hA, hc⟩
  refine ⟨ad, hA, fun j u hu => ?_⟩
  rw [← hc j u hu]
  have := hb ad hA
  exact World.cell?_of_block (w := w) (by
    have e : (ad.add j).block = ad.block := by unfold Addr.add; split <;> rfl
    rw [e]; exact hg.block _ (by omega) (fun e2 => by have := hr _ e2.symm; omega))
theorem MineP.form2 {w : World} {base : Nat} {v : Value} {ns : List (Int × Int)} (h : MineP w base v ns) : ∃ A L c, v = .slice A L c := by
  rcases h.form with ⟨e, h2⟩ | ⟨g, c, e, -⟩
  · exact ⟨_, _, _, e⟩
  · exact ⟨_, _, _, e⟩
variable {w w' : World} {R : Nat} {v : Value} {ns : List (Int × Int)}
theorem at_mem {x : Int} {ns : List (Int × Int)} {r : Int} (h : At x ns r) : (0 ≤ r ∧ ∃ j, r = (j : Nat) ∧ j < ns.length ∧ (gp ns j).1 = x ∧ ∀ i, i < j → (gp ns i).1 ≠ x) ∨ (r < 0 ∧ ∀ i, i < ns.length → (gp ns i).1 ≠ x) := by
  rcases h with ⟨j, rfl, h1, h2, h3⟩ | ⟨rfl, h1⟩
  · exact .inl ⟨by omega, j, rfl, h1, h2, h3⟩
  · exact .inr ⟨by omega, h1⟩
theorem remove_no (x : Int) (h : RQ w R v ns) (hl : ns.length ≤ 2000) (hno : ∀ i, i < ns.length → (gp ns i).1 ≠ x) : Calls Tryd.prog 8 #[.pointer (some ⟨R, 0, none⟩), .int .i64 x] w fun e w' => e = .returned (.int .i64 1) ∧ w = w' := by
  have hat := Lib.hid (at_ok x h hl)
  replace hno := Lib.hid hno
  clear h
  go_enter Tryd.func8, Tryd.ntmps8
  go_wp2_with fail
  refine hat.out.mono ?_; rintro e w1 ⟨r, rfl, hF, rfl⟩
  have hr : decide (r < 0) = true := decide_eq_true (by
    rcases at_mem hF with ⟨-, j, -, h1, h2, -⟩ | h
    · exact absurd h2 (hno.out j h1)
    · exact h.1)
  clear hF
  go_wp2_with fail
  go_ret
  exact ⟨rfl, rfl⟩
def rm (ns : List (Int × Int)) (j : Nat) : List (Int × Int) := ns.take j ++ ns.drop (j + 1)
set_option maxRecDepth 100000 in
set_option maxHeartbeats 4000000 in
theorem remove_ok (x : Int) (h : RQ w R v ns) (hl : ns.length ≤ 1000) (j : Nat) (hj : j < ns.length) (hj1 : (gp ns j).1 = x) (hj2 : ∀ i, i < j → (gp ns i).1 ≠ x) :
    Calls Tryd.prog 8 #[.pointer (some ⟨R, 0, none⟩), .int .i64 x] w fun e w' => e = .returned (.int .i64 0) ∧ Post w R v (rm ns j) w' := by
  obtain ⟨i0, hi0, hz0, hz1, hz2⟩ := info_parts infoOne
  have hat := Lib.hid (at_ok x h (by omega))
  have hrow := Lib.hid h.row
  obtain ⟨n, hn⟩ : ∃ n, ns.length = n := ⟨_, rfl⟩
  obtain ⟨g, c, rfl, hc, hcm⟩ : ∃ g c, v = .slice (some ⟨g, 0, none⟩) n c ∧ n ≤ c ∧ c ≤ maxLen := by
    rcases h.open with ⟨-, h2⟩ | ⟨g, c, rfl, h1, h2, -⟩
    · subst h2; exact absurd hj (Nat.not_lt_zero _)
    · exact ⟨g, c, by rw [hn], by omega, h2⟩
  have hR := Lib.hid h
  have hglt := (h.row.lt g rfl).2
  rw [hn] at hl hj
  replace hj1 := Lib.hid hj1
  replace hj2 := Lib.hid hj2
  have hmem : Hid (∀ r, At x ns r → r = (j : Nat)) := fun r hr => by
    rcases hr with ⟨q, rfl, h1, h2, h3⟩ | ⟨rfl, h1⟩
    · have : q = j := by
        rcases Nat.lt_trichotomy q j with e | e | e
        · exact absurd h2 (hj2.out q e)
        · exact e
        · exact absurd hj1.out (h3 j e)
      rw [this]
    · exact absurd hj1.out (h1 j (by omega))
  replace hn := Lib.hid hn
  have c0d : w.drew.cell? ⟨R, 0, none⟩ = some (.slice (some ⟨g, 0, none⟩) n c) := h.c0
  have hG0 : Hid (w.grownBy w.drew none) := grown_drewN (grown_refl _ _) 1
  clear h
  have hs1 : Hid (SlV w.drew (some ⟨g, 0, none⟩) (fl (ns.take j))) := .inr ⟨_, rfl, fun q u hu => by
    have := World.ownsRow.cells hrow.out rfl q u (by
      rw [fl_take, List.getElem?_take] at hu
      split at hu
      · exact hu
      · cases hu)
    exact this⟩
  have hs2 : Hid (SlV w.drew (if c = j + 1 then some ⟨g, 0, none⟩ else some ⟨g, (j + 1) * 2, none⟩) (fl (ns.drop (j + 1)))) := by
    by_cases e : c = j + 1
    · left
      have : ns.drop (j + 1) = [] := List.drop_eq_nil_of_le (by rw [hn.out]; omega)
      rw [this]; rfl
    · right
      refine ⟨_, if_neg e, fun q u hu => ?_⟩
      rw [fl_drop, List.getElem?_drop] at hu
      have := World.ownsRow.cells hrow.out rfl _ u hu
      have e1 : ((⟨g, 0, none⟩ : Addr).add ((j + 1) * 2 + q)) = (⟨g, (j + 1) * 2, none⟩ : Addr).add q := by
        unfold Addr.add
        rw [if_neg (by omega)]
        by_cases hq : q = 0
        · subst hq; simp
        · rw [if_neg hq]; simp
      rw [e1] at this
      exact this
  have hl1 : Hid ((fl (ns.take j)).length = j * 2) := by show _ = _; rw [fl_len, List.length_take, hn.out]; omega
  have hl2 : Hid ((fl (ns.drop (j + 1))).length = (n - (j + 1)) * 2) := by show _ = _; rw [fl_len, List.length_drop, hn.out]
  have hjc : j ≤ c := by omega
  have hj1c : j + 1 ≤ c := by omega
  have hjn : j + 1 ≤ n := by omega
  have hjI : (j : Int) < (n : Int) := by omega
  have h2 : (0 : Int) ≤ (j : Int) := Int.natCast_nonneg _
  have hr : decide ((j : Int) < 0) = false := decide_eq_false (by omega)
  have hw1 : IntKind.i64.wrap ((j : Int) + 1) = (j : Int) + 1 := by rw [IntKind.wrap_i64]; omega
  have hb1 : (0 : Int) ≤ (j : Int) + 1 := by omega
  have hb2 : (j : Int) + 1 ≤ (n : Int) := by omega
  have hb3 : ((j : Int) + 1).toNat = j + 1 := by omega
  go_enter Tryd.func8, Tryd.ntmps8
  go_wp2_with fail
  refine hat.out.mono ?_; rintro e w1 ⟨r, rfl, hF, rfl⟩
  obtain rfl := hmem.out r hF
  clear hF hat hmem
  go_wp2_with fail
  go_region_law (first
    | (refine step_join rfl _ _ 57 rfl w.heap.size 65 i0 _ Tryd.underlying57 hi0 hz0 hz1 hz2 rfl (.slice none 0 0) 0 [] rfl (World.ownsRow_nil _ _ _ _) (some ⟨g, 0, none⟩) j c (fl (ns.take j)) rfl hl1.out hs1.out (fl_one _) (by omega) (Nat.le_refl _) ?_; intro v1 w1 hown1 hg1; have hG1 := Lib.hid (grown_trans hG0.out hg1); have c01 : w1.cell? ⟨R, 0, none⟩ = some (.slice (some ⟨g, 0, none⟩) n c) := (hR.out.keep hG1.out).c0; have hsB := Lib.hid (SlV.kept hs2.out (by intro ad had; split at had <;> cases had <;> exact hglt) hg1); clear hg1)
    | (refine step_join rfl _ _ 57 rfl w.heap.size 65 i0 _ Tryd.underlying57 hi0 hz0 hz1 hz2 rfl v1 (0 + j) ([] ++ fl (ns.take j)) rfl hown1 (if c = j + 1 then some ⟨g, 0, none⟩ else some ⟨g, (j + 1) * 2, none⟩) (n - (j + 1)) _ (fl (ns.drop (j + 1))) rfl hl2.out hsB.out (fl_one _) (by omega) hG1.out.size ?_; intro v2 w2 hown2 hg2; have hM2 : MineP w2 w.heap.size v2 (rm ns j) := (by unfold MineP rm; rw [fl_app, List.length_append, List.length_take, List.length_drop, hn.out]; simpa [Nat.min_eq_left (Nat.le_of_lt hj)] using hown2); obtain ⟨A2, L2, c2, e2⟩ := hM2.form2; obtain ⟨hu0, hf0, hP⟩ := fin hR.out hM2 (grown_row hG1.out hown1 hg2); subst e2; clear hM2 hown2 hg2))
  all_goals
    go_wp2_with fail
    all_goals
      go_ret
      exact ⟨rfl, hP⟩
/-- How many stand ahead of one of that rank. -/
def pos (ns : List (Int × Int)) (rank : Int) : Nat := (ns.takeWhile (fun p => decide (rank ≤ p.2))).length
def ins (ns : List (Int × Int)) (who rank : Int) : List (Int × Int) := ns.take (pos ns rank) ++ (who, rank) :: ns.drop (pos ns rank)
theorem pos_le (ns : List (Int × Int)) (rank : Int) : pos ns rank ≤ ns.length := (List.takeWhile_sublist _).length_le
theorem pos_app {a b : List (Int × Int)} {rank : Int} (h1 : ∀ y ∈ a, rank ≤ y.2) (h2 : ∀ y b', b = y :: b' → y.2 < rank) : pos (a ++ b) rank = a.length := by
  unfold pos
  rw [List.takeWhile_append_of_pos (by simpa using h1)]
  cases b with
  | nil => simp
  | cons y b' =>
    have := h2 y b' rfl
    rw [List.takeWhile_cons_of_neg (by simpa using this)]
    simp
theorem pos_is {ns : List (Int × Int)} {rank : Int} {k : Nat} (hk : k ≤ ns.length) (h1 : ∀ j, j < k → rank ≤ (gp ns j).2) (h2 : k < ns.length → (gp ns k).2 < rank) : pos ns rank = k := by
  have e : ns.take k ++ ns.drop k = ns := List.take_append_drop k ns
  have := pos_app (a := ns.take k) (b := ns.drop k) (rank := rank) (fun y hy => by
    obtain ⟨i, hi, rfl⟩ := List.mem_iff_getElem.1 hy
    have hi2 : i < k ∧ i < ns.length := by have := hi; rw [List.length_take] at this; omega
    have := h1 i hi2.1
    simpa [gp, hi2.2] using this) (fun y b' hb => by
    by_cases hlt : k < ns.length
    · rw [List.drop_eq_getElem_cons hlt] at hb
      cases hb
      have := h2 hlt
      simpa [gp, hlt] using this
    · rw [List.drop_eq_nil_of_le (by omega)] at hb; cases hb)
  rw [e] at this
  rw [this, List.length_take]; omega
theorem ins_app {a b : List (Int × Int)} {who rank : Int} (h1 : ∀ y ∈ a, rank ≤ y.2) (h2 : ∀ y b', b = y :: b' → y.2 < rank) : ins (a ++ b) who rank = a ++ (who, rank) :: b := by
  unfold ins
  rw [pos_app h1 h2, List.take_left' rfl, List.drop_left' rfl]
theorem put_arg (x r : Int) (hb : x < 0 ∨ r < 0 ∨ 31 < r) (h : RQ w R v ns) : Calls Tryd.prog 12 #[.pointer (some ⟨R, 0, none⟩), .int .i64 x, .int .i64 r] w fun e w' => e = .returned (.int .i64 1) ∧ w = w' := by
  have hcs : decide (x < 0) = true ∨ (decide (x < 0) = false ∧ decide (r < 0) = true) ∨ (decide (x < 0) = false ∧ decide (r < 0) = false ∧ decide (31 < r) = true) := by
    simp only [decide_eq_true_eq, decide_eq_false_iff_not]; omega
  clear hb h
  rcases hcs with p1 | ⟨p1, p2⟩ | ⟨p1, p2, p3⟩
  all_goals
    go_enter Tryd.func12, Tryd.ntmps12
    go_wp2_with fail
    go_ret
    exact ⟨rfl, rfl⟩
theorem put_there (x r : Int) (h0 : 0 ≤ x) (hr0 : 0 ≤ r) (hr1 : r ≤ 31) (h : RQ w R v ns) (hl : ns.length ≤ 2000) (hm : ∃ i, i < ns.length ∧ (gp ns i).1 = x) : Calls Tryd.prog 12 #[.pointer (some ⟨R, 0, none⟩), .int .i64 x, .int .i64 r] w fun e w' => e = .returned (.int .i64 7) ∧ w = w' := by
  have p1 : decide (x < 0) = false := decide_eq_false (by omega)
  have p2 : decide (r < 0) = false := decide_eq_false (by omega)
  have p3 : decide (31 < r) = false := decide_eq_false (by omega)
  have hat := Lib.hid (at_ok x h hl)
  replace hm := Lib.hid hm
  clear h h0 hr0 hr1
  go_enter Tryd.func12, Tryd.ntmps12
  go_wp2_with fail
  refine hat.out.mono ?_; rintro e w1 ⟨q, rfl, hF, rfl⟩
  have hr : decide (0 ≤ q) = true := decide_eq_true (by
    rcases at_mem hF with h | h
    · exact h.1
    · obtain ⟨i, hi, e⟩ := hm.out
      exact absurd e (h.2 i hi))
  clear hF
  go_wp2_with fail
  go_ret
  exact ⟨rfl, rfl⟩
end RefT
end Go.Proofs.YtiakbgdeanllnaaDoor
