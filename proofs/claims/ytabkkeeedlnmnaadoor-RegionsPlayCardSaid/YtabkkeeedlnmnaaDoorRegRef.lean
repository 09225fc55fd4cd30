/- timekeeperref04: the reference's region. -/
import Derived.Test.YtabkkeeedlnmnaaDoorReg2
import Derived.BigQuiet
namespace Go.Proofs.YtabkkeeedlnmnaaDoor
open Go.RowKit Go.Shelf Tk
set_option linter.unusedVariables false
set_option linter.unusedSimpArgs false
namespace RefR
theorem src_of {w : World} {lo hi : Nat} {k : IntKind} {ad : Addr} {xs : List Int} (h : SlA w lo hi k (some ad) xs) : ∀ j u, (xs.map (Value.int k))[j]? = some u → w.cell? (ad.add j) = some u := by
  intro j u hu
  have hj : j < xs.length := by
    by_cases hj : j < xs.length
    · exact hj
    · rw [List.getElem?_eq_none (by simpa using hj)] at hu; cases hu
  rcases h.2 with h' | ⟨b, o, hA, -⟩
  · rw [h'] at hj; simp at hj
  · cases hA
    have e0 : ((⟨b, o, none⟩ : Addr).add j) = ⟨b, o + j, none⟩ := by
      unfold Addr.add; by_cases hi0 : j = 0 <;> simp [hi0]
    rw [e0, h.cell hj, gd_lt hj]
    rw [List.getElem?_map, List.getElem?_eq_getElem hj] at hu
    exact hu
theorem run_nil_any {P : Program} {w : World} (base : Nat) (t ty e : TypeId) (i : TypeInfo) (size : Nat) (ht : P.underlying t = some (.slice e)) (hi : P.info? e = some i)
    (v : Value) (n m c : Nat) (hm : m = 0) (xs : List Value) (hown : w.ownsRow base e size v n xs) :
    (Builtin.append_ #[t, t] ty #[v, .slice none m c]).run P w = .ok v w := by
  subst hm
  rcases hown.2 with ⟨rfl, rfl⟩ | ⟨g, cap, cur, rfl, _, _, hnc, _⟩
  · simp [Builtin.append_, run_underlying ht, sizeOf, typeInfo, hi, Builtin.lenOf, Builtin.firstCells]
  · simp [Builtin.append_, run_underlying ht, sizeOf, typeInfo, hi, Builtin.lenOf, Builtin.firstCells, hnc, storeCells]
theorem ones (xs : List Int) : ∀ u ∈ xs.map (Value.int .u8), u.oneCell' = true := by
  intro u hu
  rw [List.mem_map] at hu
  obtain ⟨y, -, rfl⟩ := hu
  rfl
/-- A whole list behind a row of the call's own. -/
theorem wpList_join {P : Program} {w : World} {ops : Array Oper} {rest : List Oper} {o : Oper} {a : Act} {Q : Exit → Act → World → Prop} (hgd : o.guard = none) (s x : Operand) (t : TypeId)
    (ho : o.op = .call { callee := .builtin .append, args := #[s, x], argTypes := #[t, t] }) (base : Nat) (e : TypeId) (i : TypeInfo) (ht : P.underlying t = some (.slice e)) (hi : P.info? e = some i) (hz : i.zero = some (.int .u8 0)) (hz1 : i.size = 1) (hz2 : i.bytes = 1)
    (v : Value) (ys : List Int) (A : Option Addr) (n c lo h' : Nat) (xs : List Int) (hs : a.eval s = v) (hown : Mine w base e .u8 v ys) (hx : a.eval x = .slice A n c) (hsl : SlA w lo h' .u8 A xs) (hn : xs.length = n) (hm : n ≤ 4096) (hy : ys.length ≤ 1000) (hb : base ≤ w.heap.size)
    (hK : ∀ v w', Mine w' base e .u8 v (ys ++ xs) → (∃ r, w.grownBy w' r ∧ ∀ b, r = some b → base ≤ b) → wpList P ops Q rest (a.put o.dst v) w') : wpList P ops Q (o :: rest) a w := by
  cases A with
  | none =>
    have hx0 : xs = [] := by
      rcases hsl.2 with h | ⟨b, o, h, -⟩
      · exact h
      · cases h
    subst hx0
    refine wpList_plain hgd fun K hK' => ?_
    have hrun := run_nil_any (P := P) (w := w) base t o.type e i 1 ht hi v ys.length n c hn.symm _ hown
    unfold Oper.wp
    simp [execOp, ho, resolve, invoke, builtin, hs, hx, hrun, Result.andThen]
    exact hK' _ _ (hK _ _ (by rw [List.append_nil]; exact hown) ⟨none, grown_refl _ _, by simp⟩)
  | some ad =>
    refine wpList_append_own w hgd s x t ho base e i (.int .u8 0) 1 1 ht hi hz hz1 hz2 rfl (by decide) v ys.length (ys.map (Value.int .u8)) hs hown ad n c (xs.map (Value.int .u8)) hx (by simp [hn]) (src_of hsl) (ones _) (by unfold maxLen; omega) (by omega) hb ?_
    intro v' w2 hown2 hgrow _
    refine hK v' w2 ?_ ⟨v.ownBlock, hgrow, fun b hb => (World.ownsRow.lt hown b hb).1⟩
    unfold Mine
    rw [List.length_append, List.map_append, hn]
    exact hown2
/-- The reference's region: the slice v has the bytes. -/
structure RQ (w : World) (R m : Nat) (v : Value) (os : List Int) : Prop where
  hdr : Arr w R 1 (fun _ => v)
  row : Mine w 0 5 .u8 v os
  sh : ∃ M, v = .slice (some ⟨M, 0, none⟩) os.length os.length
  ne : v.ownBlock ≠ some R
  n64 : os.length ≤ 4096
def OwnQ (R : Nat) (v : Value) (k : Nat) : Prop := k = R ∨ v.ownBlock = some k
variable {w w' : World} {R m : Nat} {v : Value} {os : List Int}
theorem RQ.fr {S : Nat → Prop} (h : RQ w R m v os) (g : Fr S w w') (hs : ∀ k, OwnQ R v k → ¬ S k) : RQ w' R m v os := by
  refine ⟨h.hdr.fr g (hs _ (.inl rfl)), ?_, h.sh, h.ne, h.n64⟩
  obtain ⟨hl, hr⟩ := h.row
  refine ⟨hl, hr.imp id ?_⟩
  rintro ⟨b, cap, cur, e, hb, hh, r⟩
  exact ⟨b, cap, cur, e, hb, (g.block b (Array.getElem?_eq_some_iff.1 hh).1 (hs b (.inr (by rw [e]; rfl)))).trans hh, r⟩
theorem RQ.keep (h : RQ w R m v os) (g : w.grownBy w' none) : RQ w' R m v os := h.fr (S := fun _ => False) (Fr.of_grown g (by simp)) (fun _ _ => id)
theorem RQ.lt (h : RQ w R m v os) : ∀ k, OwnQ R v k → k < w.heap.size := by
  rintro k (rfl | e)
  · exact h.hdr.lt
  · exact (World.ownsRow.lt h.row k e).2
theorem RQ.c0 (h : RQ w R m v os) : w.cell? ⟨R, 0, none⟩ = some v := h.hdr.cell (i := 0) (by decide)
def Post (w : World) (R m : Nat) (v : Value) (ms' : List Int) (w' : World) : Prop := ∃ v', RQ w' R m v' ms' ∧ Fr (OwnQ R v) w w' ∧ ∀ b, v'.ownBlock = some b → v.ownBlock = some b ∨ w.heap.size ≤ b
/-- One byte is written. -/
theorem RQ.set {M n : Nat} (h : RQ w R m (.slice (some ⟨M, 0, none⟩) n n) os) (hn : os.length = n) (i : Nat) (x : Int) : RQ (w.setCell ⟨M, i, none⟩ (.int .u8 x)) R m (.slice (some ⟨M, 0, none⟩) n n) (os.set i x) := by
  subst hn
  have hne : M ≠ R := fun e => h.ne (by rw [e]; rfl)
  exact ⟨h.hdr.kept (grownBy_setCell w M i (.int .u8 x)) (by simpa using hne), h.row.set i x, ⟨M, by rw [List.length_set]⟩, h.ne, by rw [List.length_set]; exact h.n64⟩
theorem RQ.same (h : RQ w R m v os) (g : w.grownBy w' none) : Post w R m v os w' := ⟨v, h.keep g, Fr.of_grown g (by simp), fun b hb => .inl hb⟩
theorem RQ.open (h : RQ w R m v os) {n : Nat} (hn : os.length = n) : ∃ M, v = .slice (some ⟨M, 0, none⟩) n n ∧ (∀ i, i < n → w.cell? ⟨M, i, none⟩ = some (.int .u8 (gd os i))) ∧ (∀ i, w.frozen? ⟨M, i, none⟩ = false) ∧ w.cell? ⟨R, 0, none⟩ = some (.slice (some ⟨M, 0, none⟩) n n) ∧ n ≤ 4096 := by
  subst hn
  obtain ⟨M, rfl⟩ := h.sh
  exact ⟨M, rfl, fun i hi => h.row.cell hi, fun i => h.row.frozen i, h.c0, h.n64⟩
theorem store_post {M n : Nat} (h : RQ w R m (.slice (some ⟨M, 0, none⟩) n n) os) (hn : os.length = n) (i : Nat) (x : Int) : Post w R m (.slice (some ⟨M, 0, none⟩) n n) (os.set i x) (w.setCell ⟨M, i, none⟩ (.int .u8 x)) :=
  ⟨_, h.set hn i x, Fr.of_grown (grownBy_setCell w M i (.int .u8 x)) (fun k e _ => by cases e; exact .inr rfl), fun b hb => .inl hb⟩
theorem byte_ok (h : RQ w R m v os) (a : Nat) (ha : a < os.length) : Calls Tryd.prog 38 #[.pointer (some ⟨R, 0, none⟩), .int .u32 a] w fun e w' => e = .returned (.tuple #[.int .u8 (gd os a), .int .i64 0]) ∧ Post w R m v os w' := by
  obtain ⟨n, hn⟩ : ∃ n, os.length = n := ⟨_, rfl⟩
  obtain ⟨M, rfl, hc, hf, c0, h64⟩ := h.open hn
  rw [hn] at ha
  have hs := Lib.hid (h.same (grown_refl w none))
  have q := hc a ha
  have p1 : decide ((n : Int) ≤ (a : Int)) = false := decide_eq_false (by omega)
  have p2 : (a : Int) < (n : Int) := by omega
  have p3 : (a : Int) ≤ 4096 := by omega
  have p4 : (0 : Int) ≤ (a : Int) := Int.natCast_nonneg _
  generalize gd os a = y at *
  clear h hn hc hf
  go_enter Tryd.func38, Tryd.ntmps38
  go_wp2_with fail
  go_ret2
  exact ⟨rfl, hs.out⟩
theorem byte_no (h : RQ w R m v os) (a : Nat) (ha : os.length ≤ a) (h32 : a < 4294967296) : Calls Tryd.prog 38 #[.pointer (some ⟨R, 0, none⟩), .int .u32 a] w fun e w' => e = .returned (.tuple #[.int .u8 0, .int .i64 4]) ∧ Post w R m v os w' := by
  obtain ⟨n, hn⟩ : ∃ n, os.length = n := ⟨_, rfl⟩
  obtain ⟨M, rfl, hc, hf, c0, h64⟩ := h.open hn
  rw [hn] at ha
  have hs := Lib.hid (h.same (grown_refl w none))
  have p1 : decide ((n : Int) ≤ (a : Int)) = true := decide_eq_true (by omega)
  have p3 : (a : Int) ≤ 4294967295 := by omega
  have p4 : (0 : Int) ≤ (a : Int) := Int.natCast_nonneg _
  clear h hn hc hf
  go_enter Tryd.func38, Tryd.ntmps38
  go_wp2_with fail
  go_ret2
  exact ⟨rfl, hs.out⟩
theorem setByte_ok (h : RQ w R m v os) (a : Nat) (x : Int) (ha : a < os.length) : Calls Tryd.prog 34 #[.pointer (some ⟨R, 0, none⟩), .int .u32 a, .int .u8 x] w fun e w' => e = .returned (.int .i64 0) ∧ Post w R m v (os.set a x) w' := by
  obtain ⟨n, hn⟩ : ∃ n, os.length = n := ⟨_, rfl⟩
  obtain ⟨M, rfl, hc, hf, c0, h64⟩ := h.open hn
  rw [hn] at ha
  have hs := Lib.hid (store_post h hn a x)
  have q := hc a ha
  have qf := hf a
  have p1 : decide ((n : Int) ≤ (a : Int)) = false := decide_eq_false (by omega)
  have p2 : (a : Int) < (n : Int) := by omega
  have p3 : (a : Int) ≤ 4096 := by omega
  have p4 : (0 : Int) ≤ (a : Int) := Int.natCast_nonneg _
  generalize gd os a = y at *
  clear h hn hc hf
  go_enter Tryd.func34, Tryd.ntmps34
  go_wp2_with fail
  go_ret
  exact ⟨rfl, hs.out⟩
theorem setByte_no (h : RQ w R m v os) (a : Nat) (x : Int) (ha : os.length ≤ a) (h32 : a < 4294967296) : Calls Tryd.prog 34 #[.pointer (some ⟨R, 0, none⟩), .int .u32 a, .int .u8 x] w fun e w' => e = .returned (.int .i64 4) ∧ Post w R m v os w' := by
  obtain ⟨n, hn⟩ : ∃ n, os.length = n := ⟨_, rfl⟩
  obtain ⟨M, rfl, hc, hf, c0, h64⟩ := h.open hn
  rw [hn] at ha
  have hs := Lib.hid (h.same (grown_refl w none))
  have p1 : decide ((n : Int) ≤ (a : Int)) = true := decide_eq_true (by omega)
  have p3 : (a : Int) ≤ 4294967295 := by omega
  have p4 : (0 : Int) ≤ (a : Int) := Int.natCast_nonneg _
  clear h hn hc hf
  go_enter Tryd.func34, Tryd.ntmps34
  go_wp2_with fail
  go_ret
  exact ⟨rfl, hs.out⟩
theorem bytes_ok (h : RQ w R m v os) : Calls Tryd.prog 41 #[.pointer (some ⟨R, 0, none⟩)] w fun e w' => ∃ u, e = .returned u ∧ Mine w' w.heap.size 5 .u8 u os ∧ w.grownBy w' none := by
  obtain ⟨i0, hi, hz0, hz1, hz2⟩ := info_parts infoByte
  obtain ⟨n, hn⟩ : ∃ n, os.length = n := ⟨_, rfl⟩
  obtain ⟨M, rfl, hc, hf, c0, h64⟩ := h.open hn
  have hsl := Lib.hid h.row.sl
  replace hn := Lib.hid hn
  clear h hc hf
  go_enter Tryd.func41, Tryd.ntmps41
  go_wp2_with (at_builtin; refine wpList_join rfl _ _ 61 rfl w.heap.size 5 i0 Tryd.underlying61 hi hz0 hz1 hz2 (.slice none 0 0) [] (some ⟨M, 0, none⟩) n n 0 w.heap.size os rfl (Mine.nil _ _ _ _) rfl hsl.out hn.out (by omega) (by simp) (Nat.le_refl _) ?_; intro v' w5 hM5 hgrow; obtain ⟨A5, c5, rfl, -⟩ := hM5.form)
  go_ret
  obtain ⟨r, hg, hr⟩ := hgrow
  exact ⟨_, rfl, hM5, ⟨hg.os, hg.tape, hg.output, hg.size, fun k hk _ => hg.block k hk (fun e => by have := hr k e.symm; omega)⟩⟩
end RefR
end Go.Proofs.YtabkkeeedlnmnaaDoor
