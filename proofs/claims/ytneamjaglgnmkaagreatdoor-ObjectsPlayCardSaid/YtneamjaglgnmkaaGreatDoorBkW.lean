/- The book: lists of whole numbers (ints). -/
import Derived.Test.YtneamjaglgnmkaaGreatDoorBkM
import Derived.Test.YtneamjaglgnmkaaGreatDoorBkE
namespace Go.Proofs.YtneamjaglgnmkaaGreatDoor
open Go.RowKit Go.Shelf Tk
set_option linter.unusedVariables false
set_option linter.unusedSimpArgs false
namespace BkWord
theorem infoE : (Tryz.prog.info? 23).map (fun i => (i.zero, i.size, i.bytes)) = some (some (.int .u32 0), 1, 4) := by kernel_rfl
theorem infoH : (Tryz.prog.info? 123).map (fun i => (i.zero, i.size, i.bytes)) = some (some (.agg #[.slice none 0 0, .slice none 0 0, .int .i64 0]), 3, 56) := by kernel_rfl
/-- The mark of a list. -/
def mk (n : Nat) : Int := 1000 + (n : Int)
theorem mark_ok (n : Nat) (hn : n ≤ 100000) (w : World) : Calls Tryz.prog 65 #[.int .i64 n] w fun e w' => e = .returned (.int .u32 (mk n)) ∧ w = w' := by
  have hm : mk n = 1000 + (n : Int) := rfl
  have h1 : (n : Int) ≤ 100000 := by omega
  have h0 : (0 : Int) ≤ (n : Int) := Int.natCast_nonneg _
  rw [hm]
  clear hm
  go_enter Tryz.func65, Tryz.ntmps65
  go_wp2
  go_ret
  exact ⟨rfl, rfl⟩
theorem is_ok (n : Nat) (hn : n ≤ 100000) (w : World) : Calls Tryz.prog 73 #[.int .u32 (mk n), .int .i64 n] w fun e w' => e = .returned (.bool true) ∧ w = w' := by
  have hm : mk n = 1000 + (n : Int) := rfl
  have h1 : (n : Int) ≤ 100000 := by omega
  have h0 : (0 : Int) ≤ (n : Int) := Int.natCast_nonneg _
  rw [hm]
  clear hm
  go_enter Tryz.func73, Tryz.ntmps73
  go_wp2
  go_ret
  exact ⟨by simp, rfl⟩
/-- The book's own cells. -/
def bv (q : Nat) (rv : Value) (i : Nat) : Value := if i = 0 then .int .i64 q else if i = 2 then rv else .slice none 0 0
/-- The cells of its row. -/
def rc (V U : Nat → Value) (m : Nat) : Value := if m % 3 = 0 then V (m / 3) else if m % 3 = 1 then U (m / 3) else .int .i64 ((m / 3 + 1 : Nat))
def rows (V U : Nat → Value) (q : Nat) : List Value := (List.range (3 * q)).map (rc V U)
theorem rows_len (V U : Nat → Value) (q : Nat) : (rows V U q).length = q * 3 := by simp [rows]; omega
theorem rows_at (V U : Nat → Value) {q m : Nat} (h : m < 3 * q) : (rows V U q)[m]? = some (rc V U m) := by simp [rows, h]
theorem rows_snoc (V U : Nat → Value) (q : Nat) : rows V U (q + 1) = rows V U q ++ [V q, U q, .int .i64 ((q + 1 : Nat))] := by
  unfold rows
  rw [show 3 * (q + 1) = 3 * q + 1 + 1 + 1 by omega, List.range_succ, List.range_succ, List.range_succ]
  simp only [List.map_append, List.map_cons, List.map_nil, List.append_assoc, List.cons_append, List.nil_append]
  congr 1
  have e0 : rc V U (3 * q) = V q := by unfold rc; rw [if_pos (by omega), show 3 * q / 3 = q by omega]
  have e1 : rc V U (3 * q + 1) = U q := by unfold rc; rw [if_neg (by omega), if_pos (by omega), show (3 * q + 1) / 3 = q by omega]
  have e2 : rc V U (3 * q + 1 + 1) = .int .i64 ((q + 1 : Nat)) := by unfold rc; rw [if_neg (by omega), if_neg (by omega), show (3 * q + 1 + 1) / 3 = q by omega]
  rw [e0, e1, e2]
def up (f : Nat → Value) (k : Nat) (v : Value) (i : Nat) : Value := if i = k then v else f i
theorem up_same (f : Nat → Value) (k : Nat) (v : Value) : up f k v k = v := if_pos rfl
theorem up_ne (f : Nat → Value) {k i : Nat} (v : Value) (h : i ≠ k) : up f k v i = f i := if_neg h
theorem rows_congr {V U V' U' : Nat → Value} {q : Nat} (h1 : ∀ i, i < q → V i = V' i) (h2 : ∀ i, i < q → U i = U' i) : rows V U q = rows V' U' q := by
  unfold rows
  refine List.map_congr_left fun m hm => ?_
  rw [List.mem_range] at hm
  unfold rc
  rw [h1 (m / 3) (by omega), h2 (m / 3) (by omega)]
theorem rows_set (V U : Nat → Value) {q k : Nat} (hk : k < q) (x : Value) : (rows V U q).set (3 * k + 1) x = rows V (up U k x) q := by
  refine List.ext_getElem? fun m => ?_
  rw [List.getElem?_set]
  by_cases hm : m < 3 * q
  · rw [rows_at _ _ hm, rows_at _ _ hm, rows_len]
    by_cases e : 3 * k + 1 = m
    · subst e
      rw [if_pos rfl, if_pos (by omega)]
      unfold rc
      rw [if_neg (by omega), if_pos (by omega), show (3 * k + 1) / 3 = k by omega, up_same]
    · rw [if_neg e]
      unfold rc
      by_cases h0 : m % 3 = 0
      · rw [if_pos h0, if_pos h0]
      · rw [if_neg h0, if_neg h0]
        by_cases h1 : m % 3 = 1
        · rw [if_pos h1, if_pos h1, up_ne _ _ (by omega)]
        · rw [if_neg h1, if_neg h1]
  · rw [if_neg (show ¬ 3 * k + 1 = m by omega), List.getElem?_eq_none (by rw [rows_len]; omega), List.getElem?_eq_none (by rw [rows_len]; omega)]
/-- The book: q lists. -/
structure Bk (w : World) (K : Nat) (rv : Value) (q : Nat) (V U : Nat → Value) : Prop where
  hdr : Arr w K 9 (bv q rv)
  row : w.ownsRow 0 123 3 rv q (rows V U q)
  ne : rv.ownBlock ≠ some K
/-- The book's blocks. -/
def OwnB (K : Nat) (rv : Value) (k : Nat) : Prop := k = K ∨ rv.ownBlock = some k
variable {w w' : World} {K : Nat} {rv : Value} {q : Nat} {V U : Nat → Value}
theorem Bk.fr {S : Nat → Prop} (h : Bk w K rv q V U) (g : Fr S w w') (h1 : ¬ S K) (h2 : ∀ b, rv.ownBlock = some b → ¬ S b) : Bk w' K rv q V U := by
  refine ⟨h.hdr.fr g h1, ?_, h.ne⟩
  obtain ⟨hl, hr⟩ := h.row
  refine ⟨hl, hr.imp id ?_⟩
  rintro ⟨b, cap, cur, e, hb, hh, r⟩
  exact ⟨b, cap, cur, e, hb, (g.block b (Array.getElem?_eq_some_iff.1 hh).1 (h2 b (by rw [e]; rfl))).trans hh, r⟩
theorem Bk.keep (h : Bk w K rv q V U) (g : w.grownBy w' none) : Bk w' K rv q V U := h.fr (S := fun _ => False) (Fr.of_grown g (by simp)) id (fun _ _ => id)
theorem Bk.lt (h : Bk w K rv q V U) : ∀ k, OwnB K rv k → k < w.heap.size := by
  rintro k (rfl | e)
  · exact h.hdr.lt
  · exact (World.ownsRow.lt h.row k e).2
theorem Bk.c0 (h : Bk w K rv q V U) : w.cell? ⟨K, 0, none⟩ = some (.int .i64 q) := h.hdr.cell (i := 0) (by decide)
theorem Bk.cf (h : Bk w K rv q V U) : w.cell? ⟨K, 2, none⟩ = some rv := h.hdr.cell (i := 2) (by decide)
theorem Bk.ce (h : Bk w K rv q V U) {i : Nat} (h0 : i ≠ 0) (h3 : i ≠ 2) (hi : i < 9) : w.cell? ⟨K, i, none⟩ = some (.slice none 0 0) := by
  rw [h.hdr.cell hi]; unfold bv; rw [if_neg h0, if_neg h3]
theorem Bk.form (h : Bk w K rv q V U) : ∃ A c, rv = .slice A q c ∧ q ≤ c ∧ (0 < q → ∃ g, A = some ⟨g, 0, none⟩) := by
  rcases h.row.2 with ⟨rfl, h0⟩ | ⟨g, cap, cur, rfl, hb, hh, hn, r⟩
  · exact ⟨none, 0, by rw [h0], by omega, fun h => by omega⟩
  · exact ⟨_, cap, rfl, hn, fun _ => ⟨g, rfl⟩⟩
theorem Bk.at (h : Bk w K rv q V U) {g c : Nat} (e : rv = .slice (some ⟨g, 0, none⟩) q c) {m : Nat} (hm : m < 3 * q) : w.cell? ⟨g, m, none⟩ = some (rc V U m) := by
  have := World.ownsRow.cells h.row (g := g) (by rw [e]; rfl) m _ (rows_at V U hm)
  have e0 : ((⟨g, 0, none⟩ : Addr).add m) = ⟨g, m, none⟩ := by
    unfold Addr.add; by_cases hi0 : m = 0 <;> simp [hi0]
  rwa [e0] at this
theorem rc0 (V U : Nat → Value) (i : Nat) : rc V U (i * 3) = V i := by unfold rc; rw [if_pos (by omega), show i * 3 / 3 = i by omega]
theorem rc1 (V U : Nat → Value) (i : Nat) : rc V U (i * 3 + 1) = U i := by unfold rc; rw [if_neg (by omega), if_pos (by omega), show (i * 3 + 1) / 3 = i by omega]
theorem rc2 (V U : Nat → Value) (i : Nat) : rc V U (i * 3 + 2) = .int .i64 ((i + 1 : Nat)) := by unfold rc; rw [if_neg (by omega), if_neg (by omega), show (i * 3 + 2) / 3 = i by omega]
/-- Made: no list yet. -/
theorem Bk.made (w : World) (cs : Array Value) (T : TypeId) (hs : cs.size = 9) (hc : ∀ i, i < 9 → cs[i]? = some (bv 0 (.slice none 0 0) i)) (V U : Nat → Value) : Bk (w.alloc (.cells cs T)) w.heap.size (.slice none 0 0) 0 V U :=
  ⟨Arr.new _ _ _ _ _ hs hc, World.ownsRow_nil _ _ _ _, by simp [Value.ownBlock]⟩
end BkWord
end Go.Proofs.YtneamjaglgnmkaaGreatDoor
