/- timekeeperref15: the reference's queue: 32 rows; New, Rank, may. -/
import Derived.Test.YtdbddfbdhgohbaaGreatDoorRows
import Derived.Test.YtdbddfbdhgohbaaGreatDoorRdyM
import Derived.Test.YtdbddfbdhgohbaaGreatDoorOwn
import Derived.BigQuiet
import Derived.Laws.OwnMore
import Derived.Laws.AppendOwnNone
namespace Go.Proofs.YtdbddfbdhgohbaaGreatDoor
open Go.RowKit Go.Shelf Tk Tk.Rdy
set_option linter.unusedVariables false
set_option linter.unusedSimpArgs false
namespace RefD
theorem infoI : (Tryz.prog.info? 3).map (fun i => (i.zero, i.size, i.bytes)) = some (some (.int .i64 0), 1, 8) := by kernel_rfl
/-- The reference's queue: row r has those of rank r. -/
structure RQ (w : World) (R : Nat) (v : Nat → Value) (ls : Nat → List Int) : Prop where
  hdr : Arr w R 32 v
  rows : ∀ r, r < 32 → Mine w 0 3 .i64 (v r) (ls r)
  ne : ∀ r, r < 32 → (v r).ownBlock ≠ some R
def OwnR (R : Nat) (v : Nat → Value) (k : Nat) : Prop := k = R ∨ ∃ r, r < 32 ∧ (v r).ownBlock = some k
variable {w w' : World} {R : Nat} {v : Nat → Value} {ls : Nat → List Int} {rk : Nat → Nat} {has : Nat}
theorem mine_fr {S : Nat → Prop} {w w' : World} {base : Nat} {u : Value} {xs : List Int} (h : Mine w base 3 .i64 u xs) (g : Fr S w w') (hs : ∀ b, u.ownBlock = some b → ¬ S b) : Mine w' base 3 .i64 u xs := by
  obtain ⟨hl, hr⟩ := h
  refine ⟨hl, hr.imp id ?_⟩
  rintro ⟨b, cap, cur, e, hb, hh, r⟩
  exact ⟨b, cap, cur, e, hb, (g.block b (Array.getElem?_eq_some_iff.1 hh).1 (hs b (by rw [e]; rfl))).trans hh, r⟩
theorem mine_base {w : World} {base lo : Nat} {u : Value} {xs : List Int} (h : Mine w base 3 .i64 u xs) (hl : lo ≤ base) : Mine w lo 3 .i64 u xs := by
  obtain ⟨h1, hr⟩ := h
  exact ⟨h1, hr.imp id fun ⟨b, cap, cur, e, hb, r⟩ => ⟨b, cap, cur, e, Nat.le_trans hl hb, r⟩⟩
theorem RQ.fr {S : Nat → Prop} (h : RQ w R v ls) (g : Fr S w w') (hs : ∀ k, OwnR R v k → ¬ S k) : RQ w' R v ls :=
  ⟨h.hdr.fr g (hs _ (.inl rfl)), fun r hr => mine_fr (h.rows r hr) g (fun b hb => hs b (.inr ⟨r, hr, hb⟩)), h.ne⟩
theorem RQ.keep (h : RQ w R v ls) (g : w.grownBy w' none) : RQ w' R v ls := h.fr (S := fun _ => False) (Fr.of_grown g (by simp)) (fun _ _ => id)
theorem RQ.lt (h : RQ w R v ls) : ∀ k, OwnR R v k → k < w.heap.size := by
  rintro k (rfl | ⟨r, hr, e⟩)
  · exact h.hdr.lt
  · exact (World.ownsRow.lt (h.rows r hr) k e).2
theorem RQ.at (h : RQ w R v ls) {r : Nat} (hr : r < 32) : w.cell? ⟨R, r, none⟩ = some (v r) := h.hdr.cell hr
def Post (w : World) (R : Nat) (v : Nat → Value) (ls' : Nat → List Int) (w' : World) : Prop := ∃ v', RQ w' R v' ls' ∧ Fr (OwnR R v) w w' ∧ ∀ r b, r < 32 → (v' r).ownBlock = some b → OwnR R v b ∨ w.heap.size ≤ b
theorem RQ.same (h : RQ w R v ls) (g : w.grownBy w' none) : Post w R v ls w' := ⟨v, h.keep g, Fr.of_grown g (by simp), fun r b hr hb => .inl (.inr ⟨r, hr, hb⟩)⟩
/-- A row of the call's own is put in a rank's place. -/
theorem fin {W w5 : World} {u : Value} {l' : List Int} {r : Nat} (hr : r < 32) (h : RQ W R v ls) (hs : Mine w5 W.heap.size 3 .i64 u l') (hg : W.grownBy w5 none) :
    w5.cell? ⟨R, r, none⟩ = some (v r) ∧ w5.frozen? ⟨R, r, none⟩ = false ∧ Post W R v (upd ls r l') (w5.setCell ⟨R, r, none⟩ u) := by
  have hRl := h.hdr.lt
  have h5 := h.keep hg
  have hlt : ∀ b, u.ownBlock = some b → W.heap.size ≤ b := fun b hb => (World.ownsRow.lt hs b hb).1
  have hatR : u.ownBlock ≠ some R := fun e => by have := hlt R e; omega
  have gS := grownBy_setCell w5 R r u
  have fS : Fr (fun b => b = R) w5 (w5.setCell ⟨R, r, none⟩ u) := Fr.of_grown gS (fun k e _ => by cases e; rfl)
  refine ⟨h5.at hr, h5.hdr.frozen r, upd v r u, ⟨?_, fun s hs2 => ?_, fun s hs2 => ?_⟩, ?_, fun s b hs2 hb => ?_⟩
  · exact (h5.hdr.set hr u).congr fun i hi => rfl
  · by_cases e : s = r
    · subst e; rw [upd_same, upd_same]
      exact mine_fr (mine_base hs (Nat.zero_le _)) fS (fun b hb e => hatR (by rw [hb, e]))
    · rw [upd_ne _ _ e, upd_ne _ _ e]
      exact mine_fr (h5.rows s hs2) fS (fun b hb e2 => h.ne s hs2 (by rw [hb, e2]))
  · by_cases e : s = r
    · subst e; rw [upd_same]; exact hatR
    · rw [upd_ne _ _ e]; exact h.ne s hs2
  · exact (Fr.of_grown hg (by simp)).trans (fS.mono fun k _ hk => .inl hk)
  · by_cases e : s = r
    · subst e; rw [upd_same] at hb; exact .inr (hlt b hb)
    · rw [upd_ne _ _ e] at hb; exact .inl (.inr ⟨s, hs2, hb⟩)
theorem meas (n k : Nat) (h : k < n) : n - (intOf (.int .i64 ((k : Int) + 1))).toNat < n - (intOf (.int .i64 (k : Int))).toNat := by simp [intOf]; omega
theorem zeroR (w : World) : (zeroValue 63).run Tryz.prog w = .ok (.agg (List.replicate 32 (.slice none 0 0)).toArray) w := by kernel_rfl
/-- A row as the walk meets it. -/
theorem RQ.row (h : RQ w R v ls) {r n : Nat} (hr : r < 32) (hn : (ls r).length = n) : ∃ A c, v r = .slice A n c ∧ n ≤ c ∧ c ≤ maxLen ∧ SlA w 0 w.heap.size .i64 A (ls r) ∧ w.cell? ⟨R, r, none⟩ = some (.slice A n c) := by
  subst hn
  obtain ⟨A, c, e, h1, h2, -⟩ := (h.rows r hr).form
  have hs := h.rows r hr
  rw [e] at hs
  exact ⟨A, c, e, h1, h2, hs.sl, by rw [← e]; exact h.at hr⟩
end RefD
end Go.Proofs.YtdbddfbdhgohbaaGreatDoor
