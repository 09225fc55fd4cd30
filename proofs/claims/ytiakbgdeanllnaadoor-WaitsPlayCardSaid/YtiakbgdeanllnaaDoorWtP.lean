/- WaitsPlay: the steps, both alike; a queue, the reference's, and the book beside each other, with a block X of the law's own. -/
import Derived.Test.YtiakbgdeanllnaaDoorWtRef4
import Derived.Test.YtiakbgdeanllnaaDoorWtOb
import Derived.Test.YtiakbgdeanllnaaDoorBkI8
import Derived.Test.YtiakbgdeanllnaaDoorSameI
namespace Go.Proofs.YtiakbgdeanllnaaDoor
open Go.RowKit Go.Shelf Tk
set_option linter.unusedVariables false
set_option linter.unusedSimpArgs false
theorem BkInt.BkL.fr {w w' : World} {base K q : Nat} {rv : Value} {V U : Nat → Value} {N : Nat → Nat} {S : Nat → Prop} (h : BkInt.BkL base w K rv q V U N) (g : Fr S w w') (hs : ∀ b, BkInt.OwnB K rv b ∨ BkInt.OwnV q V b → ¬ S b) : BkInt.BkL base w' K rv q V U N :=
  ⟨h.bk.fr g (hs _ (.inl (.inl rfl))) (fun b hb => hs b (.inl (.inr hb))), fun i hi => by
    obtain ⟨xs, hl, hL⟩ := h.ls i hi
    exact ⟨xs, hl, hL.fr g (fun b hb => hs b (.inr ⟨i, hi, hb⟩))⟩, h.us, h.ap, h.sep, h.lo, h.len⟩
theorem BkInt.BkL.lt {w : World} {base K q : Nat} {rv : Value} {V U : Nat → Value} {N : Nat → Nat} (h : BkInt.BkL base w K rv q V U N) : ∀ b, BkInt.OwnB K rv b ∨ BkInt.OwnV q V b → b < w.heap.size := by
  rintro b (hb | ⟨i, hi, hb⟩)
  · exact h.bk.lt b hb
  · obtain ⟨xs, -, hL⟩ := h.ls i hi; exact hL.lt b hb
def Nd.key (n : Nd) : Int × Int := (n.x, n.r)
/-- What a step of the queue leaves. -/
def PostA (w : World) (Q : Nat) (hd : Nd) (l : List Nd) (ns' : List (Int × Int)) (w' : World) : Prop := ∃ l', Wq w' Q hd l' ∧ l'.map Nd.key = ns' ∧ Fr (Own hd l) w w' ∧ ∀ b ∈ Blks (hd :: l'), b ∈ Blks (hd :: l) ∨ w.heap.size ≤ b
theorem Wq.sameA {w w' : World} {Q : Nat} {hd : Nd} {l : List Nd} {ns : List (Int × Int)} (h : Wq w Q hd l) (hk : l.map Nd.key = ns) (g : w.grownBy w' none) : PostA w Q hd l ns w' := ⟨l, h.keep g, hk, fr_grown g, fun b hb => .inl hb⟩
def StA (Q : Nat) (F : Nat) (args : Array Value) (E : Ending → Prop) (ns ns' : List (Int × Int)) : Prop := ∀ w hd l, Wq w Q hd l → l.map Nd.key = ns → Calls Tryd.prog F args w fun e w' => E e ∧ PostA w Q hd l ns' w'
def StB (R : Nat) (F : Nat) (args : Array Value) (E : Ending → Prop) (ns ns' : List (Int × Int)) : Prop := ∀ w v, RefT.RQ w R v ns → Calls Tryd.prog F args w fun e w' => E e ∧ RefT.Post w R v ns' w'
open RefT (gp rm ins)
theorem key_x {l : List Nd} {ns : List (Int × Int)} (hk : l.map Nd.key = ns) : l.map Nd.x = ns.map Prod.fst := by
  subst hk; rw [List.map_map]; rfl
theorem there_of {l : List Nd} {ns : List (Int × Int)} (hk : l.map Nd.key = ns) {x : Int} (h : ∃ i, i < ns.length ∧ (gp ns i).1 = x) : ∃ m ∈ l, m.x = x := by
  obtain ⟨i, hi, e⟩ := h
  have hm : x ∈ ns.map Prod.fst := by rw [← e]; exact List.mem_map_of_mem (RefT.gp_mem hi)
  rw [← key_x hk, List.mem_map] at hm
  exact hm
theorem not_there {l : List Nd} {ns : List (Int × Int)} (hk : l.map Nd.key = ns) {x : Int} (h : ∀ i, i < ns.length → (gp ns i).1 ≠ x) : ∀ m ∈ l, m.x ≠ x := by
  intro m hm e
  have hx : x ∈ ns.map Prod.fst := by rw [← key_x hk, ← e]; exact List.mem_map_of_mem hm
  obtain ⟨p, hp, rfl⟩ := List.mem_map.1 hx
  obtain ⟨i, hi, rfl⟩ := List.mem_iff_getElem.1 hp
  exact h i hi (by simp [gp, hi])
theorem gp_app {a b : List (Int × Int)} {p : Int × Int} : gp (a ++ p :: b) a.length = p := by simp [gp]
theorem idx_uniq {ns : List (Int × Int)} (hu : (ns.map Prod.fst).Nodup) {i j : Nat} (hi : i < ns.length) (hj : j < ns.length) (h : (gp ns i).1 = (gp ns j).1) : i = j := by
  have e : ∀ q (hq : q < ns.length), (ns.map Prod.fst)[q]'(by simpa using hq) = (gp ns q).1 := fun q hq => by simp [gp, hq]
  have hp : ∀ i j (hi : i < ns.length) (hj : j < ns.length), i < j → (gp ns i).1 ≠ (gp ns j).1 := fun i j hi hj hij => by
    have := List.pairwise_iff_getElem.1 hu i j (by simpa using hi) (by simpa using hj) hij
    rw [e i hi, e j hj] at this; exact this
  rcases Nat.lt_trichotomy i j with h1 | h1 | h1
  · exact absurd h (hp i j hi hj h1)
  · exact h1
  · exact absurd h.symm (hp j i hj hi h1)
theorem idx_split {ns A B : List (Int × Int)} {p : Int × Int} (hu : (ns.map Prod.fst).Nodup) (e1 : ns = A ++ p :: B) {j : Nat} (hj : j < ns.length) (hj1 : (gp ns j).1 = p.1) : A.length = j := by
  subst e1
  exact idx_uniq hu (by simp) hj (by rw [gp_app, hj1])
theorem rm_app {a b : List (Int × Int)} {p : Int × Int} : rm (a ++ p :: b) a.length = a ++ b := by
  unfold rm
  rw [List.take_left' rfl, ← List.drop_drop, List.drop_left' rfl]; rfl
theorem first_pair (ns : List (Int × Int)) (x : Int) (h : ∃ i, i < ns.length ∧ (gp ns i).1 = x) : ∃ j, j < ns.length ∧ (gp ns j).1 = x ∧ ∀ i, i < j → (gp ns i).1 ≠ x := by
  obtain ⟨i, hi, e⟩ := h
  have : ∀ n i, i < n → i < ns.length → (gp ns i).1 = x → ∃ j, j < ns.length ∧ (gp ns j).1 = x ∧ ∀ i, i < j → (gp ns i).1 ≠ x := by
    intro n
    induction n with
    | zero => intro i h; omega
    | succ n ih =>
      intro i h1 h2 h3
      by_cases hs : ∃ q, q < i ∧ (gp ns q).1 = x
      · obtain ⟨q, hq, e⟩ := hs
        exact ih q (by omega) (by omega) e
      · exact ⟨i, h2, h3, fun q hq e => hs ⟨q, hq, e⟩⟩
  exact this (i + 1) i (Nat.lt_succ_self _) hi e
theorem ins_perm (ns : List (Int × Int)) (x r : Int) : (ins ns x r).Perm ((x, r) :: ns) := by
  unfold ins
  have := @List.perm_middle _ (x, r) (ns.take (RefT.pos ns r)) (ns.drop (RefT.pos ns r))
  rwa [List.take_append_drop] at this
theorem ins_nodup {ns : List (Int × Int)} {x r : Int} (hu : (ns.map Prod.fst).Nodup) (hno : ∀ i, i < ns.length → (gp ns i).1 ≠ x) : ((ins ns x r).map Prod.fst).Nodup := by
  have hp := (ins_perm ns x r).map Prod.fst
  rw [hp.nodup_iff, List.map_cons, List.nodup_cons]
  refine ⟨fun hx => ?_, hu⟩
  obtain ⟨p, hp, e⟩ := List.mem_map.1 hx
  obtain ⟨i, hi, rfl⟩ := List.mem_iff_getElem.1 hp
  exact hno i hi (by simp [gp, hi]; exact e)
theorem rm_sub (ns : List (Int × Int)) (j : Nat) : (rm ns j).Sublist ns := by
  unfold rm
  rw [← List.eraseIdx_eq_take_drop_succ]; exact List.eraseIdx_sublist _ _
theorem rm_nodup {ns : List (Int × Int)} (hu : (ns.map Prod.fst).Nodup) (j : Nat) : ((rm ns j).map Prod.fst).Nodup := hu.sublist ((rm_sub ns j).map _)
theorem ins_len (ns : List (Int × Int)) (x r : Int) : (ins ns x r).length = ns.length + 1 := by rw [(ins_perm ns x r).length_eq]; rfl
theorem gp_lt_of {ns : List (Int × Int)} {x : Int} : (∃ i, i < ns.length ∧ (gp ns i).1 = x) ∨ ∀ i, i < ns.length → (gp ns i).1 ≠ x := by
  by_cases h : ∃ i, i < ns.length ∧ (gp ns i).1 = x
  · exact .inl h
  · exact .inr fun i hi e => h ⟨i, hi, e⟩
/-- Wherever a new link was put. -/
theorem put_post {w w' : World} {Q m : Nat} {hd : Nd} {l a b : List Nd} {ns : List (Int × Int)} {x r : Int} (hab : l.map Nd.key = ns) (hl : l = a ++ b) (hW : Wq w' Q hd (a ++ (⟨m, x, r⟩ : Nd) :: b)) (h1 : ∀ y ∈ a, r ≤ y.r) (h2 : ∀ y b', b = y :: b' → y.r < r) (hm : w.heap.size ≤ m) (hF : Fr (Own hd l) w w') : PostA w Q hd l (ins ns x r) w' := by
  subst hl
  refine ⟨_, hW, ?_, hF, fun q hq => ?_⟩
  · rw [← hab, List.map_append, List.map_cons, List.map_append, RefT.ins_app]
    · rfl
    · intro y hy
      obtain ⟨n, hn, rfl⟩ := List.mem_map.1 hy
      exact h1 n hn
    · intro y b' hb
      cases b with
      | nil => cases hb
      | cons n b'' => cases hb; exact h2 n b'' rfl
  · simp only [Blks, List.map_cons, List.map_append, List.mem_cons, List.mem_append] at hq ⊢
    rcases hq with h | h | h | h
    · exact .inl (.inl h)
    · exact .inl (.inr (.inl h))
    · exact .inr (by rw [h]; exact hm)
    · exact .inl (.inr (.inr h))
theorem pair_put (Q R : Nat) (x r : Int) (ns : List (Int × Int)) (hu : (ns.map Prod.fst).Nodup) (hp : ∀ p ∈ ns, 0 ≤ p.1) (hl : ns.length ≤ 1000) : ∃ (g : Int) (ns' : List (Int × Int)), (ns'.map Prod.fst).Nodup ∧ ns'.length ≤ ns.length + 1 ∧ (∀ p ∈ ns', 0 ≤ p.1) ∧
    StA Q 11 #[.pointer (some ⟨Q, 0, none⟩), .int .i64 x, .int .i64 r] (fun e => e = .returned (.int .i64 g)) ns ns' ∧
    StB R 12 #[.pointer (some ⟨R, 0, none⟩), .int .i64 x, .int .i64 r] (fun e => e = .returned (.int .i64 g)) ns ns' := by
  by_cases hb : x < 0 ∨ r < 0 ∨ 31 < r
  · exact ⟨1, ns, hu, by omega, hp, fun w hd l h hk => (put_bad x r hb h).mono fun e w' ⟨he, hg⟩ => ⟨he, h.sameA hk hg⟩, fun w v h => (RefT.put_arg x r hb h).mono fun e w' ⟨he, hg⟩ => ⟨he, hg ▸ h.same (grown_refl _ _)⟩⟩
  · have h0 : 0 ≤ x := by omega
    have h1 : 0 ≤ r := by omega
    have h2 : r ≤ 31 := by omega
    rcases gp_lt_of (ns := ns) (x := x) with hm | hno
    · exact ⟨7, ns, hu, by omega, hp, fun w hd l h hk => (put_there x r h0 ⟨h1, h2⟩ (there_of hk hm) h).mono fun e w' ⟨he, hg⟩ => ⟨he, h.sameA hk hg⟩, fun w v h => (RefT.put_there x r h0 h1 h2 h (by omega) hm).mono fun e w' ⟨he, hg⟩ => ⟨he, hg ▸ h.same (grown_refl _ _)⟩⟩
    · refine ⟨0, ins ns x r, ins_nodup hu hno, Nat.le_of_eq (ins_len _ _ _), fun p hpm => by
        rcases List.mem_cons.1 ((ins_perm _ _ _).mem_iff.1 hpm) with rfl | h
        · exact h0
        · exact hp p h, fun w hd l h hk => (put_ok x r h0 ⟨h1, h2⟩ (not_there hk hno) h).mono ?_, fun w v h => RefT.put_ok x r h0 h1 h2 h hl hno⟩
      rintro e w' ⟨he, a, b, m, hab, hW, p1, p2, p3, hF⟩
      exact ⟨he, put_post hk hab hW p1 p2 p3 hF⟩
theorem pair_remove (Q R : Nat) (x : Int) (ns : List (Int × Int)) (hu : (ns.map Prod.fst).Nodup) (hp : ∀ p ∈ ns, 0 ≤ p.1) (hl : ns.length ≤ 1000) : ∃ (g : Int) (ns' : List (Int × Int)), (ns'.map Prod.fst).Nodup ∧ ns'.length ≤ ns.length ∧ (∀ p ∈ ns', 0 ≤ p.1) ∧
    StA Q 7 #[.pointer (some ⟨Q, 0, none⟩), .int .i64 x] (fun e => e = .returned (.int .i64 g)) ns ns' ∧
    StB R 8 #[.pointer (some ⟨R, 0, none⟩), .int .i64 x] (fun e => e = .returned (.int .i64 g)) ns ns' := by
  rcases gp_lt_of (ns := ns) (x := x) with hm | hno
  · obtain ⟨j, hj, hj1, hj2⟩ := first_pair ns x hm
    refine ⟨0, rm ns j, rm_nodup hu j, by rw [RefT.rm_len hj]; omega, fun p hpm => hp p ((rm_sub ns j).mem hpm), fun w hd l h hk => (remove_ok x (there_of hk hm) (by rw [key_x hk]; exact hu) h).mono ?_, fun w v h => RefT.remove_ok x h hl j hj hj1 hj2⟩
    rintro e w' ⟨he, a, y, b, hab, hy, hW, -, hF⟩
    refine ⟨he, a ++ b, hW, ?_, hF, fun q hq => .inl ?_⟩
    · have e1 : ns = a.map Nd.key ++ y.key :: b.map Nd.key := by rw [← hk, hab]; simp
      have hj3 : (a.map Nd.key).length = j := idx_split hu e1 hj (by rw [hj1]; exact hy.symm)
      rw [← hj3, e1, rm_app, List.map_append]
    · rw [hab]
      simp only [Blks, List.map_cons, List.map_append, List.mem_cons, List.mem_append] at hq ⊢
      rcases hq with h | h | h
      · exact .inl h
      · exact .inr (.inl h)
      · exact .inr (.inr (.inr h))
  · exact ⟨1, ns, hu, Nat.le_refl _, hp, fun w hd l h hk => (remove_no x (not_there hk hno) h).mono fun e w' ⟨he, hg⟩ => ⟨he, h.sameA hk hg⟩, fun w v h => (RefT.remove_no x h (by omega) hno).mono fun e w' ⟨he, hg⟩ => ⟨he, hg ▸ h.same (grown_refl _ _)⟩⟩
theorem pair_change (Q R : Nat) (x r : Int) (ns : List (Int × Int)) (hu : (ns.map Prod.fst).Nodup) (hp : ∀ p ∈ ns, 0 ≤ p.1) (hl : ns.length ≤ 1000) : ∃ (g : Int) (ns' : List (Int × Int)), (ns'.map Prod.fst).Nodup ∧ ns'.length ≤ ns.length ∧ (∀ p ∈ ns', 0 ≤ p.1) ∧
    StA Q 9 #[.pointer (some ⟨Q, 0, none⟩), .int .i64 x, .int .i64 r] (fun e => e = .returned (.int .i64 g)) ns ns' ∧
    StB R 10 #[.pointer (some ⟨R, 0, none⟩), .int .i64 x, .int .i64 r] (fun e => e = .returned (.int .i64 g)) ns ns' := by
  rcases gp_lt_of (ns := ns) (x := x) with hm | hno
  · by_cases hb : r < 0 ∨ 31 < r
    · exact ⟨1, ns, hu, Nat.le_refl _, hp, fun w hd l h hk => (change_bad x r hb (there_of hk hm) h).mono fun e w' ⟨he, hg⟩ => ⟨he, h.sameA hk hg⟩, fun w v h => (RefT.change_arg x r h hl (.inr hb)).mono fun e w' ⟨he, hg⟩ => ⟨he, hg ▸ h.same (grown_refl _ _)⟩⟩
    · have h1 : 0 ≤ r := by omega
      have h2 : r ≤ 31 := by omega
      obtain ⟨j, hj, hj1, hj2⟩ := first_pair ns x hm
      have h0 : 0 ≤ x := by have := hp _ (RefT.gp_mem hj); rw [hj1] at this; exact this
      have hone : ∀ l : List Nd, l.map Nd.key = ns → ∀ y ∈ l, y.x = x → y.r = (gp ns j).2 := fun l hk y hy hyx => by
        obtain ⟨a, b, rfl⟩ := List.append_of_mem hy
        have e1 : ns = a.map Nd.key ++ y.key :: b.map Nd.key := by rw [← hk]; simp
        have hj3 : (a.map Nd.key).length = j := idx_split hu e1 hj (by rw [hj1]; exact hyx.symm)
        rw [← hj3, e1, gp_app]; rfl
      by_cases hs : (gp ns j).2 = r
      · exact ⟨0, ns, hu, Nat.le_refl _, hp, fun w hd l h hk => (change_same x r ⟨h1, h2⟩ (there_of hk hm) (fun y hy hyx => by rw [hone l hk y hy hyx, hs]) h).mono fun e w' ⟨he, hg⟩ => ⟨he, h.sameA hk hg⟩, fun w v h => (RefT.change_same x r h1 h2 h hl j hj hj1 hj2 hs).mono fun e w' ⟨he, hg⟩ => ⟨he, hg ▸ h.same (grown_refl _ _)⟩⟩
      · refine ⟨0, ins (rm ns j) x r, ins_nodup (rm_nodup hu j) (RefT.rm_no hu hj hj1), by rw [ins_len, RefT.rm_len hj]; omega, fun p hpm => ?_, fun w hd l h hk => (change_move x r h0 ⟨h1, h2⟩ (there_of hk hm) (by rw [key_x hk]; exact hu) (fun y hy hyx => by rw [hone l hk y hy hyx]; exact hs) h).mono ?_, fun w v h => RefT.change_move x r h0 h1 h2 h hl hu j hj hj1 hj2 hs⟩
        · rcases List.mem_cons.1 ((ins_perm _ _ _).mem_iff.1 hpm) with rfl | h
          · exact h0
          · exact hp p ((rm_sub ns j).mem h)
        · rintro e w' ⟨he, a0, y, b0, a, b, m, hab, hy, hab2, hW, p1, p2, p3, hF⟩
          have e1 : ns = a0.map Nd.key ++ y.key :: b0.map Nd.key := by rw [← hk, hab]; simp
          have hj3 : (a0.map Nd.key).length = j := idx_split hu e1 hj (by rw [hj1]; exact hy.symm)
          have e2 : rm ns j = (a ++ b).map Nd.key := by rw [← hj3, e1, rm_app, ← hab2, List.map_append]
          refine ⟨he, _, hW, ?_, hF, fun q hq => ?_⟩
          · rw [e2, List.map_append, List.map_cons, List.map_append, RefT.ins_app]
            · rfl
            · intro y hy
              obtain ⟨n, hn, rfl⟩ := List.mem_map.1 hy
              exact p1 n hn
            · intro y b' hb
              cases b with
              | nil => cases hb
              | cons n b'' => cases hb; exact p2 n b'' rfl
          · have hsub : ∀ n ∈ a ++ b, n ∈ l := fun n hn => by
              rw [← hab2] at hn; rw [hab]
              rcases List.mem_append.1 hn with h | h
              · exact List.mem_append_left _ h
              · exact List.mem_append_right _ (List.mem_cons_of_mem _ h)
            simp only [Blks, List.map_cons, List.map_append, List.mem_cons, List.mem_append] at hq ⊢
            rcases hq with h | h | h | h
            · exact .inl (.inl h)
            · obtain ⟨n, hn, rfl⟩ := List.mem_map.1 h
              exact .inl (.inr (List.mem_map_of_mem (hsub n (List.mem_append_left _ hn))))
            · exact .inr (by rw [h]; exact p3)
            · obtain ⟨n, hn, rfl⟩ := List.mem_map.1 h
              exact .inl (.inr (List.mem_map_of_mem (hsub n (List.mem_append_right _ hn))))
  · exact ⟨1, ns, hu, Nat.le_refl _, hp, fun w hd l h hk => (change_no x r (not_there hk hno) h).mono fun e w' ⟨he, hg⟩ => ⟨he, h.sameA hk hg⟩, fun w v h => (RefT.change_arg x r h hl (.inl hno)).mono fun e w' ⟨he, hg⟩ => ⟨he, hg ▸ h.same (grown_refl _ _)⟩⟩
end Go.Proofs.YtiakbgdeanllnaaDoor
