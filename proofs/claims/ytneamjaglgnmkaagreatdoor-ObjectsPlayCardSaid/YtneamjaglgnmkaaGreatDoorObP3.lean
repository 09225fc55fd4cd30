/- Package objects: a pool as it is seen. -/
import Derived.Test.YtneamjaglgnmkaaGreatDoorObP2
import Derived.Test.YtneamjaglgnmkaaGreatDoorObV
namespace Go.Proofs.YtneamjaglgnmkaaGreatDoor
open Go.RowKit Go.Shelf Tk
set_option linter.unusedVariables false
set_option linter.unusedSimpArgs false
theorem isPool (q : Nat) (w : World) : (Instr.typeAssert (.iface 84 (.pointer (some ⟨q, 0, none⟩))) 61 84 true).run Tryz.prog w = .ok (.tuple #[.pointer (some ⟨q, 0, none⟩), .bool true]) w := by kernel_rfl
theorem isPool1 (q : Nat) (w : World) : (Instr.typeAssert (.iface 84 (.pointer (some ⟨q, 0, none⟩))) 61 64 true).run Tryz.prog w = .ok (.tuple #[.pointer none, .bool false]) w := by kernel_rfl
theorem isPool2 (q : Nat) (w : World) : (Instr.typeAssert (.iface 84 (.pointer (some ⟨q, 0, none⟩))) 61 69 true).run Tryz.prog w = .ok (.tuple #[.pointer none, .bool false]) w := by kernel_rfl
theorem isPool3 (q : Nat) (w : World) : (Instr.typeAssert (.iface 84 (.pointer (some ⟨q, 0, none⟩))) 61 75 true).run Tryz.prog w = .ok (.tuple #[.pointer none, .bool false]) w := by kernel_rfl
theorem isPool4 (q : Nat) (w : World) : (Instr.typeAssert (.iface 84 (.pointer (some ⟨q, 0, none⟩))) 61 78 true).run Tryz.prog w = .ok (.tuple #[.pointer none, .bool false]) w := by kernel_rfl
theorem heap_set {w : World} {b : Nat} {cs : Array Value} {t : TypeId} {r : Nat × Nat} (i : Nat) (v : Value) (h : w.heap[b]? = some (.cells cs t r)) : (w.setCell ⟨b, i, none⟩ v).heap[b]? = some (.cells (cs.setIfInBounds i v) t r) := by
  obtain ⟨hlt, hk'⟩ := Array.getElem?_eq_some_iff.1 h
  show (w.heap.modify b _)[b]? = _
  rw [Array.getElem?_eq_getElem (by rw [Array.size_modify]; exact hlt), Array.getElem_modify_self, hk']
  rfl
set_option maxRecDepth 100000 in
set_option maxHeartbeats 8000000 in
theorem Plt.see {w : World} {p q B : Nat} {z : Int} {os : List Int} (h : Plt w p q B z os) :
    Calls Tryz.prog 11 #[.pointer (some ⟨p, 0, none⟩)] w fun e w' => ∃ A k, e = .returned (thV 5 os.length z (os.count 0) 0 (.slice none 0 0) (.slice A os.length k)) ∧ os.length ≤ k ∧ Mine w' (w.heap.size + 1 + 1) 23 .u32 (.slice A os.length k) os ∧ w.grownBy w' none := by
  have hi := h.hd.it
  have hk := h.hd.kind
  have ha := h.hd.ca
  have hb := h.hd.cb
  have hc := cell_of (i := 0) (v := .pointer (some ⟨B, 0, none⟩)) h.pb rfl
  have ht := isPool q
  have ht1 := isPool1 q
  have ht2 := isPool2 q
  have ht3 := isPool3 q
  have ht4 := isPool4 q
  have hp := h.hd.lt
  have hq := h.pb.lt
  have h64 := h.pl.n64
  have hcw : IntKind.u32.wrap (os.count 0 : Int) = (os.count 0 : Nat) := by have := List.count_le_length (a := (0 : Int)) (l := os); rw [IntKind.wrap_u32]; omega
  have hK := Lib.hid h
  have hown := Lib.hid (fun W (hg : w.grownBy W none) => PolN.owners_ok W (h.pl.keep hg))
  have hleft := Lib.hid (fun W (hg : w.grownBy W none) => PolN.left_ok W (h.pl.keep hg))
  clear h h64
  go_enter Tryz.func11, Tryz.ntmps11
  go_wp2_with (go_at_call 19; refine (Hd.there (hK.out.hd.keep (World.grownBy_alloc _ _ _))).mono ?_; rintro e wr ⟨rfl, rfl⟩)
  have hX := Lib.hid (heap2_1 w (.cells #[.int .u32 0, .int .u8 0, .int .u32 0, .int .u32 0, .int .u32 0, .int .u32 0, .slice none 0 0, .slice none 0 0, .int .i64 0, .slice none 0 0] 55) (.cells #[.int .u32 0, .int .u8 5, .int .u32 os.length, .int .u32 z, .int .u32 0, .int .u32 0, .slice none 0 0, .slice none 0 0, .int .i64 0, .slice none 0 0] 55))
  have hY := Lib.hid (heap2_0 w (.cells #[.int .u32 0, .int .u8 0, .int .u32 0, .int .u32 0, .int .u32 0, .int .u32 0, .slice none 0 0, .slice none 0 0, .int .i64 0, .slice none 0 0] 55) (.cells #[.int .u32 0, .int .u8 5, .int .u32 os.length, .int .u32 z, .int .u32 0, .int .u32 0, .slice none 0 0, .slice none 0 0, .int .i64 0, .slice none 0 0] 55))
  have hg0 := Lib.hid (grown_alloc (World.grownBy_alloc w (.cells #[.int .u32 0, .int .u8 0, .int .u32 0, .int .u32 0, .int .u32 0, .int .u32 0, .slice none 0 0, .slice none 0 0, .int .i64 0, .slice none 0 0] 55) none) (.cells #[.int .u32 0, .int .u8 5, .int .u32 os.length, .int .u32 z, .int .u32 0, .int .u32 0, .slice none 0 0, .slice none 0 0, .int .i64 0, .slice none 0 0] 55))
  have hbs : ((w.alloc (.cells #[.int .u32 0, .int .u8 0, .int .u32 0, .int .u32 0, .int .u32 0, .int .u32 0, .slice none 0 0, .slice none 0 0, .int .i64 0, .slice none 0 0] 55)).alloc (.cells #[.int .u32 0, .int .u8 5, .int .u32 os.length, .int .u32 z, .int .u32 0, .int .u32 0, .slice none 0 0, .slice none 0 0, .int .i64 0, .slice none 0 0] 55)).heap.size = w.heap.size + 1 + 1 := by simp
  obtain ⟨W2, hW2⟩ : ∃ W2, (w.alloc (.cells #[.int .u32 0, .int .u8 0, .int .u32 0, .int .u32 0, .int .u32 0, .int .u32 0, .slice none 0 0, .slice none 0 0, .int .i64 0, .slice none 0 0] 55)).alloc (.cells #[.int .u32 0, .int .u8 5, .int .u32 os.length, .int .u32 z, .int .u32 0, .int .u32 0, .slice none 0 0, .slice none 0 0, .int .i64 0, .slice none 0 0] 55) = W2 := ⟨_, rfl⟩
  rw [hW2] at hX hY hg0 hbs ⊢
  clear hW2
  have q0 := cell_of (i := 0) (v := .pointer (some ⟨B, 0, none⟩)) (hK.out.pb.kept hg0.out (by simp)) rfl
  obtain ⟨S, hS⟩ : ∃ S, w.heap.size = S := ⟨_, rfl⟩
  rw [hS] at hX hY hbs hp hq ⊢
  first | go_region_with (first
    | (go_at_call 24; (first | refine (hown.out _ (grown_drewN hg0.out 1)).mono ?_ | refine (hown.out _ (grown_drewN (grown_drewN hg0.out 1) nn)).mono ?_); rintro e wl ⟨A, kk, rfl, hkk, hM, hgo⟩; have hX' := (hgo.block _ (by show _ < W2.heap.size; rw [hbs]; omega) (by simp)).trans hX.out; have hY' := (hgo.block _ (by show _ < W2.heap.size; rw [hbs]; omega) (by simp)).trans hY.out; have q0' := cell_of (i := 0) (v := .pointer (some ⟨B, 0, none⟩)) ((hK.out.pb.kept hg0.out (by simp)).kept (grown_undrew hgo) (by simp)) rfl; have hgl := Lib.hid (grown_trans hg0.out (grown_undrew hgo)); replace hM := Lib.hid hM; replace hgo := Lib.hid hgo; have x0 := cell_of (i := 0) (v := .int .u32 0) hX' rfl; have xz0 := frozen_of (i := 0) hX'; have y0 := cell_of (i := 0) (v := .int .u32 0) hY' rfl; have yz0 := frozen_of (i := 0) hY'; have x1 := cell_of (i := 1) (v := .int .u8 5) hX' rfl; have xz1 := frozen_of (i := 1) hX'; have y1 := cell_of (i := 1) (v := .int .u8 0) hY' rfl; have yz1 := frozen_of (i := 1) hY'; have x2 := cell_of (i := 2) (v := .int .u32 os.length) hX' rfl; have xz2 := frozen_of (i := 2) hX'; have y2 := cell_of (i := 2) (v := .int .u32 0) hY' rfl; have yz2 := frozen_of (i := 2) hY'; have x3 := cell_of (i := 3) (v := .int .u32 z) hX' rfl; have xz3 := frozen_of (i := 3) hX'; have y3 := cell_of (i := 3) (v := .int .u32 0) hY' rfl; have yz3 := frozen_of (i := 3) hY'; have x4 := cell_of (i := 4) (v := .int .u32 0) hX' rfl; have xz4 := frozen_of (i := 4) hX'; have y4 := cell_of (i := 4) (v := .int .u32 0) hY' rfl; have yz4 := frozen_of (i := 4) hY'; have x5 := cell_of (i := 5) (v := .int .u32 0) hX' rfl; have xz5 := frozen_of (i := 5) hX'; have y5 := cell_of (i := 5) (v := .int .u32 0) hY' rfl; have yz5 := frozen_of (i := 5) hY'; have x6 := cell_of (i := 6) (v := .slice none 0 0) hX' rfl; have xz6 := frozen_of (i := 6) hX'; have y6 := cell_of (i := 6) (v := .slice none 0 0) hY' rfl; have yz6 := frozen_of (i := 6) hY'; have x7 := cell_of (i := 7) (v := .slice none 0 0) hX' rfl; have xz7 := frozen_of (i := 7) hX'; have y7 := cell_of (i := 7) (v := .slice none 0 0) hY' rfl; have yz7 := frozen_of (i := 7) hY'; have x8 := cell_of (i := 8) (v := .int .i64 0) hX' rfl; have xz8 := frozen_of (i := 8) hX'; have y8 := cell_of (i := 8) (v := .int .i64 0) hY' rfl; have yz8 := frozen_of (i := 8) hY'; have x9 := cell_of (i := 9) (v := .slice none 0 0) hX' rfl; have xz9 := frozen_of (i := 9) hX'; have y9 := cell_of (i := 9) (v := .slice none 0 0) hY' rfl; have yz9 := frozen_of (i := 9) hY'; replace hX' := Lib.hid hX'; replace hY' := Lib.hid hY')
    | (go_at_call 25; (first | refine (hleft.out _ hgl.out).mono ?_ | refine (hleft.out _ (grown_drewN hg0.out 1)).mono ?_); rintro e wq ⟨rfl, nn, rfl⟩)) | fail
  all_goals
    have hXg : (((wl.drewN nn).setCell ⟨S + 1, 7, none⟩ (.slice A os.length kk)).setCell ⟨S + 1, 4, none⟩ (.int .u32 (os.count 0 : Nat))).heap[S + 1]? = some (.cells #[.int .u32 0, .int .u8 5, .int .u32 os.length, .int .u32 z, .int .u32 (os.count 0 : Nat), .int .u32 0, .slice none 0 0, .slice A os.length kk, .int .i64 0, .slice none 0 0] 55 (0, 0)) :=
      heap_set 4 _ (heap_set 7 _ (w := wl.drewN nn) hX'.out)
    have hYg : (((wl.drewN nn).setCell ⟨S + 1, 7, none⟩ (.slice A os.length kk)).setCell ⟨S + 1, 4, none⟩ (.int .u32 (os.count 0 : Nat))).heap[S]? = some (.cells #[.int .u32 0, .int .u8 0, .int .u32 0, .int .u32 0, .int .u32 0, .int .u32 0, .slice none 0 0, .slice none 0 0, .int .i64 0, .slice none 0 0] 55 (0, 0)) :=
      ((grownBy_setCell _ _ _ _).block S (by simp [World.setCell]; exact (Array.getElem?_eq_some_iff.1 hY'.out).1) (by simp)).trans (((grownBy_setCell _ _ _ _).block S (by exact (Array.getElem?_eq_some_iff.1 hY'.out).1) (by simp)).trans hY'.out)
    have hMg : Mine (((wl.drewN nn).setCell ⟨S + 1, 7, none⟩ (.slice A os.length kk)).setCell ⟨S + 1, 4, none⟩ (.int .u32 (os.count 0 : Nat))) (S + 1 + 1) 23 .u32 (.slice A os.length kk) os :=
      ((((hbs ▸ hM.out : Mine wl (S + 1 + 1) 23 .u32 (.slice A os.length kk) os)).drewN nn).keepB (grownBy_setCell _ _ _ _) (by omega)).keepB (grownBy_setCell _ _ _ _) (by omega)
    have hgg : w.grownBy (((wl.drewN nn).setCell ⟨S + 1, 7, none⟩ (.slice A os.length kk)).setCell ⟨S + 1, 4, none⟩ (.int .u32 (os.count 0 : Nat))) none :=
      grown_step (grown_step (grown_drewN hgl.out nn) (grownBy_setCell _ _ _ _) (by omega)) (grownBy_setCell _ _ _ _) (by omega)
    generalize (((wl.drewN nn).setCell ⟨S + 1, 7, none⟩ (.slice A os.length kk)).setCell ⟨S + 1, 4, none⟩ (.int .u32 (os.count 0 : Nat))) = W at hXg hYg hMg hgg ⊢
    replace hMg := Lib.hid hMg
    replace hgg := Lib.hid hgg
    clear hX hY hX' hY' hown hleft hM hgo hgl hK
    clear x0 xz0 y0 yz0 x1 xz1 y1 yz1 x2 xz2 y2 yz2 x3 xz3 y3 yz3 x4 xz4 y4 yz4 x5 xz5 y5 yz5 x6 xz6 y6 yz6 x7 xz7 y7 yz7 x8 xz8 y8 yz8 x9 xz9 y9 yz9
    have x0 := cell_of (i := 0) (v := .int .u32 0) hXg rfl
    have xz0 := frozen_of (i := 0) hXg
    have y0 := cell_of (i := 0) (v := .int .u32 0) hYg rfl
    have yz0 := frozen_of (i := 0) hYg
    have x1 := cell_of (i := 1) (v := .int .u8 5) hXg rfl
    have xz1 := frozen_of (i := 1) hXg
    have y1 := cell_of (i := 1) (v := .int .u8 0) hYg rfl
    have yz1 := frozen_of (i := 1) hYg
    have x2 := cell_of (i := 2) (v := .int .u32 os.length) hXg rfl
    have xz2 := frozen_of (i := 2) hXg
    have y2 := cell_of (i := 2) (v := .int .u32 0) hYg rfl
    have yz2 := frozen_of (i := 2) hYg
    have x3 := cell_of (i := 3) (v := .int .u32 z) hXg rfl
    have xz3 := frozen_of (i := 3) hXg
    have y3 := cell_of (i := 3) (v := .int .u32 0) hYg rfl
    have yz3 := frozen_of (i := 3) hYg
    have x4 := cell_of (i := 4) (v := .int .u32 (os.count 0 : Nat)) hXg rfl
    have xz4 := frozen_of (i := 4) hXg
    have y4 := cell_of (i := 4) (v := .int .u32 0) hYg rfl
    have yz4 := frozen_of (i := 4) hYg
    have x5 := cell_of (i := 5) (v := .int .u32 0) hXg rfl
    have xz5 := frozen_of (i := 5) hXg
    have y5 := cell_of (i := 5) (v := .int .u32 0) hYg rfl
    have yz5 := frozen_of (i := 5) hYg
    have x6 := cell_of (i := 6) (v := .slice none 0 0) hXg rfl
    have xz6 := frozen_of (i := 6) hXg
    have y6 := cell_of (i := 6) (v := .slice none 0 0) hYg rfl
    have yz6 := frozen_of (i := 6) hYg
    have x7 := cell_of (i := 7) (v := .slice A os.length kk) hXg rfl
    have xz7 := frozen_of (i := 7) hXg
    have y7 := cell_of (i := 7) (v := .slice none 0 0) hYg rfl
    have yz7 := frozen_of (i := 7) hYg
    have x8 := cell_of (i := 8) (v := .int .i64 0) hXg rfl
    have xz8 := frozen_of (i := 8) hXg
    have y8 := cell_of (i := 8) (v := .int .i64 0) hYg rfl
    have yz8 := frozen_of (i := 8) hYg
    have x9 := cell_of (i := 9) (v := .slice none 0 0) hXg rfl
    have xz9 := frozen_of (i := 9) hXg
    have y9 := cell_of (i := 9) (v := .slice none 0 0) hYg rfl
    have yz9 := frozen_of (i := 9) hYg
    replace hXg := Lib.hid hXg
    replace hYg := Lib.hid hYg
    clear q0 q0' ht ht1 ht2 ht3 ht4 hi hk ha hb hc hcw hg0
    have hSW : S + 1 < W.heap.size := (Array.getElem?_eq_some_iff.1 hXg.out).1
    go_wp2_with fail
  all_goals (try simp only [Exit.inBlock, Exit.then])
  all_goals
    have st : ∀ (W : World) (b i : Nat) (v : Value), (b = S ∨ b = S + 1) → (Mine W (S + 1 + 1) 23 .u32 (.slice A os.length kk) os ∧ w.grownBy W none) →
        (Mine (W.setCell ⟨b, i, none⟩ v) (S + 1 + 1) 23 .u32 (.slice A os.length kk) os ∧ w.grownBy (W.setCell ⟨b, i, none⟩ v) none) :=
      fun W b i v hb ⟨h1, h2⟩ => ⟨h1.keepB (grownBy_setCell W b i v) (by omega), grown_step h2 (grownBy_setCell W b i v) (by omega)⟩
    refine bodyPost_ret (v := thV 5 os.length z (os.count 0) 0 (.slice none 0 0) (.slice A os.length kk)) (by simp [results, Tryz.results11, go_sem, thV, World.cell?_setCell_other, y0, y1, y2, y3, y4, y5, y6, y7, y8, y9]) rfl ⟨A, kk, rfl, hkk, ?_⟩
    rw [hS]
    repeat (refine st _ _ _ _ (by omega) ?_)
    exact ⟨hMg.out, hgg.out⟩
end Go.Proofs.YtneamjaglgnmkaaGreatDoor
