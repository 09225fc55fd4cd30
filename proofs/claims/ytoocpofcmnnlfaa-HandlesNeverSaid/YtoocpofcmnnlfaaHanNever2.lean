/- HandlesNever: the walk. -/
import Derived.Test.YtoocpofcmnnlfaaHanNever
namespace Go.Proofs.Ytoocpofcmnnlfaa
open Go.RowKit Go.Shelf Tk
set_option linter.unusedVariables false
set_option linter.unusedSimpArgs false

/-- What stands from round to round. -/
def NevRel (w wr : World) (B n k : Nat) (T : Tab) (v u : Value) (TH GN : List Int) : Prop :=
  Never T n k TH GN ∧ TH.length ≤ k ∧ GN.length ≤ k ∧ Arr wr B 513 T.v ∧ w.grownBy wr none ∧ Mine wr (B + 1) 22 .u32 v TH ∧ Mine wr (B + 1) 22 .u32 u GN ∧ Apart v u
set_option maxRecDepth 100000 in
set_option maxHeartbeats 8000000 in
theorem handlesNever_walk (a0 : Int) (w0 : (Lit.int .u8 a0).wf = true) (A1 : Option Addr) (c1 : Nat) (xs : List Int) (hl1 : xs.length ≤ c1) (w : World) (hs0 : SlA w 0 w.heap.size .u8 A1 xs) (hf : ∀ x ∈ xs, (Lit.int .u8 x).wf = true) (hb : xs.length * 1 ≤ 140737488351232) :
    Calls Try.prog 4 #[.int .u8 a0, .slice A1 xs.length c1] w fun e w' => e = .returned (.bool true) ∧ w.grownBy w' none := by
  have hfit : Hid (∀ k, k < xs.length → 0 ≤ gd xs k ∧ gd xs k < 256) := fun k hk => wf_u8 (hf _ (gd_mem hk))
  clear hf
  obtain ⟨h0, h1⟩ := wf_u8 w0
  obtain ⟨q, rfl⟩ := Int.eq_ofNat_of_zero_le h0
  clear w0 h0
  by_cases hlen : 150 < xs.length
  · go_enter Try.func4, Try.ntmps4
    go_wp2_with fail
    refine (alive_any _).mono ?_; rintro e wd ⟨rfl, hg⟩
    go_wp2_with fail
    refine (alive_any _).mono ?_; rintro e we ⟨rfl, hg2⟩
    go_wp2_with fail
    go_ret
    exact ⟨rfl, grown_trans hg hg2⟩
  · obtain ⟨i0, hi, hz0, hz1, hz2⟩ := info_parts infoWord
    obtain ⟨n, hn, hn1, hn2⟩ : ∃ n : Nat, (1 : Int) + (q : Int) = n ∧ 1 ≤ n ∧ n ≤ 256 := ⟨1 + q, by omega, by omega, by omega⟩
    go_enter Try.func4, Try.ntmps4
    go_wp2_with fail
    refine (alive_any _).mono ?_; rintro e wd ⟨rfl, hg⟩
    have hsz1 := hg.size
    go_wp2_with fail
    try rw [hn]
    refine (new_any n hn1 (by omega) _).mono ?_; rintro e wa ⟨rfl, hA, hga, hsz⟩
    have hgw := grown_trans hg hga
    have hs2 := Lib.hid (fun wr (h : w.grownBy wr none) => hs0.kept h (by simp))
    have hst : Never (tab0 n) n 0 [] [] := ⟨tab0_good hn1 (by omega), rfl, fun _ => Nat.zero_le _, List.nodup_nil, fun x => by
      have : (tab0 n).list = [] := by
        rw [Tab.list_eq]; unfold Tab.ps
        rw [List.filter_eq_nil_iff.2 (fun i hi => by simp [tab0])]; rfl
      rw [this], fun x hx => by simp at hx⟩
    clear hs0 hg hga
    go_wp2_with fail
    obtain ⟨B, hBB⟩ : ∃ B, wd.heap.size = B := ⟨_, rfl⟩
    have hBw : w.heap.size ≤ B := by omega
    rw [hBB] at hA ⊢
    have hrel0 : NevRel w wa B n 0 (tab0 n) (.slice none 0 0) (.slice none 0 0) [] [] := ⟨hst, Nat.le_refl _, Nat.le_refl _, hA, hgw, Mine.nil _ _ _ _, Mine.nil _ _ _ _, .inl rfl⟩
    clear hBB hsz hA hgw hst
    go_loopw [7, 8, 9] (fun v u i wr => ∃ (k : Nat) (T : Tab) (TH GN : List Int), k ≤ xs.length ∧ i = .int .i64 k ∧ NevRel w wr B n k T v u TH GN) (fun _ _ i _ => xs.length - (intOf i).toNat)
    case atStart => exact ⟨0, _, _, _, Nat.zero_le _, rfl, hrel0⟩
    case round =>
      obtain ⟨k, T, TH, GN, hk, rfl, hN, hTl, hGl, hA, hg, hO1, hO2, hap⟩ := hrel
      clear hrel0
      have hBs := hA.lt
      obtain ⟨A2, c2, rfl, hc2l, hc2m, hF2⟩ := hO1.form
      obtain ⟨A3, c3, rfl, hc3l, hc3m, hF3⟩ := hO2.form
      have hA2 := Lib.hid hF2
      have hA3 := Lib.hid hF3
      have hN' := Lib.hid hN
      clear hF2 hF3 hN
      have hN := hN'
      clear hN'
      by_cases hlt : k < xs.length
      · obtain ⟨b, o, rfl, hc⟩ := (hs2.out _ hg).at hlt
        obtain ⟨f1, f2⟩ := hfit.out k hlt
        obtain ⟨y, hy0⟩ := Int.eq_ofNat_of_zero_le f1
        rw [hy0] at hc f2
        have hy := Lib.hid hy0
        clear hy0 f1
        by_cases hgo : y % 2 = 0 ∨ TH.length = 0
        · -- a handle is made
          have hgo : ((y : Int) % 2 == 0) = true ∨ (((y : Int) % 2 == 0) = false ∧ ((TH.length : Int) == 0) = true) := by
            rw [beq_iff_eq, beq_eq_false_iff_ne, beq_iff_eq]; omega
          cases hl : T.least with
          | none =>
            obtain ⟨hm, hTn⟩ := hN.out.full (by omega) hl
            have hm' := Lib.hid hm
            have hTn' : ((TH.length : Int) != (n : Int)) = false := by rw [bne_eq_false_iff_eq]; omega
            clear hl hTn hm
            rcases hgo with hx | ⟨hx, hx2⟩
            all_goals
              go_wp2_with fail
              refine (make_is T T 0 3 hN.out.good.1 hm'.out _ _ hA).mono ?_; rintro e w3 ⟨rfl, hA3', hg3⟩
              go_wp2_with fail
              go_roundw
              case rel => exact ⟨k + 1, T, TH, GN, by omega, by go_num, hN.out.same, by omega, by omega, hA3', grown_step hg hg3 hBw, hO1.keepB hg3 (by omega), hO2.keepB hg3 (by omega), hap⟩
              case measure => simp [intOf]; omega
          | some p =>
            obtain ⟨hm, hN2, hn1', hn2', hhl⟩ := hN.out.made (by omega) hl
            have hm' := Lib.hid hm
            have hN2' := Lib.hid hN2
            have hn1'' := Lib.hid hn1'
            have hn2'' := Lib.hid hn2'
            generalize (T.take p).h p = h at *
            generalize T.take p = T' at *
            clear hl hm hN2 hn1' hn2'
            rcases hgo with hx | ⟨hx, hx2⟩
            all_goals
              go_wp2_with fail
              refine (make_is T T' h 0 hN.out.good.1 hm'.out _ _ hA).mono ?_; rintro e w3 ⟨rfl, hA', hg3⟩
              have hg' := grown_step hg hg3 hBw
              have hO1' := hO1.keepB hg3 (by omega)
              have hO2' := hO2.keepB hg3 (by omega)
              have hBs3 := hA'.lt
              clear hA hO1 hO2 hg hg3
              go_wp2_with fail
              go_loopw [12] (fun i wr2 => ∃ j : Nat, j ≤ TH.length ∧ i = .int .i64 j ∧ Drawn w3 wr2) (fun i _ => TH.length - (intOf i).toNat)
              case atStart => exact ⟨0, Nat.zero_le _, rfl, Drawn.refl _⟩
              case round =>
                obtain ⟨j, hj, rfl, hdr⟩ := hrel
                by_cases hjl : j < TH.length
                · have hne : (gd TH j == (h : Int)) = false := by
                    rw [beq_eq_false_iff_ne]; intro e; exact hn1''.out (e ▸ gd_mem hjl)
                  rcases hA2.out with ⟨-, e⟩ | ⟨g, rfl, -, -⟩
                  · rw [e] at hjl; simp at hjl
                  have hcl := (hO1'.drawn hdr).cell hjl
                  go_wp2_with fail
                  go_roundw
                  case rel => exact ⟨j + 1, by omega, by go_num, hdr⟩
                  case measure => simp [intOf]; omega
                · have hO1'' := hO1'.drawn hdr
                  have hO2'' := hO2'.drawn hdr
                  have hg'' := hdr.grown hg'
                  have hA'' := hdr.arr hA'
                  have hBs4 := hA''.lt
                  clear hO1' hO2' hg' hA' hBs3
                  generalize hWR : wr = w4 at *
                  clear hWR hdr
                  go_wp2_with fail
                  go_loopw [13] (fun i wr2 => ∃ j : Nat, j ≤ GN.length ∧ i = .int .i64 j ∧ Drawn w4 wr2) (fun i _ => GN.length - (intOf i).toNat)
                  case atStart => exact ⟨0, Nat.zero_le _, rfl, Drawn.refl _⟩
                  case round =>
                    obtain ⟨j, hj, rfl, hdr⟩ := hrel
                    by_cases hjl : j < GN.length
                    · have hne : (gd GN j == (h : Int)) = false := by
                        rw [beq_eq_false_iff_ne]; intro e; exact hn2''.out (e ▸ gd_mem hjl)
                      rcases hA3.out with ⟨-, e⟩ | ⟨g, rfl, -, -⟩
                      · rw [e] at hjl; simp at hjl
                      have hcl := (hO2''.drawn hdr).cell hjl
                      go_wp2_with fail
                      go_roundw
                      case rel => exact ⟨j + 1, by omega, by go_num, hdr⟩
                      case measure => simp [intOf]; omega
                    · have hO1' := hO1''.drawn hdr
                      have hO2' := hO2''.drawn hdr
                      have hg' := hdr.grown hg''
                      have hA' := hdr.arr hA''
                      clear hO1'' hO2'' hg'' hA'' hBs4 hA2 hA3 hdr hn1'' hn2''
                      go_wp2_with (at_builtin; refine wpList_append_own_at _ rfl _ _ 36 rfl (B + 1) 22 i0 (.int .u32 0) 1 4 Try.underlying36 hi hz0 hz1 hz2 rfl (by decide) (.slice A2 TH.length c2) TH.length (TH.map (Value.int .u32)) rfl (World.ownsRow.alloc hO1' _) ⟨wr.heap.size, 0, none⟩ 1 1 [.int .u32 h] rfl rfl (cell_one_new _ _ _) (by simp [Value.oneCell']) (by unfold maxLen; omega) (by omega) (by have := hA'.lt; simp; omega) ?_; intro v' w5 hown hgrow _ hat)
                      have hO3 := Mine.add hown
                      have hgA := World.grownBy_alloc wr (.cells #[.int .u32 h] 22) none
                      have hO1a := hO1'.keep hgA
                      have hO2a := hO2'.keep hgA
                      have hap2 := Apart.new hap hO2' (by simpa using hat)
                      go_roundw
                      case rel =>
                        exact ⟨k + 1, T', _, GN, by omega, by go_num, hN2'.out, by simp; omega, by omega, hO1a.arr (hA'.alloc _) (by omega) hgrow, hO1a.far (grown_alloc hg' _) (by omega) hgrow, hO3, hO2a.other hap hgrow, hap2⟩
                      case measure => simp [intOf]; omega
        · -- one is dropped
          have hx : ((y : Int) % 2 == 0) = false := by rw [beq_eq_false_iff_ne]; omega
          have hl0 : 0 < TH.length := by omega
          have hx2 : ((TH.length : Int) == 0) = false := by rw [beq_eq_false_iff_ne]; omega
          obtain ⟨i, hi1, hi2⟩ : ∃ i : Nat, ((y : Int) / 2 % (TH.length : Int)) = i ∧ i < TH.length := by
            have : ((y : Int) / 2 % (TH.length : Int)) = ((y / 2 % TH.length : Nat) : Int) := by simp
            exact ⟨_, this, Nat.mod_lt _ hl0⟩
          obtain ⟨h, hgh, hhl, hpl, hN2⟩ := hN.out.drop hi2
          have hpl' := Lib.hid hpl
          have hN2' := Lib.hid hN2
          rcases hA2.out with ⟨-, e⟩ | ⟨g, rfl, hgB, hgs⟩
          · rw [e] at hl0; simp at hl0
          obtain ⟨z, hz⟩ : ∃ z, TH.length - 1 = z := ⟨_, rfl⟩
          have hzl : ((TH.length : Int) - 1) = (z : Int) := by omega
          have hz2' : z < TH.length := by omega
          have hcell := hO1.cell hi2
          have hcellz := hO1.cell hz2'
          rw [hgh] at hcell
          rw [hz] at hN2'
          have hz' := Lib.hid hz
          have hgh' := Lib.hid hgh
          clear hgo hpl hN2 hz hgh hA2
          go_wp2_with fail
          refine (drop_is T _ h 0 hN.out.good.1 hpl'.out rfl _ _ rfl hhl _ hA).mono ?_; rintro e w3 ⟨rfl, hA', hg3⟩
          have hO1' := hO1.keepB hg3 (by omega)
          have hO2' := hO2.keepB hg3 (by omega)
          have hg' := grown_step hg hg3 hBw
          have hcell' := hO1'.cell hi2
          have hcellz' := hO1'.cell hz2'
          have hfz := hO1'.frozen i
          have hgs' := grownBy_setCell w3 g i (.int .u32 (gd TH z))
          have hO1s := (hO1'.set i (gd TH z)).cut (m := z) (by omega)
          have hO2s := hO2'.other hap hgs'
          have hAs := hA'.kept hgs' (by simp; omega)
          have hgS := grown_step hg' hgs' (by omega)
          have hap2 : Apart (.slice (some ⟨g, 0, none⟩) z c2) (.slice A3 GN.length c3) := hap
          have hgA := World.grownBy_alloc (w3.setCell ⟨g, i, none⟩ (.int .u32 (gd TH z))) (.cells #[.int .u32 h] 22) none
          have hbs : B + 1 ≤ ((w3.setCell ⟨g, i, none⟩ (.int .u32 (gd TH z))).alloc (.cells #[.int .u32 h] 22)).heap.size := by rw [World.size_alloc]; exact Nat.le_succ_of_le hAs.lt
          have hnews : Hid (∀ j u, [Value.int .u32 h][j]? = some u → ((w3.setCell ⟨g, i, none⟩ (.int .u32 (gd TH z))).alloc (.cells #[.int .u32 h] 22)).cell? ((⟨w3.heap.size, 0, none⟩ : Addr).add j) = some u) := by
            have h9 := cell_one_new (w3.setCell ⟨g, i, none⟩ (.int .u32 (gd TH z))) (.int .u32 h) 22
            rw [show (w3.setCell ⟨g, i, none⟩ (.int .u32 (gd TH z))).heap.size = w3.heap.size from by show (w3.heap.modify _ _).size = _; simp] at h9
            exact h9
          clear hA3 hO1 hO2 hap
          go_wp2_with (at_builtin; refine wpList_append_own_at _ rfl _ _ 36 rfl (B + 1) 22 i0 (.int .u32 0) 1 4 Try.underlying36 hi hz0 hz1 hz2 rfl (by decide) (.slice A3 GN.length c3) GN.length (GN.map (Value.int .u32)) rfl (World.ownsRow.alloc hO2s _) ⟨_, 0, none⟩ 1 1 [.int .u32 h] rfl rfl hnews.out (by simp [Value.oneCell']) (by unfold maxLen; omega) (by omega) hbs ?_; intro v' w5 hown hgrow _ hat)
          have hO3 := Mine.add hown
          have hO1a := hO1s.keep hgA
          have hO2a := hO2s.keep hgA
          have hap3 := Apart.new hap2.symm hO1s (by simpa using hat)
          go_roundw
          case rel =>
            exact ⟨k + 1, _, _, _, by omega, by go_num, hN2'.out, by simp; omega, by simp; omega, hO2a.arr (hAs.alloc _) (by omega) hgrow, hO2a.far (grown_alloc hgS _) (by omega) hgrow, by
              have := hO1a.other hap2.symm hgrow
              have e1 : (List.take z (TH.set i (gd TH z))).length = z := by simp; omega
              exact this, by rw [hgh'.out]; exact hO3, hap3.symm⟩
          case measure => simp [intOf]; omega
      · go_wp2_with fail
        go_loopw [16] (fun i wr2 => ∃ j : Nat, j ≤ GN.length ∧ i = .int .i64 j ∧ wr.grownBy wr2 (some B) ∧ Arr wr2 B 513 T.v) (fun i _ => GN.length - (intOf i).toNat)
        case atStart => exact ⟨0, Nat.zero_le _, rfl, grown_refl _ _, hA⟩
        case round =>
          obtain ⟨j, hj, rfl, hg2, hA'⟩ := hrel
          have hO2' := hO2.keepB hg2 (by omega)
          by_cases hjl : j < GN.length
          · rcases hA3.out with ⟨-, e⟩ | ⟨g, rfl, hgB, hgs⟩
            · rw [e] at hjl; simp at hjl
            obtain ⟨x, hxe, hxl, hx6⟩ := hN.out.gone _ (gd_mem hjl)
            have hx6' := Lib.hid hx6
            have hxe' := Lib.hid hxe
            have hdo := Lib.hid (Tab.drop_out (t := T) (x := x) (by rw [hx6]; decide))
            have hcl := hO2'.cell hjl
            rw [hxe] at hcl
            have hpl := place_any T hN.out.good.1 B x hxl _ hA'
            rw [hx6] at hpl
            have hpl' := Lib.hid hpl
            clear hpl hx6 hxe
            go_wp2_with fail
            refine hpl'.out.mono ?_; rintro e w3 ⟨rfl, hg3⟩
            have hA2' := hA'.kept hg3 (by simp)
            have hcl2 := (hO2'.keep hg3).cell hjl
            rw [hxe'.out] at hcl2
            go_wp2_with fail
            refine (drop_is T T x 6 hN.out.good.1 hx6'.out hdo.out _ _ rfl hxl _ hA2').mono ?_; rintro e w4 ⟨rfl, hA3', hg4⟩
            go_wp2_with fail
            go_roundw
            case rel => exact ⟨j + 1, by omega, by go_num, grown_trans (grown_trans hg2 (grown_weaken _ hg3)) hg4, hA3'⟩
            case measure => simp [intOf]; omega
          · have hO1' := hO1.keepB hg2 (by omega)
            have hg' := grown_step hg hg2 hBw
            clear hO2 hO2' hA3 hO1 hA hg hap hg2
            generalize hWR : wr = w4 at *
            clear hWR
            go_wp2_with fail
            go_loopw [19] (fun i wr2 => ∃ j : Nat, j ≤ TH.length ∧ i = .int .i64 j ∧ w4.grownBy wr2 none) (fun i _ => TH.length - (intOf i).toNat)
            case atStart => exact ⟨0, Nat.zero_le _, rfl, grown_refl _ _⟩
            case round =>
              obtain ⟨j, hj, rfl, hg2⟩ := hrel
              have hA2' := hA'.kept hg2 (by simp)
              by_cases hjl : j < TH.length
              · rcases hA2.out with ⟨-, e⟩ | ⟨g, rfl, hgB, hgs⟩
                · rw [e] at hjl; simp at hjl
                have hxm := (hN.out.mem _).1 (gd_mem hjl)
                obtain ⟨x, hxe⟩ := mem_list_nat hxm
                rw [hxe, Tab.mem_list hN.out.good] at hxm
                have hxl : x < 4294967296 := by
                  obtain ⟨a, b, c⟩ := Tab.there_iff.1 hxm
                  have := hN.out.good.1.1 (x % 256); omega
                have hcl := (hO1'.keep hg2).cell hjl
                rw [hxe] at hcl
                have hpl := place_any T hN.out.good.1 B x hxl _ hA2'
                rw [hxm] at hpl
                have hpl' := Lib.hid hpl
                clear hpl hxm hxe
                go_wp2_with fail
                refine hpl'.out.mono ?_; rintro e w3 ⟨rfl, hg3⟩
                go_wp2_with fail
                go_roundw
                case rel => exact ⟨j + 1, by omega, by go_num, grown_trans hg2 hg3⟩
                case measure => simp [intOf]; omega
              · have hlen : ((T.list.length : Int) == (TH.length : Int)) = true := by rw [beq_iff_eq, hN.out.len]
                have hg3 := grown_trans hg' hg2
                go_wp2_with fail
                refine (list_any T hN.out.good.1.1 hN.out.good.1.2.2 _ _ hA2').mono ?_; rintro e w5 ⟨A5, c5, rfl, hlc, -, hg4⟩
                go_wp2_with fail
                go_ret
                exact ⟨rfl, grown_trans hg3 hg4⟩
end Go.Proofs.Ytoocpofcmnnlfaa
