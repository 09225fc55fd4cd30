/- LaddersBoth: two ladders together. -/
import Derived.Test.YtpklpfpngjlokaaLadO
import Derived.Test.YtpklpfpngjlokaaLadM2
namespace Go.Proofs.Ytpklpfpngjlokaa
open Go.RowKit Go.Shelf Tk Tk.Lad
set_option linter.unusedVariables false
set_option linter.unusedSimpArgs false

/-- First, of any ladder. -/
theorem first_any (l : Nat) (hl : l < 4294967296) (b : Bool) (hb : (l != 0) = b) (w : World) :
    Calls Try.prog 17 #[.int .u32 l] w fun e w' => e = .returned (.tuple #[.int .i64 l.log2, .bool b]) ∧ w = w' := by
  by_cases h : l = 0
  · subst h; subst hb; exact first_zero w
  · have : b = true := by rw [← hb]; simp [h]
    subst this; exact first_pos l h hl w
theorem and_u32 {a b : Nat} (ha : a < 4294967296) (hb : b < 4294967296) : bits .and .u32 (a : Int) (b : Int) = ((a &&& b : Nat) : Int) :=
  (bits_nat .u32 32 (by decide) (fun n h0 h1 => by rw [IntKind.wrap_u32]; omega) a b ha hb).1
theorem log2_zero' : (0 : Nat).log2 = 0 := by decide
theorem or_zero_iff (a b : Nat) : a ||| b = 0 ↔ a = 0 ∧ b = 0 := by
  constructor
  · intro h
    have hz : ∀ i, a.testBit i = false ∧ b.testBit i = false := fun i => by
      have := congrArg (fun x => x.testBit i) h
      simpa [Nat.testBit_or] using this
    exact ⟨Nat.eq_of_testBit_eq fun i => by simp [(hz i).1], Nat.eq_of_testBit_eq fun i => by simp [(hz i).2]⟩
  · rintro ⟨rfl, rfl⟩; rfl
set_option maxRecDepth 100000 in
set_option maxHeartbeats 4000000 in
theorem laddersBoth_walk (a0 : Int) (w0 : (Lit.int .u32 a0).wf = true) (a1 : Int) (w1 : (Lit.int .u32 a1).wf = true) (w : World) :
    Calls Try.prog 8 #[.int .u32 a0, .int .u32 a1] w fun e w' => e = .returned (.bool true) ∧ w.grownBy w' none := by
  obtain ⟨h0, h1⟩ := wf_u32 w0
  obtain ⟨a, rfl⟩ := Int.eq_ofNat_of_zero_le h0
  obtain ⟨h2, h3⟩ := wf_u32 w1
  obtain ⟨b, rfl⟩ := Int.eq_ofNat_of_zero_le h2
  have ha : a < 4294967296 := by omega
  have hb : b < 4294967296 := by omega
  clear w0 w1 h0 h1 h2 h3
  have hor := or_u32 ha hb
  have hand := and_u32 ha hb
  have ho : a ||| b < 4294967296 := Nat.or_lt_two_pow (n := 32) ha hb
  have hn : a &&& b < 4294967296 := Nat.lt_of_le_of_lt Nat.and_le_left ha
  have hlen : Hid ((ranksI (a ||| b)).length + (ranksI (a &&& b)).length = (ranksI a).length + (ranksI b).length) := by
    have := ranks_or_and a b
    simpa [ranksI, Hid] using this
  have hmem : Hid (∀ k, k < (ranksI (a ||| b)).length → gd (ranksI (a ||| b)) k ∈ ranksI a ∨ gd (ranksI (a ||| b)) k ∈ ranksI b) := fun k hk => by
    have := (mem_ranksI ho _).1 (gd_mem hk)
    rw [Nat.testBit_or, Bool.or_eq_true] at this
    exact this.2.imp (fun h => (mem_ranksI ha _).2 ⟨this.1, h⟩) (fun h => (mem_ranksI hb _).2 ⟨this.1, h⟩)
  have hlenO := ranksI_len (a ||| b)
  obtain ⟨x, hx⟩ : ∃ x, (a != 0) = x := ⟨_, rfl⟩
  obtain ⟨y, hy⟩ : ∃ y, (b != 0) = y := ⟨_, rfl⟩
  have hz : ((a ||| b) != 0) = (x || y) := by
    rw [← hx, ← hy, Bool.eq_iff_iff]
    simp only [bne_iff_ne, Bool.or_eq_true, ne_eq, or_zero_iff]
    omega
  have hmax : (x || y) = true → ((a ||| b).log2 : Int) = max (a.log2 : Int) (b.log2 : Int) := by
    intro h
    by_cases h1 : a = 0
    · subst h1; simp [log2_zero']
    · by_cases h2 : b = 0
      · subst h2; simp [log2_zero']
      · rw [log2_or h1 h2]; omega
  generalize hO : a ||| b = O at *
  generalize hN : a &&& b = N at *
  clear hO hN
  have hx' := Lib.hid hx
  have hy' := Lib.hid hy
  have hz' := Lib.hid hz
  have hmax' := Lib.hid hmax
  clear hx hy hz hmax
  have hlenA := ranksI_len a
  have hlenB := ranksI_len b
  have hlenN := ranksI_len N
  have hsum : (((ranksI O).length : Int) + ((ranksI N).length : Int) == ((ranksI a).length : Int) + ((ranksI b).length : Int)) = true := by
    have := hlen.out; simp; omega
  have hq : ((x || y) && ((O.log2 : Int) != max (a.log2 : Int) (b.log2 : Int))) = false := by
    cases h : (x || y) with
    | false => rfl
    | true => rw [hmax'.out h]; simp
  cases x <;> cases y
  all_goals
    simp only [Bool.or_false, Bool.or_true, Bool.true_and, Bool.false_and] at hz' hq
    go_enter Try.func8, Try.ntmps8
    go_wp2_with fail
    refine (first_any a ha _ hx'.out _).mono ?_; rintro e w' ⟨rfl, rfl⟩
    go_wp2_with fail
    refine (first_any b hb _ hy'.out _).mono ?_; rintro e w' ⟨rfl, rfl⟩
    go_wp2_with fail
    refine (first_any O ho _ hz'.out _).mono ?_; rintro e w' ⟨rfl, rfl⟩
    go_wp2_with fail
    refine (list_any O ho _).mono ?_; rintro e wo ⟨Ao, co, rfl, hco, hso, hgo⟩
    go_wp2_with fail
    refine (list_any a ha _).mono ?_; rintro e wa ⟨Aa, ca, rfl, hca, hsa, hga⟩
    go_wp2_with fail
    refine (list_any b hb _).mono ?_; rintro e wb ⟨Ab, cb, rfl, hcb, hsb, hgb⟩
    go_wp2_with fail
    refine (list_any N hn _).mono ?_; rintro e wn ⟨An, cn, rfl, hcn, hsn, hgn⟩
    have hso' := ((hso.kept hga (by simp)).kept hgb (by simp)).kept hgn (by simp)
    have hsa' := (hsa.kept hgb (by simp)).kept hgn (by simp)
    have hsb' := hsb.kept hgn (by simp)
    have hg := grown_trans (grown_trans (grown_trans hgo hga) hgb) hgn
    clear hso hsa hsb hgo hga hgb hgn hsn
    go_wp2_with fail
    go_loop [15] (fun i => ∃ k : Nat, k ≤ (ranksI O).length ∧ i = .int .i64 k) (fun i => (ranksI O).length - (intOf i).toNat)
    case atStart => exact ⟨0, Nat.zero_le _, rfl⟩
    case round =>
      obtain ⟨k, hk, rfl⟩ := hrel
      by_cases hlt : k < (ranksI O).length
      · obtain ⟨bb, oo, rfl, hcell⟩ := hso'.at hlt
        have hm := hmem.out k hlt
        clear hso'
        generalize gd (ranksI O) k = v at *
        obtain ⟨p, hp⟩ : ∃ p, decide (v ∈ ranksI a) = p := ⟨_, rfl⟩
        obtain ⟨q, hq2⟩ : ∃ q, decide (v ∈ ranksI b) = q := ⟨_, rfl⟩
        have hpq : p = true ∨ q = true := hm.imp (fun h => by rw [← hp]; simpa using h) (fun h => by rw [← hq2]; simpa using h)
        have hp' := Lib.hid hp
        have hq' := Lib.hid hq2
        clear hp hq2 hm
        cases p with
        | true =>
          go_wp2_with fail
          refine (has_is _ _ _ _ _ v _ _ hca (ranksI_len _) hsa' hp'.out).mono ?_; rintro e w' ⟨rfl, rfl⟩
          go_wp2_with fail
          go_round
          case rel => exact ⟨k + 1, by omega, by go_num⟩
          case measure => simp [intOf]; omega
        | false =>
          obtain rfl : q = true := by simpa using hpq
          go_wp2_with fail
          refine (has_is _ _ _ _ _ v _ _ hca (ranksI_len _) hsa' hp'.out).mono ?_; rintro e w' ⟨rfl, rfl⟩
          go_wp2_with fail
          refine (has_is _ _ _ _ _ v _ _ hcb (ranksI_len _) hsb' hq'.out).mono ?_; rintro e w' ⟨rfl, rfl⟩
          go_wp2_with fail
          go_round
          case rel => exact ⟨k + 1, by omega, by go_num⟩
          case measure => simp [intOf]; omega
      · go_wp2_with fail
        refine (alive_any _).mono ?_; rintro e wd ⟨rfl, hgd⟩
        have hg' := grown_trans hg hgd
        go_wp2_with fail
        go_ret
        exact ⟨rfl, hg'⟩
end Go.Proofs.Ytpklpfpngjlokaa
