/-
  What is written, in plain Lean, for every image whose values are bytes; no statement of the seat is proved in this file.
-/
import Derived.Test.YtgpnjdldpehidaaDoorJoiTextJ
import Derived.Test.YtgpnjdldpehidaaDoorAbsG
open Go Go.Abs Go.Proofs
set_option maxRecDepth 100000
set_option linter.unusedVariables false
set_option linter.unusedSimpArgs false
namespace Go.Proofs.YtgpnjdldpehidaaDoor
/-! ### Decimal digits -/
def decD (n : Nat) : List Int :=
  if n < 10 then [48 + n] else if n < 100 then [48 + n / 10, 48 + n % 10] else if n < 1000 then [48 + n / 100, 48 + n / 10 % 10, 48 + n % 10] else [48 + n / 1000, 48 + n / 100 % 10, 48 + n / 10 % 10, 48 + n % 10]
theorem decD_len (n : Nat) : (decD n).length ≤ 4 := by
  unfold decD
  split
  · simp
  split
  · simp
  split
  · simp
  · simp
theorem decD_range {n : Nat} (h : n < 10000) : ∀ v ∈ decD n, 0 ≤ v ∧ v < 256 := by
  unfold decD
  intro v hv
  split at hv
  · simp only [List.mem_cons, List.not_mem_nil, or_false] at hv; omega
  split at hv
  · simp only [List.mem_cons, List.not_mem_nil, or_false] at hv; omega
  split at hv
  · simp only [List.mem_cons, List.not_mem_nil, or_false] at hv; omega
  · simp only [List.mem_cons, List.not_mem_nil, or_false] at hv; omega
/-! 'small': the numbers below 100 -/
theorem F61_ok : ∀ n, n < 100 → ∀ lf, (F61.p lf (n : Nat)).map bytp = some (decD n) := by
  intro n hn lf
  show (F61.p 0 (n : Nat)).map bytp = some (decD n)
  revert n
  decide
theorem tab1 : ∀ d, d < 100 → sidxp wlit2 ((2 * d + 1 : Nat) : Int) = some (48 + (d % 10 : Nat)) := by decide
theorem tab0 : ∀ d, d < 100 → sidxp wlit2 ((2 * d : Nat) : Int) = some (48 + (d / 10 : Nat)) := by decide
theorem len8 : ∀ d : Nat, d < 256 → sidxp wlit3 (d : Int) = some ((if d = 0 then 0 else Nat.log2 d + 1 : Nat) : Int) := by decide
def zeros24 : List Int := [0, 0, 0, 0, 0, 0, 0, 0, 0, 0, 0, 0, 0, 0, 0, 0, 0, 0, 0, 0, 0, 0, 0, 0]
theorem F70_ok : ∀ l, l < 15 → ∀ lf, F70.p lf (l : Nat) = some (l * 78913 / 262144 : Nat) := by
  intro l hl lf
  show F70.p 0 (l : Nat) = _
  revert l
  decide
theorem F71_ok {n : Nat} (h0 : n ≠ 0) (h : n < 65536) (lf : Nat) : F71.p lf n = some (Nat.log2 n + 1 : Nat) := by
  have c1 : decide ((n : Int) ≥ 4294967296) = false := by simp; omega
  have c2 : decide ((n : Int) ≥ 65536) = false := by simp; omega
  unfold F71.p
  rw [c1, ifp_ff]
  unfold F71.J4p
  rw [c2, ifp_ff]
  unfold F71.J7p
  by_cases h2 : n < 256
  · have c3 : decide ((n : Int) ≥ 256) = false := by simp; omega
    simp only [letJ_eq, c3, ifp_ff]
    rw [wru8 (by omega) (by omega), bindp_of (len8 n h2), if_neg h0]
    have : Nat.log2 n < 16 := (Nat.log2_lt h0).2 (by omega)
    have w : IntKind.i64.wrap ((Nat.log2 n + 1 : Nat) : Int) = _ := wr64 (by omega) (by omega)
    rw [w, wr64 (by omega) (by omega)]
    simp
  · have c3 : decide ((n : Int) ≥ 256) = true := by simp; omega
    have hd : Int.fdiv (n : Int) 256 = ((n / 256 : Nat) : Int) := by rw [Int.fdiv_eq_ediv_of_nonneg _ (by omega)]; omega
    simp only [letJ_eq, c3, ifp_tt, hd]
    rw [wru8 (by omega) (by omega), bindp_of (len8 (n / 256) (by omega)), if_neg (by omega)]
    have e1 : Nat.log2 n = Nat.log2 (n / 256) + 8 := by
      have h3 : n / 256 ≠ 0 := by omega
      have a1 := Nat.log2_self_le h3
      have a2 := (Nat.log2_lt h3 (k := Nat.log2 (n / 256) + 1)).1 (by omega)
      have b1 : Nat.log2 n < Nat.log2 (n / 256) + 9 := by
        refine (Nat.log2_lt h0).2 ?_
        rw [show Nat.log2 (n / 256) + 9 = Nat.log2 (n / 256) + 1 + 8 by omega, Nat.pow_add]
        omega
      have b2 : Nat.log2 (n / 256) + 8 ≤ Nat.log2 n := by
        refine (Nat.le_log2 h0).2 ?_
        rw [Nat.pow_add]
        omega
      omega
    have : Nat.log2 (n / 256) < 16 := (Nat.log2_lt (by omega)).2 (by omega)
    have w : IntKind.i64.wrap ((Nat.log2 (n / 256) + 1 : Nat) : Int) = _ := wr64 (by omega) (by omega)
    have w2 : IntKind.i64.wrap (0 + 8) = 8 := by decide
    rw [e1, w, w2, wr64 (by omega) (by omega)]
    simp; omega

theorem F62_ok {n : Nat} (h0 : 100 ≤ n) (h : n < 10000) (lf : Nat) : F62.p lf n = some (if n < 1000 then 3 else 4) := by
  have hn : n ≠ 0 := by omega
  have hl := Nat.log2_self_le hn
  have hu := (Nat.log2_lt hn (k := Nat.log2 n + 1)).1 (by omega)
  have h1 : Nat.log2 n < 14 := (Nat.log2_lt hn).2 (by omega)
  have h2 : 6 ≤ Nat.log2 n := (Nat.le_log2 hn).2 (by omega)
  unfold F62.p
  rw [bindp_of (F71_ok hn (by omega) lf)]
  generalize Nat.log2 n = L at hl hu h1 h2
  rw [bindp_of (F70_ok _ (by omega) lf)]
  have key : ∀ k : Nat, k < 20 → ∀ g : Nat, gl0[k]? = some (g : Int) → (L + 1) * 78913 / 262144 = k → (if n < 1000 then 3 else 4) = (k : Int) + (if n ≥ g then 1 else 0) →
      (bindp (idxp gl0 (((L + 1) * 78913 / 262144 : Nat) : Int)) fun x => bindp (F72.p lf (decide ((n : Int) ≥ x))) fun r => some (IntKind.i64.wrap ((((L + 1) * 78913 / 262144 : Nat) : Int) + r))) = some (if n < 1000 then 3 else 4) := by
    intro k hk g hg hk2 hr
    rw [hk2, show idxp gl0 (k : Int) = some (g : Int) by unfold idxp; rw [if_pos (by omega), Int.toNat_natCast, hg], bindp_s]
    unfold F72.p
    by_cases hng : n ≥ g
    · have : decide ((n : Int) ≥ (g : Int)) = true := by simp; omega
      rw [this, ifp_tt, bindp_s, hr, if_pos hng, wr64 (by omega) (by omega)]
    · have : decide ((n : Int) ≥ (g : Int)) = false := by simp; omega
      rw [this, ifp_ff, bindp_s, hr, if_neg hng, wr64 (by omega) (by omega)]
  have hL : L = 6 ∨ L = 7 ∨ L = 8 ∨ L = 9 ∨ L = 10 ∨ L = 11 ∨ L = 12 ∨ L = 13 := by omega
  rcases hL with rfl | rfl | rfl | rfl | rfl | rfl | rfl | rfl
  · exact key 2 (by decide) 100 rfl (by decide) (by by_cases h9 : n < 1000 <;> by_cases h8 : n ≥ 100 <;> simp [h9, h8] <;> omega)
  · exact key 2 (by decide) 100 rfl (by decide) (by by_cases h9 : n < 1000 <;> by_cases h8 : n ≥ 100 <;> simp [h9, h8] <;> omega)
  · exact key 2 (by decide) 100 rfl (by decide) (by by_cases h9 : n < 1000 <;> by_cases h8 : n ≥ 100 <;> simp [h9, h8] <;> omega)
  · exact key 3 (by decide) 1000 rfl (by decide) (by by_cases h9 : n < 1000 <;> by_cases h8 : n ≥ 1000 <;> simp [h9, h8] <;> omega)
  · exact key 3 (by decide) 1000 rfl (by decide) (by by_cases h9 : n < 1000 <;> by_cases h8 : n ≥ 1000 <;> simp [h9, h8] <;> omega)
  · exact key 3 (by decide) 1000 rfl (by decide) (by by_cases h9 : n < 1000 <;> by_cases h8 : n ≥ 1000 <;> simp [h9, h8] <;> omega)
  · exact key 3 (by decide) 1000 rfl (by decide) (by by_cases h9 : n < 1000 <;> by_cases h8 : n ≥ 1000 <;> simp [h9, h8] <;> omega)
  · exact key 4 (by decide) 10000 rfl (by decide) (by by_cases h9 : n < 1000 <;> by_cases h8 : n ≥ 10000 <;> simp [h9, h8] <;> omega)
theorem wru32 {x : Int} (h0 : 0 ≤ x) (h1 : x < 4294967296) : IntKind.u32.wrap x = x := by rw [IntKind.wrap_u32]; omega
theorem wru64 {x : Int} (h0 : 0 ≤ x) (h1 : x < 18446744073709551616) : IntKind.u64.wrap x = x := by
  have : IntKind.u64.wrap x = x % 18446744073709551616 := rfl
  omega
theorem tmod_nat (a b : Nat) : Int.tmod (a : Int) (b : Int) = ((a % b : Nat) : Int) := by rw [Int.tmod_eq_emod_of_nonneg (by omega)]; omega
theorem tdiv_nat (a b : Nat) : Int.tdiv (a : Int) (b : Int) = ((a / b : Nat) : Int) := by rw [Int.tdiv_eq_ediv_of_nonneg (by omega)]; omega
theorem sidx1 {s : ByteArray} (hs : s = wlit2) {i : Int} {d : Nat} (hd : d < 100) (hi : i = ((2 * d + 1 : Nat) : Int)) : sidxp s i = some (48 + (d % 10 : Nat)) := by subst hs hi; exact tab1 d hd
theorem sidx0 {s : ByteArray} (hs : s = wlit2) {i : Int} {d : Nat} (hd : d < 100) (hi : i = ((2 * d : Nat) : Int)) : sidxp s i = some (48 + (d / 10 : Nat)) := by subst hs hi; exact tab0 d hd
theorem vset_ok {α : Type} {n : Nat} {l : List α} {i : Int} {v : α} {j : Nat} (hi : i = j) (h1 : j < n) (h2 : j < l.length) : vsetp n l i v = some (l.set j v) := by
  subst hi; unfold vsetp; rw [if_pos ⟨by omega, by omega, by omega⟩]; rfl
theorem F63_3 {n : Nat} (h0 : 100 ≤ n) (h : n < 1000) (lf : Nat) : F63.p (lf + 1) 3 zeros24 n = some (decD n ++ zeros24.drop 3) := by
  unfold F63.p F63.L1p
  have c1 : decide (((3 : Nat) : Int) ≥ 8) = false := by decide
  rw [c1, ifp_ff]
  unfold F63.J12p
  have c2 : decide (((3 : Nat) : Int) ≥ 4) = false := by decide
  rw [c2, ifp_ff, wru32 (by omega) (by omega)]
  unfold F63.J20p
  have c3 : decide (((3 : Nat) : Int) ≥ 2) = true := by decide
  have e1 : Int.tmod (n : Int) 100 = ((n % 100 : Nat) : Int) := tmod_nat n 100
  have e2 : Int.tdiv (n : Int) 100 = ((n / 100 : Nat) : Int) := tdiv_nat n 100
  rw [c3, ifp_tt, e1, e2]
  have w1 : IntKind.u32.wrap (((n % 100 : Nat) : Int) * 2) = ((2 * (n % 100) : Nat) : Int) := by rw [wru32 (by omega) (by omega)]; omega
  have w2 : IntKind.u32.wrap (((2 * (n % 100) : Nat) : Int) + 1) = ((2 * (n % 100) + 1 : Nat) : Int) := by rw [wru32 (by omega) (by omega)]; omega
  rw [w1, w2, bindp_of (sidx1 rfl (d := n % 100) (by omega) rfl), bindp_of (sidx0 rfl (d := n % 100) (by omega) rfl)]
  rw [wr64 (by decide) (by decide), bindp_of (vset_ok (j := 2) (by decide) (by decide) (by decide))]
  rw [wr64 (by decide) (by decide), bindp_of (vset_ok (j := 1) (by decide) (by decide) (by simp [zeros24]))]
  unfold F63.J25p
  have c4 : decide (((3 : Nat) : Int) - 2 > 0) = true := by decide
  have w5 : IntKind.u32.wrap ((n / 100 : Nat) : Int) = _ := wru32 (by omega) (by omega)
  rw [c4, ifp_tt, w5, wru32 (by omega) (by omega), wru8 (by omega) (by omega), bindp_of (vset_ok (j := 0) (by decide) (by decide) (by simp [zeros24]))]
  unfold decD
  rw [if_neg (by omega), if_neg (by omega), if_pos h]
  have a1 : n % 100 / 10 = n / 10 % 10 := by omega
  have a2 : n % 100 % 10 = n % 10 := by omega
  rw [a1, a2]
  simp [zeros24]
theorem F63_4 {n : Nat} (h0 : 1000 ≤ n) (h : n < 10000) (lf : Nat) : F63.p (lf + 1) 4 zeros24 n = some (decD n ++ zeros24.drop 4) := by
  unfold F63.p F63.L1p
  have c1 : decide (((4 : Nat) : Int) ≥ 8) = false := by decide
  rw [c1, ifp_ff]
  unfold F63.J12p
  have c2 : decide (((4 : Nat) : Int) ≥ 4) = true := by decide
  have g1 : Int.tmod (n : Int) 10000 = ((n : Nat) : Int) := (tmod_nat n 10000).trans (by omega)
  have g2 : Int.tdiv (n : Int) 10000 = 0 := (tdiv_nat n 10000).trans (by omega)
  rw [c2, ifp_tt, wru32 (x := (n : Int)) (by omega) (by omega), g1, g2]
  have e1 : Int.tmod (n : Int) 100 = ((n % 100 : Nat) : Int) := tmod_nat n 100
  have e2 : Int.tdiv (n : Int) 100 = ((n / 100 : Nat) : Int) := tdiv_nat n 100
  rw [e1, e2]
  have w1 : IntKind.u32.wrap (((n % 100 : Nat) : Int) * 2) = ((2 * (n % 100) : Nat) : Int) := by rw [wru32 (by omega) (by omega)]; omega
  have w2 : IntKind.u32.wrap (((2 * (n % 100) : Nat) : Int) + 1) = ((2 * (n % 100) + 1 : Nat) : Int) := by rw [wru32 (by omega) (by omega)]; omega
  rw [w1, w2, bindp_of (sidx1 rfl (d := n % 100) (by omega) rfl), bindp_of (sidx0 rfl (d := n % 100) (by omega) rfl)]
  rw [wr64 (by decide) (by decide), bindp_of (vset_ok (j := 3) (by decide) (by decide) (by decide))]
  rw [wr64 (by decide) (by decide), bindp_of (vset_ok (j := 2) (by decide) (by decide) (by simp [zeros24]))]
  have w3 : IntKind.u32.wrap ((IntKind.u32.wrap ((n / 100 : Nat) : Int)) * 2) = ((2 * (n / 100) : Nat) : Int) := by rw [wru32 (x := ((n / 100 : Nat) : Int)) (by omega) (by omega), wru32 (by omega) (by omega)]; omega
  have w4 : IntKind.u32.wrap (((2 * (n / 100) : Nat) : Int) + 1) = ((2 * (n / 100) + 1 : Nat) : Int) := by rw [wru32 (by omega) (by omega)]; omega
  rw [w3, w4, bindp_of (sidx1 rfl (d := n / 100) (by omega) rfl), bindp_of (sidx0 rfl (d := n / 100) (by omega) rfl)]
  rw [wr64 (by decide) (by decide), bindp_of (vset_ok (j := 1) (by decide) (by decide) (by simp [zeros24]))]
  rw [wr64 (by decide) (by decide), bindp_of (vset_ok (j := 0) (by decide) (by decide) (by simp [zeros24]))]
  unfold F63.J20p
  have c3 : decide (((4 : Nat) : Int) - 4 ≥ 2) = false := by decide
  rw [c3, ifp_ff]
  unfold F63.J25p
  have c4 : decide (((4 : Nat) : Int) - 4 > 0) = false := by decide
  rw [c4, ifp_ff]
  unfold decD
  rw [if_neg (by omega), if_neg (by omega), if_neg (by omega)]
  have a1 : n % 100 / 10 = n / 10 % 10 := by omega
  have a2 : n % 100 % 10 = n % 10 := by omega
  have a3 : n / 100 / 10 = n / 1000 := by omega
  rw [a1, a2, a3]
  simp [zeros24]
/-- 'AppendInt' for what the images need. -/
theorem F24_ok {n : Nat} (h : n < 10000) {out : List Int} (ho : out.length ≤ 2 ^ 39) (lf : Nat) : F24.p (lf + 1) out n 10 = some (out ++ decD n) := by
  have hlen := decD_len n
  have key : F49.p (lf + 1) out n 10 = some (out ++ decD n) := by
    unfold F49.p
    rw [show (((10 : Int) == 10) = true) from rfl, ifp_tt]
    by_cases h1 : n < 100
    · have c1 : decide ((n : Int) < 100) = true := by simp; omega
      rw [c1, ifp_tt, wr64 (by omega) (by omega)]
      have := F61_ok n h1 (lf + 1)
      cases hx : F61.p (lf + 1) (n : Int) with
      | none => rw [hx] at this; cases this
      | some s =>
        rw [hx] at this
        simp only [Option.map_some, Option.some.injEq] at this
        rw [bindp_s, this, bindp_of (appp_ok (by omega))]
    · have c1 : decide ((n : Int) < 100) = false := by simp; omega
      rw [c1, ifp_ff, bindp_of (F62_ok (by omega) h (lf + 1))]
      by_cases h2 : n < 1000
      · rw [if_pos h2]
        rw [bindp_of (show arrp 24 _ (3 : Int) = some 3 from rfl), bindp_of (show F63.p (lf + 1) 3 [0, 0, 0, 0, 0, 0, 0, 0, 0, 0, 0, 0, 0, 0, 0, 0, 0, 0, 0, 0, 0, 0, 0, 0] (n : Int) = _ from F63_3 (by omega) h2 lf)]
        have hl2 : (decD n).length = 3 := by unfold decD; rw [if_neg (by omega), if_neg h1, if_pos h2]; rfl
        have a1 : arrp 24 (decD n ++ zeros24.drop 3) (3 : Int) = some 3 := by unfold arrp; rw [if_pos ⟨by decide, by decide, by rw [List.length_append, hl2]; decide⟩]; rfl
        have a2 : vtakep 3 (decD n ++ zeros24.drop 3) = some (decD n) := by unfold vtakep; rw [if_pos (by rw [List.length_append, hl2]; omega), ← hl2, List.take_left]
        rw [bindp_of a1, bindp_of a2, bindp_of (appp_ok (by omega))]
      · rw [if_neg h2]
        rw [bindp_of (show arrp 24 _ (4 : Int) = some 4 from rfl), bindp_of (show F63.p (lf + 1) 4 [0, 0, 0, 0, 0, 0, 0, 0, 0, 0, 0, 0, 0, 0, 0, 0, 0, 0, 0, 0, 0, 0, 0, 0] (n : Int) = _ from F63_4 (by omega) h lf)]
        have hl2 : (decD n).length = 4 := by unfold decD; rw [if_neg (by omega), if_neg h1, if_neg h2]; rfl
        have a1 : arrp 24 (decD n ++ zeros24.drop 4) (4 : Int) = some 4 := by unfold arrp; rw [if_pos ⟨by decide, by decide, by rw [List.length_append, hl2]; decide⟩]; rfl
        have a2 : vtakep 4 (decD n ++ zeros24.drop 4) = some (decD n) := by unfold vtakep; rw [if_pos (by rw [List.length_append, hl2]; omega), ← hl2, List.take_left]
        rw [bindp_of a1, bindp_of a2, bindp_of (appp_ok (by omega))]
  unfold F24.p F41.p
  have c1 : decide ((n : Int) < 0) = false := by simp
  have w : IntKind.u64.wrap (n : Int) = n := wru64 (by omega) (by omega)
  simp only [letJ_eq, c1, ifp_ff, w]
  rw [key]; rfl
end Go.Proofs.YtgpnjdldpehidaaDoor

open Go Go.Abs Go.Proofs
set_option maxRecDepth 100000
set_option linter.unusedVariables false
set_option linter.unusedSimpArgs false
namespace Go.Proofs.YtgpnjdldpehidaaDoor
/-! ### Rows: what is written for element i, what separates -/
def num1 (f : Int) (row : List Int) (i : Nat) : List Int := if f = 2 then decD (row.getD i 0).toNat else [if row.getD i 0 = 0 then 49 else 48]
def per (f : Int) : Nat := if f = 2 then 17 else 70
def sep1 (f : Int) : List Int := if f = 2 then [32] else []
/-- After element i, in the program. -/
def end1 (f : Int) (row : List Int) (i : Nat) : List Int := if i % per f = per f - 1 ∨ i + 1 = row.length then [10] else sep1 f
def enc1 (f : Int) (row : List Int) : Nat → Nat → List Int
  | 0, _ => []
  | d + 1, i => num1 f row i ++ end1 f row i ++ enc1 f row d (i + 1)
/-- Before element i, in the reference. -/
def bef1 (f : Int) (i : Nat) : List Int := if i = 0 then [] else if i % per f = 0 then [10] else sep1 f
def ref1 (f : Int) (row : List Int) : Nat → Nat → List Int
  | 0, _ => [10]
  | d + 1, i => bef1 f i ++ num1 f row i ++ ref1 f row d (i + 1)
theorem per_pos (f : Int) : per f = 17 ∨ per f = 70 := by unfold per; split <;> simp
theorem ref1_enc1 (f : Int) (row : List Int) : ∀ d i, row.length = i + (d + 1) → ref1 f row (d + 1) i = bef1 f i ++ enc1 f row (d + 1) i
  | 0, i, h => by
    have : end1 f row i = [10] := by unfold end1; rw [if_pos (.inr (by omega))]
    simp [ref1, enc1, this]
  | d + 1, i, h => by
    have e1 : end1 f row i = bef1 f (i + 1) := by
      unfold end1 bef1
      rw [if_neg (show ¬ i + 1 = 0 by omega)]
      have := per_pos f
      by_cases hp : (i + 1) % per f = 0
      · rw [if_pos hp, if_pos (.inl (by rcases this with h | h <;> rw [h] at hp ⊢ <;> omega))]
      · rw [if_neg hp, if_neg (by rcases this with h | h <;> rw [h] at hp ⊢ <;> omega)]
    have ih := ref1_enc1 f row d (i + 1) (by omega)
    show bef1 f i ++ num1 f row i ++ ref1 f row (d + 1) (i + 1) = bef1 f i ++ (num1 f row i ++ end1 f row i ++ enc1 f row (d + 1) (i + 1))
    rw [ih, e1]
    simp
theorem ref1_eq (f : Int) (row : List Int) (h : row ≠ []) : ref1 f row row.length 0 = enc1 f row row.length 0 := by
  obtain ⟨d, hd⟩ : ∃ d, row.length = d + 1 := ⟨row.length - 1, by have := List.length_pos_iff.2 h; omega⟩
  rw [hd, ref1_enc1 f row d 0 (by omega)]; rfl
theorem num1_len (f : Int) (row : List Int) (i : Nat) : (num1 f row i).length ≤ 4 := by
  unfold num1; split
  · exact decD_len _
  · simp
theorem end1_len (f : Int) (row : List Int) (i : Nat) : (end1 f row i).length ≤ 1 := by
  unfold end1 sep1; split
  · simp
  · split <;> simp
theorem bef1_len (f : Int) (i : Nat) : (bef1 f i).length ≤ 1 := by
  unfold bef1 sep1; split
  · simp
  · split
    · simp
    · split <;> simp
theorem enc1_len (f : Int) (row : List Int) : ∀ d i, (enc1 f row d i).length ≤ 5 * d
  | 0, _ => by simp [enc1]
  | d + 1, i => by have := enc1_len f row d (i + 1); have := num1_len f row i; have := end1_len f row i; simp only [enc1, List.length_append]; omega
theorem ref1_len (f : Int) (row : List Int) : ∀ d i, (ref1 f row d i).length ≤ 5 * d + 1
  | 0, _ => by simp [ref1]
  | d + 1, i => by have := ref1_len f row d (i + 1); have := num1_len f row i; have := bef1_len f i; simp only [ref1, List.length_append]; omega
theorem getD_at {row : List Int} {i : Nat} (h : i < row.length) : row[i] = row.getD i 0 := by simp [h]
/-- 'characters' -/
theorem F25_ok (lf : Nat) (row : List Int) (hlen : row.length ≤ 2 ^ 30) : ∀ (d i : Nat), row.length = i + d → ∀ (k : Nat) (out : List Int), d < k → out.length + 5 * d ≤ 2 ^ 39 → F25.L2p lf k out row row (row.length : Int) (i : Int) = some (out ++ enc1 1 row d i)
  | 0, i, h, k + 1, out, _, _ => by
    unfold F25.L2p
    rw [show decide ((i : Int) < (row.length : Int)) = false by simp; omega, ifp_ff]
    simp [enc1]
  | d + 1, i, h, k + 1, out, hk, ho => by
    unfold F25.L2p
    rw [show decide ((i : Int) < (row.length : Int)) = true by simp; omega, ifp_tt]
    unfold F25.J3p
    rw [bindp_of (idxp_nat (show i < row.length by omega)), getD_at (by omega)]
    have key : ∀ c, (∀ o, o.length + 5 * d ≤ 2 ^ 39 → F25.L2p lf k o row row (row.length : Int) ((i + 1 : Nat) : Int) = some (o ++ enc1 1 row d (i + 1))) → F25.J7p lf (F25.L2p lf k) out row (i : Int) c row (row.length : Int) (i : Int) = some (out ++ ([c] ++ end1 1 row i ++ enc1 1 row d (i + 1))) := by
      intro c ih
      unfold F25.J7p
      have w1 : IntKind.i64.wrap ((i : Int) + 1) = ((i + 1 : Nat) : Int) := by rw [wr64 (by omega) (by omega)]; omega
      have w2 : IntKind.i64.wrap ((row.length : Int) - 1) = (row.length : Int) - 1 := wr64 (by omega) (by omega)
      have w3 : Int.tmod (i : Int) 70 = ((i % 70 : Nat) : Int) := tmod_nat i 70
      simp only [letJ_eq, w1, w2, w3]
      rw [bindp_of (appp_ok (by simp; omega))]
      have a1 : appp 1 (out ++ [c]) [10] = some (out ++ [c] ++ [10]) := appp_ok (by simp; omega)
      by_cases c1 : i % 70 = 69
      · rw [show (((i % 70 : Nat) : Int) == 69) = true by simp; omega, ifp_tt, ifp_tt, bindp_of a1, ih _ (by simp; omega)]
        have : end1 1 row i = [10] := by unfold end1; rw [if_pos (.inl (by simpa [per] using c1))]
        simp [this]
      · rw [show (((i % 70 : Nat) : Int) == 69) = false by simp; omega, ifp_ff]
        by_cases c2 : i + 1 = row.length
        · rw [show ((i : Int) == (row.length : Int) - 1) = true by simp; omega, ifp_tt, bindp_of a1, ih _ (by simp; omega)]
          have : end1 1 row i = [10] := by unfold end1; rw [if_pos (.inr c2)]
          simp [this]
        · rw [show ((i : Int) == (row.length : Int) - 1) = false by simp; omega, ifp_ff, ih _ (by simp; omega)]
          have : end1 1 row i = [] := by unfold end1; rw [if_neg (by simp [per]; omega)]; simp [sep1]
          simp [this]
    have ih := fun o ho => F25_ok lf row hlen d (i + 1) (by omega) k o (by omega) ho
    by_cases hz : row.getD i 0 = 0
    · rw [show (row.getD i 0 == 0) = true by simpa using hz, ifp_tt, key 49 ih]
      have hn : num1 1 row i = [49] := by unfold num1; rw [if_neg (by decide), if_pos hz]
      simp [enc1, hn]
    · rw [show (row.getD i 0 == 0) = false by simpa using hz, ifp_ff, key 48 ih]
      have hn : num1 1 row i = [48] := by unfold num1; rw [if_neg (by decide), if_neg hz]
      simp [enc1, hn]
/-- 'numbers' -/
theorem F26_ok (lf : Nat) (row : List Int) (hr : ∀ v ∈ row, 0 ≤ v ∧ v < 256) (hlen : row.length ≤ 2 ^ 30) : ∀ (d i : Nat), row.length = i + d → ∀ (k : Nat) (out : List Int), d < k → out.length + 5 * d ≤ 2 ^ 39 → F26.L2p (lf + 1) k out row row (row.length : Int) (i : Int) = some (out ++ enc1 2 row d i)
  | 0, i, h, k + 1, out, _, _ => by
    unfold F26.L2p
    rw [show decide ((i : Int) < (row.length : Int)) = false by simp; omega, ifp_ff]
    simp [enc1]
  | d + 1, i, h, k + 1, out, hk, ho => by
    unfold F26.L2p
    rw [show decide ((i : Int) < (row.length : Int)) = true by simp; omega, ifp_tt]
    unfold F26.J3p
    have hi : i < row.length := by omega
    rw [bindp_of (idxp_nat hi), getD_at hi]
    have hv : 0 ≤ row.getD i 0 ∧ row.getD i 0 < 256 := by rw [← getD_at hi]; exact hr _ (List.getElem_mem _)
    have ih := fun o ho => F26_ok lf row hr hlen d (i + 1) (by omega) k o (by omega) ho
    have hnum : num1 2 row i = decD (row.getD i 0).toNat := by unfold num1; rw [if_pos rfl]
    generalize row.getD i 0 = z at hv hnum
    have hz : IntKind.i64.wrap z = ((z.toNat : Nat) : Int) := by rw [wr64 (by omega) (by omega)]; omega
    rw [hz, bindp_of (F24_ok (by omega) (by omega) lf), ← hnum]
    have hl := num1_len 2 row i
    have w1 : IntKind.i64.wrap ((i : Int) + 1) = ((i + 1 : Nat) : Int) := by rw [wr64 (by omega) (by omega)]; omega
    have w2 : IntKind.i64.wrap ((row.length : Int) - 1) = (row.length : Int) - 1 := wr64 (by omega) (by omega)
    have w3 : Int.tmod (i : Int) 17 = ((i % 17 : Nat) : Int) := tmod_nat i 17
    have key : ∀ (b : Bool), end1 2 row i = (if b then [10] else [32]) → F26.J6p (lf + 1) (F26.L2p (lf + 1) k) (out ++ num1 2 row i) row row (row.length : Int) (i : Int) b = some (out ++ (num1 2 row i ++ end1 2 row i ++ enc1 2 row d (i + 1))) := by
      intro b hb
      unfold F26.J6p
      simp only [letJ_eq, w1]
      cases b with
      | true => rw [ifp_tt, bindp_of (appp_ok (by simp; omega)), ih _ (by simp; omega), hb]; simp
      | false => rw [ifp_ff, bindp_of (appp_ok (by simp; omega)), ih _ (by simp; omega), hb]; simp
    rw [w2, w3]
    by_cases c1 : i % 17 = 16
    · rw [show (((i % 17 : Nat) : Int) == 16) = true by simp; omega, ifp_tt, key true (by unfold end1; rw [if_pos (.inl (by simpa [per] using c1))]; rfl)]
      simp [enc1]
    · rw [show (((i % 17 : Nat) : Int) == 16) = false by simp; omega, ifp_ff]
      by_cases c2 : i + 1 = row.length
      · rw [show ((i : Int) == (row.length : Int) - 1) = true by simp; omega, key true (by unfold end1; rw [if_pos (.inr c2)]; rfl)]
        simp [enc1]
      · rw [show ((i : Int) == (row.length : Int) - 1) = false by simp; omega, key false (by unfold end1; rw [if_neg (by simp [per]; omega)]; simp [sep1])]
        simp [enc1]
end Go.Proofs.YtgpnjdldpehidaaDoor

open Go Go.Abs Go.Proofs
set_option maxRecDepth 100000
set_option linter.unusedVariables false
set_option linter.unusedSimpArgs false
namespace Go.Proofs.YtgpnjdldpehidaaDoor
section
/-! ### Packed rows -/
def bitA (row : List Int) (i : Nat) : Nat := if i < row.length ∧ row.getD i 0 = 0 then 1 else 0
def pkv (row : List Int) (i : Nat) : Nat → Nat
  | 0 => 0
  | j + 1 => 2 * pkv row i j + bitA row (i + j)
def pks (row : List Int) : Nat → Nat → List Int
  | 0, _ => []
  | d + 1, i => if i < row.length then (pkv row i 8 : Int) :: pks row d (i + 8) else []
theorem bitA_le (row : List Int) (i : Nat) : bitA row i ≤ 1 := by unfold bitA; split <;> omega
theorem pkv_lt (row : List Int) (i : Nat) : ∀ j, pkv row i j < 2 ^ j
  | 0 => by simp [pkv]
  | j + 1 => by have := pkv_lt row i j; have := bitA_le row (i + j); simp only [pkv, Nat.pow_succ]; omega
theorem pks_len (row : List Int) : ∀ d i, (pks row d i).length ≤ d
  | 0, _ => by simp [pks]
  | d + 1, i => by
    have := pks_len row d (i + 8)
    unfold pks; split
    · simp only [List.length_cons]; omega
    · simp
theorem or1 : ∀ t, t < 128 → bOr .u8 ((2 * t : Nat) : Int) 1 = ((2 * t + 1 : Nat) : Int) := by decide
theorem bitA_cond (row : List Int) (m : Nat) (k : Bool → Option (List Int)) : (ifp (decide ((m : Int) < (row.length : Int))) (bindp (idxp row (m : Int)) fun x => k (x == 0)) (k false)) = k (bitA row m == 1) := by
  by_cases h : m < row.length
  · rw [show decide ((m : Int) < (row.length : Int)) = true by simp; omega, ifp_tt, bindp_of (idxp_nat h), getD_at h]
    congr 1
    unfold bitA
    by_cases hz : row.getD m 0 = 0
    · rw [if_pos ⟨h, hz⟩]; simpa using hz
    · rw [if_neg (fun hh => hz hh.2)]; simpa using hz
  · rw [show decide ((m : Int) < (row.length : Int)) = false by simp; omega, ifp_ff]
    unfold bitA
    rw [if_neg (fun hh => h hh.1)]; rfl
theorem F27_L6 (lf : Nat) (kb : List Int → List Int → Int → Option (List Int)) (row out : List Int) (i : Nat) (hi : i ≤ 2 ^ 31) : ∀ (e j : Nat), 8 = j + e → ∀ k, e < k →
    F27.L6p lf kb k out row (i : Int) (pkv row i j : Int) (j : Int) = bindp (appp 1 out [(pkv row i 8 : Int)]) fun x => kb x row ((i + 8 : Nat) : Int)
  | 0, j, h, k + 1, _ => by
    obtain rfl : j = 8 := by omega
    unfold F27.L6p
    have w : IntKind.i64.wrap ((i : Int) + 8) = ((i + 8 : Nat) : Int) := by rw [wr64 (by omega) (by omega)]; omega
    rw [show decide (((8 : Nat) : Int) < 8) = false by decide, ifp_ff, w]
  | e + 1, j, h, k + 1, hk => by
    unfold F27.L6p
    rw [show decide ((j : Int) < 8) = true by simp; omega, ifp_tt]
    unfold F27.J7p
    have w1 : IntKind.i64.wrap ((j : Int) + 1) = ((j + 1 : Nat) : Int) := by rw [wr64 (by omega) (by omega)]; omega
    have w2 : IntKind.i64.wrap ((i : Int) + (j : Int)) = ((i + j : Nat) : Int) := by rw [wr64 (by omega) (by omega)]; omega
    have hlt := pkv_lt row i j
    have hj : 2 ^ j ≤ 2 ^ 7 := Nat.pow_le_pow_right (by decide) (by omega)
    have w3 : IntKind.u8.wrap ((pkv row i j : Int) * 2) = ((2 * pkv row i j : Nat) : Int) := by rw [wru8 (by omega) (by omega)]; omega
    simp only [letJ_eq, w1, w2, w3]
    rw [bitA_cond row (i + j) fun b => ifp b (F27.L6p lf kb k out row (i : Int) (bOr .u8 ((2 * pkv row i j : Nat) : Int) 1) ((j + 1 : Nat) : Int)) (F27.L6p lf kb k out row (i : Int) ((2 * pkv row i j : Nat) : Int) ((j + 1 : Nat) : Int))]
    rw [or1 _ (by omega)]
    have ih := F27_L6 lf kb row out i hi e (j + 1) (by omega) k (by omega)
    have hb := bitA_le row (i + j)
    by_cases hb1 : bitA row (i + j) = 1
    · have : pkv row i (j + 1) = 2 * pkv row i j + 1 := by simp only [pkv, hb1]
      rw [show (bitA row (i + j) == 1) = true by simpa using hb1, ifp_tt, ← this, ih]
    · have : pkv row i (j + 1) = 2 * pkv row i j := by simp only [pkv]; omega
      rw [show (bitA row (i + j) == 1) = false by simpa using hb1, ifp_ff, ← this, ih]
theorem F27_ok (lf : Nat) (hlf : 9 ≤ lf) (row : List Int) (hlen : row.length ≤ 2 ^ 30) : ∀ (d i : Nat), row.length ≤ i + 8 * d → i ≤ row.length + 8 → ∀ (k : Nat) (out : List Int), d < k → out.length + d ≤ 2 ^ 39 → F27.L2p lf k out row (i : Int) = some (out ++ pks row d i)
  | 0, i, h, hi, k + 1, out, _, _ => by
    unfold F27.L2p
    rw [show decide ((i : Int) < (row.length : Int)) = false by simp; omega, ifp_ff]
    simp [pks]
  | d + 1, i, h, hi, k + 1, out, hk, ho => by
    unfold F27.L2p
    by_cases hc : i < row.length
    · rw [show decide ((i : Int) < (row.length : Int)) = true by simp; omega, ifp_tt]
      unfold F27.J4p
      have := F27_L6 lf (F27.L2p lf k) row out i (by omega) 8 0 (by omega) lf (by omega)
      refine Eq.trans this ?_
      rw [bindp_of (appp_ok (by simp; omega)), F27_ok lf hlf row hlen d (i + 8) (by omega) (by omega) k _ (by omega) (by simp; omega)]
      simp [pks, hc]
    · rw [show decide ((i : Int) < (row.length : Int)) = false by simp; omega, ifp_ff]
      simp [pks, hc]
/-! ### The reference's numbers and lines -/
end

section
/-! ### Formats -/
theorem F21_ok (lf : Nat) (f : Int) : F21.p lf f = some (f == 1 || f == 4) := by unfold F21.p; cases h : f == 1 <;> simp
theorem F20_ok (lf : Nat) (f : Int) : F20.p lf f = some (f == 1 || f == 4 || f == 2 || f == 5) := by unfold F20.p; rw [F21_ok]; cases h : f == 1 <;> cases h2 : f == 4 <;> cases h3 : f == 2 <;> simp
/-! ### Sizes -/
def possB (w h : Int) : Bool := decide (1 ≤ w ∧ w ≤ 4096 ∧ 1 ≤ h ∧ h ≤ 4096 ∧ w * h ≤ 4194304)
def okImage (w h : Int) (n : Nat) : Bool := possB w h && decide ((n : Int) = w * h)
theorem F39_ok (lf : Nat) (x y : Int) : F39.p lf x y = some (possB x y) := by
  unfold F39.p possB
  by_cases h1 : x ≥ 1
  · by_cases h2 : x ≤ 4096
    · by_cases h3 : y ≥ 1
      · by_cases h4 : y ≤ 4096
        · have hb : 0 ≤ x * y := Int.mul_nonneg (by omega) (by omega)
          have hb2 : x * y ≤ 4096 * 4096 := Int.mul_le_mul h2 h4 (by omega) (by omega)
          have hw : IntKind.i64.wrap (x * y) = x * y := wr64 (by omega) (by omega)
          simp [h1, h2, h3, h4, hw]
        · simp [h1, h2, h3, h4]
      · simp [h1, h2, h3]
    · simp [h1, h2]
  · simp [h1]
theorem possB_wrap {x y : Int} (h : possB x y = true) : IntKind.i64.wrap (x * y) = x * y := by
  simp only [possB, decide_eq_true_eq] at h
  have hb : 0 ≤ x * y := Int.mul_nonneg (by omega) (by omega)
  exact wr64 (by omega) (by omega)
theorem F19_ok (lf : Nat) (x y : Int) (l : List Int) : F19.p lf x y l = some (if okImage x y l.length then 0 else 1) := by
  unfold F19.p
  simp only [letJ_eq]
  rw [F39_ok, bindp_s]
  cases hp : possB x y with
  | false => simp [okImage, hp]
  | true =>
    rw [possB_wrap hp]
    by_cases hn : (l.length : Int) = x * y
    · simp [okImage, hp, hn]
    · have : ((l.length : Int) != x * y) = true := by simpa using hn
      simp [okImage, hp, hn, this]
end

section
theorem F23_ok (lf : Nat) (v : Int) : F23.p lf v = some (v != 0 && v != 255) := by unfold F23.p; cases h : v != 0 <;> simp
/-- Where the first value stands that is neither 0 nor 255; -1: nowhere. -/
def midAt (row : List Int) : Nat → Nat → Int
  | 0, _ => -1
  | d + 1, i => if row.getD i 0 ≠ 0 ∧ row.getD i 0 ≠ 255 then i else midAt row d (i + 1)
theorem F40_L2 (lf : Nat) (row : List Int) (hlen : row.length ≤ 2 ^ 30) : ∀ (d i : Nat), row.length = i + d → ∀ k, d < k → F40.L2p lf k row (row.length : Int) (i : Int) = some (midAt row d i)
  | 0, i, h, k + 1, _ => by
    unfold F40.L2p
    rw [show decide ((i : Int) < (row.length : Int)) = false by simp; omega, ifp_ff]; rfl
  | d + 1, i, h, k + 1, hk => by
    unfold F40.L2p
    rw [show decide ((i : Int) < (row.length : Int)) = true by simp; omega, ifp_tt]
    unfold F40.J3p
    have w1 : IntKind.i64.wrap ((i : Int) + 1) = ((i + 1 : Nat) : Int) := by rw [wr64 (by omega) (by omega)]; omega
    rw [bindp_of (idxp_nat (show i < row.length by omega)), getD_at (by omega), F23_ok, bindp_s, w1, F40_L2 lf row hlen d (i + 1) (by omega) k (by omega)]
    rw [show midAt row (d + 1) i = if row.getD i 0 ≠ 0 ∧ row.getD i 0 ≠ 255 then (i : Int) else midAt row d (i + 1) from rfl]
    generalize row.getD i 0 = z
    by_cases h0 : z = 0
    · subst h0; simp
    · by_cases h1 : z = 255
      · subst h1; simp
      · rw [show (z != 0 && z != 255) = true by simp [h0, h1], ifp_tt, if_pos ⟨h0, h1⟩]
def hasMid (row : List Int) : Bool := decide (midAt row row.length 0 ≥ 0)
theorem F22_ok (lf : Nat) (row : List Int) (hlen : row.length ≤ 2 ^ 30) (hlf : row.length < lf) : F22.p lf row = some (hasMid row) := by
  unfold F22.p F40.p
  rw [show F40.L2p lf lf row (row.length : Int) 0 = _ from F40_L2 lf row hlen row.length 0 (by omega) lf hlf]; rfl
/-! ### The rows of an image -/
def encR (f : Int) (row : List Int) : List Int := if f = 1 ∨ f = 2 then enc1 f row row.length 0 else if f = 4 then pks row row.length 0 else row
def rowAt (pix : List Int) (w y : Nat) : List Int := (pix.drop (y * w)).take w
def encA (f : Int) (pix : List Int) (w : Nat) : Nat → Nat → List Int
  | 0, _ => []
  | d + 1, y => encR f (rowAt pix w y) ++ encA f pix w d (y + 1)
theorem encR_len (f : Int) (row : List Int) : (encR f row).length ≤ 5 * row.length := by
  unfold encR
  split
  · exact enc1_len f row row.length 0
  · split
    · have := pks_len row row.length 0; omega
    · omega
structure Dom (f : Int) (pix : List Int) (w h : Nat) (lf : Nat) : Prop where
  fm : f = 1 ∨ f = 2 ∨ f = 4 ∨ f = 5
  range : ∀ v ∈ pix, 0 ≤ v ∧ v < 256
  len : pix.length = w * h
  w1 : 1 ≤ w
  w2 : w ≤ 4096
  h1 : 1 ≤ h
  h2 : h ≤ 4096
  fuel : 5000 ≤ lf
variable {f : Int} {pix : List Int} {w h lf : Nat}
theorem Dom.row (hd : Dom f pix w h lf) {y : Nat} (hy : y < h) : (rowAt pix w y).length = w ∧ (∀ v ∈ rowAt pix w y, 0 ≤ v ∧ v < 256) ∧ y * w + w ≤ pix.length := by
  have h1 : y * w + w ≤ pix.length := by
    rw [hd.len, Nat.mul_comm w h, show y * w + w = (y + 1) * w by rw [Nat.add_mul]; omega]
    exact Nat.mul_le_mul_right _ (by omega)
  refine ⟨?_, fun v hv => hd.range v (List.mem_of_mem_drop (List.mem_of_mem_take hv)), h1⟩
  unfold rowAt
  rw [List.length_take, List.length_drop]; omega
theorem F25_row {row out : List Int} (hl : row.length ≤ 4096) (hlf : 5000 ≤ lf) (ho : out.length ≤ 2 ^ 38) : F25.p lf out row = some (out ++ enc1 1 row row.length 0) := by
  unfold F25.p
  exact F25_ok lf row (by omega) row.length 0 (by omega) lf out (by omega) (by omega)
theorem F26_row {row out : List Int} (hr : ∀ v ∈ row, 0 ≤ v ∧ v < 256) (hl : row.length ≤ 4096) (hlf : 5000 ≤ lf) (ho : out.length ≤ 2 ^ 38) : F26.p lf out row = some (out ++ enc1 2 row row.length 0) := by
  unfold F26.p
  obtain ⟨k, rfl⟩ : ∃ k, lf = k + 1 := ⟨lf - 1, by omega⟩
  exact F26_ok k row hr (by omega) row.length 0 (by omega) (k + 1) out (by omega) (by omega)
theorem F27_row {row out : List Int} (hl : row.length ≤ 4096) (hlf : 5000 ≤ lf) (ho : out.length ≤ 2 ^ 38) : F27.p lf out row = some (out ++ pks row row.length 0) := by
  unfold F27.p
  exact F27_ok lf (by omega) row (by omega) row.length 0 (by omega) (by omega) lf out (by omega) (by omega)
theorem F10_L12 (hd : Dom f pix w h lf) : ∀ (d y : Nat), h = y + d → ∀ (k : Nat) (out : List Int), d < k → out.length + 5 * (w * d) ≤ 2 ^ 38 → F10.L12p lf k f w h pix out h y = some (out ++ encA f pix w d y, 0)
  | 0, y, hy, k + 1, out, _, _ => by
    unfold F10.L12p
    rw [show decide ((y : Int) < (h : Int)) = false by simp; omega, ifp_ff]
    simp [encA]
  | d + 1, y, hy, k + 1, out, hk, ho => by
    unfold F10.L12p
    rw [show decide ((y : Int) < (h : Int)) = true by simp; omega, ifp_tt]
    unfold F10.J13p
    obtain ⟨r1, r2, r3⟩ := hd.row (y := y) (by omega)
    have b1 : w * (d + 1) = w * d + w := by rw [Nat.mul_add]; omega
    have hw := hd.w2
    have hh := hd.h2
    have hyw : y * w ≤ 4096 * 4096 := Nat.mul_le_mul (by omega) hw
    have w1 : IntKind.i64.wrap ((y : Int) + 1) = ((y + 1 : Nat) : Int) := by rw [wr64 (by omega) (by omega)]; omega
    have m1 : (y : Int) * (w : Int) = ((y * w : Nat) : Int) := by rw [Int.natCast_mul]
    have m2 : ((y + 1 : Nat) : Int) * (w : Int) = ((y * w + w : Nat) : Int) := by rw [← Int.natCast_mul, Nat.add_mul, Nat.one_mul]
    have w2 : IntKind.i64.wrap ((y : Int) * (w : Int)) = ((y * w : Nat) : Int) := by rw [m1, wr64 (by omega) (by omega)]
    have w3 : IntKind.i64.wrap (((y + 1 : Nat) : Int) * (w : Int)) = ((y * w + w : Nat) : Int) := by rw [m2, wr64 (by omega) (by omega)]
    simp only [letJ_eq, w1, w2, w3]
    rw [bindp_of (subp_nat rfl rfl (by omega) r3), show y * w + w - y * w = w by omega]
    change ifp (f == 1) (bindp (F25.p lf out (rowAt pix w y)) _) (ifp (f == 2) (bindp (F26.p lf out (rowAt pix w y)) _) (ifp (f == 4) (bindp (F27.p lf out (rowAt pix w y)) _) (bindp (appp 1 out (rowAt pix w y)) _))) = _
    have hl := encR_len f (rowAt pix w y)
    have ih := fun o ho => F10_L12 hd d (y + 1) (by omega) k o (by omega) ho
    have e0 : encA f pix w (d + 1) y = encR f (rowAt pix w y) ++ encA f pix w d (y + 1) := rfl
    rw [e0, ← List.append_assoc]
    rw [r1] at hl
    rcases hd.fm with rfl | rfl | rfl | rfl
    · have e1 : encR 1 (rowAt pix w y) = enc1 1 (rowAt pix w y) (rowAt pix w y).length 0 := by unfold encR; rw [if_pos (.inl rfl)]
      rw [show ((1 : Int) == 1) = true from rfl, ifp_tt, bindp_of (F25_row (by omega) hd.fuel (by omega)), ← e1, ih _ (by rw [List.length_append]; omega)]
    · have e1 : encR 2 (rowAt pix w y) = enc1 2 (rowAt pix w y) (rowAt pix w y).length 0 := by unfold encR; rw [if_pos (.inr rfl)]
      rw [show ((2 : Int) == 1) = false from rfl, ifp_ff, show ((2 : Int) == 2) = true from rfl, ifp_tt, bindp_of (F26_row r2 (by omega) hd.fuel (by omega)), ← e1, ih _ (by rw [List.length_append]; omega)]
    · have e1 : encR 4 (rowAt pix w y) = pks (rowAt pix w y) (rowAt pix w y).length 0 := by unfold encR; rw [if_neg (by decide), if_pos rfl]
      rw [show ((4 : Int) == 1) = false from rfl, ifp_ff, show ((4 : Int) == 2) = false from rfl, ifp_ff, show ((4 : Int) == 4) = true from rfl, ifp_tt, bindp_of (F27_row (by omega) hd.fuel (by omega)), ← e1, ih _ (by rw [List.length_append]; omega)]
    · have e1 : encR 5 (rowAt pix w y) = rowAt pix w y := by unfold encR; rw [if_neg (by decide), if_neg (by decide)]
      rw [show ((5 : Int) == 1) = false from rfl, ifp_ff, show ((5 : Int) == 2) = false from rfl, ifp_ff, show ((5 : Int) == 4) = false from rfl, ifp_ff, bindp_of (appp_ok (by omega)), e1, ih _ (by rw [List.length_append]; omega)]
end

section
variable {f : Int} {pix : List Int} {w h lf : Nat}
def headL (f : Int) (w h : Nat) : List Int := [80, 48 + f, 10] ++ decD w ++ [32] ++ decD h ++ [10] ++ (if f = 2 ∨ f = 5 then [50, 53, 53, 10] else [])
theorem headL_len (f : Int) (w h : Nat) : (headL f w h).length ≤ 20 := by
  have := decD_len w
  have := decD_len h
  unfold headL
  simp only [List.length_append, List.length_cons, List.length_nil]
  split <;> simp <;> omega
def fileL (f : Int) (pix : List Int) (w h : Nat) : List Int := headL f w h ++ encA f pix w h 0
theorem Dom.wh (hd : Dom f pix w h lf) : w * h ≤ 4096 * 4096 := Nat.mul_le_mul hd.w2 hd.h2
theorem F10_J5 (hd : Dom f pix w h lf) : F10.J5p lf f w h pix = some (fileL f pix w h, 0) := by
  obtain ⟨k, rfl⟩ : ∃ k, lf = k + 1 := ⟨lf - 1, by have := hd.fuel; omega⟩
  have hf : 1 ≤ f ∧ f ≤ 5 := by rcases hd.fm with rfl | rfl | rfl | rfl <;> omega
  have hw2 := hd.w2
  have hh2 := hd.h2
  have hwh := hd.wh
  have hf0 := hd.fuel
  have l1 := decD_len w
  have l2 := decD_len h
  unfold F10.J5p
  have wu : IntKind.u8.wrap (48 + IntKind.u8.wrap f) = 48 + f := by rw [wru8 (x := f) (by omega) (by omega), wru8 (by omega) (by omega)]
  rw [wu, bindp_of (F24_ok (by omega) (by simp) k), bindp_of (appp_ok (by simp; omega)), bindp_of (F24_ok (by omega) (by simp; omega) k), bindp_of (appp_ok (by simp; omega)), F21_ok, bindp_s]
  have fin : ∀ out, out = headL f w h → F10.J11p (k + 1) f w h pix out = some (fileL f pix w h, 0) := by
    intro out ho
    unfold F10.J11p
    have := headL_len f w h
    subst ho
    exact F10_L12 hd h 0 (by omega) (k + 1) _ (by omega) (by omega)
  by_cases hb : f = 2 ∨ f = 5
  · have : (!(f == 1 || f == 4)) = true := by rcases hb with rfl | rfl <;> rfl
    rw [this, ifp_tt, bindp_of (appp_ok (by rw [show bytp (⟨#[50, 53, 53, 10]⟩ : ByteArray) = [50, 53, 53, 10] from rfl]; simp; omega))]
    exact fin _ (by unfold headL; rw [if_pos hb]; rfl)
  · have : (!(f == 1 || f == 4)) = false := by rcases hd.fm with rfl | rfl | rfl | rfl <;> first | rfl | omega
    rw [this, ifp_ff]
    exact fin _ (by unfold headL; rw [if_neg hb]; simp)
end
end Go.Proofs.YtgpnjdldpehidaaDoor
