/-
  What Stuff and Unstuff come to, in plain Lean, for every input that the law lets in; no statement of the seat is proved in this file.
-/
import Derived.Test.YtfadfpcelhdfbaaDoorStfTwin
import Derived.Test.YtfadfpcelhdfbaaDoorAbsG
open Go Go.Abs Go.Proofs
set_option linter.unusedSimpArgs false
set_option linter.unusedVariables false
set_option linter.unusedSectionVars false
namespace Go.Proofs.YtfadfpcelhdfbaaDoor
/-! ### Stuff: what both come to -/
theorem wrN {z : Int} (h0 : 0 ≤ z) (h1 : z < 2 ^ 40) : IntKind.i64.wrap z = z := wr64 (by omega) (by omega)
theorem wruN {z : Int} (h0 : 0 ≤ z) (h1 : z < 2 ^ 40) : IntKind.u64.wrap z = z := by rw [IntKind.wrap_u64]; omega
theorem shl13 : ∀ k : Nat, k < 13 → shlp .i64 1 ((k : Nat) : Int) = some ((2 ^ k : Nat) : Int) := by decide
theorem and1 {z : Nat} (h : z < 2 ^ 40) : bAnd .i64 (z : Int) 1 = ((z % 2 : Nat) : Int) := by
  rw [bAnd_eq]
  have e1 : (BitVec.ofInt IntKind.i64.bits (z : Int) &&& BitVec.ofInt IntKind.i64.bits 1).toNat = z % 2 := by
    show (BitVec.ofInt 64 (z : Int) &&& BitVec.ofInt 64 1).toNat = z % 2
    rw [BitVec.toNat_and]
    have e2 : (BitVec.ofInt 64 (1 : Int)).toNat = 1 := by decide
    have e3 : (BitVec.ofInt 64 (z : Int)).toNat = z := by
      rw [BitVec.ofInt_natCast, BitVec.toNat_ofNat]
      exact Nat.mod_eq_of_lt (by omega)
    rw [e2, e3, Nat.and_one_is_mod]
  rw [e1]
  exact wrN (by omega) (by omega)
theorem shrN {z k : Nat} (hk : k < 64) : shrp .i64 (z : Int) (k : Int) = some ((z / 2 ^ k : Nat) : Int) := by
  unfold shrp
  rw [if_neg (by omega), Int.toNat_natCast, show min k IntKind.i64.bits = k by have : IntKind.i64.bits = 64 := rfl; omega]
  rw [Int.fdiv_eq_ediv_of_nonneg _ (Int.le_of_lt (by exact Int.pow_pos (by decide)))]
  congr 1
def bitN (b : List Bool) (i : Nat) : Nat := if b.getD i true then 1 else 0
theorem bitN_lt (b : List Bool) (i : Nat) : bitN b i < 2 := by unfold bitN; split <;> omega
theorem bitN_out {b : List Bool} {i : Nat} (h : b.length ≤ i) : bitN b i = 1 := by
  unfold bitN; rw [List.getD_eq_getElem?_getD, List.getElem?_eq_none h]; rfl
theorem bitN_in {b : List Bool} {i : Nat} (h : i < b.length) : bitN b i = if b[i] then 1 else 0 := by
  unfold bitN; rw [List.getD_eq_getElem?_getD, List.getElem?_eq_getElem h]; rfl
def chk (b : List Bool) : Nat → Nat → Nat → Nat
  | v, _, 0 => v
  | v, j, m + 1 => chk b (2 * v + bitN b j) (j + 1) m
theorem chk_lt (b : List Bool) : ∀ (m v j k : Nat), v < 2 ^ k → chk b v j m < 2 ^ (k + m)
  | 0, v, j, k, h => h
  | m + 1, v, j, k, h => by
    have hb := bitN_lt b j
    have := chk_lt b m (2 * v + bitN b j) (j + 1) (k + 1) (by rw [Nat.pow_succ]; omega)
    rw [show k + (m + 1) = k + 1 + m by omega]
    exact this
def stw (b : List Bool) (s at_ : Nat) : Nat × Nat :=
  if chk b 0 at_ (s - 1) = 0 then (1, at_ + (s - 1))
  else if chk b 0 at_ (s - 1) = 2 ^ (s - 1) - 1 then (2 * chk b 0 at_ (s - 1), at_ + (s - 1))
  else (2 * chk b 0 at_ (s - 1) + bitN b (at_ + (s - 1)), at_ + s)
def stuffN (b : List Bool) (s : Nat) : Nat → Nat → List Nat
  | 0, _ => []
  | f + 1, at_ => if at_ < b.length then (stw b s at_).1 :: stuffN b s f (stw b s at_).2 else []
def ints (l : List Nat) : List Int := l.map fun n : Nat => (n : Int)
theorem ints_len (l : List Nat) : (ints l).length = l.length := by simp [ints]
theorem appp8 {l x : List Int} (h : l.length + x.length ≤ 2 ^ 30) : appp 8 l x = some (l ++ x) := by
  unfold appp; rw [if_pos ⟨by unfold bigLimit; omega, by unfold bigLimit; omega⟩]
theorem p2 {s : Nat} (h0 : 2 ≤ s) (h1 : s ≤ 12) : 2 ≤ 2 ^ (s - 1) ∧ 2 ^ (s - 1) ≤ 2048 ∧ 2 ^ s = 2 * 2 ^ (s - 1) := by
  obtain ⟨t, rfl⟩ : ∃ t, s = t + 1 := ⟨s - 1, by omega⟩
  simp only [Nat.add_sub_cancel]
  refine ⟨?_, ?_, by rw [Nat.pow_succ]; omega⟩
  · calc 2 = 2 ^ 1 := rfl
      _ ≤ 2 ^ t := Nat.pow_le_pow_right (by omega) (by omega)
  · calc 2 ^ t ≤ 2 ^ 11 := Nat.pow_le_pow_right (by omega) (by omega)
      _ = 2048 := rfl

section
variable {b : List Bool} {s : Nat} (h0 : 2 ≤ s) (h1 : s ≤ 12) (hb : b.length ≤ 2 ^ 20)
theorem f44 (lf : Nat) (b : List Bool) (i : Nat) : F44.p lf (i : Int) b = some ((bitN b i : Nat) : Int) := by
  unfold F44.p
  simp only [letJ_eq]
  by_cases h : i < b.length
  · have e : decide ((i : Int) ≥ (b.length : Int)) = false := decide_eq_false (by omega)
    rw [e, ifp_ff, idxp_nat h, bindp_s, bitN_in h]
    cases b[i] <;> rfl
  · have e : decide ((i : Int) ≥ (b.length : Int)) = true := decide_eq_true (by omega)
    rw [e, ifp_tt, bitN_out (by omega)]; rfl
include h0 h1 hb
theorem f18J15 {lf : Nat} {kb : Int → List Bool → List Int → Int → Option (List Int × Int)} {out : List Int} {a : Nat} (ha : a < 2 ^ 21) (ho : out.length < 2 ^ 29) :
    F18.J15p lf kb (s : Int) b out (a : Int) ((chk b 0 a (s - 1) : Nat) : Int) = kb (s : Int) b (out ++ [((stw b s a).1 : Int)]) ((stw b s a).2 : Int) := by
  obtain ⟨q1, q2, q3⟩ := p2 h0 h1
  have hc := chk_lt b (s - 1) 0 a 0 (by simp)
  rw [Nat.zero_add] at hc
  unfold F18.J15p stw
  generalize chk b 0 a (s - 1) = v at hc
  simp only [letJ_eq]
  have e1 : IntKind.i64.wrap ((s : Int) - 1) = ((s - 1 : Nat) : Int) := by rw [wrN (by omega) (by omega)]; omega
  have e2 : IntKind.i64.wrap ((a : Int) + ((s - 1 : Nat) : Int)) = ((a + (s - 1) : Nat) : Int) := by rw [wrN (by omega) (by omega)]; omega
  have ap : ∀ x : Int, appp 8 out [x] = some (out ++ [x]) := fun x => appp8 (by simp; omega)
  simp only [e1, e2, ap, bindp_s, shl13 (s - 1) (by omega)]
  have e3 : IntKind.i64.wrap (((2 ^ (s - 1) : Nat) : Int) - 1) = ((2 ^ (s - 1) - 1 : Nat) : Int) := by rw [wrN (by omega) (by omega)]; omega
  rw [e3]
  by_cases c1 : v = 0
  · subst c1; simp
  · have d1 : (((v : Nat) : Int) == 0) = false := by simp; omega
    rw [d1, ifp_ff, if_neg c1]
    by_cases c2 : v = 2 ^ (s - 1) - 1
    · have d2 : (((v : Nat) : Int) == ((2 ^ (s - 1) - 1 : Nat) : Int)) = true := by rw [c2]; simp
      rw [d2, ifp_tt, if_pos c2]
      have e4 : IntKind.i64.wrap (((v : Nat) : Int) * 2) = ((2 * v : Nat) : Int) := by rw [wrN (by omega) (by omega)]; omega
      rw [e4]
    · have d2 : (((v : Nat) : Int) == ((2 ^ (s - 1) - 1 : Nat) : Int)) = false := by
        rw [beq_eq_false_iff_ne]; intro h; exact c2 (by exact_mod_cast h)
      rw [d2, ifp_ff, if_neg c2, f44, bindp_s]
      have hbt := bitN_lt b (a + (s - 1))
      have e4 : IntKind.i64.wrap (2 * ((v : Nat) : Int)) = ((2 * v : Nat) : Int) := by rw [wrN (by omega) (by omega)]; omega
      rw [e4]
      have e5 : IntKind.i64.wrap (((2 * v : Nat) : Int) + ((bitN b (a + (s - 1)) : Nat) : Int)) = ((2 * v + bitN b (a + (s - 1)) : Nat) : Int) := by rw [wrN (by omega) (by omega)]; omega
      have e6 : IntKind.i64.wrap (((a + (s - 1) : Nat) : Int) + 1) = ((a + s : Nat) : Int) := by rw [wrN (by omega) (by omega)]; omega
      rw [e5, e6]
theorem f18L11 {lf : Nat} {kb : Int → List Bool → List Int → Int → Option (List Int × Int)} {out : List Int} {a : Nat} (ha : a < 2 ^ 21) (ho : out.length < 2 ^ 29) :
    ∀ (m k v n : Nat), k + m = s - 1 → m < n → v < 2 ^ k → chk b v (a + k) m = chk b 0 a (s - 1) → F18.L11p lf kb n (s : Int) b out (a : Int) (v : Int) ((s - 1 : Nat) : Int) (k : Int) = kb (s : Int) b (out ++ [((stw b s a).1 : Int)]) ((stw b s a).2 : Int)
  | 0, k, v, 0, hk, hn, hv, hc => by omega
  | 0, k, v, n + 1, hk, hn, hv, hc => by
    unfold F18.L11p
    have e : decide ((k : Int) < ((s - 1 : Nat) : Int)) = false := decide_eq_false (by omega)
    rw [e, ifp_ff]
    rw [show v = chk b 0 a (s - 1) from hc]
    exact f18J15 h0 h1 hb ha ho
  | m + 1, k, v, 0, hk, hn, hv, hc => by omega
  | m + 1, k, v, n + 1, hk, hn, hv, hc => by
    unfold F18.L11p
    have e : decide ((k : Int) < ((s - 1 : Nat) : Int)) = true := decide_eq_true (by omega)
    have e1 : IntKind.i64.wrap ((a : Int) + (k : Int)) = ((a + k : Nat) : Int) := by rw [wrN (by omega) (by omega)]; omega
    rw [e, ifp_tt, e1, f44, bindp_s]
    have hbt := bitN_lt b (a + k)
    have hp : 2 ^ k ≤ 2 ^ 12 := Nat.pow_le_pow_right (by omega) (by omega)
    have e4 : IntKind.i64.wrap (2 * ((v : Nat) : Int)) = ((2 * v : Nat) : Int) := by rw [wrN (by omega) (by omega)]; omega
    rw [e4]
    have e5 : IntKind.i64.wrap (((2 * v : Nat) : Int) + ((bitN b (a + k) : Nat) : Int)) = ((2 * v + bitN b (a + k) : Nat) : Int) := by rw [wrN (by omega) (by omega)]; omega
    have e6 : IntKind.i64.wrap ((k : Int) + 1) = ((k + 1 : Nat) : Int) := by rw [wrN (by omega) (by omega)]; omega
    rw [e5, e6]
    exact f18L11 ha ho m (k + 1) _ n (by omega) (by omega) (by rw [Nat.pow_succ]; omega) hc
theorem stw_le (a : Nat) : a < (stw b s a).2 ∧ (stw b s a).2 ≤ a + s := by
  unfold stw
  split
  · simp only; omega
  · split <;> simp only <;> omega
theorem f18L8 {lf : Nat} (hl : s ≤ lf) : ∀ (f a n : Nat) (out : List Int), f < n → b.length ≤ a + f → a < b.length + 13 → out.length + f < 2 ^ 21 → F18.L8p lf n (s : Int) b out (a : Int) = some (out ++ ints (stuffN b s f a), 0)
  | 0, a, 0, out, hn, _, _, _ => by omega
  | f + 1, a, 0, out, hn, _, _, _ => by omega
  | 0, a, n + 1, out, hn, hle, ha, ho => by
    unfold F18.L8p
    have e : decide ((a : Int) < (b.length : Int)) = false := decide_eq_false (by omega)
    rw [e, ifp_ff]; simp [stuffN, ints]
  | f + 1, a, n + 1, out, hn, hle, ha, ho => by
    unfold F18.L8p
    by_cases c : a < b.length
    · have e : decide ((a : Int) < (b.length : Int)) = true := decide_eq_true (by omega)
      rw [e, ifp_tt]
      unfold F18.J9p
      have e1 : IntKind.i64.wrap ((s : Int) - 1) = ((s - 1 : Nat) : Int) := by rw [wrN (by omega) (by omega)]; omega
      rw [e1]
      have := f18L11 h0 h1 hb (lf := lf) (kb := F18.L8p lf n) (out := out) (a := a) (by omega) (by omega) (s - 1) 0 0 lf (by omega) (by omega) (by simp) rfl
      simp only [Int.natCast_zero] at this
      rw [this]
      obtain ⟨g1, g2⟩ := stw_le h0 h1 hb a
      rw [f18L8 hl f _ n _ (by omega) (by omega) (by omega) (by simp; omega)]
      simp [stuffN, c, ints]
    · have e : decide ((a : Int) < (b.length : Int)) = false := decide_eq_false (by omega)
      rw [e, ifp_ff]; simp [stuffN, c, ints]
theorem f18 {lf : Nat} (hl : 2 ^ 20 + 2 ≤ lf) : F18.p lf b (s : Int) = some (ints (stuffN b s b.length 0), 0) := by
  unfold F18.p
  have e1 : decide ((s : Int) < 2) = false := decide_eq_false (by omega)
  have e2 : decide ((s : Int) > 12) = false := decide_eq_false (by omega)
  rw [e1, ifp_ff, e2]
  unfold F18.J2p
  have e3 : decide ((b.length : Int) > 1048576) = false := decide_eq_false (by omega)
  rw [ifp_ff, e3, ifp_ff]
  unfold F18.J5p
  have := f18L8 h0 h1 hb (lf := lf) (by omega) b.length 0 lf [] (by omega) (by omega) (by omega) (by simp; omega)
  simpa using this

end
end Go.Proofs.YtfadfpcelhdfbaaDoor

open Go Go.Abs Go.Proofs
set_option linter.unusedSimpArgs false
set_option linter.unusedVariables false
set_option linter.unusedSectionVars false
namespace Go.Proofs.YtfadfpcelhdfbaaDoor
/-! ### Unstuff: what both come to -/
/-- The bits of a number from the one with the weight 2^(l+k-1) to that with the weight 2^l. -/
def bitsU (v l : Nat) : Nat → List Bool
  | 0 => []
  | k + 1 => (v / 2 ^ (l + k) % 2 == 1) :: bitsU v l k
theorem bitsU_len (v l : Nat) : ∀ k, (bitsU v l k).length = k
  | 0 => rfl
  | k + 1 => by simp [bitsU, bitsU_len v l k]
theorem bitsU_half (v l : Nat) : ∀ k, bitsU (v / 2) l k = bitsU v (l + 1) k
  | 0 => rfl
  | k + 1 => by
    simp only [bitsU, bitsU_half v l k]
    rw [Nat.div_div_eq_div_mul, show l + 1 + k = (l + k) + 1 by omega, Nat.pow_succ, Nat.mul_comm]
theorem bit1 {v k : Nat} (hv : v < 2 ^ 40) : ((bAnd .i64 ((v / 2 ^ k : Nat) : Int) 1) == 1) = (v / 2 ^ k % 2 == 1) := by
  have : v / 2 ^ k < 2 ^ 40 := Nat.lt_of_le_of_lt (Nat.div_le_self _ _) hv
  rw [and1 this]
  rcases Nat.mod_two_eq_zero_or_one (v / 2 ^ k) with h | h <;> rw [h] <;> rfl
/-- Is a number no codeword? -/
def badW (s : Nat) (w : Int) : Bool := decide (w < 0) || decide (w ≥ ((2 ^ s : Nat) : Int))
def unW (s w : Nat) : List Bool := if w = 1 ∨ w = 2 ^ s - 2 then bitsU w 1 (s - 1) else bitsU w 0 s
def unL (s : Nat) : List Nat → List Bool → Option (List Bool)
  | [], out => some out
  | w :: ws, out => if w = 0 ∨ w = 2 ^ s - 1 then none else unL s ws (out ++ unW s w)
def resU : Option (List Bool) → List Bool × Int
  | none => ([], 22)
  | some l => (l, 0)
theorem unW_len {s w : Nat} : (unW s w).length ≤ s := by
  unfold unW; split <;> rw [bitsU_len] <;> omega
theorem drop_get {α : Type} {l m : List α} {x : α} {i : Nat} (h : l.drop i = x :: m) : ∃ hi : i < l.length, l[i] = x ∧ l.drop (i + 1) = m := by
  have hi : i < l.length := by
    rcases Nat.lt_or_ge i l.length with h1 | h1
    · exact h1
    · rw [List.drop_eq_nil_of_le h1] at h; cases h
  rw [List.drop_eq_getElem_cons hi] at h
  injection h with h2 h3
  exact ⟨hi, h2, h3⟩

section
variable {s : Nat} (h0 : 2 ≤ s) (h1 : s ≤ 12)
include h0 h1
theorem f46 (lf : Nat) (w : Int) : F46.p lf w (s : Int) = some (badW s w, (s : Int)) := by
  unfold F46.p badW
  simp only [letJ_eq, shl13 s (by omega), bindp_s]
  by_cases h : w < 0
  · rw [decide_eq_true h]; rfl
  · rw [decide_eq_false h]; rfl
theorem f69L2 {lf : Nat} {W : List Int} (hW : W.length < 2 ^ 30) : ∀ (ws : List Int) (i n : Nat), W.drop i = ws → i + ws.length = W.length → ws.length < n → ∃ r : Int, F69.L2p lf n W (s : Int) (W.length : Int) (i : Int) = some (r, (s : Int)) ∧ decide (r ≥ 0) = ws.any (badW s)
  | [], i, 0, _, _, hn => by simp at hn
  | w :: ws, i, 0, _, _, hn => by simp at hn
  | [], i, n + 1, hd, hl, hn => by
    simp only [List.length_nil, Nat.add_zero] at hl
    unfold F69.L2p
    have e : decide ((i : Int) < (W.length : Int)) = false := decide_eq_false (by omega)
    rw [e, ifp_ff]
    exact ⟨-1, rfl, rfl⟩
  | w :: ws, i, n + 1, hd, hl, hn => by
    simp only [List.length_cons] at hl hn
    obtain ⟨hi, hw, hd2⟩ := drop_get hd
    unfold F69.L2p
    have e : decide ((i : Int) < (W.length : Int)) = true := decide_eq_true (by omega)
    rw [e, ifp_tt]
    unfold F69.J3p
    rw [idxp_nat hi, bindp_s, hw, f46 h0 h1, bindp_s]
    have e1 : IntKind.i64.wrap ((i : Int) + 1) = ((i + 1 : Nat) : Int) := by rw [wrN (by omega) (by omega)]; omega
    simp only [e1]
    cases hb : badW s w
    · rw [ifp_ff]
      obtain ⟨r, g1, g2⟩ := f69L2 hW ws (i + 1) n hd2 (by omega) (by omega)
      exact ⟨r, g1, by rw [g2, List.any_cons, hb, Bool.false_or]⟩
    · rw [ifp_tt]
      exact ⟨(i : Int), rfl, by rw [List.any_cons, hb, Bool.true_or]; exact decide_eq_true (by omega)⟩
theorem f45 {lf : Nat} {W : List Int} (hW : W.length < 2 ^ 30) (hl : W.length < lf) : F45.p lf W (s : Int) = some (W.any (badW s), (s : Int)) := by
  unfold F45.p F69.p
  obtain ⟨r, g1, g2⟩ := f69L2 h0 h1 (lf := lf) hW W 0 lf rfl (by omega) hl
  simp only [Int.natCast_zero] at g1
  rw [g1, bindp_s, g2]

theorem f20L15 {lf : Nat} {kb : Int → List Bool → List Int → Int → Int → Option (List Bool × Int)} {W : List Int} {N I : Int} {v l : Nat} (hv : v < 2 ^ 40) (hI : IntKind.i64.wrap (I + 1) = I + 1) : ∀ (k n : Nat) (out : List Bool), l + k ≤ 12 → k < n → out.length + k < 2 ^ 30 →
    F20.L15p lf kb n (s : Int) out (v : Int) (l : Int) (((l + k : Nat) : Int) - 1) W N I = kb (s : Int) (out ++ bitsU v l k) W N (I + 1)
  | 0, 0, out, _, hn, _ => by omega
  | k + 1, 0, out, _, hn, _ => by omega
  | 0, n + 1, out, _, hn, _ => by
    unfold F20.L15p
    simp only [letJ_eq]
    have e : decide (((l + 0 : Nat) : Int) - 1 ≥ (l : Int)) = false := decide_eq_false (by omega)
    rw [e, ifp_ff, hI]; simp [bitsU]
  | k + 1, n + 1, out, hk, hn, ho => by
    unfold F20.L15p
    simp only [letJ_eq]
    have e0 : ((l + (k + 1) : Nat) : Int) - 1 = ((l + k : Nat) : Int) := by omega
    have e : decide (((l + k : Nat) : Int) ≥ (l : Int)) = true := decide_eq_true (by omega)
    rw [e0, e, ifp_tt, shrN (by omega), bindp_s, appp_ok (by simp; omega), bindp_s, bit1 hv]
    have e2 : IntKind.i64.wrap (((l + k : Nat) : Int) - 1) = ((l + k : Nat) : Int) - 1 := wr64 (by omega) (by omega)
    rw [e2, f20L15 hv hI k n _ (by omega) (by omega) (by simp; omega)]
    simp [bitsU]

theorem word_eq {w : Nat} (hw : w < 2 ^ s) : (((w : Nat) : Int) == 0) = decide (w = 0) ∧ (((w : Nat) : Int) == ((2 ^ s - 1 : Nat) : Int)) = decide (w = 2 ^ s - 1) := by
  refine ⟨?_, ?_⟩
  · by_cases h : w = 0
    · subst h; rfl
    · rw [decide_eq_false h, beq_eq_false_iff_ne]; omega
  · by_cases h : w = 2 ^ s - 1
    · rw [h]; simp
    · rw [decide_eq_false h, beq_eq_false_iff_ne]; omega
theorem f20L7 {lf : Nat} {W : List Nat} (hWl : W.length < 2 ^ 20) (hr : ∀ w ∈ W, w < 2 ^ s) (hlf : 14 ≤ lf) : ∀ (ws : List Nat) (i n : Nat) (out : List Bool), W.drop i = ws → i + ws.length = W.length → ws.length < n → out.length + 12 * ws.length < 2 ^ 29 →
    F20.L7p lf n (s : Int) out (ints W) (W.length : Int) (i : Int) = some (resU (unL s ws out))
  | [], i, 0, _, _, _, hn, _ => by simp at hn
  | w :: ws, i, 0, _, _, _, hn, _ => by simp at hn
  | [], i, n + 1, out, hd, hl, hn, ho => by
    simp only [List.length_nil, Nat.add_zero] at hl
    unfold F20.L7p
    have e : decide ((i : Int) < (W.length : Int)) = false := decide_eq_false (by omega)
    rw [e, ifp_ff]; rfl
  | w :: ws, i, n + 1, out, hd, hl, hn, ho => by
    simp only [List.length_cons] at hl hn ho
    obtain ⟨hi, hw, hd2⟩ := drop_get hd
    obtain ⟨q1, q2, q3⟩ := p2 h0 h1
    have hw2 : w < 2 ^ s := hr w (by rw [← hw]; exact List.getElem_mem _)
    obtain ⟨w1, w2⟩ := word_eq h0 h1 hw2
    unfold F20.L7p
    have e : decide ((i : Int) < (W.length : Int)) = true := decide_eq_true (by omega)
    rw [e, ifp_tt]
    unfold F20.J8p
    have hi2 : i < (ints W).length := by rw [ints_len]; exact hi
    have hx : (ints W)[i] = (w : Int) := by simp [ints, hw]
    rw [idxp_nat hi2, bindp_s, hx]
    simp only [letJ_eq, shl13 s (by omega), bindp_s]
    have e3 : IntKind.i64.wrap (((2 ^ s : Nat) : Int) - 1) = ((2 ^ s - 1 : Nat) : Int) := by rw [wrN (by omega) (by omega)]; omega
    rw [w1, e3, w2]
    have hI : IntKind.i64.wrap ((i : Int) + 1) = (i : Int) + 1 := wrN (by omega) (by omega)
    simp only [unL]
    by_cases c1 : w = 0
    · rw [decide_eq_true c1, ifp_tt, ifp_tt, if_pos (.inl c1)]; rfl
    · rw [decide_eq_false c1, ifp_ff]
      by_cases c2 : w = 2 ^ s - 1
      · rw [decide_eq_true c2, ifp_tt, if_pos (.inr c2)]; rfl
      · rw [decide_eq_false c2, ifp_ff, if_neg (fun h => h.elim c1 c2)]
        unfold F20.J11p
        simp only [letJ_eq, shl13 s (by omega), bindp_s]
        have e4 : IntKind.i64.wrap (((2 ^ s : Nat) : Int) - 2) = ((2 ^ s - 2 : Nat) : Int) := by rw [wrN (by omega) (by omega)]; omega
        rw [e4]
        have rest : ∀ out2 : List Bool, out2.length ≤ out.length + 12 → F20.L7p lf n (s : Int) out2 (ints W) (W.length : Int) ((i : Int) + 1) = some (resU (unL s ws out2)) := fun out2 ho2 => by
          have := f20L7 hWl hr hlf ws (i + 1) n out2 hd2 (by omega) (by omega) (by omega)
          exact this
        have hul := unW_len (s := s) (w := w)
        have one : F20.J14p lf (F20.L7p lf n) (s : Int) out (w : Int) 1 (ints W) (W.length : Int) (i : Int) = F20.L7p lf n (s : Int) (out ++ bitsU w 1 (s - 1)) (ints W) (W.length : Int) ((i : Int) + 1) := by
          unfold F20.J14p
          have := f20L15 h0 h1 (lf := lf) (kb := F20.L7p lf n) (W := ints W) (N := (W.length : Int)) (I := (i : Int)) (v := w) (l := 1) (by omega) hI (s - 1) lf out (by omega) (by omega) (by omega)
          rw [← this]
          congr 1
          rw [wr64 (by omega) (by omega)]; omega
        have zero : F20.J14p lf (F20.L7p lf n) (s : Int) out (w : Int) 0 (ints W) (W.length : Int) (i : Int) = F20.L7p lf n (s : Int) (out ++ bitsU w 0 s) (ints W) (W.length : Int) ((i : Int) + 1) := by
          unfold F20.J14p
          have := f20L15 h0 h1 (lf := lf) (kb := F20.L7p lf n) (W := ints W) (N := (W.length : Int)) (I := (i : Int)) (v := w) (l := 0) (by omega) hI s lf out (by omega) (by omega) (by omega)
          simp only [Int.natCast_zero, Nat.zero_add] at this
          rw [← this]
          congr 1
          exact wr64 (by omega) (by omega)
        have u1 : (w = 1 ∨ w = 2 ^ s - 2) → unW s w = bitsU w 1 (s - 1) := fun h => by unfold unW; rw [if_pos h]
        have u0 : ¬ (w = 1 ∨ w = 2 ^ s - 2) → unW s w = bitsU w 0 s := fun h => by unfold unW; rw [if_neg h]
        by_cases c3 : w = 1
        · have d : (((w : Nat) : Int) == 1) = true := by rw [c3]; rfl
          rw [d, ifp_tt, ifp_tt, one, u1 (.inl c3)]
          exact rest _ (by simp [bitsU_len]; omega)
        · have d : (((w : Nat) : Int) == 1) = false := by rw [beq_eq_false_iff_ne]; omega
          rw [d, ifp_ff]
          by_cases c4 : w = 2 ^ s - 2
          · have d : (((w : Nat) : Int) == ((2 ^ s - 2 : Nat) : Int)) = true := by rw [← c4]; simp
            rw [d, ifp_tt, one, u1 (.inr c4)]
            exact rest _ (by simp [bitsU_len]; omega)
          · have d : (((w : Nat) : Int) == ((2 ^ s - 2 : Nat) : Int)) = false := by rw [beq_eq_false_iff_ne]; omega
            rw [d, ifp_ff, zero, u0 (fun h => h.elim c3 c4)]
            exact rest _ (by simp [bitsU_len]; omega)
theorem quo12 : quop .i64 1048576 (s : Int) = some ((1048576 / s : Nat) : Int) := by
  unfold quop
  rw [if_neg (by omega), Int.tdiv_eq_ediv_of_nonneg (by omega)]
  congr 1
  have e : (1048576 : Int) / (s : Int) = ((1048576 / s : Nat) : Int) := rfl
  rw [e]
  have := Nat.div_le_self 1048576 s
  generalize 1048576 / s = q at this
  exact wrN (by omega) (by omega)
theorem quo_ge : 87381 ≤ 1048576 / s := by
  rw [Nat.le_div_iff_mul_le (by omega)]
  omega
theorem goodW {W : List Int} (hg : W.any (badW s) = false) : ∃ N : List Nat, W = ints N ∧ ∀ w ∈ N, w < 2 ^ s := by
  refine ⟨W.map Int.toNat, ?_, fun w hw => ?_⟩
  · unfold ints
    rw [List.map_map]
    conv => lhs; rw [← List.map_id W]
    refine List.map_congr_left fun x hx => ?_
    have := List.any_eq_false.1 hg x hx
    unfold badW at this
    simp only [Bool.or_eq_true, decide_eq_true_eq, not_or] at this
    simp only [id_eq, Function.comp_apply]
    omega
  · obtain ⟨x, hx, rfl⟩ := List.mem_map.1 hw
    have := List.any_eq_false.1 hg x hx
    unfold badW at this
    simp only [Bool.or_eq_true, decide_eq_true_eq, not_or] at this
    omega
theorem f20_bad {lf : Nat} {W : List Int} (hWl : W.length < 2 ^ 16) (hl : 2 ^ 16 ≤ lf) (hg : W.any (badW s) = true) : F20.p lf W (s : Int) = some ([], 3) := by
  unfold F20.p
  simp only [letJ_eq]
  have e1 : decide ((s : Int) < 2) = false := decide_eq_false (by omega)
  have e2 : decide ((s : Int) > 12) = false := decide_eq_false (by omega)
  rw [e1, ifp_ff, e2, ifp_ff, f45 h0 h1 (by omega) (by omega), bindp_s, hg, ifp_tt]
theorem f20_good {lf : Nat} {W : List Nat} (hWl : W.length < 2 ^ 16) (hl : 2 ^ 16 ≤ lf) (hr : ∀ w ∈ W, w < 2 ^ s) : F20.p lf (ints W) (s : Int) = some (resU (unL s W [])) := by
  unfold F20.p
  simp only [letJ_eq]
  have e1 : decide ((s : Int) < 2) = false := decide_eq_false (by omega)
  have e2 : decide ((s : Int) > 12) = false := decide_eq_false (by omega)
  have hg : (ints W).any (badW s) = false := by
    rw [List.any_eq_false]
    intro x hx
    unfold ints at hx
    obtain ⟨w, hw, rfl⟩ := List.mem_map.1 hx
    have := hr w hw
    unfold badW
    simp only [Bool.or_eq_true, decide_eq_true_eq, not_or]
    omega
  rw [e1, ifp_ff, e2, ifp_ff, f45 h0 h1 (by rw [ints_len]; omega) (by rw [ints_len]; omega), bindp_s, hg, ifp_ff]
  unfold F20.J3p
  rw [quo12 h0 h1, bindp_s]
  have hq := quo_ge h0 h1
  have e3 : decide (((ints W).length : Int) > ((1048576 / s : Nat) : Int)) = false := decide_eq_false (by rw [ints_len]; omega)
  rw [e3, ifp_ff]
  unfold F20.J5p
  rw [ints_len]
  exact f20L7 h0 h1 (lf := lf) (by omega) hr (by omega) W 0 lf [] rfl (by omega) (by omega) (by simp; omega)

end
/-! ### Lists that are alike -/
theorem f15L4 {lf : Nat} {W : List Bool} (hW : W.length < 2 ^ 30) : ∀ (m i n : Nat), i + m = W.length → m < n → F15.L4p lf n W W (i : Int) = some true
  | m, i, 0, _, hn => by omega
  | 0, i, n + 1, hl, hn => by
    unfold F15.L4p
    have e : decide ((i : Int) < (W.length : Int)) = false := decide_eq_false (by omega)
    rw [e, ifp_ff]
  | m + 1, i, n + 1, hl, hn => by
    have hi : i < W.length := by omega
    unfold F15.L4p
    have e : decide ((i : Int) < (W.length : Int)) = true := decide_eq_true (by omega)
    rw [e, ifp_tt]
    unfold F15.J6p
    have hI : IntKind.i64.wrap ((i : Int) + 1) = ((i + 1 : Nat) : Int) := by rw [wrN (by omega) (by omega)]; omega
    rw [idxp_nat hi, bindp_s, bindp_s, beq_self_eq_true, Bool.not_true, ifp_ff, hI]
    exact f15L4 hW m (i + 1) n (by omega) (by omega)
theorem f15 {lf : Nat} {W : List Bool} (hW : W.length < 2 ^ 30) (hl : W.length < lf) : F15.p lf W W = some true := by
  unfold F15.p F15.J3p
  rw [bne_self_eq_false, ifp_ff]
  exact f15L4 hW W.length 0 lf (by omega) hl
theorem stuffN_len (b : List Bool) (s : Nat) : ∀ f a, (stuffN b s f a).length ≤ f
  | 0, a => Nat.le_refl _
  | f + 1, a => by
    unfold stuffN
    split
    · rw [List.length_cons]; have := stuffN_len b s f (stw b s a).2; omega
    · simp
theorem unL_len {s : Nat} : ∀ (ws : List Nat) (out r : List Bool), unL s ws out = some r → r.length ≤ out.length + s * ws.length
  | [], out, r, h => by simp only [unL, Option.some.injEq] at h; subst h; simp
  | w :: ws, out, r, h => by
    simp only [unL] at h
    split at h
    · cases h
    · have h2 := unL_len ws _ r h
      have := unW_len (s := s) (w := w)
      rw [List.length_append] at h2
      rw [List.length_cons, Nat.mul_succ]; omega

end Go.Proofs.YtfadfpcelhdfbaaDoor

open Go Go.Abs Go.Proofs
set_option linter.unusedSimpArgs false
set_option linter.unusedVariables false
set_option linter.unusedSectionVars false
namespace Go.Proofs.YtfadfpcelhdfbaaDoor
/-! ### AztextStuffed: codewords and the bits that they hold -/
/-- The bits from a place on, with ones behind the last one. -/
def seg (b : List Bool) : Nat → Nat → List Bool
  | _, 0 => []
  | a, k + 1 => b.getD a true :: seg b (a + 1) k
theorem seg_len (b : List Bool) : ∀ k a, (seg b a k).length = k
  | 0, _ => rfl
  | k + 1, a => by simp [seg, seg_len b k (a + 1)]
theorem seg_add (b : List Bool) : ∀ k a m, seg b a (k + m) = seg b a k ++ seg b (a + k) m
  | 0, a, m => by simp [seg]
  | k + 1, a, m => by
    rw [show k + 1 + m = (k + m) + 1 by omega]
    simp only [seg, seg_add b k (a + 1) m, List.cons_append]
    rw [show a + 1 + k = a + (k + 1) by omega]
theorem seg_get (b : List Bool) : ∀ k a i, i < k → (seg b a k)[i]? = some (b.getD (a + i) true)
  | 0, a, i, h => by omega
  | k + 1, a, 0, h => by simp [seg]
  | k + 1, a, i + 1, h => by
    rw [show a + (i + 1) = a + 1 + i by omega]
    simpa [seg] using seg_get b k (a + 1) i (by omega)
theorem bitN_getD (b : List Bool) (i : Nat) : (bitN b i % 2 == 1) = b.getD i true := by
  unfold bitN
  cases b.getD i true <;> rfl
/-- A number's bits: the first ones, and the others. -/
theorem bitsU_add (v l : Nat) : ∀ k m, bitsU v l (k + m) = bitsU v (l + m) k ++ bitsU v l m
  | 0, m => by simp [bitsU]
  | k + 1, m => by
    rw [show k + 1 + m = (k + m) + 1 by omega]
    simp only [bitsU, bitsU_add v l k m, List.cons_append]
    rw [show l + m + k = l + (k + m) by omega]
theorem chk_bits (b : List Bool) : ∀ (m v j k : Nat), bitsU (chk b v j m) 0 (k + m) = bitsU v 0 k ++ seg b j m
  | 0, v, j, k => by simp [chk, seg]
  | m + 1, v, j, k => by
    have hb := bitN_lt b j
    rw [show k + (m + 1) = (k + 1) + m by omega]
    simp only [chk, chk_bits b m _ (j + 1) (k + 1), seg]
    rw [bitsU_add]
    have e1 : bitsU (2 * v + bitN b j) (0 + 1) k = bitsU v 0 k := by
      rw [Nat.zero_add, ← Nat.zero_add 1, ← bitsU_half]
      congr 1; omega
    have e2 : bitsU (2 * v + bitN b j) 0 1 = [b.getD j true] := by
      simp only [bitsU, Nat.pow_zero, Nat.zero_add, Nat.div_one]
      rw [← bitN_getD]
      congr 2
      omega
    rw [e1, e2, List.append_assoc]; rfl

section
variable {b : List Bool} {s : Nat} (h0 : 2 ≤ s) (h1 : s ≤ 12)
include h0 h1
theorem stw_ok (a : Nat) : 1 ≤ (stw b s a).1 ∧ (stw b s a).1 < 2 ^ s - 1 ∧ unW s (stw b s a).1 = seg b a ((stw b s a).2 - a) ∧ a + (s - 1) ≤ (stw b s a).2 ∧ (stw b s a).2 ≤ a + s := by
  obtain ⟨q1, q2, q3⟩ := p2 h0 h1
  have hc := chk_lt b (s - 1) 0 a 0 (by simp)
  rw [Nat.zero_add] at hc
  have hbits := chk_bits b (s - 1) 0 a 0
  simp only [bitsU, Nat.zero_add, List.nil_append] at hbits
  have hbt := bitN_lt b (a + (s - 1))
  unfold stw
  generalize chk b 0 a (s - 1) = v at hc hbits
  have e1 : a + (s - 1) - a = s - 1 := by omega
  split
  · rename_i hv
    subst hv
    refine ⟨by simp, by simp only; omega, ?_, by simp, by simp only; omega⟩
    simp only [e1]
    unfold unW
    rw [if_pos (.inl rfl), ← hbits]
    have := bitsU_half 1 0 (s - 1)
    simpa using this.symm
  · rename_i hv
    split
    · rename_i hv2
      refine ⟨by simp only; omega, by simp only; omega, ?_, by simp, by simp only; omega⟩
      simp only [e1]
      unfold unW
      rw [if_pos (.inr (by omega)), ← hbits]
      have := bitsU_half (2 * v) 0 (s - 1)
      rw [← Nat.zero_add 1, ← this]
      congr 1; omega
    · rename_i hv2
      refine ⟨by simp only; omega, by simp only; omega, ?_, by simp only; omega, by simp⟩
      simp only [show a + s - a = (s - 1) + 1 by omega]
      unfold unW
      rw [if_neg (by omega)]
      rw [show bitsU (2 * v + bitN b (a + (s - 1))) 0 s = bitsU (2 * v + bitN b (a + (s - 1))) 0 ((s - 1) + 1) by congr 1; omega]
      rw [bitsU_add, seg_add, ← hbits]
      congr 1
      · have := bitsU_half (2 * v + bitN b (a + (s - 1))) 0 (s - 1)
        refine this.symm.trans ?_
        congr 1; omega
      · simp only [bitsU, seg, Nat.pow_zero, Nat.zero_add, Nat.div_one]
        rw [← bitN_getD]
        congr 2
        omega
/-- Where the last codeword ends. -/
def stuffE (b : List Bool) (s : Nat) : Nat → Nat → Nat
  | 0, a => a
  | f + 1, a => if a < b.length then stuffE b s f (stw b s a).2 else a
theorem un_stuff : ∀ (f a : Nat) (out : List Bool), b.length ≤ a + f → (∀ w ∈ stuffN b s f a, 1 ≤ w ∧ w < 2 ^ s - 1) ∧ unL s (stuffN b s f a) out = some (out ++ seg b a (stuffE b s f a - a)) ∧
    a ≤ stuffE b s f a ∧ b.length ≤ stuffE b s f a ∧ stuffE b s f a ≤ a + s * (stuffN b s f a).length ∧ (stuffN b s f a = [] ∨ a + (s - 1) * (stuffN b s f a).length + 1 ≤ b.length + (s - 1)) ∧ (stuffN b s f a = [] ∨ stuffE b s f a < b.length + s) ∧ (stuffN b s f a = [] → stuffE b s f a = a)
  | 0, a, out, hle => by
    refine ⟨by simp [stuffN], ?_, by simp [stuffE], by simpa [stuffE] using hle, by simp [stuffE], .inl rfl, .inl rfl, fun _ => rfl⟩
    simp [stuffN, stuffE, unL, seg]
  | f + 1, a, out, hle => by
    obtain ⟨g1, g2, g3, g4, g5⟩ := stw_ok (b := b) h0 h1 a
    by_cases c : a < b.length
    · simp only [stuffN, stuffE, if_pos c]
      obtain ⟨i1, i2, i3, i4, i5, i6, i7, i8⟩ := un_stuff f (stw b s a).2 (out ++ unW s (stw b s a).1) (by omega)
      refine ⟨fun w hw => ?_, ?_, by omega, i4, ?_, .inr ?_, .inr ?_, by simp⟩
      · rcases List.mem_cons.1 hw with rfl | hw
        · exact ⟨g1, g2⟩
        · exact i1 w hw
      · simp only [unL]
        rw [if_neg (by omega), i2, g3, List.append_assoc, ← show (stw b s a).2 - a + (stuffE b s f (stw b s a).2 - (stw b s a).2) = stuffE b s f (stw b s a).2 - a by omega, seg_add]
        rw [show a + ((stw b s a).2 - a) = (stw b s a).2 by omega]
      · rw [List.length_cons, Nat.mul_succ]; omega
      · rw [List.length_cons, Nat.mul_succ]
        rcases i6 with h | h
        · rw [h]; simp only [List.length_nil, Nat.mul_zero]; omega
        · omega
      · rcases i7 with h | h
        · rw [i8 h]; omega
        · exact h
    · simp only [stuffN, stuffE, if_neg c]
      exact ⟨by simp, by simp [unL, seg], Nat.le_refl _, by omega, by simp, by simp, by simp, by simp⟩
theorem f7L7 {lf : Nat} {W : List Nat} (hW : W.length < 2 ^ 30) (hr : ∀ w ∈ W, 1 ≤ w ∧ w < 2 ^ s - 1) : ∀ (ws : List Nat) (i n : Nat), W.drop i = ws → i + ws.length = W.length → ws.length < n →
    F7.L7p lf n b (s : Int) (ints W) (W.length : Int) (i : Int) = F7.J12p lf b (s : Int) (ints W)
  | [], i, 0, _, _, hn => by simp at hn
  | w :: ws, i, 0, _, _, hn => by simp at hn
  | [], i, n + 1, hd, hl, hn => by
    simp only [List.length_nil, Nat.add_zero] at hl
    unfold F7.L7p
    have e : decide ((i : Int) < (W.length : Int)) = false := decide_eq_false (by omega)
    rw [e, ifp_ff]
  | w :: ws, i, n + 1, hd, hl, hn => by
    simp only [List.length_cons] at hl hn
    obtain ⟨hi, hw, hd2⟩ := drop_get hd
    obtain ⟨q1, q2, q3⟩ := p2 h0 h1
    obtain ⟨w1, w2⟩ := hr w (by rw [← hw]; exact List.getElem_mem _)
    unfold F7.L7p
    have e : decide ((i : Int) < (W.length : Int)) = true := decide_eq_true (by omega)
    rw [e, ifp_tt]
    unfold F7.J8p
    have hi2 : i < (ints W).length := by rw [ints_len]; exact hi
    have hx : (ints W)[i] = (w : Int) := by simp [ints, hw]
    have hI : IntKind.i64.wrap ((i : Int) + 1) = ((i + 1 : Nat) : Int) := by rw [wrN (by omega) (by omega)]; omega
    have e3 : IntKind.u64.wrap (s : Int) = (s : Int) := wruN (by omega) (by omega)
    have e4 : IntKind.i64.wrap (((2 ^ s : Nat) : Int) - 1) = ((2 ^ s - 1 : Nat) : Int) := by rw [wrN (by omega) (by omega)]; omega
    simp only [letJ_eq, idxp_nat hi2, bindp_s, hx, e3, shl13 s (by omega), e4, hI]
    rw [decide_eq_false (show ¬ (w : Int) < 1 by omega), ifp_ff, decide_eq_false (show ¬ (w : Int) ≥ ((2 ^ s - 1 : Nat) : Int) by omega), ifp_ff]
    exact f7L7 hW hr ws (i + 1) n hd2 (by omega) (by omega)
theorem f7L16 {lf : Nat} {W : List Int} {c : List Bool} (hc : c.length < 2 ^ 30) (ht : ∀ i, b.length ≤ i → i < c.length → c[i]? = some true) : ∀ (m i n : Nat), b.length ≤ i → i + m = c.length → m < n → F7.L16p lf n b (s : Int) W c (i : Int) = F7.J20p lf b (s : Int) W
  | m, i, 0, _, _, hn => by omega
  | 0, i, n + 1, hb, hl, hn => by
    unfold F7.L16p
    have e : decide ((i : Int) < (c.length : Int)) = false := decide_eq_false (by omega)
    rw [e, ifp_ff]
  | m + 1, i, n + 1, hb, hl, hn => by
    have hi : i < c.length := by omega
    unfold F7.L16p
    have e : decide ((i : Int) < (c.length : Int)) = true := decide_eq_true (by omega)
    rw [e, ifp_tt]
    unfold F7.J18p
    have hx : c[i] = true := by
      have := ht i hb hi
      rw [List.getElem?_eq_getElem hi] at this
      exact Option.some.inj this
    have hI : IntKind.i64.wrap ((i : Int) + 1) = ((i + 1 : Nat) : Int) := by rw [wrN (by omega) (by omega)]; omega
    rw [idxp_nat hi, bindp_s, hx, Bool.not_true, ifp_ff, hI]
    exact f7L16 hc ht m (i + 1) n (by omega) (by omega) (by omega)
theorem seg_take (b : List Bool) : ∀ (E : Nat), b.length ≤ E → (seg b 0 E).take b.length = b := fun E hE => by
  apply List.ext_getElem?
  intro i
  by_cases hi : i < b.length
  · rw [List.getElem?_take_of_lt hi, seg_get b E 0 i (by omega), Nat.zero_add, List.getD_eq_getElem?_getD, List.getElem?_eq_getElem hi]; rfl
  · rw [List.getElem?_eq_none (by rw [List.length_take]; omega), List.getElem?_eq_none (by omega)]
theorem stuffed_s (hb : b.length ≤ 2000) {lf : Nat} (hl : 2 ^ 21 ≤ lf) : F7.J3p lf b (s : Int) = some true := by
  obtain ⟨q1, q2, q3⟩ := p2 h0 h1
  unfold F7.J3p
  rw [f18 h0 h1 (by omega) (by omega), bindp_s]
  simp only [bne_self_eq_false, ifp_ff]
  unfold F7.J6p
  have hn := stuffN_len b s b.length 0
  obtain ⟨i1, i2, i3, i4, i5, i6, i7, i8⟩ := un_stuff (b := b) h0 h1 b.length 0 [] (by omega)
  generalize hN : stuffN b s b.length 0 = N at hn i1 i2 i5 i6 i7 i8
  generalize stuffE b s b.length 0 = E at i2 i3 i4 i5 i7 i8
  simp only [Nat.sub_zero, List.nil_append, Nat.zero_add] at i2 i5 i6
  have hE : E < b.length + s := by
    rcases i7 with h | h
    · rw [i8 h]; omega
    · exact h
  rw [ints_len]
  have := f7L7 (b := b) h0 h1 (lf := lf) (W := N) (by omega) i1 N 0 lf rfl (by omega) (by omega)
  simp only [Int.natCast_zero] at this
  rw [this]
  unfold F7.J12p
  rw [f20_good h0 h1 (by omega) (by omega) (fun w hw => by have := i1 w hw; omega), bindp_s, i2]
  simp only [resU, letJ_eq, bne_self_eq_false, ifp_ff, seg_len]
  have e1 : IntKind.i64.wrap ((b.length : Int) + (s : Int)) = ((b.length + s : Nat) : Int) := by rw [wrN (by omega) (by omega)]; omega
  rw [decide_eq_false (show ¬ (E : Int) < (b.length : Int) by omega), ifp_ff, e1, decide_eq_false (show ¬ (E : Int) ≥ ((b.length + s : Nat) : Int) by omega), ifp_ff]
  rw [subp_nat (a := 0) (b := (b.length : Int)) (i := 0) (j := b.length) rfl rfl (by omega) (by rw [seg_len]; exact i4), bindp_s, List.drop_zero, Nat.sub_zero, seg_take h0 h1 b E i4, f15 (by omega) (by omega), bindp_s, Bool.not_true, ifp_ff]
  unfold F7.J15p
  rw [f7L16 h0 h1 (c := seg b 0 E) (by rw [seg_len]; omega) (fun i hi hi2 => by
    rw [seg_len] at hi2
    rw [seg_get b E 0 i hi2, Nat.zero_add, List.getD_eq_getElem?_getD, List.getElem?_eq_none hi]; rfl) (E - b.length) b.length lf (Nat.le_refl _) (by rw [seg_len]; omega) (by omega)]
  unfold F7.J20p
  simp only [letJ_eq, ints_len]
  have hm1 : s * N.length ≤ 12 * 2000 := Nat.mul_le_mul h1 (by omega)
  have hm2 : (s - 1) * N.length ≤ 12 * 2000 := Nat.mul_le_mul (by omega) (by omega)
  have e2 : IntKind.i64.wrap ((N.length : Int) * (s : Int)) = ((s * N.length : Nat) : Int) := by
    rw [show (N.length : Int) * (s : Int) = ((s * N.length : Nat) : Int) by rw [Int.natCast_mul, Int.mul_comm]]
    exact wrN (by omega) (by omega)
  have e3 : IntKind.i64.wrap ((s : Int) - 1) = ((s - 1 : Nat) : Int) := by rw [wrN (by omega) (by omega)]; omega
  have e4 : IntKind.i64.wrap ((N.length : Int) * ((s - 1 : Nat) : Int)) = (((s - 1) * N.length : Nat) : Int) := by
    rw [show (N.length : Int) * ((s - 1 : Nat) : Int) = (((s - 1) * N.length : Nat) : Int) by rw [Int.natCast_mul, Int.mul_comm]]
    exact wrN (by omega) (by omega)
  have e5 : IntKind.i64.wrap (((b.length + s : Nat) : Int) - 2) = ((b.length + s - 2 : Nat) : Int) := by rw [wrN (by omega) (by omega)]; omega
  have k1 : b.length ≤ s * N.length := Nat.le_trans i4 i5
  have k2 : (s - 1) * N.length ≤ b.length + s - 2 := by
    rcases i6 with h | h
    · rw [h]; simp
    · omega
  generalize s * N.length = x at k1 e2
  generalize (s - 1) * N.length = y at k2 e4
  rw [e2, decide_eq_true (show (x : Int) ≥ (b.length : Int) by omega), ifp_tt, e3, e4, e1, e5, decide_eq_true (show (y : Int) ≤ ((b.length + s - 2 : Nat) : Int) by omega), ifp_tt]
  rfl
end
theorem stuffed_true (b : List Bool) (x : Int) {lf : Nat} (hl : 2 ^ 21 ≤ lf) : F7.p lf b x = some true := by
  unfold F7.p F11.p
  by_cases c1 : (b.length : Int) > 2000
  · rw [decide_eq_true c1, ifp_tt]; rfl
  · rw [decide_eq_false c1, ifp_ff]
    by_cases c3 : x < 2
    · have : F18.p lf b x = some ([], 3) := by unfold F18.p F18.J2p; rw [decide_eq_true c3]; rfl
      unfold F7.J3p
      rw [this, bindp_s, decide_eq_true c3]; rfl
    · by_cases c4 : x > 12
      · have : F18.p lf b x = some ([], 3) := by unfold F18.p F18.J2p; rw [decide_eq_false c3, decide_eq_true c4]; rfl
        unfold F7.J3p
        rw [this, bindp_s, decide_eq_false c3, decide_eq_true c4]; rfl
      · obtain ⟨s, rfl⟩ := Int.eq_ofNat_of_zero_le (show 0 ≤ x by omega)
        exact stuffed_s (by omega) (by omega) (by omega) hl
end Go.Proofs.YtfadfpcelhdfbaaDoor
