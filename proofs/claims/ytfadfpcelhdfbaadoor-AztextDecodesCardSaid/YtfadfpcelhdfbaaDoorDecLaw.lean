/-
  What is decoded, in plain Lean, for every list of bits that the law lets in; no statement of the seat is proved in this file.
-/
import Derived.Test.YtfadfpcelhdfbaaDoorDecTwin
import Derived.Test.YtfadfpcelhdfbaaDoorAbsG
open Go Go.Abs Go.Proofs
set_option linter.unusedSimpArgs false
set_option linter.unusedVariables false
set_option linter.unusedSectionVars false
set_option maxRecDepth 100000
namespace Go.Proofs.YtfadfpcelhdfbaaDoor
/-! ### Decode: bits and numbers -/
theorem wrN {z : Int} (h0 : 0 ≤ z) (h1 : z < 2 ^ 40) : IntKind.i64.wrap z = z := wr64 (by omega) (by omega)
theorem wrM {z : Int} (h0 : -(2 ^ 40) ≤ z) (h1 : z < 2 ^ 40) : IntKind.i64.wrap z = z := wr64 (by omega) (by omega)
theorem drop_get {α : Type} {l m : List α} {x : α} {i : Nat} (h : l.drop i = x :: m) : ∃ hi : i < l.length, l[i] = x ∧ l.drop (i + 1) = m := by
  have hi : i < l.length := by
    rcases Nat.lt_or_ge i l.length with h1 | h1
    · exact h1
    · rw [List.drop_eq_nil_of_le h1] at h; cases h
  rw [List.drop_eq_getElem_cons hi] at h
  injection h with h2 h3
  exact ⟨hi, h2, h3⟩
def fb : Nat → List Bool → Nat
  | v, [] => v
  | v, x :: l => fb (2 * v + if x then 1 else 0) l
theorem fb_lt : ∀ (l : List Bool) (v k : Nat), v < 2 ^ k → fb v l < 2 ^ (k + l.length)
  | [], v, k, h => h
  | x :: l, v, k, h => by
    have := fb_lt l (2 * v + if x then 1 else 0) (k + 1) (by rw [Nat.pow_succ]; split <;> omega)
    rw [List.length_cons, show k + (l.length + 1) = k + 1 + l.length by omega]
    exact this
/-- The number that n bits are. -/
def val (b : List Bool) (a n : Nat) : Nat := fb 0 ((b.drop a).take n)
theorem val_lt (b : List Bool) (a n : Nat) : val b a n < 2 ^ n := by
  have h := fb_lt ((b.drop a).take n) 0 0 (by simp)
  rw [Nat.zero_add] at h
  exact Nat.lt_of_lt_of_le h (Nat.pow_le_pow_right (by omega) (by rw [List.length_take]; omega))
section
variable {b : List Bool} (hb : b.length ≤ 2000)
include hb
theorem f63L5 {lf : Nat} {a n : Nat} {m : Int} {out : List Int} {xs : List Bool} (ha : a + n ≤ b.length) (hx : xs.length ≤ 11) : ∀ (ws : List Bool) (i k v : Nat), xs.drop i = ws → i + ws.length = xs.length → ws.length < k → v < 2 ^ i →
    F63.L5p lf k b (a : Int) m out (n : Int) (v : Int) xs (xs.length : Int) (i : Int) = some (((fb v ws : Nat) : Int), true, ((a + n : Nat) : Int), m, out)
  | [], i, 0, v, _, _, hn, _ => by simp at hn
  | w :: ws, i, 0, v, _, _, hn, _ => by simp at hn
  | [], i, k + 1, v, hd, hl, hn, hv => by
    simp only [List.length_nil, Nat.add_zero] at hl
    unfold F63.L5p
    have e : decide ((i : Int) < (xs.length : Int)) = false := decide_eq_false (by omega)
    have e1 : IntKind.i64.wrap ((a : Int) + (n : Int)) = ((a + n : Nat) : Int) := by rw [wrN (by omega) (by omega)]; omega
    rw [e, ifp_ff, e1]; rfl
  | w :: ws, i, k + 1, v, hd, hl, hn, hv => by
    simp only [List.length_cons] at hl hn
    obtain ⟨hi, hw, hd2⟩ := drop_get hd
    have hp : 2 ^ i ≤ 2 ^ 11 := Nat.pow_le_pow_right (by omega) (by omega)
    unfold F63.L5p
    have e : decide ((i : Int) < (xs.length : Int)) = true := decide_eq_true (by omega)
    rw [e, ifp_tt]
    unfold F63.J6p
    have e1 : IntKind.i64.wrap ((i : Int) + 1) = ((i + 1 : Nat) : Int) := by rw [wrN (by omega) (by omega)]; omega
    have e2 : IntKind.i64.wrap ((v : Int) * 2) = ((2 * v : Nat) : Int) := by rw [wrN (by omega) (by omega)]; omega
    have e3 : IntKind.i64.wrap (((2 * v : Nat) : Int) + 1) = ((2 * v + 1 : Nat) : Int) := by rw [wrN (by omega) (by omega)]; omega
    simp only [letJ_eq, idxp_nat hi, bindp_s, hw, e1, e2, e3]
    cases w
    · rw [ifp_ff]; exact f63L5 ha hx ws (i + 1) k (2 * v + 0) hd2 (by omega) (by omega) (by rw [Nat.pow_succ]; omega)
    · rw [ifp_tt]; exact f63L5 ha hx ws (i + 1) k (2 * v + 1) hd2 (by omega) (by omega) (by rw [Nat.pow_succ]; omega)
theorem f63 {lf : Nat} (hl : 4096 ≤ lf) {a n : Nat} {m : Int} {out : List Int} (ha : a ≤ b.length) (hn : n ≤ 11) :
    F63.p lf b (a : Int) m out (n : Int) = if b.length < a + n then some (0, false, (a : Int), m, out) else some (((val b a n : Nat) : Int), true, ((a + n : Nat) : Int), m, out) := by
  unfold F63.p
  have e : IntKind.i64.wrap ((b.length : Int) - (a : Int)) = ((b.length - a : Nat) : Int) := by rw [wrN (by omega) (by omega)]; omega
  rw [e]
  by_cases c : b.length < a + n
  · rw [if_pos c, decide_eq_true (show ((b.length - a : Nat) : Int) < (n : Int) by omega), ifp_tt]
  · rw [if_neg c, decide_eq_false (show ¬ ((b.length - a : Nat) : Int) < (n : Int) by omega), ifp_ff]
    unfold F63.J3p
    have e1 : IntKind.i64.wrap ((a : Int) + (n : Int)) = ((a + n : Nat) : Int) := by rw [wrN (by omega) (by omega)]; omega
    rw [e1, subp_nat (i := a) (j := a + n) rfl rfl (by omega) (by omega), bindp_s, Nat.add_sub_cancel_left]
    have := f63L5 hb (lf := lf) (a := a) (n := n) (m := m) (out := out) (xs := (b.drop a).take n) (by omega) (by rw [List.length_take]; omega) ((b.drop a).take n) 0 lf 0 rfl (by omega) (by rw [List.length_take]; omega) (by simp)
    simpa [val] using this
theorem f67L7 {lf : Nat} {a n : Nat} (hn : n ≤ 11) (ha : a + n ≤ b.length) : ∀ (r j k v : Nat), j + r = a + n → a ≤ j → r < k → v < 2 ^ (j - a) → F67.L7p lf k b (a : Int) (n : Int) (v : Int) (j : Int) = some (((fb v ((b.drop j).take r) : Nat) : Int), 0)
  | r, j, 0, v, _, _, hk, _ => by omega
  | 0, j, k + 1, v, hj, hja, hk, hv => by
    unfold F67.L7p
    have e1 : IntKind.i64.wrap ((a : Int) + (n : Int)) = ((a + n : Nat) : Int) := by rw [wrN (by omega) (by omega)]; omega
    have e : decide ((j : Int) < ((a + n : Nat) : Int)) = false := decide_eq_false (by omega)
    rw [e1, e, ifp_ff, List.take_zero]; rfl
  | r + 1, j, k + 1, v, hj, hja, hk, hv => by
    have hi : j < b.length := by omega
    have hp : 2 ^ (j - a) ≤ 2 ^ 11 := Nat.pow_le_pow_right (by omega) (by omega)
    have hs : j + 1 - a = (j - a) + 1 := by omega
    unfold F67.L7p
    have e1 : IntKind.i64.wrap ((a : Int) + (n : Int)) = ((a + n : Nat) : Int) := by rw [wrN (by omega) (by omega)]; omega
    have e : decide ((j : Int) < ((a + n : Nat) : Int)) = true := decide_eq_true (by omega)
    rw [e1, e, ifp_tt]
    unfold F67.J9p
    have e1 : IntKind.i64.wrap ((j : Int) + 1) = ((j + 1 : Nat) : Int) := by rw [wrN (by omega) (by omega)]; omega
    have e2 : IntKind.i64.wrap (2 * (v : Int)) = ((2 * v : Nat) : Int) := by rw [wrN (by omega) (by omega)]; omega
    have e3 : IntKind.i64.wrap (((2 * v : Nat) : Int) + 1) = ((2 * v + 1 : Nat) : Int) := by rw [wrN (by omega) (by omega)]; omega
    simp only [letJ_eq, idxp_nat hi, bindp_s, e1, e2, e3]
    rw [List.drop_eq_getElem_cons hi, List.take_succ_cons]
    cases hx : b[j]
    · rw [ifp_ff]; exact f67L7 hn ha r (j + 1) k (2 * v + 0) (by omega) (by omega) (by omega) (by rw [hs, Nat.pow_succ]; omega)
    · rw [ifp_tt]; exact f67L7 hn ha r (j + 1) k (2 * v + 1) (by omega) (by omega) (by omega) (by rw [hs, Nat.pow_succ]; omega)
theorem f67 {lf : Nat} (hl : 4096 ≤ lf) {a n : Nat} (ha : a ≤ b.length) (hn : n ≤ 11) :
    F67.p lf b (a : Int) (n : Int) = if b.length < a + n then some (0, 10) else some (((val b a n : Nat) : Int), 0) := by
  unfold F67.p
  simp only [letJ_eq]
  rw [decide_eq_false (show ¬ (n : Int) < 0 by omega), ifp_ff, decide_eq_false (show ¬ (n : Int) > 62 by omega), ifp_ff, decide_eq_false (show ¬ (a : Int) < 0 by omega), ifp_ff, decide_eq_false (show ¬ (a : Int) > (b.length : Int) by omega), ifp_ff]
  unfold F67.J3p
  have e : IntKind.i64.wrap ((b.length : Int) - (a : Int)) = ((b.length - a : Nat) : Int) := by rw [wrN (by omega) (by omega)]; omega
  rw [e]
  by_cases c : b.length < a + n
  · rw [if_pos c, decide_eq_true (show (n : Int) > ((b.length - a : Nat) : Int) by omega), ifp_tt]
  · rw [if_neg c, decide_eq_false (show ¬ (n : Int) > ((b.length - a : Nat) : Int) by omega), ifp_ff]
    unfold F67.J5p
    exact f67L7 hb (lf := lf) hn (by omega) n a lf 0 rfl (Nat.le_refl _) (by omega) (by simp)
/-! Is it over? -/
def overB (b : List Bool) (a : Nat) : Bool := decide (b.length < a + 12) && (b.drop a).all id
theorem f74L2 {lf : Nat} {xs : List Bool} (hx : xs.length ≤ 2000) : ∀ (ws : List Bool) (i k : Nat), xs.drop i = ws → i + ws.length = xs.length → ws.length < k → ∃ r : Int, F74.L2p lf k xs false (xs.length : Int) (i : Int) = some r ∧ decide (r ≥ 0) = !(ws.all id)
  | [], i, 0, _, _, hn => by simp at hn
  | w :: ws, i, 0, _, _, hn => by simp at hn
  | [], i, k + 1, hd, hl, hn => by
    simp only [List.length_nil, Nat.add_zero] at hl
    unfold F74.L2p
    have e : decide ((i : Int) < (xs.length : Int)) = false := decide_eq_false (by omega)
    rw [e, ifp_ff]
    exact ⟨-1, rfl, rfl⟩
  | w :: ws, i, k + 1, hd, hl, hn => by
    simp only [List.length_cons] at hl hn
    obtain ⟨hi, hw, hd2⟩ := drop_get hd
    unfold F74.L2p
    have e : decide ((i : Int) < (xs.length : Int)) = true := decide_eq_true (by omega)
    rw [e, ifp_tt]
    unfold F74.J3p
    have e1 : IntKind.i64.wrap ((i : Int) + 1) = ((i + 1 : Nat) : Int) := by rw [wrN (by omega) (by omega)]; omega
    rw [idxp_nat hi, bindp_s, hw, e1]
    cases w
    · exact ⟨(i : Int), rfl, by simp⟩
    · obtain ⟨r, g1, g2⟩ := f74L2 hx ws (i + 1) k hd2 (by omega) (by omega)
      exact ⟨r, g1, by rw [g2]; simp⟩
theorem f62 {lf : Nat} (hl : 4096 ≤ lf) {xs : List Bool} (hx : xs.length ≤ 2000) : F62.p lf xs false = some (!(xs.all id)) := by
  unfold F62.p F74.p
  obtain ⟨r, g1, g2⟩ := f74L2 hb (lf := lf) hx xs 0 lf rfl (by omega) (by omega)
  simp only [Int.natCast_zero] at g1
  rw [g1, bindp_s, g2]
theorem f40 {lf : Nat} (hl : 4096 ≤ lf) {a : Nat} {m : Int} {out : List Int} (ha : a ≤ b.length) : F40.p lf b (a : Int) m out = some (overB b a, (a : Int), m, out) := by
  unfold F40.p overB
  simp only [letJ_eq]
  have e : IntKind.i64.wrap ((b.length : Int) - (a : Int)) = ((b.length - a : Nat) : Int) := by rw [wrN (by omega) (by omega)]; omega
  rw [e]
  by_cases c : b.length < a + 12
  · rw [decide_eq_true c, decide_eq_true (show ((b.length - a : Nat) : Int) < 12 by omega), ifp_tt]
    rw [subp_nat (i := a) (j := b.length) rfl rfl ha (Nat.le_refl _), bindp_s, List.take_of_length_le (by rw [List.length_drop]; omega), f62 hb hl (by rw [List.length_drop]; omega), bindp_s]
    simp
  · rw [decide_eq_false c, decide_eq_false (show ¬ ((b.length - a : Nat) : Int) < 12 by omega), ifp_ff]; rfl
theorem f42L2 {lf : Nat} {a : Nat} (ha : a ≤ b.length) : ∀ (ws : List Bool) (i k : Nat), b.drop i = ws → i + ws.length = b.length → ws.length < k → F42.L2p lf k b (a : Int) (i : Int) = some (decide (b.length < a + 12) && ws.all id)
  | [], i, 0, _, _, hn => by simp at hn
  | w :: ws, i, 0, _, _, hn => by simp at hn
  | [], i, k + 1, hd, hl, hn => by
    simp only [List.length_nil, Nat.add_zero] at hl
    unfold F42.L2p
    have e : decide ((i : Int) < (b.length : Int)) = false := decide_eq_false (by omega)
    have e2 : IntKind.i64.wrap ((b.length : Int) - (a : Int)) = ((b.length - a : Nat) : Int) := by rw [wrN (by omega) (by omega)]; omega
    rw [e, ifp_ff, e2]
    simp only [List.all_nil, Bool.and_true, Option.some.injEq, decide_eq_decide]
    omega
  | w :: ws, i, k + 1, hd, hl, hn => by
    simp only [List.length_cons] at hl hn
    obtain ⟨hi, hw, hd2⟩ := drop_get hd
    unfold F42.L2p
    have e : decide ((i : Int) < (b.length : Int)) = true := decide_eq_true (by omega)
    rw [e, ifp_tt]
    unfold F42.J4p
    have e1 : IntKind.i64.wrap ((i : Int) + 1) = ((i + 1 : Nat) : Int) := by rw [wrN (by omega) (by omega)]; omega
    rw [idxp_nat hi, bindp_s, hw, e1]
    cases w
    · simp
    · rw [Bool.not_true, ifp_ff, f42L2 ha ws (i + 1) k hd2 (by omega) (by omega)]; simp
theorem f42 {lf : Nat} (hl : 4096 ≤ lf) {a : Nat} (ha : a ≤ b.length) : F42.p lf b (a : Int) = some (overB b a) := by
  unfold F42.p overB
  exact f42L2 hb (lf := lf) ha (b.drop a) a lf rfl (by rw [List.length_drop]; omega) (by rw [List.length_drop]; omega)
end
/-! The tables of latches and shifts -/
def latI (m v : Nat) : Int := (F54.p 0 (m : Int) (v : Int)).getD (-1)
def shiI (m v : Nat) : Int := (F53.p 0 (m : Int) (v : Int)).getD (-1)
def small (x : Int) : Bool := x == -1 || x == 0 || x == 1 || x == 2 || x == 3 || x == 4
def latOk (m v : Nat) : Bool := F54.p 0 (m : Int) (v : Int) == some (latI m v) && F60.p 0 (m : Int) (v : Int) == some (latI m v) && small (latI m v) && F53.p 0 (m : Int) (v : Int) == some (shiI m v) && F61.p 0 (m : Int) (v : Int) == some (shiI m v) && small (shiI m v)
theorem latOk_all : ((List.range 5).all fun m => (List.range 32).all fun v => latOk m v) = true := by decide +kernel
theorem lat_facts {m v : Nat} (hm : m < 5) (hv : v < 32) (lf : Nat) : F54.p lf (m : Int) (v : Int) = some (latI m v) ∧ F60.p lf (m : Int) (v : Int) = some (latI m v) ∧ small (latI m v) = true ∧ F53.p lf (m : Int) (v : Int) = some (shiI m v) ∧ F61.p lf (m : Int) (v : Int) = some (shiI m v) ∧ small (shiI m v) = true := by
  have h := latOk_all
  rw [List.all_eq_true] at h
  have h := h m (List.mem_range.2 hm)
  rw [List.all_eq_true] at h
  have h := h v (List.mem_range.2 hv)
  unfold latOk at h
  simp only [Bool.and_eq_true, beq_iff_eq] at h
  obtain ⟨⟨⟨⟨⟨h1, h2⟩, h3⟩, h4⟩, h5⟩, h6⟩ := h
  exact ⟨h1, h2, h3, h4, h5, h6⟩
/-- Where there are no bytes, no latch and no shift: a run of bytes, or nothing. -/
def restOk (m v : Nat) : Bool := !((tabS m v).size == 0 && decide (latI m v < 0) && decide (shiI m v < 0) && decide (v < if m = 4 then 16 else 32)) || (if m = 3 then v != 31 else v == 31)
theorem restOk_all : ((List.range 5).all fun m => (List.range 32).all fun v => restOk m v) = true := by decide +kernel
def sizeOk (m v : Nat) : Bool := decide ((tabS m v).size ≤ 2)
theorem sizeOk_all : ((List.range 5).all fun m => (List.range 32).all fun v => sizeOk m v) = true := by decide +kernel
theorem all2 {p : Nat → Nat → Bool} (h : ((List.range 5).all fun m => (List.range 32).all fun v => p m v) = true) {m v : Nat} (hm : m < 5) (hv : v < 32) : p m v = true := by
  rw [List.all_eq_true] at h
  have h := h m (List.mem_range.2 hm)
  rw [List.all_eq_true] at h
  exact h v (List.mem_range.2 hv)
theorem textp_nat {m v : Nat} (hm : m < 5) (hv : v < 32) : textp (m : Int) (v : Int) = some (tabS m v) := by
  unfold textp
  rw [if_pos ⟨by omega, by omega, by omega, by omega⟩]; rfl
end Go.Proofs.YtfadfpcelhdfbaaDoor

open Go Go.Abs Go.Proofs
set_option linter.unusedSimpArgs false
set_option linter.unusedVariables false
set_option linter.unusedSectionVars false
set_option maxRecDepth 100000
namespace Go.Proofs.YtfadfpcelhdfbaaDoor
/-! ### Decode: a step -/
inductive StR where
  | err (e : Int)
  | ok (a m : Nat) (out : List Int)
def bytesR (b : List Bool) : Nat → Nat → List Int → Option (Nat × List Int)
  | 0, a, out => some (a, out)
  | k + 1, a, out => if b.length < a + 8 then none else bytesR b k (a + 8) (out ++ [IntKind.u8.wrap ((val b a 8 : Nat) : Int)])
def finR (m : Nat) : Option (Nat × List Int) → StR
  | none => .err 10
  | some (a, o) => .ok a m o
def binR (b : List Bool) (a m : Nat) (out : List Int) : StR :=
  if b.length < a + 5 then .err 10
  else if val b a 5 = 0 then
    if b.length < a + 5 + 11 then .err 10 else finR m (bytesR b (val b (a + 5) 11 + 31) (a + 5 + 11) out)
  else finR m (bytesR b (val b a 5) (a + 5) out)
def wid (m : Nat) : Nat := if m = 4 then 4 else 5
def shR (b : List Bool) (a m sh : Nat) (out : List Int) : StR :=
  if b.length < a + 5 then .err 10
  else if (tabS sh (val b a 5)).size = 0 then .err 22
  else .ok (a + 5) m (out ++ bytp (tabS sh (val b a 5)))
def stepR (b : List Bool) (a m : Nat) (out : List Int) : StR :=
  if b.length < a + wid m then .err 10
  else if (tabS m (val b a (wid m))).size ≠ 0 then .ok (a + wid m) m (out ++ bytp (tabS m (val b a (wid m))))
  else if 0 ≤ latI m (val b a (wid m)) then .ok (a + wid m) (latI m (val b a (wid m))).toNat out
  else if 0 ≤ shiI m (val b a (wid m)) then shR b (a + wid m) m (shiI m (val b a (wid m))).toNat out
  else if m = 3 then .err 22 else binR b (a + wid m) m out
def R41 (r : Int × Int × Int × List Int) : StR → Prop
  | .err e => r.1 = e ∧ e ≠ 0
  | .ok a m o => r = (0, (a : Int), (m : Int), o)
def R43 (n : Nat) (r : Int × Int × List Int × Int) : StR → Prop
  | .err e => r.2.2.2 = e ∧ e ≠ 0 ∧ ∃ a : Nat, r.1 = (a : Int) ∧ a ≤ n
  | .ok a m o => r = ((a : Int), (m : Int), o, 0)
theorem wid_le (m : Nat) : 4 ≤ wid m ∧ wid m ≤ 5 := by unfold wid; split <;> omega
theorem emp {s : ByteArray} : (s.toList == (⟨#[]⟩ : ByteArray).toList) = decide (s.size = 0) := by
  have e : (⟨#[]⟩ : ByteArray).toList = [] := by rw [ByteArray.toList_eq]
  rw [e]
  by_cases h : s.size = 0
  · have : s.toList = [] := by
      rw [ByteArray.toList_eq]
      obtain ⟨d⟩ := s
      have hd : d.size = 0 := h
      have : d = #[] := Array.eq_empty_of_size_eq_zero hd
      subst this; rfl
    rw [this, decide_eq_true h]; rfl
  · rw [decide_eq_false h]
    cases hl : s.toList with
    | nil =>
      exfalso
      apply h
      rw [ByteArray.toList_eq] at hl
      obtain ⟨d⟩ := s
      have : d = #[] := Array.toList_eq_nil_iff.1 hl
      subst this; rfl
    | cons x l => rfl
theorem bytp_len' (s : ByteArray) : (bytp s).length = s.size := bytp_len s
theorem small_spec {x : Int} (h : small x = true) : x = -1 ∨ ∃ n : Nat, x = n ∧ n < 5 := by
  unfold small at h
  simp only [Bool.or_eq_true, beq_iff_eq] at h
  rcases h with ((((h | h) | h) | h) | h) | h
  · exact .inl h
  all_goals right
  · exact ⟨0, h, by omega⟩
  · exact ⟨1, h, by omega⟩
  · exact ⟨2, h, by omega⟩
  · exact ⟨3, h, by omega⟩
  · exact ⟨4, h, by omega⟩

section
variable {b : List Bool} (hb : b.length ≤ 2000) {lf : Nat} (hl : 4096 ≤ lf)
include hb hl
theorem f66stop {n : Nat} {a : Nat} {m k : Int} {out : List Int} : F66.L5p lf (n + 1) b (a : Int) m out k false = some (10, (a : Int), m, out) := by
  unfold F66.L5p
  simp only [letJ_eq, ifp_ff, Bool.not_false, ifp_tt]
theorem f66L5 {m : Int} : ∀ (k n a : Nat) (out : List Int), k < n → k ≤ 4000 → a ≤ b.length → out.length + k < 2 ^ 30 → ∃ r, F66.L5p lf n b (a : Int) m out (k : Int) true = some r ∧ (match bytesR b k a out with | none => r.1 = 10 | some (a', o) => r = (0, (a' : Int), m, o))
  | k, 0, a, out, hk, _, _, _ => by omega
  | 0, n + 1, a, out, hk, _, ha, ho => by
    unfold F66.L5p
    simp only [letJ_eq, ifp_tt]
    rw [decide_eq_false (show ¬ ((0 : Nat) : Int) > 0 by omega), ifp_ff, Bool.not_true, ifp_ff]
    exact ⟨_, rfl, rfl⟩
  | k + 1, n + 1, a, out, hk, hk2, ha, ho => by
    unfold F66.L5p
    simp only [letJ_eq, ifp_tt]
    rw [decide_eq_true (show ((k + 1 : Nat) : Int) > 0 by omega), ifp_tt]
    unfold F66.J7p
    have h63 := f63 hb (lf := lf) hl (a := a) (n := 8) (m := m) (out := out) ha (by omega)
    have e8 : (8 : Int) = ((8 : Nat) : Int) := rfl
    rw [e8, h63]
    have e1 : IntKind.i64.wrap (((k + 1 : Nat) : Int) - 1) = (k : Int) := by rw [wrN (by omega) (by omega)]; omega
    simp only [letJ_eq, e1]
    by_cases c : b.length < a + 8
    · rw [if_pos c]
      simp only [bindp_s, ifp_ff, bytesR, if_pos c]
      obtain ⟨n', rfl⟩ : ∃ n', n = n' + 1 := ⟨n - 1, by omega⟩
      rw [f66stop hb hl]
      exact ⟨_, rfl, rfl⟩
    · rw [if_neg c]
      simp only [bindp_s, ifp_tt, bytesR, if_neg c]
      rw [appp_ok (by simp; omega), bindp_s]
      exact f66L5 k n (a + 8) _ (by omega) (by omega) (by omega) (by simp; omega)
theorem f66 {a m : Nat} {out : List Int} (ha : a ≤ b.length) (ho : out.length < 2 ^ 29) : ∃ r, F66.p lf b (a : Int) (m : Int) out = some r ∧ R41 r (binR b a m out) := by
  have stop : ∀ (a : Nat) (k : Int), F66.J5p lf b (a : Int) (m : Int) out k false = some (10, (a : Int), (m : Int), out) := fun a k => by
    unfold F66.J5p
    obtain ⟨n', rfl⟩ : ∃ n', lf = n' + 1 := ⟨lf - 1, by omega⟩
    exact f66stop hb hl
  have go : ∀ (k a : Nat), k ≤ 4000 → a ≤ b.length → ∃ r, F66.J5p lf b (a : Int) (m : Int) out (k : Int) true = some r ∧ R41 r (finR m (bytesR b k a out)) := fun k a hk ha => by
    unfold F66.J5p
    obtain ⟨r, h1, h2⟩ := f66L5 hb hl (m := (m : Int)) k lf a out (by omega) hk ha (by omega)
    refine ⟨r, h1, ?_⟩
    cases hx : bytesR b k a out with
    | none => rw [hx] at h2; exact ⟨h2, by decide⟩
    | some p => rw [hx] at h2; exact h2
  unfold F66.p binR
  have h63 := f63 hb (lf := lf) hl (a := a) (n := 5) (m := (m : Int)) (out := out) ha (by omega)
  rw [show (5 : Int) = ((5 : Nat) : Int) from rfl, h63]
  by_cases c : b.length < a + 5
  · rw [if_pos c, if_pos c]
    simp only [bindp_s, ifp_ff]
    unfold F66.J3p
    rw [ifp_ff, stop]
    exact ⟨_, rfl, rfl, by decide⟩
  · rw [if_neg c, if_neg c]
    simp only [bindp_s, ifp_tt]
    unfold F66.J3p
    have hv := val_lt b a 5
    by_cases c2 : val b a 5 = 0
    · rw [if_pos c2]
      have : (((val b a 5 : Nat) : Int) == 0) = true := by rw [c2]; rfl
      rw [this, ifp_tt]
      have h63 := f63 hb (lf := lf) hl (a := a + 5) (n := 11) (m := (m : Int)) (out := out) (by omega) (by omega)
      rw [show (11 : Int) = ((11 : Nat) : Int) from rfl, h63]
      by_cases c3 : b.length < a + 5 + 11
      · rw [if_pos c3, if_pos c3]
        simp only [bindp_s]
        rw [stop]
        exact ⟨_, rfl, rfl, by decide⟩
      · rw [if_neg c3, if_neg c3]
        simp only [bindp_s]
        have hv2 := val_lt b (a + 5) 11
        have e1 : IntKind.i64.wrap (((val b (a + 5) 11 : Nat) : Int) + 31) = ((val b (a + 5) 11 + 31 : Nat) : Int) := by rw [wrN (by omega) (by omega)]; omega
        rw [e1]
        exact go _ _ (by omega) (by omega)
    · rw [if_neg c2]
      have : (((val b a 5 : Nat) : Int) == 0) = false := by rw [beq_eq_false_iff_ne]; omega
      rw [this, ifp_ff]
      exact go _ _ (by omega) (by omega)
theorem f65 {a m sh : Nat} {out : List Int} (ha : a ≤ b.length) (hsh : sh < 5) (ho : out.length < 2 ^ 29) : ∃ r, F65.p lf b (a : Int) (m : Int) out (sh : Int) = some r ∧ R41 r (shR b a m sh out) := by
  unfold F65.p shR
  have h63 := f63 hb (lf := lf) hl (a := a) (n := 5) (m := (m : Int)) (out := out) ha (by omega)
  rw [show (5 : Int) = ((5 : Nat) : Int) from rfl, h63]
  by_cases c : b.length < a + 5
  · rw [if_pos c, if_pos c]
    simp only [bindp_s, Bool.not_false, ifp_tt]
    exact ⟨_, rfl, rfl, by decide⟩
  · rw [if_neg c, if_neg c]
    simp only [bindp_s, Bool.not_true, ifp_ff]
    unfold F65.J4p F64.p
    have hv := val_lt b a 5
    have hs := all2 sizeOk_all hsh hv
    rw [textp_nat hsh hv, bindp_s, emp]
    by_cases c2 : (tabS sh (val b a 5)).size = 0
    · rw [decide_eq_true c2, ifp_tt, if_pos c2]
      exact ⟨_, rfl, rfl, by decide⟩
    · unfold sizeOk at hs
      have hs := of_decide_eq_true hs
      rw [decide_eq_false c2, ifp_ff, if_neg c2, appp_ok (by rw [bytp_len']; omega), bindp_s]
      exact ⟨_, rfl, rfl⟩
theorem f41 {a m : Nat} {out : List Int} (ha : a ≤ b.length) (hm : m < 5) (ho : out.length < 2 ^ 29) : ∃ r, F41.p lf b (a : Int) (m : Int) out = some r ∧ R41 r (stepR b a m out) := by
  obtain ⟨w0, w1⟩ := wid_le m
  have e51 : F51.p lf (m : Int) = some ((wid m : Nat) : Int) := by
    unfold F51.p wid
    by_cases h : m = 4
    · rw [if_pos h, h]; rfl
    · rw [if_neg h, show ((m : Int) == 4) = false by rw [beq_eq_false_iff_ne]; omega]; rfl
  unfold F41.p stepR
  rw [e51, bindp_s]
  have h63 := f63 hb (lf := lf) hl (a := a) (n := wid m) (m := (m : Int)) (out := out) ha (by omega)
  rw [h63]
  by_cases c : b.length < a + wid m
  · rw [if_pos c, if_pos c]
    simp only [bindp_s, Bool.not_false, ifp_tt]
    exact ⟨_, rfl, rfl, by decide⟩
  · rw [if_neg c, if_neg c]
    simp only [bindp_s, Bool.not_true, ifp_ff]
    have hvw := val_lt b a (wid m)
    have hv : val b a (wid m) < 32 := Nat.lt_of_lt_of_le hvw (Nat.pow_le_pow_right (show 0 < 2 by omega) w1)
    have hvm : val b a (wid m) < if m = 4 then 16 else 32 := by
      unfold wid at hvw ⊢
      split at hvw
      · rename_i h4; rw [if_pos h4, if_pos h4]; exact hvw
      · rename_i h4; rw [if_neg h4, if_neg h4]; exact hvw
    generalize val b a (wid m) = v at hv hvm
    obtain ⟨l1, l2, l3, s1, s2, s3⟩ := lat_facts hm hv lf
    have hs := of_decide_eq_true (all2 sizeOk_all hm hv)
    unfold F41.J4p F64.p
    rw [textp_nat hm hv, bindp_s, emp]
    by_cases c2 : (tabS m v).size = 0
    · rw [decide_eq_true c2, Bool.not_true, ifp_ff, if_neg (fun h => h c2)]
      unfold F41.J8p
      rw [l1, bindp_s]
      rcases small_spec l3 with h | ⟨L, h, hL⟩
      · rw [h, decide_eq_false (show ¬ (-1 : Int) ≥ 0 by omega), ifp_ff, if_neg (show ¬ (0 : Int) ≤ -1 by omega)]
        unfold F41.J12p
        rw [s1, bindp_s]
        rcases small_spec s3 with h' | ⟨S, h', hS⟩
        · have hrest := all2 restOk_all hm hv
          unfold restOk at hrest
          rw [c2, h, h', decide_eq_true hvm] at hrest
          rw [h', decide_eq_false (show ¬ (-1 : Int) ≥ 0 by omega), ifp_ff, if_neg (show ¬ (0 : Int) ≤ -1 by omega)]
          by_cases hm3 : m = 3
          · rw [if_pos hm3] at hrest ⊢
            have : ((v : Int) == 31) = false := by
              rw [beq_eq_false_iff_ne]
              intro h31
              have : v = 31 := by omega
              rw [this] at hrest; cases hrest
            rw [this, ifp_ff]
            exact ⟨_, rfl, rfl, by decide⟩
          · rw [if_neg hm3] at hrest ⊢
            have : ((v : Int) == 31) = true := by
              have h31 : v = 31 := by simpa using hrest
              rw [h31]; rfl
            rw [this, ifp_tt]
            obtain ⟨r, g1, g2⟩ := f66 hb hl (a := a + wid m) (m := m) (out := out) (by omega) ho
            rw [g1, bindp_s]
            exact ⟨r, rfl, g2⟩
        · rw [h', decide_eq_true (show (S : Int) ≥ 0 by omega), ifp_tt, if_pos (show (0 : Int) ≤ S by omega), Int.toNat_natCast]
          obtain ⟨r, g1, g2⟩ := f65 hb hl (a := a + wid m) (m := m) (sh := S) (out := out) (by omega) hS ho
          rw [g1, bindp_s]
          exact ⟨r, rfl, g2⟩
      · rw [h, decide_eq_true (show (L : Int) ≥ 0 by omega), ifp_tt, if_pos (show (0 : Int) ≤ L by omega), Int.toNat_natCast]
        exact ⟨_, rfl, rfl⟩
    · rw [decide_eq_false c2, Bool.not_false, ifp_tt, if_pos c2, appp_ok (by rw [bytp_len']; omega), bindp_s]
      exact ⟨_, rfl, rfl⟩

/-! The reference -/
theorem f68L12 {m p q : Int} {N : Nat} (hN : N ≤ 4000) : ∀ (k i n a : Nat) (out : List Int), i + k = N → k < n → a ≤ b.length → out.length + k < 2 ^ 30 →
    ∃ r, F68.L12p lf n b (a : Int) m out p q (N : Int) (i : Int) = some r ∧ (match bytesR b k a out with | none => r.2.2.2 = 10 ∧ ∃ a' : Nat, r.1 = (a' : Int) ∧ a' ≤ b.length | some (a', o) => r = ((a' : Int), m, o, 0))
  | k, i, 0, a, out, _, hk, _, _ => by omega
  | 0, i, n + 1, a, out, hi, hk, ha, ho => by
    unfold F68.L12p
    rw [decide_eq_false (show ¬ (i : Int) < (N : Int) by omega), ifp_ff]
    exact ⟨_, rfl, rfl⟩
  | k + 1, i, n + 1, a, out, hi, hk, ha, ho => by
    unfold F68.L12p
    rw [decide_eq_true (show (i : Int) < (N : Int) by omega), ifp_tt]
    unfold F68.J14p
    have h67 := f67 hb (lf := lf) hl (a := a) (n := 8) ha (by omega)
    rw [show (8 : Int) = ((8 : Nat) : Int) from rfl, h67]
    by_cases c : b.length < a + 8
    · rw [if_pos c]
      simp only [bindp_s, bytesR, if_pos c]
      exact ⟨_, rfl, rfl, a, rfl, ha⟩
    · rw [if_neg c]
      simp only [bindp_s, bytesR, if_neg c, bne_self_eq_false, ifp_ff]
      rw [appp_ok (by simp; omega), bindp_s]
      have e1 : IntKind.i64.wrap ((a : Int) + ((8 : Nat) : Int)) = ((a + 8 : Nat) : Int) := by rw [wrN (by omega) (by omega)]; omega
      have e2 : IntKind.i64.wrap ((i : Int) + 1) = ((i + 1 : Nat) : Int) := by rw [wrN (by omega) (by omega)]; omega
      rw [e1, e2]
      exact f68L12 hN k (i + 1) n (a + 8) _ (by omega) (by omega) (by omega) (by simp; omega)
theorem f68 {a m : Nat} {out : List Int} (ha : a ≤ b.length) (ho : out.length < 2 ^ 29) : ∃ r, F68.p lf b (a : Int) (m : Int) out = some r ∧ R43 b.length r (binR b a m out) := by
  have go : ∀ (k a : Nat), k ≤ 4000 → a ≤ b.length → ∃ r, F68.J11p lf b (a : Int) (m : Int) out 0 0 (k : Int) = some r ∧ R43 b.length r (finR m (bytesR b k a out)) := fun k a hk ha => by
    unfold F68.J11p
    obtain ⟨r, h1, h2⟩ := f68L12 hb hl (m := (m : Int)) (p := 0) (q := 0) hk k 0 lf a out (by omega) (by omega) ha (by omega)
    refine ⟨r, h1, ?_⟩
    cases hx : bytesR b k a out with
    | none => rw [hx] at h2; exact ⟨h2.1, by decide, h2.2⟩
    | some p => rw [hx] at h2; exact h2
  unfold F68.p binR
  have h67 := f67 hb (lf := lf) hl (a := a) (n := 5) ha (by omega)
  rw [show (5 : Int) = ((5 : Nat) : Int) from rfl, h67]
  by_cases c : b.length < a + 5
  · rw [if_pos c, if_pos c]
    simp only [bindp_s]
    exact ⟨_, rfl, rfl, by decide, a, rfl, ha⟩
  · rw [if_neg c, if_neg c]
    simp only [bindp_s, bne_self_eq_false, ifp_ff]
    unfold F68.J4p
    have e1 : IntKind.i64.wrap ((a : Int) + 5) = ((a + 5 : Nat) : Int) := by rw [wrN (by omega) (by omega)]; omega
    have hv := val_lt b a 5
    rw [e1]
    by_cases c2 : val b a 5 = 0
    · rw [if_pos c2]
      have : (((val b a 5 : Nat) : Int) == 0) = true := by rw [c2]; rfl
      rw [this, ifp_tt]
      have h67 := f67 hb (lf := lf) hl (a := a + 5) (n := 11) (by omega) (by omega)
      rw [show (11 : Int) = ((11 : Nat) : Int) from rfl, h67]
      by_cases c3 : b.length < a + 5 + 11
      · rw [if_pos c3, if_pos c3]
        simp only [bindp_s]
        exact ⟨_, rfl, rfl, by decide, a + 5, rfl, by omega⟩
      · rw [if_neg c3, if_neg c3]
        simp only [bindp_s, bne_self_eq_false, ifp_ff]
        have hv2 := val_lt b (a + 5) 11
        have e1 : IntKind.i64.wrap (((val b (a + 5) 11 : Nat) : Int) + 31) = ((val b (a + 5) 11 + 31 : Nat) : Int) := by rw [wrN (by omega) (by omega)]; omega
        have e2 : IntKind.i64.wrap (((a + 5 : Nat) : Int) + ((11 : Nat) : Int)) = ((a + 5 + 11 : Nat) : Int) := by rw [wrN (by omega) (by omega)]; omega
        rw [e1, e2]
        exact go _ _ (by omega) (by omega)
    · rw [if_neg c2]
      have : (((val b a 5 : Nat) : Int) == 0) = false := by rw [beq_eq_false_iff_ne]; omega
      rw [this, ifp_ff]
      exact go _ _ (by omega) (by omega)
theorem f43 {a m : Nat} {out : List Int} (ha : a ≤ b.length) (hm : m < 5) (ho : out.length < 2 ^ 29) : ∃ r, F43.p lf b (a : Int) (m : Int) out = some r ∧ R43 b.length r (stepR b a m out) := by
  obtain ⟨w0, w1⟩ := wid_le m
  have e57 : F57.p lf (m : Int) = some ((wid m : Nat) : Int) := by
    unfold F57.p wid
    by_cases h : m = 4
    · rw [if_pos h, h]; rfl
    · rw [if_neg h, show ((m : Int) == 4) = false by rw [beq_eq_false_iff_ne]; omega]; rfl
  unfold F43.p stepR
  rw [e57, bindp_s]
  have h67 := f67 hb (lf := lf) hl (a := a) (n := wid m) ha (by omega)
  rw [h67]
  by_cases c : b.length < a + wid m
  · rw [if_pos c, if_pos c]
    simp only [bindp_s]
    exact ⟨_, rfl, rfl, by decide, a, rfl, ha⟩
  · rw [if_neg c, if_neg c]
    simp only [bindp_s, bne_self_eq_false, ifp_ff]
    have hvw := val_lt b a (wid m)
    have hv : val b a (wid m) < 32 := Nat.lt_of_lt_of_le hvw (Nat.pow_le_pow_right (show 0 < 2 by omega) w1)
    generalize val b a (wid m) = v at hv
    obtain ⟨l1, l2, l3, s1, s2, s3⟩ := lat_facts hm hv lf
    have hs := of_decide_eq_true (all2 sizeOk_all hm hv)
    unfold F43.J4p F58.p
    have e1 : IntKind.i64.wrap ((a : Int) + ((wid m : Nat) : Int)) = ((a + wid m : Nat) : Int) := by rw [wrN (by omega) (by omega)]; omega
    rw [e57, bindp_s, textp_nat hm hv, bindp_s]
    simp only [letJ_eq, emp, e1]
    by_cases c2 : (tabS m v).size = 0
    · rw [decide_eq_true c2, Bool.not_true, ifp_ff, if_neg (fun h => h c2), l2, bindp_s]
      rcases small_spec l3 with h | ⟨L, h, hL⟩
      · rw [h, decide_eq_false (show ¬ (-1 : Int) ≥ 0 by omega), ifp_ff, if_neg (show ¬ (0 : Int) ≤ -1 by omega), s2, bindp_s]
        rcases small_spec s3 with h' | ⟨S, h', hS⟩
        · rw [h', decide_eq_false (show ¬ (-1 : Int) ≥ 0 by omega), ifp_ff, if_neg (show ¬ (0 : Int) ≤ -1 by omega)]
          by_cases hm3 : m = 3
          · rw [if_pos hm3, show ((m : Int) == 3) = true by rw [hm3]; rfl, ifp_tt]
            exact ⟨_, rfl, rfl, by decide, a + wid m, rfl, by omega⟩
          · rw [if_neg hm3, show ((m : Int) == 3) = false by rw [beq_eq_false_iff_ne]; omega, ifp_ff]
            obtain ⟨r, g1, g2⟩ := f68 hb hl (a := a + wid m) (m := m) (out := out) (by omega) ho
            rw [g1, bindp_s]
            exact ⟨r, rfl, g2⟩
        · rw [h', decide_eq_true (show (S : Int) ≥ 0 by omega), ifp_tt, if_pos (show (0 : Int) ≤ S by omega), Int.toNat_natCast]
          unfold shR
          have h67 := f67 hb (lf := lf) hl (a := a + wid m) (n := 5) (by omega) (by omega)
          rw [show (5 : Int) = ((5 : Nat) : Int) from rfl, h67]
          by_cases c3 : b.length < a + wid m + 5
          · rw [if_pos c3, if_pos c3]
            simp only [bindp_s]
            exact ⟨_, rfl, rfl, by decide, a + wid m, rfl, by omega⟩
          · rw [if_neg c3, if_neg c3]
            simp only [bindp_s, bne_self_eq_false, ifp_ff]
            unfold F43.J15p F58.p
            have hv5 := val_lt b (a + wid m) 5
            have hs5 := of_decide_eq_true (all2 sizeOk_all hS hv5)
            have e2 : IntKind.i64.wrap (((a + wid m : Nat) : Int) + 5) = ((a + wid m + 5 : Nat) : Int) := by rw [wrN (by omega) (by omega)]; omega
            rw [s2]
            simp only [letJ_eq, bindp_s]
            rw [h', textp_nat hS hv5, bindp_s]
            simp only [emp, e2]
            by_cases c4 : (tabS S (val b (a + wid m) 5)).size = 0
            · rw [decide_eq_true c4, ifp_tt, if_pos c4]
              exact ⟨_, rfl, rfl, by decide, a + wid m, rfl, by omega⟩
            · rw [decide_eq_false c4, ifp_ff, if_neg c4, appp_ok (by rw [bytp_len']; omega), bindp_s]
              exact ⟨_, rfl, rfl⟩
      · rw [h, decide_eq_true (show (L : Int) ≥ 0 by omega), ifp_tt, if_pos (show (0 : Int) ≤ L by omega), Int.toNat_natCast, bindp_s]
        exact ⟨_, rfl, rfl⟩
    · rw [decide_eq_false c2, Bool.not_false, ifp_tt, if_pos c2, appp_ok (by rw [bytp_len']; omega), bindp_s]
      exact ⟨_, rfl, rfl⟩
/-! ### The loops -/
theorem bytesR_ok : ∀ (k a : Nat) (out : List Int) (a' : Nat) (o : List Int), a ≤ b.length → out.length ≤ a → bytesR b k a out = some (a', o) → a ≤ a' ∧ a' ≤ b.length ∧ o.length ≤ a'
  | 0, a, out, a', o, ha, ho, h => by simp only [bytesR, Option.some.injEq, Prod.mk.injEq] at h; obtain ⟨rfl, rfl⟩ := h; omega
  | k + 1, a, out, a', o, ha, ho, h => by
    simp only [bytesR] at h
    split at h
    · cases h
    · have := bytesR_ok k (a + 8) _ a' o (by omega) (by simp; omega) h
      omega
theorem stepR_ok {a m : Nat} {out : List Int} (ha : a ≤ b.length) (hm : m < 5) (ho : out.length ≤ a) {a' m' : Nat} {o : List Int} (h : stepR b a m out = .ok a' m' o) : a + 4 ≤ a' ∧ a' ≤ b.length ∧ m' < 5 ∧ o.length ≤ a' := by
  obtain ⟨w0, w1⟩ := wid_le m
  have hvw := val_lt b a (wid m)
  have hv : val b a (wid m) < 32 := Nat.lt_of_lt_of_le hvw (Nat.pow_le_pow_right (show 0 < 2 by omega) w1)
  have fin : ∀ k c, c ≤ b.length → out.length ≤ c → a + 4 ≤ c → finR m (bytesR b k c out) = .ok a' m' o → a + 4 ≤ a' ∧ a' ≤ b.length ∧ m' < 5 ∧ o.length ≤ a' := fun k c hc hoc hac hf => by
    cases hx : bytesR b k c out with
    | none => rw [hx] at hf; cases hf
    | some p =>
      obtain ⟨x, y⟩ := p
      rw [hx] at hf
      simp only [finR, StR.ok.injEq] at hf
      obtain ⟨rfl, rfl, rfl⟩ := hf
      have := bytesR_ok hb hl k c out x y hc hoc hx
      omega
  unfold stepR at h
  split at h
  · cases h
  · generalize val b a (wid m) = v at hv h
    have hs := of_decide_eq_true (all2 sizeOk_all hm hv)
    obtain ⟨l1, l2, l3, s1, s2, s3⟩ := lat_facts hm hv lf
    split at h
    · simp only [StR.ok.injEq] at h
      obtain ⟨rfl, rfl, rfl⟩ := h
      refine ⟨by omega, by omega, hm, ?_⟩
      rw [List.length_append, bytp_len']; omega
    · split at h
      · rename_i hL
        simp only [StR.ok.injEq] at h
        obtain ⟨rfl, rfl, rfl⟩ := h
        rcases small_spec l3 with h' | ⟨L, h', hL'⟩
        · omega
        · rw [h', Int.toNat_natCast]; omega
      · split at h
        · rename_i hS
          rcases small_spec s3 with h' | ⟨S, h', hS'⟩
          · omega
          · rw [h', Int.toNat_natCast] at h
            unfold shR at h
            split at h
            · cases h
            · split at h
              · cases h
              · simp only [StR.ok.injEq] at h
                obtain ⟨rfl, rfl, rfl⟩ := h
                have hs5 := of_decide_eq_true (all2 sizeOk_all hS' (val_lt b (a + wid m) 5))
                refine ⟨by omega, by omega, hm, ?_⟩
                rw [List.length_append, bytp_len']; omega
        · split at h
          · cases h
          · unfold binR at h
            split at h
            · cases h
            · split at h
              · split at h
                · cases h
                · exact fin _ _ (by omega) (by omega) (by omega) h
              · exact fin _ _ (by omega) (by omega) (by omega) h
theorem loops : ∀ (d a m n k : Nat) (out : List Int), b.length ≤ a + d → d < n → d < k → a ≤ b.length → m < 5 → out.length ≤ a → ∃ r, F16.L4p lf n b (a : Int) (m : Int) out = some r ∧ F17.L5p lf (k + 1) b (a : Int) (m : Int) out 0 = some r := by
  intro d
  induction d using Nat.strongRecOn with
  | ind d ih =>
    intro a m n k out hd hn hk ha hm ho
    obtain ⟨n, rfl⟩ : ∃ n', n = n' + 1 := ⟨n - 1, by omega⟩
    obtain ⟨k, rfl⟩ : ∃ k', k = k' + 1 := ⟨k - 1, by omega⟩
    unfold F16.L4p F17.L5p
    rw [f40 hb hl ha, f42 hb hl ha]
    simp only [bindp_s, letJ_eq, beq_self_eq_true]
    cases hov : overB b a with
    | true =>
      rw [Bool.not_true, ifp_ff, ifp_ff, ifp_ff]
      unfold F17.J7p
      simp only [bne_self_eq_false, ifp_ff]
      exact ⟨_, rfl, rfl⟩
    | false =>
      rw [Bool.not_false, ifp_tt, ifp_tt, ifp_tt]
      unfold F16.J5p
      obtain ⟨r1, g1, g2⟩ := f41 hb hl (a := a) (m := m) (out := out) ha hm (by omega)
      obtain ⟨r2, k1, k2⟩ := f43 hb hl (a := a) (m := m) (out := out) ha hm (by omega)
      rw [g1, k1, bindp_s, bindp_s]
      cases hs : stepR b a m out with
      | err e =>
        rw [hs] at g2 k2
        obtain ⟨q1, q2⟩ := g2
        obtain ⟨p1, p2, a', p3, p4⟩ := k2
        have hne : (e != 0) = true := by rw [bne_iff_ne]; exact q2
        rw [q1, hne, ifp_tt, p3, p1]
        unfold F17.L5p
        rw [f42 hb hl p4]
        have he : (e == 0) = false := by rw [beq_eq_false_iff_ne]; exact q2
        simp only [bindp_s, letJ_eq, he]
        unfold F17.J7p
        rw [hne]
        cases overB b a' <;> simp
      | ok a' m' o =>
        rw [hs] at g2 k2
        simp only [R41, R43] at g2 k2
        subst g2 k2
        simp only [bne_self_eq_false, ifp_ff]
        obtain ⟨z1, z2, z3, z4⟩ := stepR_ok hb hl ha hm ho hs
        exact ih (d - 4) (by omega) a' m' n k o (by omega) (by omega) (by omega) z2 z3 z4
end
theorem decodes_true (b : List Bool) {lf : Nat} (hl : 4096 ≤ lf) : F4.p lf b = some true := by
  unfold F4.p F11.p
  by_cases c : (b.length : Int) > 2000
  · rw [decide_eq_true c, ifp_tt]; rfl
  · rw [decide_eq_false c, ifp_ff]
    have hb : b.length ≤ 2000 := by omega
    unfold F4.J3p
    have e16 : ∃ r, F16.p lf b = some r ∧ F17.p lf b = some r := by
      unfold F16.p F17.p
      rw [decide_eq_false (show ¬ (b.length : Int) > 1048576 by omega), ifp_ff, ifp_ff]
      unfold F16.J3p F17.J3p
      obtain ⟨r, h1, h2⟩ := loops hb hl b.length 0 0 lf (lf - 1) [] (by omega) (by omega) (by omega) (by omega) (by omega) (by simp)
      rw [show lf - 1 + 1 = lf by omega] at h2
      exact ⟨r, h1, h2⟩
    obtain ⟨r, h1, h2⟩ := e16
    rw [h1, h2]
    simp only [bindp_s, letJ_eq, beq_self_eq_true, ifp_tt]
    rfl
end Go.Proofs.YtfadfpcelhdfbaaDoor
