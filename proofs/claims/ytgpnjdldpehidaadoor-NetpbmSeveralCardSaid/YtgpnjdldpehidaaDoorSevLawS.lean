/-
  What the reference reads, and that both read the same, in plain Lean, for every list of bytes that the law lets in; no statement of the seat is proved in this file.
-/
import Derived.Test.YtgpnjdldpehidaaDoorSevLawR
open Go Go.Abs Go.Proofs
set_option maxRecDepth 100000
set_option linter.unusedVariables false
set_option linter.unusedSimpArgs false
namespace Go.Proofs.YtgpnjdldpehidaaDoor
variable {p s t : List Int} {n lf : Nat}
/-! ### The reference -/
theorem F38_ok (lf : Nat) (c : Int) : F38.p lf c = some (sp c) := by
  unfold F38.p sp
  cases h1 : c == 32 <;> cases h2 : c == 9 <;> cases h3 : c == 10 <;> simp
theorem F69_ok (lf : Nat) (c : Int) : F69.p lf c = some (dig c) := by
  unfold F69.p dig
  cases h1 : decide (c ≥ 48) <;> simp
theorem F60_all (lf : Nat) (v : Int) {top : Int} (h : top ≠ 0) : F60.p lf v top = some (scl v top) := by
  unfold F60.p quop; rw [if_neg h]; rfl
theorem F58_L3 (kb : List Int → Int → Option Int) (hp : p.length ≤ 2 ^ 30) : ∀ (s : List Int) (n : Nat), At p n s → ∀ k, s.length < k →
    ∃ m t, F58.L3p lf kb k p (n : Int) = kb p ((n + m : Nat) : Int) ∧ At p (n + m) t ∧ skN true s = m + skN false t ∧ (t = [] ∨ ∃ c t', t = c :: t' ∧ sp c = true) ∧ m + t.length = s.length
  | [], n, h, k + 1, _ => by
    refine ⟨0, [], ?_, h, rfl, .inl rfl, rfl⟩
    unfold F58.L3p
    rw [h.end_]; rfl
  | c :: s, n, h, k + 1, hk => by
    simp only [List.length_cons] at hk
    have hl := h.len
    simp only [List.length_cons] at hl
    by_cases hc : c = 10 ∨ c = 13
    · refine ⟨0, c :: s, ?_, h, ?_, .inr ⟨c, s, rfl, by rcases hc with rfl | rfl <;> rfl⟩, by simp⟩
      · unfold F58.L3p
        simp only [letJ_eq]
        rw [h.lt, ifp_tt, bindp_of h.idx]
        rcases hc with rfl | rfl
        · rfl
        · rw [show ((13 : Int) != 10) = true from rfl, ifp_tt, bindp_of h.idx]; rfl
      · have : sp c = true := by rcases hc with rfl | rfl <;> rfl
        simp [skN, hc, this]
    · obtain ⟨m, t, e1, e2, e3, e4, e5⟩ := F58_L3 kb hp s (n + 1) h.step k (by omega)
      refine ⟨m + 1, t, ?_, by rw [show n + (m + 1) = n + 1 + m by omega]; exact e2, ?_, e4, by simp only [List.length_cons]; omega⟩
      · unfold F58.L3p
        have h10 : (c != 10) = true := by simp; exact fun h => hc (.inl h)
        have h13 : (c != 13) = true := by simp; exact fun h => hc (.inr h)
        simp only [letJ_eq]
        rw [h.lt, ifp_tt, bindp_of h.idx, h10, ifp_tt, bindp_of h.idx, h13, ifp_tt, wrS (by omega), e1, show n + 1 + m = n + (m + 1) by omega]
      · simp only [skN, if_neg hc, e3]; omega
theorem F58_L1 (hp : p.length ≤ 2 ^ 30) (hlf : p.length < lf) : ∀ (l : Nat) (s : List Int) (n : Nat), s.length = l → At p n s → ∀ k, s.length < k → F58.L1p lf k p (n : Int) = some ((n + skN false s : Nat) : Int) := by
  intro l
  induction l using Nat.strongRecOn with
  | _ l ih =>
    intro s n hl h k hk
    obtain ⟨k, rfl⟩ : ∃ j, k = j + 1 := ⟨k - 1, by omega⟩
    cases s with
    | nil => unfold F58.L1p; simp only [letJ_eq]; rw [h.end_]; rfl
    | cons c s =>
      have hln := h.len
      simp only [List.length_cons] at hl hk hln
      unfold F58.L1p
      simp only [letJ_eq]
      rw [h.lt, ifp_tt, bindp_of h.idx, F38_ok, bindp_s]
      unfold F58.J2p
      cases hc : sp c with
      | true =>
        have h35 : (c == 35) = false := by simp only [beq_eq_false_iff_ne]; intro h; subst h; cases hc
        rw [ifp_tt, ifp_tt, bindp_of h.idx, h35, ifp_ff, wrS (by omega), ih s.length (by omega) s (n + 1) rfl h.step k (by omega)]
        simp only [skN, hc, if_true]; congr 2; omega
      | false =>
        rw [ifp_ff, bindp_of h.idx]
        by_cases h35 : c = 35
        · subst h35
          rw [show ((35 : Int) == 35) = true from rfl, ifp_tt, bindp_of h.idx, show ((35 : Int) == 35) = true from rfl, ifp_tt]
          obtain ⟨m, t, e1, e2, e3, e4, e5⟩ := F58_L3 (lf := lf) (F58.L1p lf k) hp (35 :: s) n h lf (by simp only [List.length_cons]; omega)
          simp only [List.length_cons] at e5
          have hm : 1 ≤ m := by
            rcases Nat.eq_zero_or_pos m with h0 | h0
            · subst h0
              have ht : t = 35 :: s := by rw [← e2.eq, Nat.add_zero, h.eq]
              rcases e4 with h4 | ⟨c', t', h4, h5⟩
              · rw [h4] at ht; cases ht
              · rw [h4] at ht; cases ht; cases h5
            · exact h0
          rw [e1, ih t.length (by omega) t (n + m) rfl e2 k (by omega)]
          have hsk : skN true (35 :: s) = 1 + skN true s := by simp [skN]
          have hsk2 : skN false (35 :: s) = 1 + skN true s := by simp [skN, sp]
          rw [hsk2, ← hsk, e3]; congr 2; omega
        · rw [show (c == 35) = false by simpa using h35, ifp_ff]
          simp [skN, hc, h35]
theorem F58_ok (hp : p.length ≤ 2 ^ 30) (hlf : p.length < lf) (h : At p n s) : F58.p lf p (n : Int) = some ((n + skN false s : Nat) : Int) := by
  unfold F58.p
  have := h.len
  exact F58_L1 hp hlf s.length s n rfl h lf (by omega)
theorem F59_L11 (hp : p.length ≤ 2 ^ 30) : ∀ (s : List Int) (n : Nat) (v : Int), At p n s → 0 ≤ v → v ≤ 65536 → ∀ k, s.length < k → F59.L11p lf k p (n : Int) v = some ((numN v s).1, ((n + (numN v s).2 : Nat) : Int), 0)
  | [], n, v, h, _, _, k + 1, _ => by
    unfold F59.L11p
    simp only [letJ_eq]
    rw [h.end_]; rfl
  | c :: s, n, v, h, h0, h1, k + 1, hk => by
    simp only [List.length_cons] at hk
    have hl := h.len
    simp only [List.length_cons] at hl
    unfold F59.L11p
    simp only [letJ_eq]
    rw [h.lt, ifp_tt, bindp_of h.idx, F69_ok, bindp_s]
    simp only [numN]
    cases hd : dig c with
    | false => rfl
    | true =>
      have hr := dig_range hd
      have w1 : IntKind.u8.wrap (c - 48) = c - 48 := wru8 (by omega) (by omega)
      have w2 : IntKind.i64.wrap (c - 48) = c - 48 := wr64 (by omega) (by omega)
      have w3 : IntKind.i64.wrap (10 * v) = 10 * v := wr64 (by omega) (by omega)
      have w4 : IntKind.i64.wrap (10 * v + (c - 48)) = 10 * v + (c - 48) := wr64 (by omega) (by omega)
      have e : (if 10 * v + (c - 48) < 65536 then 10 * v + (c - 48) else 65536) = if 65536 < 10 * v + (c - 48) then 65536 else 10 * v + (c - 48) := by split <;> split <;> omega
      rw [ifp_tt, bindp_of h.idx, w1, w2, w3, w4, e, wrS (by omega), F59_L11 hp s (n + 1) _ h.step (by split <;> omega) (by split <;> omega) k (by omega)]
      simp only [if_true]
      congr 3; omega
theorem beq_len {a b : Nat} : (((a : Nat) : Int) == ((b : Nat) : Int)) = decide (a = b) := by
  by_cases h : a = b
  · subst h; simp
  · rw [decide_eq_false h]; simp; omega
theorem num_ref (hp : p.length ≤ 2 ^ 30) (hlf : p.length < lf) (h : At p n s) :
    (∃ v k, numS s = .ok (v, k) ∧ F59.p lf p (n : Int) = some (v, ((n + k : Nat) : Int), 0) ∧ k ≤ s.length ∧ 0 ≤ v ∧ v ≤ 65536) ∨ (∃ e, numS s = .pan e ∧ F59.p lf p (n : Int) = some (0, 0, e) ∧ e ≠ 0) := by
  have hl := h.len
  unfold F59.p
  rw [beq_len]
  cases s with
  | nil => simp only [List.length_nil] at hl; exact .inr ⟨10, rfl, by rw [show decide (n = p.length) = true by simp; omega]; rfl, by decide⟩
  | cons c y =>
    have hln := hl
    simp only [List.length_cons] at hln
    rw [show decide (n = p.length) = false by simp; omega, ifp_ff]
    unfold F59.J3p
    simp only [letJ_eq]
    rw [bindp_of h.idx, F38_ok, bindp_s]
    have key : (sp c = true ∨ c = 35) → (∃ v k, numS (c :: y) = .ok (v, k) ∧ F59.J5p lf p (n : Int) = some (v, ((n + k : Nat) : Int), 0) ∧ k ≤ (c :: y).length ∧ 0 ≤ v ∧ v ≤ 65536) ∨ (∃ e, numS (c :: y) = .pan e ∧ F59.J5p lf p (n : Int) = some (0, 0, e) ∧ e ≠ 0) := by
      intro hc
      have hle := skN_le false (c :: y)
      unfold F59.J5p
      rw [bindp_of (F58_ok hp hlf h), beq_len]
      have h2 := h.drop hle
      have hlen := List.length_drop (i := skN false (c :: y)) (l := c :: y)
      simp only [numS]
      rw [if_pos hc]
      generalize (c :: y).drop (skN false (c :: y)) = u at h2 hlen
      have hl2 := h2.len
      cases u with
      | nil => simp only [List.length_nil] at hl2; exact .inr ⟨10, rfl, by rw [show decide (n + skN false (c :: y) = p.length) = true by simp; omega]; rfl, by decide⟩
      | cons d t =>
        simp only [List.length_cons] at hl2
        rw [show decide (n + skN false (c :: y) = p.length) = false by simp; omega, ifp_ff]
        unfold F59.J8p
        rw [bindp_of h2.idx, F69_ok, bindp_s]
        have h1 := numN_le 0 (d :: t)
        have h3 := numN_range 0 (d :: t) (by omega) (by omega)
        cases hd : dig d with
        | false => exact .inr ⟨9, by simp [hd], rfl, by decide⟩
        | true =>
          unfold F59.J10p
          refine .inl ⟨(numN 0 (d :: t)).1, skN false (c :: y) + (numN 0 (d :: t)).2, by simp [hd], ?_, by omega, h3.1, h3.2⟩
          rw [show (!true) = false from rfl, ifp_ff, F59_L11 hp (d :: t) _ 0 h2 (by omega) (by omega) lf (by simp only [List.length_cons]; omega), Nat.add_assoc]
    cases hc : sp c with
    | true => rw [show (!true) = false from rfl, ifp_ff, ifp_ff]; exact key (.inl hc)
    | false =>
      rw [show (!false) = true from rfl, ifp_tt, bindp_of h.idx]
      by_cases h35 : c = 35
      · rw [show (c != 35) = false by simpa using h35, ifp_ff]; exact key (.inr h35)
      · rw [show (c != 35) = true by simpa using h35, ifp_tt]
        exact .inr ⟨9, by simp [numS, hc, h35], rfl, by decide⟩
theorem head_ref (hp : p.length ≤ 2 ^ 30) (hlf : p.length < lf) (h : At p n s) :
    (∃ v k, headS 0 65535 s = .ok (v, k) ∧ F57.p lf p (n : Int) = some (v, ((n + k : Nat) : Int), 0) ∧ k < s.length ∧ 0 ≤ v ∧ v ≤ 65535 ∧ headS 1 255 s = if 1 ≤ v ∧ v ≤ 255 then .ok (v, k) else .pan 3) ∨ (∃ e, headS 0 65535 s = .pan e ∧ headS 1 255 s = .pan e ∧ F57.p lf p (n : Int) = some (0, 0, e) ∧ e ≠ 0) := by
  have hl := h.len
  unfold F57.p headS
  rcases num_ref hp hlf h with ⟨v, k, e1, e2, h1, h2, h3⟩ | ⟨e, e1, e2, h1⟩
  · rw [bindp_of e2, e1]
    simp only
    rw [show ((0 : Int) != 0) = false from rfl, ifp_ff]
    unfold F57.J4p
    rw [beq_len]
    by_cases hk : k < s.length
    · rw [show decide (n + k = p.length) = false by simp; omega, ifp_ff, if_pos hk, if_pos hk]
      unfold F57.J6p
      by_cases hv : v ≤ 65535
      · rw [show decide (v > 65535) = false by simp; omega, ifp_ff, if_pos ⟨h2, hv⟩]
        exact .inl ⟨v, k, rfl, rfl, hk, h2, hv, rfl⟩
      · rw [show decide (v > 65535) = true by simp; omega, ifp_tt, if_neg (fun hh => hv hh.2), if_neg (by omega)]
        exact .inr ⟨3, rfl, rfl, rfl, by decide⟩
    · rw [show decide (n + k = p.length) = true by simp; omega, ifp_tt, if_neg hk, if_neg hk]
      exact .inr ⟨10, rfl, rfl, rfl, by decide⟩
  · rw [bindp_of e2, e1]
    simp only
    rw [show (e != 0) = true by simpa using h1, ifp_tt]
    exact .inr ⟨e, rfl, rfl, rfl, h1⟩
end Go.Proofs.YtgpnjdldpehidaaDoor

open Go Go.Abs Go.Proofs
set_option maxRecDepth 100000
set_option linter.unusedVariables false
set_option linter.unusedSimpArgs false
namespace Go.Proofs.YtgpnjdldpehidaaDoor
variable {p s t : List Int} {n lf : Nat}
theorem F46_L2 (hp : p.length ≤ 2 ^ 30) (hlf : p.length < lf) {N : Nat} (hN : N ≤ 2 ^ 30) : ∀ (d : Nat) (s : List Int) (n : Nat) (out : List Int), out.length + d = N → At p n s → ∀ k, d < k →
    F46.L2p lf k p (n : Int) (N : Int) out = some (match bitsS d s with | .ok (l, j) => (out ++ l, ((n + j : Nat) : Int), 0) | .pan e => ([], 0, e))
  | 0, s, n, out, ho, ha, k + 1, _ => by
    unfold F46.L2p
    rw [show decide ((out.length : Int) < (N : Int)) = false by simp; omega, ifp_ff]
    simp only [bitsS, List.append_nil, Nat.add_zero]
  | d + 1, s, n, out, ho, ha, k + 1, hk => by
    have hln := ha.len
    have hle := skN_le false s
    unfold F46.L2p
    rw [show decide ((out.length : Int) < (N : Int)) = true by simp; omega, ifp_tt]
    unfold F46.J3p
    rw [bindp_of (F58_ok hp hlf ha), beq_len]
    have ha2 := ha.drop hle
    simp only [bitsS]
    generalize hu : s.drop (skN false s) = u at ha2
    have hl2 := ha2.len
    cases u with
    | nil => simp only [List.length_nil] at hl2; rw [show decide (n + skN false s = p.length) = true by simp; omega]; rfl
    | cons c t =>
      simp only [List.length_cons] at hl2
      rw [show decide (n + skN false s = p.length) = false by simp; omega, ifp_ff]
      unfold F46.J6p
      simp only [letJ_eq]
      have w1 : IntKind.i64.wrap (((n + skN false s : Nat) : Int) + 1) = ((n + skN false s + 1 : Nat) : Int) := wrS (by omega)
      have fin : ∀ v : Int, F46.L2p lf k p ((n + skN false s + 1 : Nat) : Int) (N : Int) (out ++ [v]) = some (match (match bitsS d t with
        | .ok (l, j) => (Res.ok (v :: l, skN false s + 1 + j) : Res (List Int × Nat) Int)
        | .pan e => .pan e) with | .ok (l, j) => (out ++ l, ((n + j : Nat) : Int), 0) | .pan e => ([], 0, e)) := by
        intro v
        rw [F46_L2 hp hlf hN d t (n + skN false s + 1) (out ++ [v]) (by rw [List.length_append, List.length_singleton]; omega) ha2.step k (by omega)]
        cases bitsS d t with
        | ok r => obtain ⟨l, j⟩ := r; simp only [List.append_assoc, List.singleton_append]; rw [show n + skN false s + 1 + j = n + (skN false s + 1 + j) by omega]
        | pan e => rfl
      have ap : ∀ v : Int, appp 1 out [v] = some (out ++ [v]) := fun v => appp_ok (by simp only [List.length_singleton]; omega)
      rw [bindp_of ha2.idx]
      by_cases h48 : c = 48
      · subst h48
        rw [show ((48 : Int) != 48) = false from rfl, ifp_ff, ifp_ff, bindp_of ha2.idx, show IntKind.u8.wrap ((IntKind.u8.wrap (49 - 48)) * 255) = 255 by decide, bindp_of (ap _), w1, fin 255]
        rfl
      · by_cases h49 : c = 49
        · subst h49
          rw [show ((49 : Int) != 48) = true from rfl, ifp_tt, bindp_of ha2.idx, show ((49 : Int) != 49) = false from rfl, ifp_ff, bindp_of ha2.idx, show IntKind.u8.wrap ((IntKind.u8.wrap (49 - 49)) * 255) = 0 by decide, bindp_of (ap _), w1, fin 0]
          rfl
        · rw [show (c != 48) = true by simpa using h48, ifp_tt, bindp_of ha2.idx, show (c != 49) = true by simpa using h49, ifp_tt]
          simp only [if_neg (show ¬ (c = 48 ∨ c = 49) by omega)]
theorem F47_L2 (hp : p.length ≤ 2 ^ 30) (hlf : p.length < lf) {N : Nat} (hN : N ≤ 2 ^ 30) {top : Int} (ht : top ≠ 0) : ∀ (d : Nat) (s : List Int) (n : Nat) (out : List Int), out.length + d = N → At p n s → ∀ k, d < k →
    F47.L2p lf k p (n : Int) (N : Int) top out = some (match numsS top d s with | .ok (l, j) => (out ++ l, ((n + j : Nat) : Int), 0) | .pan e => ([], 0, e))
  | 0, s, n, out, ho, ha, k + 1, _ => by
    unfold F47.L2p
    rw [show decide ((out.length : Int) < (N : Int)) = false by simp; omega, ifp_ff]
    unfold F47.J10p
    simp only [letJ_eq]
    cases s with
    | nil => rw [ha.end_, ifp_ff, ifp_ff]; simp only [numsS, List.append_nil, Nat.add_zero]
    | cons c t =>
      rw [ha.lt, ifp_tt, bindp_of ha.idx, F38_ok, bindp_s]
      simp only [numsS]
      cases hc : sp c with
      | true => rw [show (!true) = false from rfl, ifp_ff, ifp_ff, if_pos (.inl rfl)]; simp only [List.append_nil, Nat.add_zero]
      | false =>
        rw [show (!false) = true from rfl, ifp_tt, bindp_of ha.idx]
        by_cases h35 : c = 35
        · rw [show (c != 35) = false by simpa using h35, ifp_ff, if_pos (.inr h35)]; simp only [List.append_nil, Nat.add_zero]
        · rw [show (c != 35) = true by simpa using h35, ifp_tt, if_neg (by simp [h35])]
  | d + 1, s, n, out, ho, ha, k + 1, hk => by
    unfold F47.L2p
    rw [show decide ((out.length : Int) < (N : Int)) = true by simp; omega, ifp_tt]
    unfold F47.J3p
    simp only [numsS]
    rcases num_ref hp hlf ha with ⟨v, m, e1, e2, h1, h2, h3⟩ | ⟨e, e1, e2, h1⟩
    · rw [bindp_of e2, e1]
      simp only
      rw [show ((0 : Int) != 0) = false from rfl, ifp_ff]
      unfold F47.J6p
      by_cases hv : v ≤ top
      · have ap : appp 1 out [scl v top] = some (out ++ [scl v top]) := appp_ok (by simp only [List.length_singleton]; omega)
        rw [show decide (v > top) = false by simp; omega, ifp_ff, F60_all lf v ht, bindp_s, bindp_of ap, if_pos hv]
        rw [F47_L2 hp hlf hN ht d (s.drop m) (n + m) (out ++ [scl v top]) (by rw [List.length_append, List.length_singleton]; omega) (ha.drop h1) k (by omega)]
        cases numsS top d (s.drop m) with
        | ok r => obtain ⟨l, j⟩ := r; simp only [List.append_assoc, List.singleton_append]; rw [show n + m + j = n + (m + j) by omega]
        | pan e => rfl
      · rw [show decide (v > top) = true by simp; omega, ifp_tt, if_neg hv]
    · rw [bindp_of e2, e1]
      simp only
      rw [show (e != 0) = true by simpa using h1, ifp_tt]
theorem divmod {y x w : Nat} (hx : x < w) : (y * w + x) / w = y ∧ (y * w + x) % w = x := by
  rw [Nat.mul_comm]
  exact ⟨by rw [Nat.mul_add_div (by omega), Nat.div_eq_of_lt hx, Nat.add_zero], by rw [Nat.mul_add_mod, Nat.mod_eq_of_lt hx]⟩
theorem F48_row (hp : p.length ≤ 2 ^ 30) {f : Int} (hf : f = 4 ∨ f = 5) {w h : Nat} (hw : 1 ≤ w) (hwh : w * h ≤ 2 ^ 30) (hr : ∀ v ∈ t, 0 ≤ v ∧ v < 256) {top : Int} (ht : top ≠ 0) (hlen : wideN f w * h ≤ t.length) (ha : At p n t) (kb : List Int → Int → Int → Int → Int → Int → Int → List Int → Int → Option (List Int × Int × Int)) {y : Nat} (hy : y < h) :
    ∀ (d x : Nat) (out : List Int), x + d = w → out.length ≤ y * w + x → ∀ k, d < k →
    F48.L14p lf kb k p (n : Int) (w : Int) (h : Int) top f ((wideN f w : Nat) : Int) out (y : Int) (x : Int) = match rdL (pxV f t w top) (y * w + x) d with
      | .ok l => kb p (n : Int) (w : Int) (h : Int) top f ((wideN f w : Nat) : Int) (out ++ l) ((y + 1 : Nat) : Int)
      | .pan e => some ([], 0, e)
  | 0, x, out, hx, ho, k + 1, _ => by
    have hyw : (y + 1) * w ≤ h * w := Nat.mul_le_mul_right _ hy
    rw [Nat.add_mul, Nat.one_mul, Nat.mul_comm h] at hyw
    have hy2 : y ≤ y * w := Nat.le_mul_of_pos_right _ (by omega)
    unfold F48.L14p
    rw [show decide ((x : Int) < (w : Int)) = false by simp; omega, ifp_ff, wrS (by omega)]
    simp only [rdL, List.append_nil]
  | d + 1, x, out, hx, ho, k + 1, hk => by
    have hyw : (y + 1) * w ≤ h * w := Nat.mul_le_mul_right _ hy
    rw [Nat.add_mul, Nat.one_mul, Nat.mul_comm h] at hyw
    have hy2 : y ≤ y * w := Nat.le_mul_of_pos_right _ (by omega)
    have hln := ha.len
    obtain ⟨dm1, dm2⟩ := divmod (y := y) (show x < w by omega)
    unfold F48.L14p
    rw [show decide ((x : Int) < (w : Int)) = true by simp; omega, ifp_tt]
    unfold F48.J16p
    simp only [letJ_eq]
    have w0 : IntKind.i64.wrap ((x : Int) + 1) = ((x + 1 : Nat) : Int) := wrS (by omega)
    have fin : ∀ v : Int, F48.L14p lf kb k p (n : Int) (w : Int) (h : Int) top f ((wideN f w : Nat) : Int) (out ++ [v]) (y : Int) ((x + 1 : Nat) : Int) = match (match rdL (pxV f t w top) (y * w + x + 1) d with
        | .pan e => (Res.pan e : Res (List Int) Int)
        | .ok l => .ok (v :: l)) with
      | .ok l => kb p (n : Int) (w : Int) (h : Int) top f ((wideN f w : Nat) : Int) (out ++ l) ((y + 1 : Nat) : Int)
      | .pan e => some ([], 0, e) := by
      intro v
      rw [F48_row hp hf hw hwh hr ht hlen ha kb hy d (x + 1) (out ++ [v]) (by omega) (by rw [List.length_append, List.length_singleton]; omega) k (by omega)]
      rw [show y * w + (x + 1) = y * w + x + 1 by omega]
      cases rdL (pxV f t w top) (y * w + x + 1) d with
      | ok l => simp only [List.append_assoc, List.singleton_append]
      | pan e => rfl
    have ap : ∀ v : Int, appp 1 out [v] = some (out ++ [v]) := fun v => appp_ok (by simp only [List.length_singleton]; omega)
    have hwd : wideN f w ≤ w := by unfold wideN; split <;> omega
    have hyd : y * wideN f w ≤ y * w := Nat.mul_le_mul_left _ hwd
    have w1 : IntKind.i64.wrap ((y : Int) * ((wideN f w : Nat) : Int)) = ((y * wideN f w : Nat) : Int) := by rw [← Int.natCast_mul, wr64 (by omega) (by omega)]
    have w2 : IntKind.i64.wrap ((n : Int) + ((y * wideN f w : Nat) : Int)) = ((n + y * wideN f w : Nat) : Int) := by rw [wr64 (by omega) (by omega)]; omega
    rw [w1, w2]
    simp only [rdL]
    rcases hf with rfl | rfl
    · have hix := idx4 hw (show y * w + x < w * h by omega)
      rw [dm1, dm2] at hix
      have hwd4 : wideN 4 w = (w + 7) / 8 := rfl
      rw [hwd4] at hlen w1 w2 fin hyd ⊢
      have w3 : Int.tdiv (x : Int) 8 = ((x / 8 : Nat) : Int) := tdiv_nat _ 8
      have w4 : IntKind.i64.wrap ((x / 8 : Nat) : Int) = ((x / 8 : Nat) : Int) := wr64 (by omega) (by omega)
      have w5 : IntKind.i64.wrap (((n + y * ((w + 7) / 8) : Nat) : Int) + ((x / 8 : Nat) : Int)) = ((n + (y * ((w + 7) / 8) + x / 8) : Nat) : Int) := by rw [wr64 (by omega) (by omega)]; omega
      have w6 : Int.tmod (x : Int) 8 = ((x % 8 : Nat) : Int) := tmod_nat _ 8
      have w7 : IntKind.i64.wrap (7 - ((x % 8 : Nat) : Int)) = ((7 - x % 8 : Nat) : Int) := by rw [wr64 (by omega) (by omega)]; omega
      have w8 : IntKind.u64.wrap ((7 - x % 8 : Nat) : Int) = ((7 - x % 8 : Nat) : Int) := wru64 (by omega) (by omega)
      have hpx : pxV 4 t w top (y * w + x) = .ok (if (t.getD (y * ((w + 7) / 8) + x / 8) 0).toNat / 2 ^ (7 - x % 8) % 2 = 1 then 0 else 255) := by unfold pxV; rw [if_pos rfl, dm1, dm2]
      have hrg := getD_range hr (y * ((w + 7) / 8) + x / 8)
      rw [show ((4 : Int) == 5) = false from rfl, ifp_ff, w3, w4, w5, bindp_of (ha.nthD (by omega)), w6, w7, w8]
      simp only [hpx]
      generalize t.getD (y * ((w + 7) / 8) + x / 8) 0 = v at hrg
      obtain ⟨P, rfl⟩ : ∃ P : Nat, v = (P : Int) := ⟨v.toNat, by omega⟩
      rw [bindp_of (shr8 (by omega)), show Int.tmod ((P / 2 ^ (7 - x % 8) : Nat) : Int) 2 = ((P / 2 ^ (7 - x % 8) % 2 : Nat) : Int) from tmod_nat _ 2, Int.toNat_natCast]
      by_cases hb : P / 2 ^ (7 - x % 8) % 2 = 1
      · rw [if_pos hb, hb, show (((1 : Nat) : Int) == 1) = true from rfl, ifp_tt, bindp_of (ap _), w0]; exact fin _
      · rw [if_neg hb, show (P / 2 ^ (7 - x % 8) % 2) = 0 by omega, show (((0 : Nat) : Int) == 1) = false from rfl, ifp_ff, bindp_of (ap _), w0]; exact fin _
    · have hwd5 : wideN 5 w = w := rfl
      rw [hwd5] at hlen w1 w2 fin hyd ⊢
      have w5 : IntKind.i64.wrap (((n + y * w : Nat) : Int) + (x : Int)) = ((n + (y * w + x) : Nat) : Int) := by rw [wr64 (by omega) (by omega)]; omega
      have hrg := getD_range hr (y * w + x)
      have hpx : pxV 5 t w top (y * w + x) = if t.getD (y * w + x) 0 ≤ top then .ok (scl (t.getD (y * w + x) 0) top) else .pan 3 := by unfold pxV; rw [if_neg (by decide)]
      rw [show ((5 : Int) == 5) = true from rfl, ifp_tt, w5, bindp_of (ha.nthD (by rw [Nat.mul_comm w h] at hlen; rw [Nat.mul_comm w h] at hyw; omega)), wr64 (by omega) (by omega)]
      simp only [hpx]
      by_cases hv : t.getD (y * w + x) 0 ≤ top
      · rw [show decide (t.getD (y * w + x) 0 > top) = false from decide_eq_false (by omega), ifp_ff, F60_all lf _ ht, bindp_s, bindp_of (ap _), w0, if_pos hv]; exact fin _
      · rw [show decide (t.getD (y * w + x) 0 > top) = true from decide_eq_true (by omega), ifp_tt, if_neg hv]
theorem F48_rows (hp : p.length ≤ 2 ^ 30) {f : Int} (hf : f = 4 ∨ f = 5) {w h : Nat} (hw : 1 ≤ w) (hwh : w * h ≤ 2 ^ 30) (hr : ∀ v ∈ t, 0 ≤ v ∧ v < 256) {top : Int} (ht : top ≠ 0) (hlen : wideN f w * h ≤ t.length) (ha : At p n t) (hlf : w < lf) :
    ∀ (d y : Nat) (out : List Int), y + d = h → out.length ≤ y * w → ∀ k, d < k →
    F48.L11p lf k p (n : Int) (w : Int) (h : Int) top f ((wideN f w : Nat) : Int) out (y : Int) = some (match rdL (pxV f t w top) (y * w) (d * w) with
      | .ok l => (out ++ l, ((n + wideN f w * h : Nat) : Int), 0)
      | .pan e => ([], 0, e))
  | 0, y, out, hy, ho, k + 1, _ => by
    have hln := ha.len
    unfold F48.L11p
    have w1 : IntKind.i64.wrap (((wideN f w : Nat) : Int) * (h : Int)) = ((wideN f w * h : Nat) : Int) := by rw [← Int.natCast_mul, wr64 (by omega) (by omega)]
    have w2 : IntKind.i64.wrap ((n : Int) + ((wideN f w * h : Nat) : Int)) = ((n + wideN f w * h : Nat) : Int) := by rw [wr64 (by omega) (by omega)]; omega
    rw [show decide ((y : Int) < (h : Int)) = false by simp; omega, ifp_ff, Nat.zero_mul, w1, w2]
    simp only [rdL, List.append_nil]
  | d + 1, y, out, hy, ho, k + 1, hk => by
    unfold F48.L11p
    rw [show decide ((y : Int) < (h : Int)) = true by simp; omega, ifp_tt]
    unfold F48.J13p
    have e := F48_row (lf := lf) hp hf hw hwh hr ht hlen ha (F48.L11p lf k) (y := y) (by omega) w 0 out (by omega) (by omega) lf hlf
    rw [show F48.L14p lf (F48.L11p lf k) lf p (n : Int) (w : Int) (h : Int) top f ((wideN f w : Nat) : Int) out (y : Int) 0 = _ from e]
    rw [show (d + 1) * w = w + d * w by rw [Nat.add_mul, Nat.one_mul, Nat.add_comm], rdL_add, Nat.add_zero]
    cases hL : rdL (pxV f t w top) (y * w) w with
    | pan e => rfl
    | ok l =>
      have hll := rdL_len _ _ _ _ hL
      simp only
      rw [F48_rows hp hf hw hwh hr ht hlen ha hlf d (y + 1) (out ++ l) (by omega) (by rw [List.length_append, Nat.add_mul, Nat.one_mul]; omega) k (by omega)]
      rw [show (y + 1) * w = y * w + w by rw [Nat.add_mul, Nat.one_mul]]
      cases rdL (pxV f t w top) (y * w + w) (d * w) with
      | ok m => simp only [List.append_assoc]
      | pan e => rfl
end Go.Proofs.YtgpnjdldpehidaaDoor

open Go Go.Abs Go.Proofs
set_option maxRecDepth 100000
set_option linter.unusedVariables false
set_option linter.unusedSimpArgs false
namespace Go.Proofs.YtgpnjdldpehidaaDoor
variable {p s t : List Int} {n lf : Nat}
theorem bitsS_ne : ∀ (d : Nat) (s : List Int) (e : Int), bitsS d s = .pan e → e ≠ 0
  | 0, s, e, h => by simp [bitsS] at h
  | d + 1, s, e, h => by
    simp only [bitsS] at h
    generalize s.drop (skN false s) = u at h
    cases u with
    | nil => simp only [Res.pan.injEq] at h; omega
    | cons c t =>
      simp only at h
      by_cases hc : c = 48 ∨ c = 49
      · rw [if_pos hc] at h
        cases hb : bitsS d t with
        | ok r => rw [hb] at h; cases h
        | pan e' => rw [hb] at h; simp only [Res.pan.injEq] at h; subst h; exact bitsS_ne d t _ hb
      · rw [if_neg hc] at h; simp only [Res.pan.injEq] at h; omega
theorem numS_ne {s : List Int} {e : Int} (h : numS s = .pan e) : e ≠ 0 := by
  rcases num_cases 0 s with ⟨v, k, e1, _⟩ | ⟨e', a, e1, _, h1⟩
  · rw [e1] at h; cases h
  · rw [e1] at h; simp only [Res.pan.injEq] at h; omega
theorem numsS_ne {top : Int} : ∀ (d : Nat) (s : List Int) (e : Int), numsS top d s = .pan e → e ≠ 0
  | 0, [], e, h => by simp [numsS] at h
  | 0, c :: s, e, h => by
    simp only [numsS] at h
    split at h
    · cases h
    · simp only [Res.pan.injEq] at h; omega
  | d + 1, s, e, h => by
    simp only [numsS] at h
    cases hn : numS s with
    | pan e' => rw [hn] at h; simp only [Res.pan.injEq] at h; subst h; exact numS_ne hn
    | ok r =>
      obtain ⟨v, k⟩ := r
      rw [hn] at h
      simp only at h
      by_cases hv : v ≤ top
      · rw [if_pos hv] at h
        cases hb : numsS top d (s.drop k) with
        | ok r => rw [hb] at h; cases h
        | pan e' => rw [hb] at h; simp only [Res.pan.injEq] at h; subst h; exact numsS_ne d _ _ hb
      · rw [if_neg hv] at h; simp only [Res.pan.injEq] at h; omega
theorem rdL_ne {f : Int} {w : Nat} {top : Int} : ∀ (d i : Nat) (e : Int), rdL (pxV f t w top) i d = .pan e → e ≠ 0
  | 0, i, e, h => by simp [rdL] at h
  | d + 1, i, e, h => by
    simp only [rdL] at h
    cases hx : pxV f t w top i with
    | pan e' =>
      rw [hx] at h; simp only [Res.pan.injEq] at h; subst h
      unfold pxV at hx
      split at hx
      · cases hx
      · split at hx
        · cases hx
        · simp only [Res.pan.injEq] at hx; omega
    | ok v =>
      rw [hx] at h
      simp only at h
      cases hb : rdL (pxV f t w top) (i + 1) d with
      | ok l => rw [hb] at h; cases h
      | pan e' => rw [hb] at h; simp only [Res.pan.injEq] at h; subst h; exact rdL_ne d _ _ hb
theorem pixS_ne {f : Int} {w h : Nat} {top e : Int} (hs : s ≠ []) (hp : pixS f w h top s = .pan e) : e ≠ 0 := by
  unfold pixS at hp
  split at hp
  · exact bitsS_ne _ _ _ hp
  · split at hp
    · exact numsS_ne _ _ _ hp
    · cases s with
      | nil => exact absurd rfl hs
      | cons c t =>
        simp only [rawS] at hp
        split at hp
        · split at hp
          · cases hb : rdL (pxV f t w top) 0 (w * h) with
            | ok l => rw [hb] at hp; cases hp
            | pan e' => rw [hb] at hp; simp only [Res.pan.injEq] at hp; subst hp; exact rdL_ne _ _ _ hb
          · simp only [Res.pan.injEq] at hp; omega
        · simp only [Res.pan.injEq] at hp; omega
theorem bitsS_len : ∀ (d : Nat) (s : List Int) (r : List Int × Nat), bitsS d s = .ok r → r.1.length = d ∧ r.2 ≤ s.length
  | 0, s, r, h => by simp only [bitsS, Res.ok.injEq] at h; subst h; simp
  | d + 1, s, r, h => by
    have hle := skN_le false s
    have hdl := List.length_drop (i := skN false s) (l := s)
    simp only [bitsS] at h
    generalize s.drop (skN false s) = u at h hdl
    cases u with
    | nil => cases h
    | cons c t =>
      simp only [List.length_cons] at h hdl
      by_cases hc : c = 48 ∨ c = 49
      · rw [if_pos hc] at h
        cases hb : bitsS d t with
        | ok q =>
          have := bitsS_len d t q hb
          rw [hb] at h; simp only [Res.ok.injEq] at h; subst h
          exact ⟨by rw [List.length_cons]; omega, by simp only; omega⟩
        | pan e' => rw [hb] at h; cases h
      · rw [if_neg hc] at h; cases h
theorem numsS_len {top : Int} : ∀ (d : Nat) (s : List Int) (r : List Int × Nat), numsS top d s = .ok r → r.1.length = d ∧ r.2 ≤ s.length
  | 0, [], r, h => by simp only [numsS, Res.ok.injEq] at h; subst h; simp
  | 0, c :: s, r, h => by
    simp only [numsS] at h
    split at h
    · simp only [Res.ok.injEq] at h; subst h; simp
    · cases h
  | d + 1, s, r, h => by
    simp only [numsS] at h
    rcases num_cases 0 s with ⟨v, k, e1, _, hk, _⟩ | ⟨e', a, e1, _, h1⟩
    · rw [e1] at h
      simp only at h
      by_cases hv : v ≤ top
      · rw [if_pos hv] at h
        cases hb : numsS top d (s.drop k) with
        | ok q =>
          have := numsS_len d _ q hb
          rw [List.length_drop] at this
          rw [hb] at h; simp only [Res.ok.injEq] at h; subst h
          exact ⟨by rw [List.length_cons]; omega, by simp only; omega⟩
        | pan e' => rw [hb] at h; cases h
      · rw [if_neg hv] at h; cases h
    · rw [e1] at h; cases h
theorem pixS_len {f : Int} {w h : Nat} {top : Int} {r : List Int × Nat} (hp : pixS f w h top s = .ok r) : r.1.length = w * h ∧ r.2 ≤ s.length := by
  unfold pixS at hp
  split at hp
  · exact bitsS_len _ _ _ hp
  · split at hp
    · exact numsS_len _ _ _ hp
    · cases s with
      | nil => cases hp
      | cons c t =>
        simp only [rawS] at hp
        split at hp
        · split at hp
          · cases hb : rdL (pxV f t w top) 0 (w * h) with
            | ok l => rw [hb] at hp; simp only [Res.ok.injEq] at hp; subst hp; exact ⟨rdL_len _ _ _ _ hb, by simp only [List.length_cons]; omega⟩
            | pan e' => rw [hb] at hp; cases hp
          · cases hp
        · cases hp
theorem F32_okT (lf : Nat) (f : Int) : F32.p lf f = some (f == 1 || f == 2) := by unfold F32.p; cases h : f == 1 <;> simp
theorem F30_okT (lf : Nat) (f : Int) : F30.p lf f = some (f == 2 || f == 5) := by unfold F30.p; cases h : f == 2 <;> simp
theorem F29_okT (lf : Nat) (f : Int) : F29.p lf f = some (f == 1 || f == 2 || f == 4 || f == 5) := by unfold F29.p; rw [F32_okT]; cases h : f == 1 <;> cases h2 : f == 2 <;> cases h3 : f == 4 <;> simp
/-- What 'Read' of the reference answers. -/
def refR : Res ImgK Int → Int × Int × List Int × Int × Int × Int
  | .ok (w, h, l, f, k) => (w, h, l, f, ((k : Nat) : Int), 0)
  | .pan e => (0, 0, [], 0, 0, e)
theorem F48_all (hp : p.length ≤ 2 ^ 30) (hlf2 : 4194304 < lf) {f : Int} (hf : f = 4 ∨ f = 5) {w h : Nat} (hw : 1 ≤ w ∧ w ≤ 4096) (hh : 1 ≤ h ∧ h ≤ 4096) (hwh : w * h ≤ 4194304) {top : Int} (ht : top ≠ 0) (hr : ∀ v ∈ s, 0 ≤ v ∧ v < 256) (hs : s ≠ []) (ha : At p n s) :
    F48.p lf p (n : Int) (w : Int) (h : Int) top f = some (match rawS f w h top s with | .ok (l, j) => (l, ((n + j : Nat) : Int), 0) | .pan e => ([], 0, e)) := by
  cases s with
  | nil => exact absurd rfl hs
  | cons c t =>
    have hln := ha.len
    simp only [List.length_cons] at hln
    unfold F48.p
    rw [bindp_of ha.idx, F38_ok, bindp_s]
    simp only [rawS]
    cases hc : sp c with
    | false => rw [show (!false) = true from rfl, ifp_tt, if_neg (by decide)]
    | true =>
      rw [show (!true) = false from rfl, ifp_ff, if_pos rfl]
      have wb : wideN f w * h ≤ 2 ^ 30 := by
        have : wideN f w ≤ w := by unfold wideN; split <;> omega
        have := Nat.mul_le_mul_right h this
        omega
      have e0 : F48.J3p lf p (n : Int) (w : Int) (h : Int) top f = F48.J7p lf p ((n + 1 : Nat) : Int) (w : Int) (h : Int) top f ((wideN f w : Nat) : Int) := by
        have w0 : IntKind.i64.wrap ((n : Int) + 1) = ((n + 1 : Nat) : Int) := wrS (by omega)
        have w2 : IntKind.i64.wrap ((w : Int) + 7) = ((w + 7 : Nat) : Int) := by rw [wr64 (by omega) (by omega)]; omega
        have w3 : Int.tdiv ((w + 7 : Nat) : Int) 8 = (((w + 7) / 8 : Nat) : Int) := tdiv_nat _ 8
        have w4 : IntKind.i64.wrap (((w + 7) / 8 : Nat) : Int) = (((w + 7) / 8 : Nat) : Int) := by exact wr64 (by omega) (by omega)
        unfold F48.J3p
        rw [w0, w2, w3, w4]
        rcases hf with rfl | rfl <;> rfl
      rw [e0]
      unfold F48.J7p
      have w5 : IntKind.i64.wrap (((wideN f w : Nat) : Int) * (h : Int)) = ((wideN f w * h : Nat) : Int) := by rw [← Int.natCast_mul, wr64 (by omega) (by omega)]
      have w6 : IntKind.i64.wrap ((p.length : Int) - ((n + 1 : Nat) : Int)) = ((t.length : Nat) : Int) := by rw [wr64 (by omega) (by omega)]; omega
      rw [w5, w6]
      by_cases hl : wideN f w * h ≤ t.length
      · rw [show decide (((wideN f w * h : Nat) : Int) > ((t.length : Nat) : Int)) = false from decide_eq_false (by omega), ifp_ff, if_pos hl]
        unfold F48.J9p
        rw [show F48.L11p lf lf p ((n + 1 : Nat) : Int) (w : Int) (h : Int) top f ((wideN f w : Nat) : Int) [] 0 = _ from F48_rows hp hf hw.1 (by omega) (fun v hv => hr v (.tail _ hv)) ht hl ha.step (by omega) h 0 [] (by omega) (by simp) lf (by omega)]
        rw [Nat.zero_mul, Nat.mul_comm h w]
        cases rdL (pxV f t w top) 0 (w * h) with
        | ok l => simp only [List.nil_append]; rw [show n + 1 + wideN f w * h = n + (1 + wideN f w * h) by omega]
        | pan e => rfl
      · rw [show decide (((wideN f w * h : Nat) : Int) > ((t.length : Nat) : Int)) = true from decide_eq_true (by omega), ifp_tt, if_neg hl]
theorem F37_J9 (hp : p.length ≤ 2 ^ 30) (hlf : p.length < lf) (hlf2 : 4194304 < lf) {f : Int} (hf : f = 1 ∨ f = 2 ∨ f = 4 ∨ f = 5) {w h : Nat} (hw : 1 ≤ w ∧ w ≤ 4096) (hh : 1 ≤ h ∧ h ≤ 4096) (hwh : w * h ≤ 4194304) {top : Int} (ht : top ≠ 0) (hr : ∀ v ∈ s, 0 ≤ v ∧ v < 256) (hs : s ≠ []) (ha : At p n s) (a b : Int) :
    F37.J9p lf p a b f (w : Int) (h : Int) top (n : Int) = some (refR (finS w h f n (pixS f w h top s))) := by
  have w1 : IntKind.i64.wrap ((w : Int) * (h : Int)) = ((w * h : Nat) : Int) := by rw [← Int.natCast_mul, wr64 (by omega) (by omega)]
  unfold F37.J9p
  rw [w1]
  have fin : ∀ (r : Res (List Int × Nat) Int), (∀ e, r = .pan e → e ≠ 0) → ∀ x : List Int × Int × Int, x = (match r with | .ok (l, j) => (l, ((n + j : Nat) : Int), 0) | .pan e => ([], 0, e)) →
      F37.J15p lf a b f (w : Int) (h : Int) x.2.1 x.2.2 x.1 = some (refR (finS w h f n r)) := by
    intro r hr x hx
    subst hx
    unfold F37.J15p
    cases r with
    | ok r => obtain ⟨l, j⟩ := r; rfl
    | pan e =>
      simp only
      rw [show (e != 0) = true by simpa using hr e rfl, ifp_tt]; rfl
  rcases hf with rfl | rfl | rfl | rfl
  · rw [show ((1 : Int) == 1) = true from rfl, ifp_tt]
    unfold F46.p
    rw [bindp_of (F46_L2 hp hlf (by omega) (w * h) s n [] (by simp) ha lf (by omega))]
    exact fin (bitsS (w * h) s) (fun e he => bitsS_ne _ _ _ he) _ (by cases bitsS (w * h) s <;> rfl)
  · rw [show ((2 : Int) == 1) = false from rfl, ifp_ff, show ((2 : Int) == 2) = true from rfl, ifp_tt]
    unfold F47.p
    rw [bindp_of (F47_L2 hp hlf (by omega) ht (w * h) s n [] (by simp) ha lf (by omega))]
    exact fin (numsS top (w * h) s) (fun e he => numsS_ne _ _ _ he) _ (by cases numsS top (w * h) s <;> rfl)
  · rw [show ((4 : Int) == 1) = false from rfl, ifp_ff, show ((4 : Int) == 2) = false from rfl, ifp_ff]
    rw [bindp_of (F48_all hp hlf2 (.inl rfl) hw hh hwh ht hr hs ha)]
    exact fin (rawS 4 w h top s) (fun e he => pixS_ne (f := 4) hs he) _ (by cases rawS 4 w h top s <;> rfl)
  · rw [show ((5 : Int) == 1) = false from rfl, ifp_ff, show ((5 : Int) == 2) = false from rfl, ifp_ff]
    rw [bindp_of (F48_all hp hlf2 (.inr rfl) hw hh hwh ht hr hs ha)]
    exact fin (rawS 5 w h top s) (fun e he => pixS_ne (f := 5) hs he) _ (by cases rawS 5 w h top s <;> rfl)
theorem F37_J5 (hp : p.length ≤ 2 ^ 30) (hlf : p.length < lf) (hlf2 : 4194304 < lf) {c d : Int} (hk : kn (d - 48) = true) (hr : ∀ v ∈ t, 0 ≤ v ∧ v < 256) (hd : 0 ≤ d ∧ d < 256) (ha : At p 0 (c :: d :: t)) (a b : Int) :
    F37.J5p lf p a b = some (refR (hdrS (d - 48) t)) := by
  have ha2 := ha.step.step
  have hln := ha.len
  simp only [List.length_cons] at hln
  have hf := kn_cases hk
  unfold F37.J5p
  have i1 : idxp p 1 = some d := ha.step.idx
  have wf : IntKind.i64.wrap ((IntKind.i64.wrap d) - 48) = d - 48 := by rw [wr64 (x := d) (by omega) (by omega), wr64 (by omega) (by omega)]
  rw [bindp_of i1, wf]
  generalize d - 48 = f at hf hk
  unfold F45.p hdrS
  have bad : ∀ (e : Int), e ≠ 0 → (ifp (e != 0) (some ((0 : Int), (0 : Int), ([] : List Int), (0 : Int), (0 : Int), e)) (F37.J9p lf p a b f 0 0 0 0)) = some (refR (.pan e)) := by
    intro e he
    rw [show (e != 0) = true by simpa using he, ifp_tt]; rfl
  rcases head_ref hp hlf ha2 with ⟨w, k1, e1, e2, h1, h2, h3, _⟩ | ⟨e, e1, _, e2, h1⟩
  case inr => rw [bindp_of (show F57.p lf p 2 = _ from e2)]; simp only; rw [show (e != 0) = true by simpa using h1, ifp_tt, bindp_s, e1]; exact bad e h1
  rw [bindp_of (show F57.p lf p 2 = _ from e2), e1]
  simp only
  rw [show ((0 : Int) != 0) = false from rfl, ifp_ff]
  have ha3 := ha2.drop (Nat.le_of_lt h1)
  unfold F45.J4p
  rcases head_ref hp hlf ha3 with ⟨h, k2, e3, e4, h4, h5, h6, _⟩ | ⟨e, e3, _, e4, h4⟩
  case inr => rw [bindp_of e4]; simp only; rw [show (e != 0) = true by simpa using h4, ifp_tt, bindp_s, e3]; exact bad e h4
  rw [bindp_of e4, e3]
  simp only
  rw [show ((0 : Int) != 0) = false from rfl, ifp_ff]
  have ha4 := ha3.drop (Nat.le_of_lt h4)
  rw [List.length_drop] at h4
  unfold F45.J7p
  simp only [letJ_eq]
  have T : ∀ {q : Prop} [Decidable q], q → decide q = true := fun h => decide_eq_true h
  have F : ∀ {q : Prop} [Decidable q], ¬ q → decide q = false := fun h => decide_eq_false h
  by_cases c1 : 1 ≤ w
  case neg => rw [T (show w < 1 by omega), ifp_tt, ifp_tt, bindp_s, if_neg (fun hh => c1 hh.1)]; exact bad 23 (by decide)
  by_cases c2 : w ≤ 4096
  case neg => rw [F (show ¬ w < 1 by omega), ifp_ff, T (show w > 4096 by omega), ifp_tt, ifp_tt, bindp_s, if_neg (fun hh => c2 hh.2.1)]; exact bad 23 (by decide)
  by_cases c3 : 1 ≤ h
  case neg => rw [F (show ¬ w < 1 by omega), ifp_ff, F (show ¬ w > 4096 by omega), ifp_ff, T (show h < 1 by omega), ifp_tt, ifp_tt, bindp_s, if_neg (fun hh => c3 hh.2.2.1)]; exact bad 23 (by decide)
  by_cases c4 : h ≤ 4096
  case neg => rw [F (show ¬ w < 1 by omega), ifp_ff, F (show ¬ w > 4096 by omega), ifp_ff, F (show ¬ h < 1 by omega), ifp_ff, T (show h > 4096 by omega), ifp_tt, ifp_tt, bindp_s, if_neg (fun hh => c4 hh.2.2.2.1)]; exact bad 23 (by decide)
  obtain ⟨W, rfl⟩ : ∃ W : Nat, w = (W : Int) := ⟨w.toNat, by omega⟩
  obtain ⟨H, rfl⟩ : ∃ H : Nat, h = (H : Int) := ⟨h.toNat, by omega⟩
  have hWH : W * H ≤ 4096 * 4096 := Nat.mul_le_mul (by omega) (by omega)
  have w3 : IntKind.i64.wrap ((W : Int) * (H : Int)) = ((W * H : Nat) : Int) := by rw [← Int.natCast_mul, wr64 (by omega) (by omega)]
  have m1 : (W : Int) * (H : Int) = ((W * H : Nat) : Int) := by rw [Int.natCast_mul]
  rw [F (show ¬ (W : Int) < 1 by omega), ifp_ff, F (show ¬ (W : Int) > 4096 by omega), ifp_ff, F (show ¬ (H : Int) < 1 by omega), ifp_ff, F (show ¬ (H : Int) > 4096 by omega), ifp_ff, w3]
  by_cases c5 : W * H ≤ 4194304
  case neg => rw [T (show ((W * H : Nat) : Int) > 4194304 by omega), ifp_tt, bindp_s, if_neg (fun hh => c5 (by have := hh.2.2.2.2; rw [m1] at this; omega))]; exact bad 23 (by decide)
  rw [F (show ¬ ((W * H : Nat) : Int) > 4194304 by omega), ifp_ff, if_pos ⟨c1, c2, c3, c4, by rw [m1]; omega⟩]
  unfold F45.J9p
  rw [F30_okT, bindp_s, Int.toNat_natCast, Int.toNat_natCast]
  by_cases hb : f = 1 ∨ f = 4
  · rw [show (!(f == 2 || f == 5)) = true by rcases hb with rfl | rfl <;> rfl, ifp_tt, bindp_s, if_pos hb]
    simp only
    rw [show ((0 : Int) != 0) = false from rfl, ifp_ff]
    rw [F37_J9 hp hlf hlf2 hf ⟨by omega, by omega⟩ ⟨by omega, by omega⟩ c5 (by decide) (drop_range (drop_range hr)) (drop_ne (by rw [List.length_drop]; omega)) ha4]
  · rw [show (!(f == 2 || f == 5)) = false by rcases hf with rfl | rfl | rfl | rfl <;> first | rfl | (exfalso; omega), ifp_ff, if_neg hb]
    unfold F45.J11p
    rcases head_ref hp hlf ha4 with ⟨top, k3, e5, e6, h7, h8, h9, e7⟩ | ⟨e, _, e7, e6, h7⟩
    case inr => rw [bindp_of e6]; simp only; rw [show (e != 0) = true by simpa using h7, ifp_tt, bindp_s, e7]; exact bad e h7
    rw [bindp_of e6, e7]
    simp only
    rw [show ((0 : Int) != 0) = false from rfl, ifp_ff]
    unfold F45.J14p
    simp only [letJ_eq]
    have ha5 := ha4.drop (Nat.le_of_lt h7)
    by_cases d1 : 1 ≤ top
    case neg => rw [T (show top < 1 by omega), ifp_tt, ifp_tt, bindp_s, if_neg (fun hh => d1 hh.1)]; exact bad 3 (by decide)
    by_cases d2 : top ≤ 255
    case neg => rw [F (show ¬ top < 1 by omega), ifp_ff, T (show top > 255 by omega), ifp_tt, bindp_s, if_neg (fun hh => d2 hh.2)]; exact bad 3 (by decide)
    rw [F (show ¬ top < 1 by omega), ifp_ff, F (show ¬ top > 255 by omega), ifp_ff, bindp_s, if_pos ⟨d1, d2⟩]
    simp only
    rw [show ((0 : Int) != 0) = false from rfl, ifp_ff]
    rw [F37_J9 hp hlf hlf2 hf ⟨by omega, by omega⟩ ⟨by omega, by omega⟩ c5 (by omega) (drop_range (drop_range (drop_range hr))) (drop_ne h7) ha5]
theorem F37_all (hp : s.length ≤ 4194304) (hlf2 : 4194304 < lf) (hr : ∀ v ∈ s, 0 ≤ v ∧ v < 256) : F37.p lf s = some (refR (imgS s)) := by
  unfold F37.p
  rw [show decide ((s.length : Int) > 4194304) = false from decide_eq_false (by omega), ifp_ff]
  unfold F37.J3p
  simp only [letJ_eq]
  match s, hr, hp with
  | [], _, _ => rfl
  | [c], _, _ => rfl
  | c :: d :: t, hr, hp =>
    have ha := At.start (c :: d :: t)
    simp only [List.length_cons] at hp
    have i0 : idxp (c :: d :: t) 0 = some c := ha.idx
    have i1 : idxp (c :: d :: t) 1 = some d := ha.step.idx
    have hd := hr d (.tail _ (.head _))
    have wf : IntKind.i64.wrap ((IntKind.i64.wrap d) - 48) = d - 48 := by rw [wr64 (x := d) (by omega) (by omega), wr64 (by omega) (by omega)]
    rw [show decide ((((c :: d :: t).length : Nat) : Int) < 2) = false from decide_eq_false (by simp only [List.length_cons]; omega), ifp_ff, bindp_of i0]
    simp only [imgS]
    by_cases hc : c = 80
    · subst hc
      rw [show ((80 : Int) != 80) = false from rfl, ifp_ff, bindp_of i1, wf, F29_okT, bindp_s]
      have hkk : ((d - 48 == 1) || (d - 48 == 2) || (d - 48 == 4) || (d - 48 == 5)) = kn (d - 48) := by
        unfold kn; generalize d - 48 = f; cases f == 1 <;> cases f == 2 <;> cases f == 4 <;> rfl
      rw [hkk]
      cases hk : kn (d - 48) with
      | true =>
        rw [show (!true) = false from rfl, ifp_ff, if_pos ⟨rfl, rfl⟩]
        exact F37_J5 (by simp only [List.length_cons]; omega) (by simp only [List.length_cons]; omega) hlf2 hk (fun v hv => hr v (.tail _ (.tail _ hv))) hd ha 0 0
      | false => rw [show (!false) = true from rfl, ifp_tt, if_neg (by simp)]; rfl
    · rw [show (c != 80) = true by simpa using hc, ifp_tt, ifp_tt, if_neg (fun hh => hc hh.1)]; rfl
end Go.Proofs.YtgpnjdldpehidaaDoor

open Go Go.Abs Go.Proofs
set_option maxRecDepth 100000
set_option linter.unusedVariables false
set_option linter.unusedSimpArgs false
namespace Go.Proofs.YtgpnjdldpehidaaDoor
variable {p s t : List Int} {n lf : Nat}
theorem headS_ok {l m v : Int} {k : Nat} (h : headS l m s = .ok (v, k)) : k < s.length ∧ l ≤ v ∧ v ≤ m := by
  unfold headS at h
  cases hn : numS s with
  | pan e => rw [hn] at h; cases h
  | ok r =>
    obtain ⟨v', k'⟩ := r
    rw [hn] at h
    simp only at h
    split at h
    · split at h
      · simp only [Res.ok.injEq, Prod.mk.injEq] at h
        obtain ⟨rfl, rfl⟩ := h
        rename_i h1 h2
        exact ⟨h1, h2⟩
      · cases h
    · cases h
theorem headS_ne {l m e : Int} (h : headS l m s = .pan e) : e ≠ 0 := by
  unfold headS at h
  cases hn : numS s with
  | pan e' => rw [hn] at h; simp only [Res.pan.injEq] at h; subst h; exact numS_ne hn
  | ok r =>
    obtain ⟨v', k'⟩ := r
    rw [hn] at h
    simp only at h
    split at h
    · split at h
      · cases h
      · simp only [Res.pan.injEq] at h; omega
    · simp only [Res.pan.injEq] at h; omega
theorem finS_cases {w h f : Int} {k : Nat} {x : Res (List Int × Nat) Int} {r : Res ImgK Int} (hr : finS w h f k x = r) : (∃ l j, x = .ok (l, j) ∧ r = .ok (w, h, l, f, k + j)) ∨ (∃ e, x = .pan e ∧ r = .pan e) := by
  cases x with
  | ok y => obtain ⟨l, j⟩ := y; exact .inl ⟨l, j, rfl, hr.symm⟩
  | pan e => exact .inr ⟨e, rfl, hr.symm⟩
theorem hdrS_cases (f : Int) (t : List Int) : (∃ w h l k, hdrS f t = .ok (w, h, l, f, k) ∧ 2 ≤ k ∧ k ≤ t.length + 2 ∧ l.length ≤ 4194304) ∨ (∃ e, hdrS f t = .pan e ∧ e ≠ 0) := by
  unfold hdrS
  cases h1 : headS 0 65535 t with
  | pan e => exact .inr ⟨e, rfl, headS_ne h1⟩
  | ok r =>
    obtain ⟨w, k1⟩ := r
    obtain ⟨a1, a2, a3⟩ := headS_ok h1
    simp only
    cases h2 : headS 0 65535 (t.drop k1) with
    | pan e => exact .inr ⟨e, rfl, headS_ne h2⟩
    | ok r =>
      obtain ⟨h, k2⟩ := r
      obtain ⟨b1, b2, b3⟩ := headS_ok h2
      rw [List.length_drop] at b1
      simp only
      by_cases hc : 1 ≤ w ∧ w ≤ 4096 ∧ 1 ≤ h ∧ h ≤ 4096 ∧ w * h ≤ 4194304
      case neg => rw [if_neg hc]; exact .inr ⟨23, rfl, by decide⟩
      rw [if_pos hc]
      have hwh : w.toNat * h.toNat ≤ 4194304 := by
        obtain ⟨W, rfl⟩ : ∃ W : Nat, w = (W : Int) := ⟨w.toNat, by omega⟩
        obtain ⟨H, rfl⟩ : ∃ H : Nat, h = (H : Int) := ⟨h.toNat, by omega⟩
        have := hc.2.2.2.2
        rw [← Int.natCast_mul] at this
        simp only [Int.toNat_natCast]; omega
      have fin : ∀ (top : Int) (k : Nat) (u : List Int), u ≠ [] → k + u.length = t.length + 2 → 2 ≤ k → (∃ w' h' l k', finS w h f k (pixS f w.toNat h.toNat top u) = .ok (w', h', l, f, k') ∧ 2 ≤ k' ∧ k' ≤ t.length + 2 ∧ l.length ≤ 4194304) ∨ (∃ e, finS w h f k (pixS f w.toNat h.toNat top u) = .pan e ∧ e ≠ 0) := by
        intro top k u hu hk h2
        rcases finS_cases (w := w) (h := h) (f := f) (k := k) (x := pixS f w.toNat h.toNat top u) rfl with ⟨l, j, e1, e2⟩ | ⟨e, e1, e2⟩
        · have := pixS_len e1
          exact .inl ⟨w, h, l, k + j, e2, by omega, by simp only at this; omega, by simp only at this; omega⟩
        · exact .inr ⟨e, e2, pixS_ne hu e1⟩
      by_cases hf : f = 1 ∨ f = 4
      · rw [if_pos hf]
        exact fin 1 (2 + k1 + k2) _ (drop_ne (by rw [List.length_drop]; omega)) (by rw [List.length_drop, List.length_drop]; omega) (by omega)
      · rw [if_neg hf]
        cases h3 : headS 1 255 ((t.drop k1).drop k2) with
        | pan e => exact .inr ⟨e, rfl, headS_ne h3⟩
        | ok r =>
          obtain ⟨top, k3⟩ := r
          obtain ⟨c1, c2, c3⟩ := headS_ok h3
          have c0 := c1
          rw [List.length_drop, List.length_drop] at c1
          exact fin top (2 + k1 + k2 + k3) _ (drop_ne c0) (by rw [List.length_drop, List.length_drop, List.length_drop]; omega) (by omega)
theorem imgS_cases (s : List Int) : (∃ w h l f k, imgS s = .ok (w, h, l, f, k) ∧ 2 ≤ k ∧ k ≤ s.length ∧ l.length ≤ 4194304) ∨ (∃ e, imgS s = .pan e ∧ e ≠ 0) := by
  match s with
  | [] => exact .inr ⟨25, rfl, by decide⟩
  | [c] => exact .inr ⟨25, rfl, by decide⟩
  | c :: d :: t =>
    simp only [imgS]
    by_cases hc : c = 80 ∧ kn (d - 48) = true
    · rw [if_pos hc]
      rcases hdrS_cases (d - 48) t with ⟨w, h, l, k, e1, e2, e3, e4⟩ | ⟨e, e1, e2⟩
      · exact .inl ⟨w, h, l, _, k, e1, e2, by simp only [List.length_cons]; omega, e4⟩
      · exact .inr ⟨e, e1, e2⟩
    · rw [if_neg hc]; exact .inr ⟨25, rfl, by decide⟩
theorem F35_all (hp : p.length ≤ 2 ^ 30) (hlf : p.length < lf) (hlf2 : 4194304 < lf) (hr : ∀ v ∈ s, 0 ≤ v ∧ v < 256) (ha : At p n s) :
    (∃ w h l f k, imgS s = .ok (w, h, l, f, k) ∧ F35.p lf p (n : Int) = some (w, h, l, f, 0, ((n + k : Nat) : Int)) ∧ 2 ≤ k ∧ k ≤ s.length ∧ l.length ≤ 4194304) ∨ (∃ e a, imgS s = .pan e ∧ F35.p lf p (n : Int) = some (0, 0, [], 0, e, a) ∧ e ≠ 0) := by
  have h := F44_all hp hlf hlf2 hr ha
  unfold F35.p
  rcases imgS_cases s with ⟨w, h', l, f, k, e1, e2, e3, e4⟩ | ⟨e, e1, e2⟩
  · rw [e1] at h
    cases hx : F44.p lf p (n : Int) with
    | none => rw [hx] at h; cases h
    | some r =>
      rw [hx] at h
      cases r with
      | pan r => cases h
      | ok r =>
        simp only [Option.map_some, er, shiftN, Option.some.injEq, Res.ok.injEq] at h
        subst h
        exact .inl ⟨w, h', l, f, k, e1, rfl, e2, e3, e4⟩
  · rw [e1] at h
    cases hx : F44.p lf p (n : Int) with
    | none => rw [hx] at h; cases h
    | some r =>
      rw [hx] at h
      cases r with
      | ok r => cases h
      | pan r =>
        simp only [Option.map_some, er, shiftN, Option.some.injEq, Res.pan.injEq] at h
        subst h
        exact .inr ⟨r.1, r.2, e1, rfl, e2⟩
def wsN : List Int → Nat
  | [] => 0
  | c :: s => if sp c then 1 + wsN s else 0
theorem wsN_le : ∀ (s : List Int), wsN s ≤ s.length
  | [] => by simp [wsN]
  | c :: s => by have := wsN_le s; simp only [wsN, List.length_cons]; split <;> omega
theorem F17_L12 (hp : p.length ≤ 2 ^ 30) (kb : List Int → List Img → List Int → Int → Bool → Option (List Img × Int)) (im : List Img) : ∀ (s : List Int) (n : Nat), At p n s → ∀ k, s.length < k →
    F17.L12p lf kb k p im p (n : Int) = kb p im p ((n + wsN s : Nat) : Int) (decide (wsN s < s.length))
  | [], n, h, k + 1, _ => by
    unfold F17.L12p
    simp only [letJ_eq]
    rw [h.end_, ifp_ff, ifp_ff]; rfl
  | c :: s, n, h, k + 1, hk => by
    have hl := h.len
    simp only [List.length_cons] at hl hk
    unfold F17.L12p
    simp only [letJ_eq]
    rw [h.lt, ifp_tt, bindp_of h.idx, F36_ok, bindp_s]
    cases hc : sp c with
    | true =>
      rw [ifp_tt, wrS (by omega), F17_L12 hp kb im s (n + 1) h.step k (by omega)]
      simp only [wsN, hc, if_true, List.length_cons]
      rw [show n + 1 + wsN s = n + (1 + wsN s) by omega]
      congr 1
      exact decide_eq_decide.2 (by omega)
    | false =>
      rw [ifp_ff]
      simp only [wsN, hc, List.length_cons]
      congr 1
theorem F18_L9 (hp : p.length ≤ 2 ^ 30) (kb : List Int → List Img → Int → Option (List Img × Int)) (im : List Img) : ∀ (s : List Int) (n : Nat), At p n s → ∀ k, s.length < k →
    F18.L9p lf kb k p im (n : Int) = kb p im ((n + wsN s : Nat) : Int)
  | [], n, h, k + 1, _ => by
    unfold F18.L9p
    simp only [letJ_eq]
    rw [h.end_, ifp_ff, ifp_ff]; rfl
  | c :: s, n, h, k + 1, hk => by
    have hl := h.len
    simp only [List.length_cons] at hl hk
    unfold F18.L9p
    simp only [letJ_eq]
    rw [h.lt, ifp_tt, bindp_of h.idx, F38_ok, bindp_s]
    cases hc : sp c with
    | true =>
      rw [ifp_tt, wrS (by omega), F18_L9 hp kb im s (n + 1) h.step k (by omega)]
      simp only [wsN, hc, if_true]
      rw [show n + 1 + wsN s = n + (1 + wsN s) by omega]
    | false => rw [ifp_ff]; simp only [wsN, hc]; rfl
theorem app40 {im : List Img} {x : Img} (h : im.length ≤ 2 ^ 30) : appp 40 im [x] = some (im ++ [x]) := by
  unfold appp
  rw [if_pos ⟨by simp only [List.length_singleton]; unfold bigLimit; omega, by simp only [List.length_singleton]; unfold bigLimit; omega⟩]
theorem all_loop (hp : p.length ≤ 4194304) (hlf : 4194304 < lf) : ∀ (len : Nat) (s : List Int) (n : Nat) (im : List Img) (b : Bool), s.length = len → At p n s → (∀ v ∈ s, 0 ≤ v ∧ v < 256) → im.length ≤ n → (∀ x ∈ im, x.2.2.length ≤ 4194304) → (b = true ↔ (im = [] ∨ s ≠ [])) → ∀ k k', s.length < k → s.length < k' →
    ∃ r, F17.L6p lf k p im p (n : Int) b = some r ∧ F18.L3p lf k' p im (n : Int) = some r ∧ (∀ x ∈ r.1, x.2.2.length ≤ 4194304) ∧ r.1.length ≤ p.length := by
  intro len
  induction len using Nat.strongRecOn with
  | _ len ih =>
    intro s n im b hlen ha hr him hx hb k k' hk hk'
    have hln := ha.len
    obtain ⟨k, rfl⟩ : ∃ j, k = j + 1 := ⟨k - 1, by omega⟩
    obtain ⟨k', rfl⟩ : ∃ j, k' = j + 1 := ⟨k' - 1, by omega⟩
    unfold F17.L6p F18.L3p
    simp only [letJ_eq]
    by_cases hc : im = [] ∨ s ≠ []
    case neg =>
      have h1 : b = false := by cases b with
        | false => rfl
        | true => exact absurd (hb.1 rfl) hc
      have h2 : im ≠ [] ∧ s = [] := ⟨fun h => hc (.inl h), Classical.byContradiction fun h => hc (.inr h)⟩
      have h3 : ((im.length : Int) == 0) = false := by
        have := List.length_pos_iff.2 h2.1
        simp only [beq_eq_false_iff_ne]; omega
      have h4 : decide ((n : Int) < (p.length : Int)) = false := by rw [h2.2] at hln; simp only [List.length_nil] at hln; exact decide_eq_false (by omega)
      rw [h1, ifp_ff, h3, ifp_ff, h4, ifp_ff]
      exact ⟨(im, 0), rfl, rfl, hx, by simp only; omega⟩
    have h1 : b = true := hb.2 hc
    have h2 : ∀ X Y : Option (List Img × Int), (ifp ((im.length : Int) == 0) (ifp true X Y) (ifp (decide ((n : Int) < (p.length : Int))) X Y)) = X := by
      intro X Y
      by_cases h0 : im = []
      · subst h0; rfl
      · have h3 : ((im.length : Int) == 0) = false := by
          have := List.length_pos_iff.2 h0
          simp only [beq_eq_false_iff_ne]; omega
        have h4 : s ≠ [] := by rcases hc with h | h
                               · exact absurd h h0
                               · exact h
        have h5 := List.length_pos_iff.2 h4
        rw [h3, ifp_ff, show decide ((n : Int) < (p.length : Int)) = true from decide_eq_true (by omega), ifp_tt]
    rw [h1, ifp_tt, h2]
    unfold F17.J8p F18.J4p
    have hsub : subp p (n : Int) (p.length : Int) = some s := by
      rw [subp_nat (i := n) (j := p.length) rfl rfl (by omega) (by omega), ha.eq, List.take_of_length_le (by omega)]
    rw [bindp_of hsub, bindp_of (F37_all (by omega) hlf hr)]
    rcases F35_all (by omega) (by omega) hlf hr ha with ⟨w, h, l, f, m, e1, e2, e3, e4, e5⟩ | ⟨e, a, e1, e2, e3⟩
    · rw [bindp_of e2, e1]
      simp only [refR]
      rw [show ((0 : Int) != 0) = false from rfl, ifp_ff, ifp_ff]
      unfold F17.J11p F18.J7p
      have w1 : IntKind.i64.wrap ((n : Int) + ((m : Nat) : Int)) = ((n + m : Nat) : Int) := by rw [wr64 (by omega) (by omega)]; omega
      have ha2 := ha.drop e4
      rw [bindp_of (app40 (by omega)), bindp_of (app40 (by omega)), w1]
      have hdl := List.length_drop (i := m) (l := s)
      rw [F17_L12 (by omega) _ _ _ _ ha2 lf (by omega), F18_L9 (by omega) _ _ _ _ ha2 lf (by omega)]
      have hw := wsN_le (s.drop m)
      have ha3 := ha2.drop hw
      refine ih ((s.drop m).drop (wsN (s.drop m))).length (by rw [List.length_drop]; omega) _ _ _ _ rfl ha3 (drop_range (drop_range hr)) (by rw [List.length_append, List.length_singleton]; omega) ?_ ?_ k k' (by rw [List.length_drop]; omega) (by rw [List.length_drop]; omega)
      · intro x hx'
        rcases List.mem_append.1 hx' with h' | h'
        · exact hx x h'
        · simp only [List.mem_singleton] at h'; subst h'; exact e5
      · constructor
        · intro h'
          exact .inr (drop_ne (of_decide_eq_true h'))
        · intro h'
          rcases h' with h' | h'
          · exact absurd h' (by simp)
          · exact decide_eq_true (by
              have := List.length_pos_iff.2 h'
              rw [List.length_drop] at this; omega)
    · rw [bindp_of e2, e1]
      simp only [refR]
      rw [show (e != 0) = true by simpa using e3, ifp_tt, ifp_tt]
      exact ⟨([], e), rfl, rfl, by simp, by simp⟩
theorem F15_sameT (w h : Int) (pix : List Int) (hp : pix.length ≤ 2 ^ 30) (hlf : pix.length < lf) : F15.p lf w h pix w h pix = some true := by
  have key : ∀ (d i : Nat), pix.length = i + d → ∀ k, d < k → F15.L4p lf k w h pix w h pix (i : Int) = some true := by
    intro d
    induction d with
    | zero =>
      intro i hi k hk
      obtain ⟨k, rfl⟩ : ∃ j, k = j + 1 := ⟨k - 1, by omega⟩
      unfold F15.L4p
      rw [show decide ((i : Int) < (pix.length : Int)) = false by simp; omega]; rfl
    | succ d ih =>
      intro i hi k hk
      obtain ⟨k, rfl⟩ : ∃ j, k = j + 1 := ⟨k - 1, by omega⟩
      unfold F15.L4p
      rw [show decide ((i : Int) < (pix.length : Int)) = true by simp; omega, ifp_tt]
      unfold F15.J6p
      rw [bindp_of (idxp_nat (show i < pix.length by omega)), bindp_of (idxp_nat (show i < pix.length by omega)), show (pix[i] != pix[i]) = false by simp, ifp_ff, wrS (by omega)]
      exact ih (i + 1) (by omega) k (by omega)
  unfold F15.p
  simp only [letJ_eq]
  rw [show (w != w) = false by simp, ifp_ff, show (h != h) = false by simp, ifp_ff, show ((pix.length : Int) != (pix.length : Int)) = false by simp, ifp_ff]
  unfold F15.J3p
  exact key pix.length 0 (by omega) lf hlf
theorem sames (lf : Nat) (hlf : 4194304 < lf) (h9 : F9.p lf = some true) (l : List Img) (hl : l.length ≤ 2 ^ 30) (hx : ∀ x ∈ l, x.2.2.length ≤ 4194304) : ∀ (d i : Nat), i + d = l.length → ∀ k, d < k → F7.L8p lf k l l (i : Int) = some true
  | 0, i, hi, k + 1, _ => by
    unfold F7.L8p
    rw [show decide ((i : Int) < (l.length : Int)) = false from decide_eq_false (by omega), ifp_ff, h9]; rfl
  | d + 1, i, hi, k + 1, hk => by
    unfold F7.L8p
    rw [show decide ((i : Int) < (l.length : Int)) = true from decide_eq_true (by omega), ifp_tt]
    unfold F7.J10p
    have h1 := idxp_nat (show i < l.length by omega)
    have h2 := hx l[i] (List.getElem_mem _)
    rw [bindp_of h1, bindp_of h1, F15_sameT _ _ _ (by omega) (by omega), bindp_s, show (!true) = false from rfl, ifp_ff, wrS (by omega)]
    exact sames lf hlf h9 l hl hx d (i + 1) (by omega) k (by omega)
theorem several_true (p : List Int) (hr : ∀ v ∈ p, 0 ≤ v ∧ v < 256) (hlf : 4194304 < lf) : F7.p lf p = some true := by
  have h9 : F9.p lf = some true := rfl
  unfold F7.p
  by_cases hp : p.length > 2000
  · rw [show decide ((p.length : Int) > 2000) = true from decide_eq_true (by omega), ifp_tt, h9]; rfl
  rw [show decide ((p.length : Int) > 2000) = false from decide_eq_false (by omega), ifp_ff]
  unfold F7.J3p F17.p
  rw [show decide ((p.length : Int) > 4194304) = false from decide_eq_false (by omega), ifp_ff]
  unfold F17.J3p F18.p
  obtain ⟨r, e1, e2, e3, e4⟩ := all_loop (lf := lf) (by omega) hlf p.length p 0 [] true rfl (At.start p) hr (by simp) (by simp) (by simp) lf lf (by omega) (by omega)
  rw [bindp_of (show F17.L6p lf lf p [] p 0 true = _ from e1), bindp_of (show F18.L3p lf lf p [] 0 = _ from e2)]
  simp only [letJ_eq]
  rw [show (r.2 != r.2) = false by simp, ifp_ff, show ((r.1.length : Int) != (r.1.length : Int)) = false by simp, ifp_ff]
  unfold F7.J7p
  exact sames lf hlf h9 r.1 (by omega) e3 r.1.length 0 (by omega) lf (by omega)
end Go.Proofs.YtgpnjdldpehidaaDoor
