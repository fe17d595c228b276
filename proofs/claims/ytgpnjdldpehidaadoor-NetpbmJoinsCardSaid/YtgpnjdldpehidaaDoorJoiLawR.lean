/-
  What is read, in plain Lean, for every list of bytes; no statement of the seat is proved in this file.
-/
import Derived.Test.YtgpnjdldpehidaaDoorJoiTextQ
import Derived.Test.YtgpnjdldpehidaaDoorJoiLawI
open Go Go.Abs Go.Proofs
set_option maxRecDepth 100000
set_option linter.unusedVariables false
set_option linter.unusedSimpArgs false
namespace Go.Proofs.YtgpnjdldpehidaaDoor
/-! ### Where a reader stands: what is left of the file -/
structure At (p : List Int) (n : Nat) (s : List Int) : Prop where
  eq : p.drop n = s
  le : n ≤ p.length
variable {p s : List Int} {n lf : Nat}
theorem At.len (h : At p n s) : n + s.length = p.length := by
  have := congrArg List.length h.eq
  rw [List.length_drop] at this
  have := h.le; omega
theorem At.idx {c : Int} (h : At p n (c :: s)) : idxp p (n : Int) = some c := by
  have hl := h.len
  simp only [List.length_cons] at hl
  rw [idxp_nat (show n < p.length by omega)]
  have := congrArg (·[0]?) h.eq
  simp only [List.getElem?_drop, List.getElem?_cons_zero, Nat.add_zero] at this
  rw [List.getElem?_eq_getElem (by omega)] at this
  exact this
theorem At.skip {x : List Int} (h : At p n (x ++ s)) : At p (n + x.length) s := by
  have hl := h.len
  rw [List.length_append] at hl
  refine ⟨?_, by omega⟩
  rw [← List.drop_drop, h.eq, List.drop_left]
theorem At.step {c : Int} (h : At p n (c :: s)) : At p (n + 1) s := At.skip (x := [c]) h
theorem At.lt {c : Int} (h : At p n (c :: s)) : decide ((n : Int) < (p.length : Int)) = true := by
  have := h.len; simp only [List.length_cons] at this; simp; omega
theorem At.end_ (h : At p n []) : decide ((n : Int) < (p.length : Int)) = false := by
  have := h.len; simp only [List.length_nil] at this; simp; omega
theorem At.start (p : List Int) : At p 0 p := ⟨rfl, Nat.zero_le _⟩
/-! ### White space, digits -/
def sp (c : Int) : Bool := c == 32 || c == 9 || c == 10 || c == 13
theorem F36_ok (lf : Nat) (c : Int) : F36.p lf c = some (sp c) := by
  unfold F36.p sp
  cases h1 : c == 32 <;> cases h2 : c == 9 <;> cases h3 : c == 10 <;> simp
def dig (c : Int) : Bool := decide (c ≥ 48) && decide (c ≤ 57)
theorem F51_ok (lf : Nat) (c : Int) : F51.p lf c = some (dig c) := by
  unfold F51.p dig
  cases h1 : decide (c ≥ 48) <;> simp
theorem F54_ok (lf : Nat) (c : Int) : F54.p lf c = some (c == 1 || c == 2) := by
  unfold F54.p; cases h1 : c == 1 <;> simp
theorem F52_t (lf : Nat) (x : List Int) (a e : Int) : F52.p lf x a true e = some (.ok a) := rfl
theorem F52_f (lf : Nat) (x : List Int) (a e : Int) : F52.p lf x a false e = some (.pan (e, a)) := rfl
@[simp] theorem bindr_o {α β γ : Type} (a : α) (kp : β → Option γ) (k : α → Option γ) : bindr (some (.ok a)) kp k = k a := rfl
@[simp] theorem bindr_p {α β γ : Type} (a : β) (kp : β → Option γ) (k : α → Option γ) : bindr (some (.pan a)) kp k = kp a := rfl
theorem bindr_of {α β γ : Type} {x : Option (Res α β)} {r : Res α β} (h : x = some r) (kp : β → Option γ) (k : α → Option γ) : bindr x kp k = bindr (some r) kp k := by rw [h]
/-- How much white space and comment stands here; c: in a comment. -/
def skN : Bool → List Int → Nat
  | _, [] => 0
  | false, c :: s => if sp c then 1 + skN false s else if c = 35 then 1 + skN true s else 0
  | true, c :: s => if c = 10 ∨ c = 13 then 1 + skN false s else 1 + skN true s
theorem skN_le : ∀ (b : Bool) (s : List Int), skN b s ≤ s.length
  | _, [] => by simp [skN]
  | false, c :: s => by
    have := skN_le false s; have := skN_le true s
    simp only [skN, List.length_cons]; split
    · omega
    · split <;> omega
  | true, c :: s => by
    have := skN_le false s; have := skN_le true s
    simp only [skN, List.length_cons]; split <;> omega
theorem wrS {n : Nat} (h : n ≤ 2 ^ 40) : IntKind.i64.wrap ((n : Int) + 1) = ((n + 1 : Nat) : Int) := by rw [wr64 (by omega) (by omega)]; omega
/-- In a comment, up to its end. -/
theorem F67_L5 (kb : List Int → Int → Option Int) (hp : p.length ≤ 2 ^ 30) : ∀ (s : List Int) (n : Nat), At p n s → ∀ k, s.length < k →
    ∃ m t, F67.L5p lf kb k p (n : Int) = kb p ((n + m : Nat) : Int) ∧ At p (n + m) t ∧ skN true s = m + skN false t ∧ (t = [] ∨ ∃ c t', t = c :: t' ∧ sp c = true) ∧ m + t.length = s.length
  | [], n, h, k + 1, _ => by
    refine ⟨0, [], ?_, h, rfl, .inl rfl, rfl⟩
    unfold F67.L5p
    rw [h.end_]; rfl
  | c :: s, n, h, k + 1, hk => by
    simp only [List.length_cons] at hk
    have hl := h.len
    simp only [List.length_cons] at hl
    by_cases hc : c = 10 ∨ c = 13
    · refine ⟨0, c :: s, ?_, h, ?_, .inr ⟨c, s, rfl, by rcases hc with rfl | rfl <;> rfl⟩, by simp⟩
      · unfold F67.L5p
        simp only [letJ_eq]
        rw [h.lt, ifp_tt, bindp_of h.idx]
        rcases hc with rfl | rfl
        · rfl
        · rw [show ((13 : Int) != 10) = true from rfl, ifp_tt, bindp_of h.idx]; rfl
      · have : sp c = true := by rcases hc with rfl | rfl <;> rfl
        simp [skN, hc, this]
    · obtain ⟨m, t, e1, e2, e3, e4, e5⟩ := F67_L5 kb hp s (n + 1) h.step k (by omega)
      refine ⟨m + 1, t, ?_, by rw [show n + (m + 1) = n + 1 + m by omega]; exact e2, ?_, e4, by simp only [List.length_cons]; omega⟩
      · unfold F67.L5p
        have h10 : (c != 10) = true := by simp; exact fun h => hc (.inl h)
        have h13 : (c != 13) = true := by simp; exact fun h => hc (.inr h)
        simp only [letJ_eq]
        rw [h.lt, ifp_tt, bindp_of h.idx, h10, ifp_tt, bindp_of h.idx, h13, ifp_tt, wrS (by omega), e1, show n + 1 + m = n + (m + 1) by omega]
      · simp only [skN, if_neg hc, e3]; omega
theorem F67_L0 (hp : p.length ≤ 2 ^ 30) (hlf : p.length < lf) : ∀ (l : Nat) (s : List Int) (n : Nat), s.length = l → At p n s → ∀ k, s.length < k → F67.L0p lf k p (n : Int) = some ((n + skN false s : Nat) : Int) := by
  intro l
  induction l using Nat.strongRecOn with
  | _ l ih =>
    intro s n hl h k hk
    obtain ⟨k, rfl⟩ : ∃ j, k = j + 1 := ⟨k - 1, by omega⟩
    cases s with
    | nil => unfold F67.L0p; rw [h.end_]; rfl
    | cons c s =>
      have hln := h.len
      simp only [List.length_cons] at hl hk hln
      unfold F67.L0p
      rw [h.lt, ifp_tt]
      unfold F67.J1p
      rw [bindp_of h.idx, F36_ok, bindp_s]
      cases hc : sp c with
      | true =>
        rw [ifp_tt, wrS (by omega), ih s.length (by omega) s (n + 1) rfl h.step k (by omega)]
        simp only [skN, hc, if_true]; congr 2; omega
      | false =>
        rw [ifp_ff]
        by_cases h35 : c = 35
        · subst h35
          rw [show ((35 : Int) == 35) = true from rfl, ifp_tt]
          obtain ⟨m, t, e1, e2, e3, e4, e5⟩ := F67_L5 (lf := lf) (F67.L0p lf k) hp (35 :: s) n h lf (by simp only [List.length_cons]; omega)
          simp only [List.length_cons] at e5
          have hm : 1 ≤ m := by
            rcases Nat.eq_zero_or_pos m with h0 | h0
            · subst h0
              have ht : t = 35 :: s := by rw [← e2.eq, Nat.add_zero, h.eq]
              rcases e4 with h4 | ⟨c', t', h4, h5⟩
              · rw [h4] at ht; cases ht
              · rw [h4] at ht; cases ht; cases h5
            · exact h0
          rw [e1, ih t.length (by omega) t (n + m) rfl e2 k (by omega)]
          have hsk : skN true (35 :: s) = 1 + skN true s := by simp [skN]
          have hsk2 : skN false (35 :: s) = 1 + skN true s := by simp [skN, sp]
          rw [hsk2, ← hsk, e3]; congr 2; omega
        · rw [show (c == 35) = false by simpa using h35, ifp_ff]
          simp [skN, hc, h35]
theorem F67_ok (hp : p.length ≤ 2 ^ 30) (hlf : p.length < lf) (h : At p n s) : F67.p lf p (n : Int) = some ((n + skN false s : Nat) : Int) := by
  unfold F67.p
  have := h.len
  exact F67_L0 hp hlf s.length s n rfl h lf (by omega)
theorem skN_split : ∀ (b : Bool) (s : List Int), ∃ t, s.drop (skN b s) = t ∧ (b = false → t = [] ∨ ∃ c t', t = c :: t' ∧ sp c = false ∧ c ≠ 35)
  | b, s => ⟨_, rfl, fun hb => by
    subst hb
    have key : ∀ (l : Nat) (b : Bool) (s : List Int), s.length = l → s.drop (skN b s) = [] ∨ ∃ c t', s.drop (skN b s) = c :: t' ∧ sp c = false ∧ c ≠ 35 := by
      intro l
      induction l with
      | zero => intro b s hs; rw [List.eq_nil_of_length_eq_zero hs]; exact .inl (by simp)
      | succ l ih =>
        intro b s hs
        cases s with
        | nil => simp at hs
        | cons c s =>
          simp only [List.length_cons] at hs
          cases b with
          | false =>
            simp only [skN]
            cases hc : sp c with
            | true => rw [if_pos rfl, Nat.add_comm, List.drop_succ_cons]; exact ih false s (by omega)
            | false =>
              rw [if_neg (by decide)]
              by_cases h35 : c = 35
              · rw [if_pos h35, Nat.add_comm, List.drop_succ_cons]; exact ih true s (by omega)
              · rw [if_neg h35]; exact .inr ⟨c, s, rfl, hc, h35⟩
          | true =>
            simp only [skN]
            split
            · rw [Nat.add_comm, List.drop_succ_cons]; exact ih false s (by omega)
            · rw [Nat.add_comm, List.drop_succ_cons]; exact ih true s (by omega)
    exact key s.length false s rfl⟩
/-! ### Numbers -/
def numN : Int → List Int → Int × Nat
  | v, [] => (v, 0)
  | v, c :: s => if dig c then ((numN (if 65536 < 10 * v + (c - 48) then 65536 else 10 * v + (c - 48)) s).1, 1 + (numN (if 65536 < 10 * v + (c - 48) then 65536 else 10 * v + (c - 48)) s).2) else (v, 0)
theorem numN_le : ∀ (v : Int) (s : List Int), (numN v s).2 ≤ s.length
  | _, [] => by simp [numN]
  | v, c :: s => by
    have := numN_le (if 65536 < 10 * v + (c - 48) then 65536 else 10 * v + (c - 48)) s
    simp only [numN, List.length_cons]; split <;> simp <;> omega
theorem dig_range {c : Int} (h : dig c = true) : 48 ≤ c ∧ c ≤ 57 := by simp [dig] at h; omega
theorem numN_range : ∀ (v : Int) (s : List Int), 0 ≤ v → v ≤ 65536 → 0 ≤ (numN v s).1 ∧ (numN v s).1 ≤ 65536
  | v, [], h0, h1 => ⟨h0, h1⟩
  | v, c :: s, h0, h1 => by
    simp only [numN]
    cases hd : dig c with
    | false => exact ⟨h0, h1⟩
    | true =>
      have := dig_range hd
      exact numN_range _ s (by split <;> omega) (by split <;> omega)
theorem F65_L7 (hp : p.length ≤ 2 ^ 30) : ∀ (s : List Int) (n : Nat) (v : Int), At p n s → 0 ≤ v → v ≤ 65536 → ∀ k, s.length < k → F65.L7p lf k p (n : Int) v = some (.ok ((numN v s).1, ((n + (numN v s).2 : Nat) : Int)))
  | [], n, v, h, _, _, k + 1, _ => by
    unfold F65.L7p
    simp only [letJ_eq]
    rw [h.end_]; rfl
  | c :: s, n, v, h, h0, h1, k + 1, hk => by
    simp only [List.length_cons] at hk
    have hl := h.len
    simp only [List.length_cons] at hl
    unfold F65.L7p
    simp only [letJ_eq]
    rw [h.lt, ifp_tt, bindp_of h.idx, F51_ok, bindp_s]
    simp only [numN]
    cases hd : dig c with
    | false => rfl
    | true =>
      have hr := dig_range hd
      have w1 : IntKind.u8.wrap (c - 48) = c - 48 := wru8 (by omega) (by omega)
      have w2 : IntKind.i64.wrap (c - 48) = c - 48 := wr64 (by omega) (by omega)
      have w3 : IntKind.i64.wrap (10 * v) = 10 * v := wr64 (by omega) (by omega)
      have w4 : IntKind.i64.wrap (10 * v + (c - 48)) = 10 * v + (c - 48) := wr64 (by omega) (by omega)
      rw [ifp_tt, bindp_of h.idx, w1, w2, w3, w4, wrS (by omega), F65_L7 hp s (n + 1) _ h.step (by split <;> omega) (by split <;> omega) k (by omega)]
      simp only [if_true]
      congr 4; omega
/-- What 'number' answers behind the white space. -/
def numK (m : Nat) (s : List Int) : Res (Int × Int) (Int × Int) := match s with
  | [] => .pan (10, m)
  | d :: t => if dig d then .ok ((numN 0 (d :: t)).1, ((m + (numN 0 (d :: t)).2 : Nat) : Int)) else .pan (9, m)
/-- What 'number' answers, from what is left of the file. -/
def numR (n : Nat) (s : List Int) : Res (Int × Int) (Int × Int) :=
  match s with
  | [] => .pan (10, n)
  | c :: y => if sp c = true ∨ c = 35 then numK (n + skN false (c :: y)) ((c :: y).drop (skN false (c :: y))) else .pan (9, n)
theorem F65_ok (hp : p.length ≤ 2 ^ 30) (hlf : p.length < lf) (h : At p n s) : F65.p lf p (n : Int) = some (numR n s) := by
  unfold F65.p
  cases s with
  | nil => rw [h.end_, F52_f, bindr_p]; rfl
  | cons c s =>
    rw [h.lt, F52_t, bindr_o, bindp_of h.idx, F36_ok, bindp_s]
    have key : (sp c = true ∨ c = 35) → F65.J3p lf p (n : Int) = some (numR n (c :: s)) := by
      intro hc
      unfold F65.J3p
      rw [bindp_of (F67_ok hp hlf h)]
      have h2 : At p (n + skN false (c :: s)) ((c :: s).drop (skN false (c :: s))) := by
        have hle := skN_le false (c :: s)
        have := At.skip (x := (c :: s).take (skN false (c :: s))) (s := (c :: s).drop (skN false (c :: s))) (by rw [List.take_append_drop]; exact h)
        rwa [List.length_take, Nat.min_eq_left hle] at this
      have e : numR n (c :: s) = numK (n + skN false (c :: s)) ((c :: s).drop (skN false (c :: s))) := by
        simp only [numR]; rw [if_pos hc]
      rw [e]
      generalize (c :: s).drop (skN false (c :: s)) = t at h2
      cases t with
      | nil => rw [h2.end_, F52_f, bindr_p]; rfl
      | cons d t =>
        rw [h2.lt, F52_t, bindr_o, bindp_of h2.idx, F51_ok, bindp_s]
        cases hd : dig d with
        | false => rw [F52_f, bindr_p]; simp [numK, hd]
        | true =>
          rw [F52_t, bindr_o]
          have := h2.len
          have := F65_L7 (lf := lf) hp (d :: t) _ 0 h2 (by omega) (by omega) lf (by omega)
          rw [this]; simp [numK, hd]
    cases hc : sp c with
    | true => rw [ifp_tt, F52_t, bindr_o]; exact key (.inl hc)
    | false =>
      rw [ifp_ff, bindp_of h.idx]
      by_cases h35 : c = 35
      · rw [show (c == 35) = true by simpa using h35, F52_t, bindr_o]; exact key (.inr h35)
      · rw [show (c == 35) = false by simpa using h35, F52_f, bindr_p]
        simp [numR, hc, h35]
def headR (least most : Int) (n : Nat) (s : List Int) (len : Nat) : Res (Int × Int) (Int × Int) := match numR n s with
  | .pan e => .pan e
  | .ok (v, m) => if m < len then (if least ≤ v ∧ v ≤ most then .ok (v, m) else .pan (3, m)) else .pan (10, m)
theorem F53_ok (hp : p.length ≤ 2 ^ 30) (hlf : p.length < lf) (h : At p n s) (least most : Int) : F53.p lf p (n : Int) least most = some (headR least most n s p.length) := by
  unfold F53.p
  rw [bindr_of (F65_ok hp hlf h)]
  unfold headR
  generalize numR n s = r
  cases r with
  | pan e => rfl
  | ok r =>
    obtain ⟨v, m⟩ := r
    rw [bindr_o]
    simp only
    by_cases hm : m < (p.length : Int)
    · rw [show decide (m < (p.length : Int)) = true by simpa using hm, F52_t, bindr_o, if_pos hm]
      simp only [letJ_eq]
      by_cases h1 : v ≥ least
      · rw [show decide (v ≥ least) = true by simpa using h1, ifp_tt]
        by_cases h2 : v ≤ most
        · rw [show decide (v ≤ most) = true by simpa using h2, F52_t, bindr_o, if_pos ⟨h1, h2⟩]
        · rw [show decide (v ≤ most) = false by simpa using h2, F52_f, bindr_p, if_neg (fun hh => h2 hh.2)]
      · rw [show decide (v ≥ least) = false by simpa using h1, ifp_ff, F52_f, bindr_p, if_neg (fun hh => h1 hh.1)]
    · rw [show decide (m < (p.length : Int)) = false by simpa using hm, F52_f, bindr_p, if_neg hm]
end Go.Proofs.YtgpnjdldpehidaaDoor

open Go Go.Abs Go.Proofs
set_option maxRecDepth 100000
set_option linter.unusedVariables false
set_option linter.unusedSimpArgs false
namespace Go.Proofs.YtgpnjdldpehidaaDoor
variable {p s : List Int} {n lf : Nat}
/-! ### Numbers that were written -/
def noDig (s : List Int) : Prop := s = [] ∨ ∃ c t, s = c :: t ∧ dig c = false
theorem numN_end {v : Int} {s : List Int} (h : noDig s) : numN v s = (v, 0) := by
  rcases h with rfl | ⟨c, t, rfl, hc⟩
  · rfl
  · simp [numN, hc]
theorem numN_cons {v d : Int} {s : List Int} (hd : 48 ≤ d ∧ d ≤ 57) (hv : 10 * v + (d - 48) ≤ 65536) : numN v (d :: s) = ((numN (10 * v + (d - 48)) s).1, 1 + (numN (10 * v + (d - 48)) s).2) := by
  have : dig d = true := by simp [dig]; omega
  simp only [numN, this, if_true]
  rw [if_neg (by omega)]
theorem numN_dec {v : Nat} (hv : v < 10000) {s : List Int} (h : noDig s) : numN 0 (decD v ++ s) = ((v : Int), (decD v).length) := by
  unfold decD
  split
  · rw [List.cons_append, numN_cons (by omega) (by omega), List.nil_append, numN_end h]
    simp only [Nat.add_zero, List.length_cons, List.length_nil]
    congr 1; omega
  split
  · rw [List.cons_append, numN_cons (by omega) (by omega), List.cons_append, numN_cons (by omega) (by omega), List.nil_append, numN_end h]
    simp only [Nat.add_zero, List.length_cons, List.length_nil]
    congr 1; omega
  split
  · rw [List.cons_append, numN_cons (by omega) (by omega), List.cons_append, numN_cons (by omega) (by omega), List.cons_append, numN_cons (by omega) (by omega), List.nil_append, numN_end h]
    simp only [Nat.add_zero, List.length_cons, List.length_nil]
    congr 1; omega
  · rw [List.cons_append, numN_cons (by omega) (by omega), List.cons_append, numN_cons (by omega) (by omega), List.cons_append, numN_cons (by omega) (by omega), List.cons_append, numN_cons (by omega) (by omega), List.nil_append, numN_end h]
    simp only [Nat.add_zero, List.length_cons, List.length_nil]
    congr 1; omega
theorem decD_cons (v : Nat) (hv : v < 10000) : ∃ d t, decD v = d :: t ∧ dig d = true ∧ sp d = false ∧ d ≠ 35 := by
  have key : ∀ d : Int, 48 ≤ d ∧ d ≤ 57 → dig d = true ∧ sp d = false ∧ d ≠ 35 := fun d hd => ⟨by simp [dig]; omega, by simp [sp]; omega, by omega⟩
  unfold decD
  split
  · exact ⟨_, _, rfl, key _ (by omega)⟩
  split
  · exact ⟨_, _, rfl, key _ (by omega)⟩
  split
  · exact ⟨_, _, rfl, key _ (by omega)⟩
  · exact ⟨_, _, rfl, key _ (by omega)⟩
/-- What may stand before a number. -/
structure Sep (x : List Int) : Prop where
  head : ∃ c t, x = c :: t ∧ (sp c = true ∨ c = 35)
  skip : ∀ d t, sp d = false → d ≠ 35 → skN false (x ++ d :: t) = x.length
theorem sep_one {c : Int} (h : sp c = true) : Sep [c] := ⟨⟨c, [], rfl, .inl h⟩, fun d t h1 h2 => by simp [skN, h, h1, h2]⟩
theorem skN_com : ∀ (x : List Int), (∀ c ∈ x, c ≠ 10 ∧ c ≠ 13) → ∀ s, skN true (x ++ s) = x.length + skN true s
  | [], _, s => by simp
  | c :: x, h, s => by
    have hc := h c (by simp)
    have := skN_com x (fun c hc => h c (by simp [hc])) s
    simp only [List.cons_append, skN, List.length_cons]
    rw [if_neg (by omega), this]; omega
theorem sep_com {x : List Int} (h : ∀ c ∈ x, c ≠ 10 ∧ c ≠ 13) : Sep (10 :: 35 :: (x ++ [10])) := by
  refine ⟨⟨10, _, rfl, .inl rfl⟩, fun d t h1 h2 => ?_⟩
  have e : (10 :: 35 :: (x ++ [10])) ++ d :: t = 10 :: 35 :: (x ++ (10 :: d :: t)) := by simp
  rw [e]
  have e1 : skN false (d :: t) = 0 := by simp [skN, h1, h2]
  have e2 : skN true (10 :: d :: t) = 1 + skN false (d :: t) := by simp [skN]
  have e3 : ∀ y, skN false (10 :: y) = 1 + skN false y := fun y => by simp [skN, sp]
  have e4 : ∀ y, skN false (35 :: y) = 1 + skN true y := fun y => by simp [skN, sp]
  rw [e3, e4, skN_com x h, e2, e1]
  simp; omega
theorem numR_dec {x : List Int} (hx : Sep x) {v : Nat} (hv : v < 10000) {t : List Int} (ht : noDig t) (n : Nat) : numR n (x ++ decD v ++ t) = .ok ((v : Int), ((n + (x ++ decD v).length : Nat) : Int)) := by
  obtain ⟨c, y, hc, hcs⟩ := hx.head
  obtain ⟨d, z, hd, hd1, hd2, hd3⟩ := decD_cons v hv
  have hsk : skN false (x ++ decD v ++ t) = x.length := by
    rw [List.append_assoc, hd, List.cons_append]; exact hx.skip d _ hd2 hd3
  have hdr : (x ++ decD v ++ t).drop x.length = d :: (z ++ t) := by
    rw [List.append_assoc, List.drop_left, hd]; rfl
  have hnum := numN_dec hv ht
  rw [hd, List.cons_append] at hnum
  have key : numR n (x ++ decD v ++ t) = numK (n + skN false (x ++ decD v ++ t)) ((x ++ decD v ++ t).drop (skN false (x ++ decD v ++ t))) := by
    have hxx : x ++ decD v ++ t = c :: (y ++ decD v ++ t) := by rw [hc]; rfl
    rw [hxx]
    simp only [numR]
    rw [if_pos hcs]
  rw [key, hsk, hdr]
  simp only [numK]
  rw [if_pos hd1, hnum, hd]
  simp only [List.length_append]
  congr 3; omega
theorem headR_dec {x : List Int} (hx : Sep x) {v : Nat} (hv : v < 10000) {t : List Int} (ht : noDig t) (ht0 : t ≠ []) {least most : Int} (hr : least ≤ v ∧ v ≤ most) {n : Nat} {p : List Int} (h : At p n (x ++ decD v ++ t)) :
    headR least most n (x ++ decD v ++ t) p.length = .ok ((v : Int), ((n + (x ++ decD v).length : Nat) : Int)) := by
  unfold headR
  rw [numR_dec hx hv ht]
  have hl := h.len
  have := List.length_pos_iff.2 ht0
  simp only
  rw [if_pos (by simp only [List.length_append] at hl ⊢; omega), if_pos hr]
/-! ### Pixels as texts -/
theorem F66_ok (lf : Nat) {v : Int} (h0 : 0 ≤ v) (h1 : v < 256) : F66.p lf v 255 = some v := by
  unfold F66.p
  have e1 : IntKind.i64.wrap (255 * v) = 255 * v := wr64 (by omega) (by omega)
  have e2 : IntKind.i64.wrap (Int.tdiv 255 2) = 127 := by decide
  have e3 : IntKind.i64.wrap (255 * v + 127) = 255 * v + 127 := wr64 (by omega) (by omega)
  rw [e1, e2, e3]
  have e4 : (255 * v + 127).tdiv 255 = v := by rw [Int.tdiv_eq_ediv_of_nonneg (by omega)]; omega
  unfold quop
  rw [if_neg (by decide), bindp_s, e4, wr64 (by omega) (by omega), wru8 (by omega) (by omega)]
theorem F68_ok (lf : Nat) (b : Bool) : F68.p lf b = some (if b then 0 else 255) := by cases b <;> rfl
/-- The pixels so far: the first are those of the image. -/
def part (pix : List Int) (i : Nat) : List Int := pix.take i ++ List.replicate (pix.length - i) 0
theorem part_len {pix : List Int} {i : Nat} (h : i ≤ pix.length) : (part pix i).length = pix.length := by unfold part; simp; omega
theorem part_zero (pix : List Int) : part pix 0 = List.replicate pix.length 0 := by simp [part]
theorem part_all (pix : List Int) : part pix pix.length = pix := by simp [part]
theorem take_one (pix : List Int) (i : Nat) (h : i < pix.length) : pix.take (i + 1) = pix.take i ++ [pix[i]] := by
  rw [List.take_add_one, List.getElem?_eq_getElem h]; rfl
theorem part_set {pix : List Int} {i : Nat} (h : i < pix.length) : setp (part pix i) (i : Int) pix[i] = some (part pix (i + 1)) := by
  unfold setp
  have hl := part_len (Nat.le_of_lt h)
  rw [if_pos ⟨by omega, by rw [hl]; simpa using h⟩, Int.toNat_natCast]
  congr 1
  unfold part
  rw [List.set_append_right _ _ (by simp; omega)]
  have e1 : pix.length - i = (pix.length - (i + 1)) + 1 := by omega
  have e2 : i - (pix.take i).length = 0 := by simp; omega
  rw [e2, e1, List.replicate_succ, List.set_cons_zero, take_one pix i h, List.append_assoc]; rfl
def chV (v : Int) : Int := if v = 0 then 49 else 48
/-- The text s holds these pixels as characters, with white space between; t is left. -/
def reads1 : List Int → List Int → List Int → Prop
  | [], s, t => s = t
  | v :: vs, s, t => ∃ ws s', s = ws ++ chV v :: s' ∧ (∀ c ∈ ws, sp c = true) ∧ reads1 vs s' t
/-- The text s holds these pixels as numbers. -/
def reads2 : List Int → List Int → List Int → Prop
  | [], s, t => s = t
  | v :: vs, s, t => ∃ c s', s = c :: (decD v.toNat ++ s') ∧ sp c = true ∧ noDig s' ∧ reads2 vs s' t
theorem skN_ws : ∀ (ws : List Int), (∀ c ∈ ws, sp c = true) → ∀ d s, sp d = false → d ≠ 35 → skN false (ws ++ d :: s) = ws.length
  | [], _, d, s, h1, h2 => by simp [skN, h1, h2]
  | c :: ws, h, d, s, h1, h2 => by
    have := skN_ws ws (fun c hc => h c (by simp [hc])) d s h1 h2
    simp only [List.cons_append, skN, h c (by simp), if_true, this, List.length_cons]; omega
theorem F55_text1 (hp : p.length ≤ 2 ^ 30) (hlf : p.length < lf) (w h : Int) (pix : List Int) (hpl : pix.length ≤ 2 ^ 30) (hv : ∀ v ∈ pix, v = 0 ∨ v = 255) (g : Int) {t : List Int} : ∀ (d i : Nat), pix.length = i + d → ∀ (s : List Int) (n : Nat), At p n s → reads1 (pix.drop i) s t → ∀ k, d < k →
    ∃ m : Nat, F55.L1p lf k p (n : Int) w h (part pix i) 1 g (pix.length : Int) (i : Int) = some (.ok ((m : Int), w, h, pix)) ∧ At p m t
  | 0, i, hi, s, n, ha, hr, k + 1, _ => by
    have hi2 : i = pix.length := by omega
    subst hi2
    rw [List.drop_length] at hr
    have hr : s = t := hr
    subst hr
    refine ⟨n, ?_, ha⟩
    unfold F55.L1p
    rw [show decide ((pix.length : Int) < (pix.length : Int)) = false by simp, ifp_ff]
    unfold F55.J14p F55.J15p
    rw [part_all]; rfl
  | d + 1, i, hi, s, n, ha, hr, k + 1, hk => by
    have hil : i < pix.length := by omega
    rw [List.drop_eq_getElem_cons hil] at hr
    obtain ⟨ws, s', rfl, hws, hr'⟩ := hr
    unfold F55.L1p
    rw [show decide ((i : Int) < (pix.length : Int)) = true by simp; omega, ifp_tt]
    unfold F55.J2p
    rw [show ((1 : Int) == 2) = false from rfl, ifp_ff]
    unfold F55.J7p
    simp only [letJ_eq]
    have hcv : chV pix[i] = 49 ∨ chV pix[i] = 48 := by unfold chV; split <;> simp
    have hsp : sp (chV pix[i]) = false ∧ chV pix[i] ≠ 35 := by rcases hcv with h | h <;> rw [h] <;> exact ⟨by decide, by decide⟩
    have hln := ha.len
    rw [bindp_of (F67_ok hp hlf ha), skN_ws ws hws _ _ hsp.1 hsp.2]
    have ha2 := ha.skip
    rw [ha2.lt, F52_t, bindr_o, bindp_of ha2.idx]
    have w1 : IntKind.i64.wrap (((n + ws.length : Nat) : Int) + 1) = ((n + ws.length + 1 : Nat) : Int) := by rw [List.length_append] at hln; exact wrS (by omega)
    have w2 : IntKind.i64.wrap ((i : Int) + 1) = ((i + 1 : Nat) : Int) := wrS (by omega)
    obtain ⟨m, e1, e2⟩ := F55_text1 hp hlf w h pix hpl hv g d (i + 1) (by omega) s' (n + ws.length + 1) ha2.step hr' k (by omega)
    refine ⟨m, ?_, e2⟩
    have hpx := hv pix[i] (List.getElem_mem _)
    have hset := part_set hil
    rcases hpx with h0 | h0
    · have hc : chV pix[i] = 49 := by unfold chV; rw [if_pos h0]
      rw [hc, show ((49 : Int) == 48) = false from rfl, ifp_ff, show ((49 : Int) == 49) = true from rfl, F52_t, bindr_o, F68_ok, bindp_s, if_pos rfl]
      rw [h0] at hset
      rw [bindp_of hset, w1, w2, e1]
    · have hc : chV pix[i] = 48 := by unfold chV; rw [if_neg (by omega)]
      rw [hc, show ((48 : Int) == 48) = true from rfl, ifp_tt, F52_t, bindr_o, show ((48 : Int) == 49) = false from rfl, F68_ok, bindp_s, if_neg (by decide)]
      rw [h0] at hset
      rw [bindp_of hset, w1, w2, e1]
theorem F55_text2 (hp : p.length ≤ 2 ^ 30) (hlf : p.length < lf) (w h : Int) (pix : List Int) (hpl : pix.length ≤ 2 ^ 30) (hv : ∀ v ∈ pix, 0 ≤ v ∧ v < 256) {t : List Int} (ht : ∃ c t', t = c :: t' ∧ sp c = true) : ∀ (d i : Nat), pix.length = i + d → ∀ (s : List Int) (n : Nat), At p n s → reads2 (pix.drop i) s t → ∀ k, d < k →
    ∃ m : Nat, F55.L1p lf k p (n : Int) w h (part pix i) 2 255 (pix.length : Int) (i : Int) = some (.ok ((m : Int), w, h, pix)) ∧ At p m t
  | 0, i, hi, s, n, ha, hr, k + 1, _ => by
    have hi2 : i = pix.length := by omega
    subst hi2
    rw [List.drop_length] at hr
    have hr : s = t := hr
    subst hr
    refine ⟨n, ?_, ha⟩
    unfold F55.L1p
    rw [show decide ((pix.length : Int) < (pix.length : Int)) = false by simp, ifp_ff]
    obtain ⟨c, t', rfl, hc⟩ := ht
    unfold F55.J14p
    rw [show ((2 : Int) == 2) = true from rfl, ifp_tt, ha.lt]
    unfold F55.J15p
    rw [ifp_tt, bindp_of ha.idx, F36_ok, bindp_s, hc, ifp_tt, F52_t, bindr_o, part_all]
  | d + 1, i, hi, s, n, ha, hr, k + 1, hk => by
    have hil : i < pix.length := by omega
    rw [List.drop_eq_getElem_cons hil] at hr
    obtain ⟨c, s', rfl, hc, hnd, hr'⟩ := hr
    have hpx := hv pix[i] (List.getElem_mem _)
    unfold F55.L1p
    rw [show decide ((i : Int) < (pix.length : Int)) = true by simp; omega, ifp_tt]
    unfold F55.J2p
    rw [show ((2 : Int) == 2) = true from rfl, ifp_tt]
    have ha1 : At p n ([c] ++ decD pix[i].toNat ++ s') := by simpa using ha
    rw [bindr_of (F65_ok hp hlf ha1), numR_dec (sep_one hc) (by omega) hnd, bindr_o]
    simp only
    have hz : ((pix[i].toNat : Nat) : Int) = pix[i] := by omega
    rw [hz, show decide (pix[i] ≤ 255) = true by simp; omega, F52_t, bindr_o, F66_ok lf hpx.1 hpx.2, bindp_s, bindp_of (part_set hil)]
    have ha2 := At.skip ha1
    have w2 : IntKind.i64.wrap ((i : Int) + 1) = ((i + 1 : Nat) : Int) := wrS (by omega)
    obtain ⟨m, e1, e2⟩ := F55_text2 hp hlf w h pix hpl hv ht d (i + 1) (by omega) s' _ ha2 hr' k (by omega)
    exact ⟨m, by rw [w2, e1], e2⟩
end Go.Proofs.YtgpnjdldpehidaaDoor

open Go Go.Abs Go.Proofs
set_option maxRecDepth 100000
set_option linter.unusedVariables false
set_option linter.unusedSimpArgs false
namespace Go.Proofs.YtgpnjdldpehidaaDoor
variable {p s : List Int} {n lf : Nat}
/-! ### What is written can be read: plain formats -/
theorem reads1_append : ∀ {a b s t u : List Int}, reads1 a s t → reads1 b t u → reads1 (a ++ b) s u
  | [], b, s, t, u, h1, h2 => by
    have h1 : s = t := h1
    subst h1; exact h2
  | v :: a, b, s, t, u, h1, h2 => by
    obtain ⟨ws, s', e, hw, h1⟩ := h1
    exact ⟨ws, s', e, hw, reads1_append h1 h2⟩
theorem reads2_append : ∀ {a b s t u : List Int}, reads2 a s t → reads2 b t u → reads2 (a ++ b) s u
  | [], b, s, t, u, h1, h2 => by
    have h1 : s = t := h1
    subst h1; exact h2
  | v :: a, b, s, t, u, h1, h2 => by
    obtain ⟨c, s', e, hw, hn, h1⟩ := h1
    exact ⟨c, s', e, hw, hn, reads2_append h1 h2⟩
theorem end1_one (row : List Int) (i : Nat) : ∀ c ∈ end1 1 row i, sp c = true := by
  intro c hc
  unfold end1 sep1 at hc
  split at hc
  · simp only [List.mem_singleton] at hc; subst hc; rfl
  · rw [if_neg (by decide)] at hc; cases hc
theorem row1 (row : List Int) (X : List Int) : ∀ (d i : Nat) (ws : List Int), row.length = i + (d + 1) → (∀ c ∈ ws, sp c = true) → reads1 (row.drop i) (ws ++ (enc1 1 row (d + 1) i ++ X)) (10 :: X)
  | 0, i, ws, h, hw => by
    have hi : i < row.length := by omega
    rw [List.drop_eq_getElem_cons hi, List.drop_eq_nil_of_le (by omega)]
    have e1 : end1 1 row i = [10] := by unfold end1; rw [if_pos (.inr (by omega))]
    have e2 : num1 1 row i = [chV row[i]] := by unfold num1 chV; rw [if_neg (by decide), ← getD_at hi]
    refine ⟨ws, 10 :: X, ?_, hw, rfl⟩
    simp [enc1, e1, e2]
  | d + 1, i, ws, h, hw => by
    have hi : i < row.length := by omega
    rw [List.drop_eq_getElem_cons hi]
    have e2 : num1 1 row i = [chV row[i]] := by unfold num1 chV; rw [if_neg (by decide), ← getD_at hi]
    refine ⟨ws, end1 1 row i ++ (enc1 1 row (d + 1) (i + 1) ++ X), ?_, hw, row1 row X d (i + 1) _ (by omega) (end1_one row i)⟩
    have : enc1 1 row (d + 1 + 1) i = num1 1 row i ++ end1 1 row i ++ enc1 1 row (d + 1) (i + 1) := rfl
    rw [this, e2]; simp
theorem end1_two (row : List Int) (i : Nat) : ∃ c, end1 2 row i = [c] ∧ sp c = true ∧ dig c = false := by
  unfold end1 sep1
  split
  · exact ⟨10, rfl, rfl, rfl⟩
  · rw [if_pos rfl]; exact ⟨32, rfl, rfl, rfl⟩
theorem row2 (row : List Int) (X : List Int) : ∀ (d i : Nat) (c : Int), row.length = i + (d + 1) → sp c = true → reads2 (row.drop i) (c :: (enc1 2 row (d + 1) i ++ X)) (10 :: X)
  | 0, i, c, h, hw => by
    have hi : i < row.length := by omega
    rw [List.drop_eq_getElem_cons hi, List.drop_eq_nil_of_le (by omega)]
    have e1 : end1 2 row i = [10] := by unfold end1; rw [if_pos (.inr (by omega))]
    have e2 : num1 2 row i = decD row[i].toNat := by unfold num1; rw [if_pos rfl, ← getD_at hi]
    refine ⟨c, 10 :: X, ?_, hw, .inr ⟨10, X, rfl, rfl⟩, rfl⟩
    simp [enc1, e1, e2]
  | d + 1, i, c, h, hw => by
    have hi : i < row.length := by omega
    rw [List.drop_eq_getElem_cons hi]
    have e2 : num1 2 row i = decD row[i].toNat := by unfold num1; rw [if_pos rfl, ← getD_at hi]
    obtain ⟨c', hc1, hc2, hc3⟩ := end1_two row i
    refine ⟨c, c' :: (enc1 2 row (d + 1) (i + 1) ++ X), ?_, hw, .inr ⟨c', _, rfl, hc3⟩, row2 row X d (i + 1) c' (by omega) hc2⟩
    have : enc1 2 row (d + 1 + 1) i = num1 2 row i ++ end1 2 row i ++ enc1 2 row (d + 1) (i + 1) := rfl
    rw [this, e2, hc1]; simp
theorem rows_split (pix : List Int) (w d y : Nat) : (pix.drop (y * w)).take ((d + 1) * w) = rowAt pix w y ++ (pix.drop ((y + 1) * w)).take (d * w) := by
  unfold rowAt
  rw [show (d + 1) * w = w + d * w by rw [Nat.add_mul]; omega, List.take_add, List.drop_drop]
  congr 3
  rw [Nat.add_mul]; omega
variable {f : Int} {pix : List Int} {w h lf' : Nat}
theorem encA_reads1 (hd : Dom 1 pix w h lf') (X : List Int) : ∀ (d y : Nat), h = y + d → reads1 ((pix.drop (y * w)).take (d * w)) (10 :: (encA 1 pix w d y ++ X)) (10 :: X)
  | 0, y, hy => by
    rw [Nat.zero_mul, List.take_zero]; rfl
  | d + 1, y, hy => by
    rw [rows_split]
    obtain ⟨r1, r2, r3⟩ := hd.row (y := y) (by omega)
    have hw1 := hd.w1
    obtain ⟨e, he⟩ : ∃ e, w = e + 1 := ⟨w - 1, by omega⟩
    have h1 := row1 (rowAt pix w y) (encA 1 pix w d (y + 1) ++ X) e 0 [10] (by omega) (by simp [sp])
    rw [List.drop_zero] at h1
    have e1 : encR 1 (rowAt pix w y) = enc1 1 (rowAt pix w y) (e + 1) 0 := by unfold encR; rw [if_pos (.inl rfl), r1, ← he]
    refine reads1_append (t := 10 :: (encA 1 pix w d (y + 1) ++ X)) ?_ (encA_reads1 hd X d (y + 1) (by omega))
    have e2 : encA 1 pix w (d + 1) y = encR 1 (rowAt pix w y) ++ encA 1 pix w d (y + 1) := rfl
    rw [e2, e1, List.append_assoc]
    exact h1
theorem encA_reads2 (hd : Dom 2 pix w h lf') (X : List Int) : ∀ (d y : Nat), h = y + d → reads2 ((pix.drop (y * w)).take (d * w)) (10 :: (encA 2 pix w d y ++ X)) (10 :: X)
  | 0, y, hy => by
    rw [Nat.zero_mul, List.take_zero]; rfl
  | d + 1, y, hy => by
    rw [rows_split]
    obtain ⟨r1, r2, r3⟩ := hd.row (y := y) (by omega)
    have hw1 := hd.w1
    obtain ⟨e, he⟩ : ∃ e, w = e + 1 := ⟨w - 1, by omega⟩
    have h1 := row2 (rowAt pix w y) (encA 2 pix w d (y + 1) ++ X) e 0 10 (by omega) rfl
    rw [List.drop_zero] at h1
    have e1 : encR 2 (rowAt pix w y) = enc1 2 (rowAt pix w y) (e + 1) 0 := by unfold encR; rw [if_pos (.inr rfl), r1, ← he]
    refine reads2_append (t := 10 :: (encA 2 pix w d (y + 1) ++ X)) ?_ (encA_reads2 hd X d (y + 1) (by omega))
    have e2 : encA 2 pix w (d + 1) y = encR 2 (rowAt pix w y) ++ encA 2 pix w d (y + 1) := rfl
    rw [e2, e1, List.append_assoc]
    exact h1
theorem pix_all (hd : Dom f pix w h lf') : (pix.drop (0 * w)).take (h * w) = pix := by
  rw [Nat.zero_mul, List.drop_zero, List.take_of_length_le]
  rw [hd.len, Nat.mul_comm]; exact Nat.le_refl _
/-! ### Raw formats -/
theorem At.nth {x t : List Int} (ha : At p n (x ++ t)) {i : Nat} (hi : i < x.length) : idxp p ((n + i : Nat) : Int) = some x[i] := by
  have := At.skip (x := x.take i) (s := x.drop i ++ t) (by rw [← List.append_assoc, List.take_append_drop]; exact ha)
  rw [List.length_take, Nat.min_eq_left (by omega), List.drop_eq_getElem_cons hi] at this
  exact this.idx
theorem remp_nat {a b : Nat} (hb : b ≠ 0) : remp (a : Int) (b : Int) = some ((a % b : Nat) : Int) := by
  unfold remp; rw [if_neg (by omega), tmod_nat]
theorem quop_nat {a b : Nat} (hb : b ≠ 0) (ha : a ≤ 2 ^ 40) : quop .i64 (a : Int) (b : Int) = some ((a / b : Nat) : Int) := by
  have := Nat.div_le_self a b
  have e : IntKind.i64.wrap ((a / b : Nat) : Int) = ((a / b : Nat) : Int) := by generalize a / b = q at this ⊢; exact wr64 (by omega) (by omega)
  unfold quop; rw [if_neg (by omega), tdiv_nat, e]
theorem raw5 (hp : p.length ≤ 2 ^ 30) (hd : Dom 5 pix w h lf') {t : List Int} (ha : At p n (pix ++ t)) : ∀ (d i : Nat), pix.length = i + d → ∀ k, d < k →
    F56.L7p lf k p (n : Int) (w : Int) (h : Int) (part pix i) 5 255 (w : Int) (pix.length : Int) (i : Int) = some (.ok (((n + pix.length : Nat) : Int), w, h, pix))
  | 0, i, hi, k + 1, _ => by
    have hi2 : i = pix.length := by omega
    subst hi2
    unfold F56.L7p
    rw [show decide ((pix.length : Int) < (pix.length : Int)) = false by simp, ifp_ff]
    have hwh := hd.wh
    have hln := ha.len
    have m1 : (w : Int) * (h : Int) = ((pix.length : Nat) : Int) := by rw [hd.len, Int.natCast_mul]
    have w1 : IntKind.i64.wrap ((w : Int) * (h : Int)) = ((pix.length : Nat) : Int) := by rw [m1, wr64 (by have := hd.len; omega) (by have := hd.len; omega)]
    have w2 : IntKind.i64.wrap ((n : Int) + ((pix.length : Nat) : Int)) = ((n + pix.length : Nat) : Int) := by
      rw [List.length_append] at hln
      rw [wr64 (by omega) (by omega)]; omega
    rw [w1, w2, part_all]
  | d + 1, i, hi, k + 1, hk => by
    have hil : i < pix.length := by omega
    have hln := ha.len
    rw [List.length_append] at hln
    have hw0 : w ≠ 0 := by have := hd.w1; omega
    unfold F56.L7p
    rw [show decide ((i : Int) < (pix.length : Int)) = true by simp; omega, ifp_tt]
    unfold F56.J8p
    simp only [letJ_eq]
    have w1 : IntKind.i64.wrap ((n : Int) + (i : Int)) = ((n + i : Nat) : Int) := by rw [wr64 (by omega) (by omega)]; omega
    have hpx := hd.range pix[i] (List.getElem_mem _)
    rw [bindp_of (remp_nat hw0), bindp_of (quop_nat hw0 (by omega)), show ((5 : Int) == 4) = false from rfl, ifp_ff, w1, bindp_of (ha.nth hil), wr64 (by omega) (by omega)]
    rw [show decide (pix[i] ≤ 255) = true by simp; omega, F52_t, bindr_o, F66_ok lf hpx.1 hpx.2, bindp_s, bindp_of (part_set hil), wrS (by omega)]
    exact raw5 hp hd ha d (i + 1) (by omega) k (by omega)
theorem pks_get (row : List Int) : ∀ (d i j : Nat), j < d → i + 8 * j < row.length → (pks row d i)[j]? = some (pkv row (i + 8 * j) 8 : Int)
  | d + 1, i, 0, _, h => by simp only [pks]; rw [if_pos (by omega)]; rfl
  | d + 1, i, j + 1, h1, h2 => by
    simp only [pks]
    rw [if_pos (by omega), List.getElem?_cons_succ, pks_get row d (i + 8) j (by omega) (by omega), show i + 8 + 8 * j = i + 8 * (j + 1) by omega]
theorem pks_len_eq (row : List Int) : ∀ (d i : Nat), row.length ≤ i + 8 * d → (pks row d i).length = (row.length - i + 7) / 8
  | 0, i, h => by simp only [pks, List.length_nil]; omega
  | d + 1, i, h => by
    simp only [pks]
    split
    · rw [List.length_cons, pks_len_eq row d (i + 8) (by omega)]; omega
    · simp only [List.length_nil]; omega
theorem encA4_get (hd : Dom 4 pix w h lf') : ∀ (d y y' j : Nat), h = y + d → y' < d → j < (w + 7) / 8 → (encA 4 pix w d y)[y' * ((w + 7) / 8) + j]? = some (pkv (rowAt pix w (y + y')) (8 * j) 8 : Int)
  | d + 1, y, y', j, hy, hy', hj => by
    obtain ⟨r1, r2, r3⟩ := hd.row (y := y) (by omega)
    have e1 : encR 4 (rowAt pix w y) = pks (rowAt pix w y) (rowAt pix w y).length 0 := by unfold encR; rw [if_neg (by decide), if_pos rfl]
    have e2 : encA 4 pix w (d + 1) y = encR 4 (rowAt pix w y) ++ encA 4 pix w d (y + 1) := rfl
    have hl : (encR 4 (rowAt pix w y)).length = (w + 7) / 8 := by rw [e1, pks_len_eq _ _ _ (by omega), r1]; congr 1
    rw [e2]
    cases y' with
    | zero =>
      rw [Nat.zero_mul, Nat.zero_add, List.getElem?_append_left (by rw [hl]; exact hj), e1, pks_get _ _ _ _ (by omega) (by omega), Nat.add_zero, Nat.zero_add]
    | succ y' =>
      rw [List.getElem?_append_right (by rw [hl, Nat.add_mul]; omega), hl, show (y' + 1) * ((w + 7) / 8) + j - (w + 7) / 8 = y' * ((w + 7) / 8) + j by rw [Nat.add_mul]; omega, encA4_get hd d (y + 1) y' j (by omega) (by omega) hj, show y + 1 + y' = y + (y' + 1) by omega]
theorem encA4_len (hd : Dom 4 pix w h lf') : ∀ (d y : Nat), h = y + d → (encA 4 pix w d y).length = (w + 7) / 8 * d
  | 0, y, hy => by simp [encA]
  | d + 1, y, hy => by
    obtain ⟨r1, r2, r3⟩ := hd.row (y := y) (by omega)
    have e1 : encR 4 (rowAt pix w y) = pks (rowAt pix w y) (rowAt pix w y).length 0 := by unfold encR; rw [if_neg (by decide), if_pos rfl]
    have e2 : encA 4 pix w (d + 1) y = encR 4 (rowAt pix w y) ++ encA 4 pix w d (y + 1) := rfl
    rw [e2, List.length_append, e1, pks_len_eq _ _ _ (by omega), r1, encA4_len hd d (y + 1) (by omega), Nat.mul_add]
    rw [Nat.sub_zero]; omega
theorem pkv_div (row : List Int) (i a : Nat) : ∀ m, pkv row i (a + m) / 2 ^ m = pkv row i a
  | 0 => by simp
  | m + 1 => by
    have hb := bitA_le row (i + (a + m))
    have : pkv row i (a + (m + 1)) / 2 = pkv row i (a + m) := by
      show (2 * pkv row i (a + m) + bitA row (i + (a + m))) / 2 = _
      omega
    rw [Nat.pow_succ, Nat.mul_comm, ← Nat.div_div_eq_div_mul, this, pkv_div row i a m]
theorem pkv_bit (row : List Int) (i : Nat) {k : Nat} (hk : k < 8) : pkv row i 8 / 2 ^ (7 - k) % 2 = bitA row (i + k) := by
  have h1 := pkv_div row i (k + 1) (7 - k)
  rw [show k + 1 + (7 - k) = 8 by omega] at h1
  rw [h1]
  have hb := bitA_le row (i + k)
  show (2 * pkv row i k + bitA row (i + k)) % 2 = _
  omega
theorem and1 : ∀ z, z < 256 → bAnd .u8 ((z : Nat) : Int) 1 = ((z % 2 : Nat) : Int) := by decide
theorem raw4 (hp : p.length ≤ 2 ^ 30) (hd : Dom 4 pix w h lf') (hv : ∀ v ∈ pix, v = 0 ∨ v = 255) {t : List Int} (ha : At p n (encA 4 pix w h 0 ++ t)) : ∀ (d i : Nat), pix.length = i + d → ∀ k, d < k →
    F56.L7p lf k p (n : Int) (w : Int) (h : Int) (part pix i) 4 1 (((w + 7) / 8 : Nat) : Int) (pix.length : Int) (i : Int) = some (.ok (((n + (encA 4 pix w h 0).length : Nat) : Int), w, h, pix))
  | 0, i, hi, k + 1, _ => by
    have hi2 : i = pix.length := by omega
    subst hi2
    unfold F56.L7p
    rw [show decide ((pix.length : Int) < (pix.length : Int)) = false by simp, ifp_ff]
    have hln := ha.len
    have hle := encA4_len hd h 0 (by omega)
    have m1 : (((w + 7) / 8 : Nat) : Int) * (h : Int) = (((encA 4 pix w h 0).length : Nat) : Int) := by rw [hle, Int.natCast_mul]
    rw [List.length_append] at hln
    have w1 : IntKind.i64.wrap ((((w + 7) / 8 : Nat) : Int) * (h : Int)) = (((encA 4 pix w h 0).length : Nat) : Int) := by rw [m1, wr64 (by omega) (by omega)]
    have w2 : IntKind.i64.wrap ((n : Int) + (((encA 4 pix w h 0).length : Nat) : Int)) = ((n + (encA 4 pix w h 0).length : Nat) : Int) := by
      rw [wr64 (by omega) (by omega)]; omega
    rw [w1, w2, part_all]
  | d + 1, i, hi, k + 1, hk => by
    have hil : i < pix.length := by omega
    have hln := ha.len
    rw [List.length_append] at hln
    have hw0 : w ≠ 0 := by have := hd.w1; omega
    have hw1 : 0 < w := by omega
    have hmod := Nat.mod_lt i hw1
    have hwh := hd.wh
    have hpl := hd.len
    have hyh : i / w < h := by rw [Nat.div_lt_iff_lt_mul hw1, Nat.mul_comm]; have := hd.len; omega
    have hle := encA4_len hd h 0 (by omega)
    have hj : i % w / 8 < (w + 7) / 8 := by omega
    have hget := encA4_get hd h 0 (i / w) (i % w / 8) (by omega) hyh hj
    rw [Nat.zero_add] at hget
    obtain ⟨hlt, hget⟩ := List.getElem?_eq_some_iff.1 hget
    unfold F56.L7p
    rw [show decide ((i : Int) < (pix.length : Int)) = true by simp; omega, ifp_tt]
    unfold F56.J8p
    simp only [letJ_eq]
    have hmul : i / w * ((w + 7) / 8) ≤ 2 ^ 30 := by omega
    have w1 : IntKind.i64.wrap (((i / w : Nat) : Int) * (((w + 7) / 8 : Nat) : Int)) = ((i / w * ((w + 7) / 8) : Nat) : Int) := by
      rw [← Int.natCast_mul, wr64 (by omega) (by omega)]
    have w2 : IntKind.i64.wrap ((n : Int) + ((i / w * ((w + 7) / 8) : Nat) : Int)) = ((n + i / w * ((w + 7) / 8) : Nat) : Int) := by rw [wr64 (by omega) (by omega)]; omega
    have w3 : Int.tdiv ((i % w : Nat) : Int) 8 = ((i % w / 8 : Nat) : Int) := tdiv_nat _ 8
    have w4 : IntKind.i64.wrap ((i % w / 8 : Nat) : Int) = ((i % w / 8 : Nat) : Int) := wr64 (by omega) (by omega)
    have w5 : IntKind.i64.wrap (((n + i / w * ((w + 7) / 8) : Nat) : Int) + ((i % w / 8 : Nat) : Int)) = ((n + (i / w * ((w + 7) / 8) + i % w / 8) : Nat) : Int) := by rw [wr64 (by omega) (by omega)]; omega
    have w6 : Int.tmod ((i % w : Nat) : Int) 8 = ((i % w % 8 : Nat) : Int) := tmod_nat _ 8
    have w7 : IntKind.i64.wrap (7 - ((i % w % 8 : Nat) : Int)) = ((7 - i % w % 8 : Nat) : Int) := by rw [wr64 (by omega) (by omega)]; omega
    have w8 : IntKind.u64.wrap ((7 - i % w % 8 : Nat) : Int) = ((7 - i % w % 8 : Nat) : Int) := wru64 (by omega) (by omega)
    rw [bindp_of (remp_nat hw0), bindp_of (quop_nat hw0 (by omega)), show ((4 : Int) == 4) = true from rfl, ifp_tt, w1, w2, w3, w4, w5, bindp_of (ha.nth hlt), hget, w6, w7, w8]
    have hlt8 := pkv_lt (rowAt pix w (i / w)) (8 * (i % w / 8)) 8
    have hbit := pkv_bit (rowAt pix w (i / w)) (8 * (i % w / 8)) (k := i % w % 8) (by omega)
    rw [show 8 * (i % w / 8) + i % w % 8 = i % w by omega] at hbit
    generalize pkv (rowAt pix w (i / w)) (8 * (i % w / 8)) 8 = P at hlt8 hbit
    have hsh : shrp .u8 (P : Int) ((7 - i % w % 8 : Nat) : Int) = some ((P / 2 ^ (7 - i % w % 8) : Nat) : Int) := by
      unfold shrp
      rw [if_neg (by omega), Int.toNat_natCast, show min (7 - i % w % 8) IntKind.u8.bits = 7 - i % w % 8 by have : IntKind.u8.bits = 8 := rfl; omega]
      rw [Int.fdiv_eq_ediv_of_nonneg _ (Int.le_of_lt (by exact Int.pow_pos (by decide)))]
      congr 1
    have hPd : P / 2 ^ (7 - i % w % 8) < 256 := Nat.lt_of_le_of_lt (Nat.div_le_self _ _) hlt8
    rw [bindp_of hsh, and1 _ hPd, hbit, F68_ok, bindp_s]
    have hrow : (rowAt pix w (i / w)).getD (i % w) 0 = pix[i] := by
      obtain ⟨r1, r2, r3⟩ := hd.row hyh
      rw [← getD_at (by omega)]
      unfold rowAt
      rw [List.getElem_take, List.getElem_drop]
      congr 1
      have := Nat.div_add_mod i w
      rw [Nat.mul_comm] at this; exact this
    have hb : bitA (rowAt pix w (i / w)) (i % w) = if pix[i] = 0 then 1 else 0 := by
      unfold bitA
      obtain ⟨r1, r2, r3⟩ := hd.row hyh
      rw [hrow, r1]
      by_cases hz : pix[i] = 0
      · rw [if_pos ⟨hmod, hz⟩, if_pos hz]
      · rw [if_neg (fun hh => hz hh.2), if_neg hz]
    have hset := part_set hil
    have ih := raw4 hp hd hv ha d (i + 1) (by omega) k (by omega)
    rcases hv pix[i] (List.getElem_mem _) with h0 | h0
    · rw [hb, if_pos h0, show (((1 : Nat) : Int) == 1) = true from rfl, if_pos rfl]
      rw [h0] at hset
      rw [bindp_of hset, wrS (by omega), ih]
    · rw [hb, if_neg (show ¬ pix[i] = 0 by rw [h0]; decide), show (((0 : Nat) : Int) == 1) = false from rfl, if_neg (by decide)]
      rw [h0] at hset
      rw [bindp_of hset, wrS (by omega), ih]
end Go.Proofs.YtgpnjdldpehidaaDoor

open Go Go.Abs Go.Proofs
set_option maxRecDepth 100000
set_option linter.unusedVariables false
set_option linter.unusedSimpArgs false
namespace Go.Proofs.YtgpnjdldpehidaaDoor
variable {p s : List Int} {n lf : Nat} {f : Int} {pix : List Int} {w h lf' : Nat}
/-! ### The whole file -/
/-- The greatest value and what stands before it. -/
def topL (f : Int) : List Int := if f = 2 ∨ f = 5 then 10 :: decD 255 else []
/-- A file with x before the width. -/
def fileX (f : Int) (x pix : List Int) (w h : Nat) : List Int := [80, 48 + f] ++ (x ++ decD w) ++ ([32] ++ decD h) ++ topL f ++ 10 :: encA f pix w h 0
theorem fileX_eq (f : Int) (pix : List Int) (w h : Nat) : fileX f [10] pix w h = fileL f pix w h := by
  unfold fileX fileL headL topL
  by_cases hb : f = 2 ∨ f = 5
  · rw [if_pos hb, if_pos hb]
    have : decD 255 = [50, 53, 53] := by decide
    rw [this]; simp
  · rw [if_neg hb, if_neg hb]; simp
/-- Its end for the reader: plain files leave the last line feed. -/
def leftL (f : Int) : Nat := if f < 4 then 1 else 0
theorem noDig_cons {c : Int} {t : List Int} (h : dig c = false) : noDig (c :: t) := .inr ⟨c, t, rfl, h⟩
/-- The pixels. -/
theorem read_body (hp : p.length ≤ 2 ^ 30) (hlf : p.length < lf) (hlf2 : pix.length < lf) (hd : Dom f pix w h lf') (hv : f = 1 ∨ f = 4 → ∀ v ∈ pix, v = 0 ∨ v = 255) {X : List Int} (ha : At p n (10 :: (encA f pix w h 0 ++ X))) (a b : Int) :
    ∃ m : Nat, F44.J13p lf p (n : Int) a b f (w : Int) (h : Int) (if f = 2 ∨ f = 5 then 255 else 1) = some (.ok ((w : Int), (h : Int), pix, f, (m : Int))) ∧ m + X.length + leftL f = p.length := by
  have hwh := hd.wh
  have hln := ha.len
  have hlen := hd.len
  have m1 : (w : Int) * (h : Int) = ((pix.length : Nat) : Int) := by rw [hlen, Int.natCast_mul]
  have w1 : IntKind.i64.wrap ((w : Int) * (h : Int)) = ((pix.length : Nat) : Int) := by rw [m1, wr64 (by omega) (by omega)]
  have hmk : repp 1 (0 : Int) ((pix.length : Nat) : Int) = some (part pix 0) := by
    unfold repp
    rw [if_pos ⟨by omega, by unfold bigLimit; omega, by unfold bigLimit; omega⟩, Int.toNat_natCast, part_zero]
  have hpl : (part pix 0).length = pix.length := part_len (by omega)
  simp only [List.length_cons, List.length_append] at hln
  unfold F44.J13p
  rw [w1, bindp_of hmk, F54_ok, bindp_s]
  simp only [letJ_eq]
  rcases hd.fm with rfl | rfl | rfl | rfl
  · rw [show ((1 : Int) == 1 || (1 : Int) == 2) = true from rfl, ifp_tt, if_neg (by decide)]
    unfold F55.p
    rw [hpl]
    have hr := encA_reads1 hd X h 0 (by omega)
    rw [pix_all hd] at hr
    obtain ⟨m, e1, e2⟩ := F55_text1 hp hlf (w : Int) (h : Int) pix (by omega) (hv (.inl rfl)) 1 pix.length 0 (by omega) _ n ha (by rw [List.drop_zero]; exact hr) lf hlf2
    refine ⟨m, ?_, ?_⟩
    · rw [bindr_of (show F55.L1p lf lf p (n : Int) (w : Int) (h : Int) (part pix 0) 1 1 (pix.length : Int) 0 = _ from e1), bindr_o]
    · have := e2.len; simp only [List.length_cons] at this; unfold leftL; rw [if_pos (by decide)]; omega
  · rw [show ((2 : Int) == 1 || (2 : Int) == 2) = true from rfl, ifp_tt, if_pos (.inl rfl)]
    unfold F55.p
    rw [hpl]
    have hr := encA_reads2 hd X h 0 (by omega)
    rw [pix_all hd] at hr
    obtain ⟨m, e1, e2⟩ := F55_text2 hp hlf (w : Int) (h : Int) pix (by omega) hd.range ⟨10, X, rfl, rfl⟩ pix.length 0 (by omega) _ n ha (by rw [List.drop_zero]; exact hr) lf hlf2
    refine ⟨m, ?_, ?_⟩
    · rw [bindr_of (show F55.L1p lf lf p (n : Int) (w : Int) (h : Int) (part pix 0) 2 255 (pix.length : Int) 0 = _ from e1), bindr_o]
    · have := e2.len; simp only [List.length_cons] at this; unfold leftL; rw [if_pos (by decide)]; omega
  · rw [show ((4 : Int) == 1 || (4 : Int) == 2) = false from rfl, ifp_ff, if_neg (by decide)]
    unfold F56.p
    rw [bindp_of ha.idx, F36_ok, bindp_s, show sp 10 = true from rfl, F52_t, bindr_o, show ((4 : Int) == 4) = true from rfl, ifp_tt, wrS (by omega)]
    have w2 : IntKind.i64.wrap ((w : Int) + 7) = ((w + 7 : Nat) : Int) := by have := hd.w2; rw [wr64 (by omega) (by omega)]; omega
    have w3 : Int.tdiv ((w + 7 : Nat) : Int) 8 = (((w + 7) / 8 : Nat) : Int) := tdiv_nat _ 8
    have w4 : IntKind.i64.wrap (((w + 7) / 8 : Nat) : Int) = (((w + 7) / 8 : Nat) : Int) := by have := hd.w2; exact wr64 (by omega) (by omega)
    rw [w2, w3, w4]
    unfold F56.J5p
    have hle := encA4_len hd h 0 (by omega)
    have m2 : (((w + 7) / 8 : Nat) : Int) * (h : Int) = (((encA 4 pix w h 0).length : Nat) : Int) := by rw [hle, Int.natCast_mul]
    have w5 : IntKind.i64.wrap ((((w + 7) / 8 : Nat) : Int) * (h : Int)) = (((encA 4 pix w h 0).length : Nat) : Int) := by rw [m2, wr64 (by omega) (by omega)]
    have w6 : IntKind.i64.wrap ((p.length : Int) - ((n + 1 : Nat) : Int)) = ((p.length - (n + 1) : Nat) : Int) := by rw [wr64 (by omega) (by omega)]; omega
    rw [w5, w6, show decide (((p.length - (n + 1) : Nat) : Int) ≥ (((encA 4 pix w h 0).length : Nat) : Int)) = true by simp; omega, F52_t, bindr_o, hpl]
    have e1 := raw4 (lf := lf) hp hd (hv (.inr rfl)) ha.step pix.length 0 (by omega) lf hlf2
    refine ⟨n + 1 + (encA 4 pix w h 0).length, ?_, ?_⟩
    · rw [bindr_of (show F56.L7p lf lf p ((n + 1 : Nat) : Int) (w : Int) (h : Int) (part pix 0) 4 1 (((w + 7) / 8 : Nat) : Int) (pix.length : Int) 0 = _ from e1), bindr_o]
    · unfold leftL; rw [if_neg (by decide)]; omega
  · rw [show ((5 : Int) == 1 || (5 : Int) == 2) = false from rfl, ifp_ff, if_pos (.inr rfl)]
    unfold F56.p
    rw [bindp_of ha.idx, F36_ok, bindp_s, show sp 10 = true from rfl, F52_t, bindr_o, show ((5 : Int) == 4) = false from rfl, ifp_ff, wrS (by omega)]
    unfold F56.J5p
    have he5 : encA 5 pix w h 0 = pix := by
      have key : ∀ d y, h = y + d → encA 5 pix w d y = (pix.drop (y * w)).take (d * w) := by
        intro d
        induction d with
        | zero => intro y hy; simp [encA]
        | succ d ih =>
          intro y hy
          rw [rows_split, ← ih (y + 1) (by omega)]
          have e1 : encR 5 (rowAt pix w y) = rowAt pix w y := by unfold encR; rw [if_neg (by decide), if_neg (by decide)]
          show encR 5 (rowAt pix w y) ++ _ = _
          rw [e1]
      rw [key h 0 (by omega), pix_all hd]
    rw [he5] at ha hln
    have w6 : IntKind.i64.wrap ((p.length : Int) - ((n + 1 : Nat) : Int)) = ((p.length - (n + 1) : Nat) : Int) := by rw [wr64 (by omega) (by omega)]; omega
    rw [w1, w6, show decide (((p.length - (n + 1) : Nat) : Int) ≥ ((pix.length : Nat) : Int)) = true by simp; omega, F52_t, bindr_o, hpl]
    have e1 := raw5 (lf := lf) hp hd ha.step pix.length 0 (by omega) lf hlf2
    refine ⟨n + 1 + pix.length, ?_, ?_⟩
    · rw [bindr_of (show F56.L7p lf lf p ((n + 1 : Nat) : Int) (w : Int) (h : Int) (part pix 0) 5 255 (w : Int) (pix.length : Int) 0 = _ from e1), bindr_o]
    · unfold leftL; rw [if_neg (by decide)]; omega
/-- Reading what was written gives the image, the format and the length. -/
theorem read_file (hd : Dom f pix w h lf') (hpx : w * h ≤ 4194304) (hv : f = 1 ∨ f = 4 → ∀ v ∈ pix, v = 0 ∨ v = 255) {x X : List Int} (hx : Sep x) (hp : p = fileX f x pix w h ++ X) (hpl : p.length ≤ 4194304) (hlf : p.length < lf) (hlf2 : pix.length < lf) :
    ∃ m : Nat, F44.p lf p 0 = some (.ok ((w : Int), (h : Int), pix, f, (m : Int))) ∧ m + X.length + leftL f = p.length := by
  have hf : 1 ≤ f ∧ f ≤ 5 := by rcases hd.fm with rfl | rfl | rfl | rfl <;> omega
  have hp30 : p.length ≤ 2 ^ 30 := by omega
  have hw2 := hd.w2
  have hh2 := hd.h2
  have hw1 := hd.w1
  have hh1 := hd.h1
  have hwh := hd.wh
  have ha0 : At p 0 (80 :: (48 + f) :: (x ++ decD w ++ (([32] ++ decD h) ++ (topL f ++ 10 :: (encA f pix w h 0 ++ X))))) := by
    refine ⟨?_, Nat.zero_le _⟩
    rw [hp]; unfold fileX; simp
  have ha1 := ha0.step
  have ha2 := ha1.step
  have hln := ha0.len
  simp only [List.length_cons] at hln
  unfold F44.p
  have w0 : IntKind.i64.wrap ((p.length : Int) - 0) = (p.length : Int) := by rw [wr64 (by omega) (by omega)]; omega
  have i0 : idxp p (0 : Int) = some 80 := ha0.idx
  have i1 : idxp p (IntKind.i64.wrap (0 + 1)) = some (48 + f) := by rw [show IntKind.i64.wrap (0 + 1) = ((1 : Nat) : Int) by decide]; exact ha1.idx
  rw [w0, show decide ((p.length : Int) ≥ 2) = true by simp; omega, ifp_tt, bindp_of i0, show ((80 : Int) == 80) = true from rfl, ifp_tt, bindp_of i1, F51_ok, bindp_s]
  have hdig : dig (48 + f) = true := by simp [dig]; omega
  rw [hdig]
  unfold F44.J3p
  have wf : IntKind.i64.wrap (IntKind.u8.wrap (48 + f - 48)) = f := by
    rw [show 48 + f - 48 = f by omega, wru8 (by omega) (by omega), wr64 (by omega) (by omega)]
  rw [ifp_tt, bindp_of i1, wf]
  unfold F44.J4p
  have hkn : (f == 1 || f == 4 || f == 2 || f == 5) = true := by rcases hd.fm with rfl | rfl | rfl | rfl <;> rfl
  have w2 : IntKind.i64.wrap ((0 : Int) + 2) = ((0 + 1 + 1 : Nat) : Int) := by decide
  have t1 : noDig (([32] ++ decD h) ++ (topL f ++ 10 :: (encA f pix w h 0 ++ X))) := noDig_cons rfl
  have t2 : noDig (topL f ++ 10 :: (encA f pix w h 0 ++ X)) ∧ topL f ++ 10 :: (encA f pix w h 0 ++ X) ≠ [] := by
    unfold topL; split
    · exact ⟨noDig_cons rfl, by simp⟩
    · exact ⟨noDig_cons rfl, by simp⟩
  rw [F20_ok, bindp_s, hkn, F52_t, bindr_o, w2, bindr_of (F53_ok hp30 hlf ha2 0 65535), headR_dec hx (by omega) t1 (by simp) ⟨by omega, by omega⟩ ha2, bindr_o]
  have ha3 := At.skip ha2
  simp only
  rw [bindr_of (F53_ok hp30 hlf ha3 0 65535), headR_dec (sep_one rfl) (by omega) t2.1 t2.2 ⟨by omega, by omega⟩ ha3, bindr_o]
  have ha4 := At.skip ha3
  simp only
  have m1 : (w : Int) * (h : Int) = ((w * h : Nat) : Int) := by rw [Int.natCast_mul]
  have w3 : IntKind.i64.wrap ((w : Int) * (h : Int)) = ((w * h : Nat) : Int) := by rw [m1, wr64 (by omega) (by omega)]
  rw [show decide ((w : Int) ≥ 1) = true by simp; omega, ifp_tt, show decide ((w : Int) ≤ 4096) = true by simp; omega, ifp_tt, show decide ((h : Int) ≥ 1) = true by simp; omega, ifp_tt, show decide ((h : Int) ≤ 4096) = true by simp; omega, ifp_tt, w3, show decide (((w * h : Nat) : Int) ≤ 4194304) = true by simp only [decide_eq_true_eq]; omega, F52_t, bindr_o]
  unfold F44.J10p
  rw [F21_ok, bindp_s]
  by_cases hb : f = 2 ∨ f = 5
  · have hbb : (!(f == 1 || f == 4)) = true := by rcases hb with rfl | rfl <;> rfl
    have htop : topL f = [10] ++ decD 255 := by unfold topL; rw [if_pos hb]; rfl
    rw [htop] at ha4
    have ha4' := ha4
    rw [hbb, ifp_tt, bindr_of (F53_ok hp30 hlf ha4 1 255), headR_dec (sep_one rfl) (by decide) (noDig_cons rfl) (by simp) ⟨by decide, by decide⟩ ha4, bindr_o]
    have ha5 := At.skip ha4
    obtain ⟨m, e1, e2⟩ := read_body hp30 hlf hlf2 hd hv ha5 0 0
    rw [if_pos hb] at e1
    exact ⟨m, e1, e2⟩
  · have hbb : (!(f == 1 || f == 4)) = false := by rcases hd.fm with rfl | rfl | rfl | rfl <;> first | rfl | omega
    have htop : topL f = [] := by unfold topL; rw [if_neg hb]
    rw [htop] at ha4
    rw [hbb, ifp_ff]
    obtain ⟨m, e1, e2⟩ := read_body hp30 hlf hlf2 hd hv ha4 0 0
    rw [if_neg hb] at e1
    exact ⟨m, e1, e2⟩
end Go.Proofs.YtgpnjdldpehidaaDoor

open Go Go.Abs Go.Proofs
set_option maxRecDepth 100000
set_option linter.unusedVariables false
set_option linter.unusedSimpArgs false
namespace Go.Proofs.YtgpnjdldpehidaaDoor
variable {p s : List Int} {n lf : Nat} {f : Int} {pix : List Int} {w h : Nat}
/-! ### What 'Write' answers -/
theorem mid_none (row : List Int) : ∀ (d i : Nat), row.length = i + d → ¬ midAt row d i ≥ 0 → ∀ v ∈ row.drop i, v = 0 ∨ v = 255
  | 0, i, h, _, v, hv => by rw [List.drop_eq_nil_of_le (by omega)] at hv; cases hv
  | d + 1, i, h, hm, v, hv => by
    have hi : i < row.length := by omega
    rw [show midAt row (d + 1) i = if row.getD i 0 ≠ 0 ∧ row.getD i 0 ≠ 255 then (i : Int) else midAt row d (i + 1) from rfl] at hm
    by_cases hc : row.getD i 0 ≠ 0 ∧ row.getD i 0 ≠ 255
    · rw [if_pos hc] at hm; omega
    · rw [if_neg hc] at hm
      rw [List.drop_eq_getElem_cons hi] at hv
      rcases List.mem_cons.1 hv with rfl | hv
      · rw [getD_at hi]
        by_cases h0 : row.getD i 0 = 0
        · exact .inl h0
        · exact .inr (Decidable.byContradiction fun h1 => hc ⟨h0, h1⟩)
      · exact mid_none row d (i + 1) (by omega) hm v hv
/-- The file of an image that can be written. -/
structure Wrote (f : Int) (x y : Int) (pix : List Int) (lf w h : Nat) : Prop where
  dom : Dom f pix w h lf
  ew : x = w
  eh : y = h
  size : w * h ≤ 4194304
  two : f = 1 ∨ f = 4 → ∀ v ∈ pix, v = 0 ∨ v = 255
theorem F10_res (x y : Int) (pix : List Int) (f : Int) (hk : f = 1 ∨ f = 2 ∨ f = 4 ∨ f = 5) (hr : ∀ v ∈ pix, 0 ≤ v ∧ v < 256) (hlf : 5000 ≤ lf) (hlf2 : pix.length < lf) :
    ∃ r, F10.p lf x y pix f = some r ∧ ((r = ([], 1) ∨ r = ([], 3)) ∨ ∃ w h, Wrote f x y pix lf w h ∧ r = (fileL f pix w h, 0)) := by
  unfold F10.p
  simp only [letJ_eq]
  rw [F19_ok, bindp_s]
  cases hok : okImage x y pix.length with
  | false => exact ⟨_, rfl, .inl (.inl rfl)⟩
  | true =>
    rw [if_pos rfl, show ((0 : Int) != 0) = false from rfl, ifp_ff, F20_ok, bindp_s]
    have k1 : (!(f == 1 || f == 4 || f == 2 || f == 5)) = false := by rcases hk with rfl | rfl | rfl | rfl <;> rfl
    rw [k1, ifp_ff]
    simp only [okImage, possB, Bool.and_eq_true, decide_eq_true_eq] at hok
    obtain ⟨⟨x1, x2, y1, y2, xy⟩, hl⟩ := hok
    obtain ⟨w, rfl⟩ : ∃ w : Nat, x = w := ⟨x.toNat, by omega⟩
    obtain ⟨h, rfl⟩ : ∃ h : Nat, y = h := ⟨y.toNat, by omega⟩
    have hm : ((w * h : Nat) : Int) = (w : Int) * (h : Int) := Int.natCast_mul _ _
    have hd : Dom f pix w h lf := ⟨hk, hr, by omega, by omega, by omega, by omega, by omega, hlf⟩
    have hsz : w * h ≤ 4194304 := by omega
    have hlen := hd.len
    unfold F10.J3p
    simp only [letJ_eq]
    rw [F21_ok, bindp_s]
    by_cases hb : f = 1 ∨ f = 4
    · have hbb : (f == 1 || f == 4) = true := by rcases hb with rfl | rfl <;> rfl
      rw [hbb, ifp_tt, F22_ok lf pix (by omega) hlf2, bindp_s, F10_J5 hd]
      unfold hasMid
      by_cases hmm : midAt pix pix.length 0 ≥ 0
      · rw [show decide (midAt pix pix.length 0 ≥ 0) = true by simpa using hmm, ifp_tt]
        exact ⟨_, rfl, .inl (.inr rfl)⟩
      · rw [show decide (midAt pix pix.length 0 ≥ 0) = false by simpa using hmm, ifp_ff]
        refine ⟨_, rfl, .inr ⟨w, h, ⟨hd, rfl, rfl, hsz, fun _ v hv => ?_⟩, rfl⟩⟩
        exact mid_none pix pix.length 0 (by omega) hmm v (by rw [List.drop_zero]; exact hv)
    · have hbb : (f == 1 || f == 4) = false := by rcases hk with rfl | rfl | rfl | rfl <;> first | rfl | omega
      rw [hbb, ifp_ff, ifp_ff, F10_J5 hd]
      exact ⟨_, rfl, .inr ⟨w, h, ⟨hd, rfl, rfl, hsz, fun hh => absurd hh hb⟩, rfl⟩⟩
/-- 'written': nothing, or a file and its format. -/
theorem F12_res (x y : Int) (pix : List Int) (k : Int) (hr : ∀ v ∈ pix, 0 ≤ v ∧ v < 256) (hlf : 5000 ≤ lf) (hlf2 : pix.length < lf) :
    ∃ r, F12.p lf x y pix k = some r ∧ (r = ([], 0) ∨ ∃ f w h, Wrote f x y pix lf w h ∧ pix.length ≤ 2000 ∧ r = (fileL f pix w h, f)) := by
  have key : ∀ f, (f = 1 ∨ f = 2 ∨ f = 4 ∨ f = 5) → ∃ r, F12.J6p lf x y pix f = some r ∧ (r = ([], 0) ∨ ∃ f w h, Wrote f x y pix lf w h ∧ pix.length ≤ 2000 ∧ r = (fileL f pix w h, f)) := by
    intro f hk
    obtain ⟨r, e, hres⟩ := F10_res x y pix f hk hr hlf hlf2
    unfold F12.J6p
    simp only [letJ_eq]
    rw [bindp_of e]
    rcases hres with (rfl | rfl) | ⟨w, h, hw, rfl⟩
    · exact ⟨_, rfl, .inl rfl⟩
    · exact ⟨_, rfl, .inl rfl⟩
    · rw [show ((0 : Int) != 0) = false from rfl, ifp_ff]
      by_cases hl : pix.length > 2000
      · rw [show decide ((pix.length : Int) > 2000) = true by simp; omega]
        exact ⟨_, rfl, .inl rfl⟩
      · rw [show decide ((pix.length : Int) > 2000) = false by simp; omega]
        exact ⟨_, rfl, .inr ⟨f, w, h, hw, by omega, rfl⟩⟩
  have key4 : ∀ f, (f = 1 ∨ f = 2) → ∃ r, F12.J4p lf k x y pix f = some r ∧ (r = ([], 0) ∨ ∃ f w h, Wrote f x y pix lf w h ∧ pix.length ≤ 2000 ∧ r = (fileL f pix w h, f)) := by
    intro f hf
    unfold F12.J4p
    cases decide (Int.tmod k 4 > 1) with
    | true =>
      have : IntKind.i64.wrap (f + 3) = f + 3 := wr64 (by omega) (by omega)
      rw [ifp_tt, this]; exact key (f + 3) (by omega)
    | false => rw [ifp_ff]; exact key f (by omega)
  unfold F12.p
  cases (Int.tmod k 2) == 1 with
  | true => exact key4 2 (.inr rfl)
  | false => exact key4 1 (.inl rfl)
theorem F15_same (w h : Int) (pix : List Int) (hp : pix.length ≤ 2 ^ 30) (hlf : pix.length < lf) : F15.p lf w h pix w h pix = some true := by
  have key : ∀ (d i : Nat), pix.length = i + d → ∀ k, d < k → F15.L4p lf k w h pix w h pix (i : Int) = some true := by
    intro d
    induction d with
    | zero =>
      intro i hi k hk
      obtain ⟨k, rfl⟩ : ∃ j, k = j + 1 := ⟨k - 1, by omega⟩
      unfold F15.L4p
      rw [show decide ((i : Int) < (pix.length : Int)) = false by simp; omega]; rfl
    | succ d ih =>
      intro i hi k hk
      obtain ⟨k, rfl⟩ : ∃ j, k = j + 1 := ⟨k - 1, by omega⟩
      unfold F15.L4p
      rw [show decide ((i : Int) < (pix.length : Int)) = true by simp; omega, ifp_tt]
      unfold F15.J6p
      rw [bindp_of (idxp_nat (show i < pix.length by omega)), bindp_of (idxp_nat (show i < pix.length by omega)), show (pix[i] != pix[i]) = false by simp, ifp_ff, wrS (by omega)]
      exact ih (i + 1) (by omega) k (by omega)
  unfold F15.p
  simp only [letJ_eq]
  rw [show (w != w) = false by simp, ifp_ff, show (h != h) = false by simp, ifp_ff, show ((pix.length : Int) != (pix.length : Int)) = false by simp, ifp_ff]
  unfold F15.J3p
  exact key pix.length 0 (by omega) lf hlf
theorem encA_len (hd : Dom f pix w h lf) : ∀ d y, h = y + d → (encA f pix w d y).length ≤ 5 * (w * d)
  | 0, y, hy => by simp [encA]
  | d + 1, y, hy => by
    obtain ⟨r1, r2, r3⟩ := hd.row (y := y) (by omega)
    have h1 := encR_len f (rowAt pix w y)
    have h2 := encA_len hd d (y + 1) (by omega)
    have h3 : w * (d + 1) = w * d + w := by rw [Nat.mul_add]; omega
    show (encR f (rowAt pix w y) ++ encA f pix w d (y + 1)).length ≤ _
    rw [List.length_append]; omega
theorem fileL_len {x y : Int} (hw : Wrote f x y pix lf w h) (hp : pix.length ≤ 2000) : 3 ≤ (fileL f pix w h).length ∧ (fileL f pix w h).length ≤ 10020 := by
  have h1 := encA_len hw.dom h 0 (by omega)
  have h2 := headL_len f w h
  have h3 := hw.dom.len
  unfold fileL
  rw [List.length_append]
  have : 3 ≤ (headL f w h).length := by unfold headL; simp only [List.length_append, List.length_cons, List.length_nil]; omega
  omega
/-! ### RoundTrip -/
end Go.Proofs.YtgpnjdldpehidaaDoor

open Go Go.Abs Go.Proofs
set_option maxRecDepth 100000
set_option linter.unusedVariables false
set_option linter.unusedSimpArgs false
namespace Go.Proofs.YtgpnjdldpehidaaDoor
variable {p s : List Int} {n lf : Nat}
/-! ### What the reading of an image comes to, from what is left of the file -/
def er {α β : Type} : Res α (Int × β) → Res α Int
  | .ok a => .ok a
  | .pan r => .pan r.1
theorem At.drop (h : At p n s) {k : Nat} (hk : k ≤ s.length) : At p (n + k) (s.drop k) := by
  have := At.skip (x := s.take k) (s := s.drop k) (by rw [List.take_append_drop]; exact h)
  rwa [List.length_take, Nat.min_eq_left hk] at this
def numS (s : List Int) : Res (Int × Nat) Int := match s with
  | [] => .pan 10
  | c :: y => if sp c = true ∨ c = 35 then (match (c :: y).drop (skN false (c :: y)) with
      | [] => .pan 10
      | d :: t => if dig d then .ok ((numN 0 (d :: t)).1, skN false (c :: y) + (numN 0 (d :: t)).2) else .pan 9) else .pan 9
theorem num_cases (n : Nat) (s : List Int) : (∃ v k, numS s = .ok (v, k) ∧ numR n s = .ok (v, ((n + k : Nat) : Int)) ∧ k ≤ s.length ∧ 1 ≤ k ∧ 0 ≤ v ∧ v ≤ 65536) ∨ (∃ e a, numS s = .pan e ∧ numR n s = .pan (e, a) ∧ (e = 9 ∨ e = 10)) := by
  cases s with
  | nil => exact .inr ⟨10, n, rfl, rfl, .inr rfl⟩
  | cons c y =>
    by_cases hc : sp c = true ∨ c = 35
    · have hle := skN_le false (c :: y)
      have hlen := List.length_drop (i := skN false (c :: y)) (l := c :: y)
      simp only [numS, numR]
      rw [if_pos hc, if_pos hc]
      generalize (c :: y).drop (skN false (c :: y)) = u at hlen
      cases u with
      | nil => exact .inr ⟨10, _, rfl, rfl, .inr rfl⟩
      | cons d t =>
        have h1 := numN_le 0 (d :: t)
        have h2 := numN_range 0 (d :: t) (by omega) (by omega)
        cases hd : dig d with
        | false => exact .inr ⟨9, ((n + skN false (c :: y) : Nat) : Int), by simp [hd], by simp [numK, hd], .inl rfl⟩
        | true =>
          have h3 : 1 ≤ (numN 0 (d :: t)).2 := by simp only [numN, hd, if_true]; omega
          exact .inl ⟨(numN 0 (d :: t)).1, skN false (c :: y) + (numN 0 (d :: t)).2, by simp [hd], by simp only [numK, hd, if_true]; rw [Nat.add_assoc], by omega, by omega, h2.1, h2.2⟩
    · exact .inr ⟨9, n, by simp only [numS]; rw [if_neg hc], by simp only [numR]; rw [if_neg hc], .inl rfl⟩
def headS (l m : Int) (s : List Int) : Res (Int × Nat) Int := match numS s with
  | .pan e => .pan e
  | .ok (v, k) => if k < s.length then (if l ≤ v ∧ v ≤ m then .ok (v, k) else .pan 3) else .pan 10
theorem head_cases (hp : p.length ≤ 2 ^ 30) (hlf : p.length < lf) (h : At p n s) (l m : Int) :
    (∃ v k, headS l m s = .ok (v, k) ∧ F53.p lf p (n : Int) l m = some (.ok (v, ((n + k : Nat) : Int))) ∧ k < s.length ∧ l ≤ v ∧ v ≤ m) ∨ (∃ e a, headS l m s = .pan e ∧ F53.p lf p (n : Int) l m = some (.pan (e, a)) ∧ (e = 9 ∨ e = 10 ∨ e = 3)) := by
  have hl := h.len
  rw [F53_ok hp hlf h]
  unfold headS headR
  rcases num_cases n s with ⟨v, k, e1, e2, h1, h2, h3, h4⟩ | ⟨e, a, e1, e2, h1⟩
  · rw [e1, e2]
    simp only
    by_cases hk : k < s.length
    · rw [if_pos hk, if_pos (show ((n + k : Nat) : Int) < (p.length : Int) by omega)]
      by_cases hv : l ≤ v ∧ v ≤ m
      · rw [if_pos hv, if_pos hv]; exact .inl ⟨v, k, rfl, rfl, hk, hv⟩
      · rw [if_neg hv, if_neg hv]; exact .inr ⟨3, _, rfl, rfl, .inr (.inr rfl)⟩
    · rw [if_neg hk, if_neg (show ¬ ((n + k : Nat) : Int) < (p.length : Int) by omega)]; exact .inr ⟨10, _, rfl, rfl, .inr (.inl rfl)⟩
  · rw [e1, e2]
    exact .inr ⟨e, a, rfl, rfl, by omega⟩
/-! ### Pixels -/
def bitsS : Nat → List Int → Res (List Int × Nat) Int
  | 0, _ => .ok ([], 0)
  | d + 1, s => match s.drop (skN false s) with
    | [] => .pan 10
    | c :: t => if c = 48 ∨ c = 49 then (match bitsS d t with
        | .ok (l, j) => .ok ((if c = 49 then 0 else 255) :: l, skN false s + 1 + j)
        | .pan e => .pan e) else .pan 9
def scl (v top : Int) : Int := IntKind.u8.wrap (IntKind.i64.wrap ((IntKind.i64.wrap ((IntKind.i64.wrap (255 * v)) + (IntKind.i64.wrap (Int.tdiv top 2)))).tdiv top))
theorem F66_all (lf : Nat) (v : Int) {top : Int} (h : top ≠ 0) : F66.p lf v top = some (scl v top) := by
  unfold F66.p quop; rw [if_neg h]; rfl
def numsS (top : Int) : Nat → List Int → Res (List Int × Nat) Int
  | 0, s => match s with
    | [] => .ok ([], 0)
    | c :: _ => if sp c = true ∨ c = 35 then .ok ([], 0) else .pan 9
  | d + 1, s => match numS s with
    | .pan e => .pan e
    | .ok (v, k) => if v ≤ top then (match numsS top d (s.drop k) with
        | .ok (l, j) => .ok (scl v top :: l, k + j)
        | .pan e => .pan e) else .pan 3
theorem setp_nat {l : List Int} {i : Nat} (h : i < l.length) (v : Int) : setp l (i : Int) v = some (l.set i v) := by
  unfold setp; rw [if_pos ⟨by omega, by simpa using h⟩, Int.toNat_natCast]
theorem set_take {l : List Int} {i : Nat} (h : i < l.length) (v : Int) : (l.set i v).take (i + 1) = l.take i ++ [v] := by
  rw [List.take_add_one, List.getElem?_set_self h, List.take_set_of_le (Nat.le_refl _)]; rfl
theorem map_bindr {α β γ δ : Type} {x : Option (Res α β)} {r : Res α β} (h : x = some r) (kp : β → Option γ) (k : α → Option γ) (f : γ → δ) : Option.map f (bindr x kp k) = Option.map f (bindr (some r) kp k) := by rw [h]
theorem text1_all (hp : p.length ≤ 2 ^ 30) (hlf : p.length < lf) (w h g : Int) : ∀ (d i : Nat) (pix : List Int), pix.length = i + d → pix.length ≤ 2 ^ 30 → ∀ (s : List Int) (n : Nat), At p n s → ∀ k, d < k →
    Option.map er (F55.L1p lf k p (n : Int) w h pix 1 g (pix.length : Int) (i : Int)) = some (match bitsS d s with | .ok (l, j) => .ok (((n + j : Nat) : Int), w, h, pix.take i ++ l) | .pan e => .pan e)
  | 0, i, pix, hi, hpl, s, n, ha, k + 1, _ => by
    unfold F55.L1p
    rw [show decide ((i : Int) < (pix.length : Int)) = false by simp; omega, ifp_ff]
    unfold F55.J14p F55.J15p
    have : pix.take i = pix := List.take_of_length_le (by omega)
    simp only [bitsS, this, List.append_nil, Nat.add_zero]; rfl
  | d + 1, i, pix, hi, hpl, s, n, ha, k + 1, hk => by
    have hil : i < pix.length := by omega
    unfold F55.L1p
    rw [show decide ((i : Int) < (pix.length : Int)) = true by simp; omega, ifp_tt]
    unfold F55.J2p
    rw [show ((1 : Int) == 2) = false from rfl, ifp_ff]
    unfold F55.J7p
    simp only [letJ_eq]
    have hln := ha.len
    have hle := skN_le false s
    rw [bindp_of (F67_ok hp hlf ha)]
    have ha2 := ha.drop hle
    simp only [bitsS]
    generalize hu : s.drop (skN false s) = u at ha2
    cases u with
    | nil => rw [ha2.end_, F52_f, bindr_p]; rfl
    | cons c t =>
      rw [ha2.lt, F52_t, bindr_o, bindp_of ha2.idx]
      have hl2 := ha2.len
      simp only [List.length_cons] at hl2
      have w1 : IntKind.i64.wrap (((n + skN false s : Nat) : Int) + 1) = ((n + skN false s + 1 : Nat) : Int) := wrS (by omega)
      have w2 : IntKind.i64.wrap ((i : Int) + 1) = ((i + 1 : Nat) : Int) := wrS (by omega)
      have ih := fun v => text1_all hp hlf w h g d (i + 1) (pix.set i v) (by rw [List.length_set]; omega) (by rw [List.length_set]; omega) t (n + skN false s + 1) ha2.step k (by omega)
      have fin : ∀ v : Int, Option.map er (F55.L1p lf k p ((n + skN false s + 1 : Nat) : Int) w h (pix.set i v) 1 g (pix.length : Int) ((i + 1 : Nat) : Int)) = some (match (match bitsS d t with
        | .ok (l, j) => (Res.ok (v :: l, skN false s + 1 + j) : Res (List Int × Nat) Int)
        | .pan e => .pan e) with | .ok (l, j) => .ok (((n + j : Nat) : Int), w, h, pix.take i ++ l) | .pan e => .pan e) := by
        intro v
        have := ih v
        rw [List.length_set] at this
        rw [this, set_take hil]
        cases bitsS d t with
        | ok r => obtain ⟨l, j⟩ := r; simp only [List.append_assoc, List.singleton_append]; rw [show n + skN false s + 1 + j = n + (skN false s + 1 + j) by omega]
        | pan e => rfl
      by_cases h48 : c = 48
      · subst h48
        rw [show ((48 : Int) == 48) = true from rfl, ifp_tt, F52_t, bindr_o, show ((48 : Int) == 49) = false from rfl, F68_ok, bindp_s, if_neg (by decide), bindp_of (setp_nat hil _), w1, w2, fin 255]
        rfl
      · by_cases h49 : c = 49
        · subst h49
          rw [show ((49 : Int) == 48) = false from rfl, ifp_ff, show ((49 : Int) == 49) = true from rfl, F52_t, bindr_o, F68_ok, bindp_s, if_pos rfl, bindp_of (setp_nat hil _), w1, w2, fin 0]
          rfl
        · rw [show (c == 48) = false by simpa using h48, ifp_ff, show (c == 49) = false by simpa using h49, F52_f, bindr_p]
          simp only [if_neg (show ¬ (c = 48 ∨ c = 49) by omega)]
          rfl
theorem text2_all (hp : p.length ≤ 2 ^ 30) (hlf : p.length < lf) (w h : Int) {top : Int} (ht : top ≠ 0) : ∀ (d i : Nat) (pix : List Int), pix.length = i + d → pix.length ≤ 2 ^ 30 → ∀ (s : List Int) (n : Nat), At p n s → ∀ k, d < k →
    Option.map er (F55.L1p lf k p (n : Int) w h pix 2 top (pix.length : Int) (i : Int)) = some (match numsS top d s with | .ok (l, j) => .ok (((n + j : Nat) : Int), w, h, pix.take i ++ l) | .pan e => .pan e)
  | 0, i, pix, hi, hpl, s, n, ha, k + 1, _ => by
    unfold F55.L1p
    rw [show decide ((i : Int) < (pix.length : Int)) = false by simp; omega, ifp_ff]
    unfold F55.J14p
    rw [show ((2 : Int) == 2) = true from rfl, ifp_tt]
    have ht : pix.take i = pix := List.take_of_length_le (by omega)
    cases s with
    | nil =>
      rw [ha.end_]
      unfold F55.J15p
      simp only [numsS, ht, List.append_nil, Nat.add_zero]; rfl
    | cons c t =>
      rw [ha.lt]
      unfold F55.J15p
      rw [ifp_tt, bindp_of ha.idx, F36_ok, bindp_s]
      simp only [numsS]
      cases hc : sp c with
      | true =>
        rw [ifp_tt, F52_t, bindr_o, if_pos (.inl rfl), ht]
        simp only [List.append_nil, Nat.add_zero]; rfl
      | false =>
        rw [ifp_ff, bindp_of ha.idx]
        by_cases h35 : c = 35
        · rw [show (c == 35) = true by simpa using h35, F52_t, bindr_o, if_pos (.inr h35), ht]
          simp only [List.append_nil, Nat.add_zero]; rfl
        · rw [show (c == 35) = false by simpa using h35, F52_f, bindr_p, if_neg (by simp [h35])]; rfl
  | d + 1, i, pix, hi, hpl, s, n, ha, k + 1, hk => by
    have hil : i < pix.length := by omega
    unfold F55.L1p
    rw [show decide ((i : Int) < (pix.length : Int)) = true by simp; omega, ifp_tt]
    unfold F55.J2p
    rw [show ((2 : Int) == 2) = true from rfl, ifp_tt]
    simp only [numsS]
    rcases num_cases n s with ⟨v, m, e1, e2, h1, h2, h3, h4⟩ | ⟨e, a, e1, e2, h1⟩
    · rw [bindr_of (F65_ok hp hlf ha), e2, bindr_o, e1]
      simp only
      by_cases hv : v ≤ top
      · have w2 : IntKind.i64.wrap ((i : Int) + 1) = ((i + 1 : Nat) : Int) := wrS (by omega)
        rw [show decide (v ≤ top) = true by simpa using hv, F52_t, bindr_o, F66_all lf v ht, bindp_s, bindp_of (setp_nat hil _), if_pos hv, w2]
        have := text2_all hp hlf w h ht d (i + 1) (pix.set i (scl v top)) (by rw [List.length_set]; omega) (by rw [List.length_set]; omega) (s.drop m) (n + m) (ha.drop h1) k (by omega)
        rw [List.length_set] at this
        rw [this, set_take hil]
        cases numsS top d (s.drop m) with
        | ok r => obtain ⟨l, j⟩ := r; simp only [List.append_assoc, List.singleton_append]; rw [show n + m + j = n + (m + j) by omega]
        | pan e => rfl
      · rw [show decide (v ≤ top) = false by simpa using hv, F52_f, bindr_p, if_neg hv]; rfl
    · rw [bindr_of (F65_ok hp hlf ha), e2, bindr_p, e1]; rfl
end Go.Proofs.YtgpnjdldpehidaaDoor

open Go Go.Abs Go.Proofs
set_option maxRecDepth 100000
set_option linter.unusedVariables false
set_option linter.unusedSimpArgs false
namespace Go.Proofs.YtgpnjdldpehidaaDoor
variable {p s t : List Int} {n lf : Nat}
def rdL (px : Nat → Res Int Int) : Nat → Nat → Res (List Int) Int
  | _, 0 => .ok []
  | i, d + 1 => match px i with
    | .pan e => .pan e
    | .ok v => match rdL px (i + 1) d with
      | .pan e => .pan e
      | .ok l => .ok (v :: l)
theorem rdL_add (px : Nat → Res Int Int) : ∀ (a i b : Nat), rdL px i (a + b) = match rdL px i a with
    | .pan e => .pan e
    | .ok l => match rdL px (i + a) b with
      | .pan e => .pan e
      | .ok m => .ok (l ++ m)
  | 0, i, b => by
    rw [Nat.zero_add, Nat.add_zero]; simp only [rdL]
    cases rdL px i b <;> rfl
  | a + 1, i, b => by
    rw [show a + 1 + b = a + b + 1 by omega]
    simp only [rdL]
    cases px i with
    | pan e => rfl
    | ok v =>
      simp only
      rw [rdL_add px a (i + 1) b, show i + 1 + a = i + (a + 1) by omega]
      cases rdL px (i + 1) a with
      | pan e => rfl
      | ok l =>
        simp only
        cases rdL px (i + (a + 1)) b <;> rfl
theorem rdL_len (px : Nat → Res Int Int) : ∀ (d i : Nat) (l : List Int), rdL px i d = .ok l → l.length = d
  | 0, i, l, h => by simp only [rdL, Res.ok.injEq] at h; subst h; rfl
  | d + 1, i, l, h => by
    simp only [rdL] at h
    cases h1 : px i with
    | pan e => rw [h1] at h; cases h
    | ok v =>
      rw [h1] at h
      simp only at h
      cases h2 : rdL px (i + 1) d with
      | pan e => rw [h2] at h; cases h
      | ok m =>
        rw [h2] at h
        simp only [Res.ok.injEq] at h
        subst h
        rw [List.length_cons, rdL_len px d (i + 1) m h2]
def pxV (f : Int) (t : List Int) (w : Nat) (top : Int) (i : Nat) : Res Int Int :=
  if f = 4 then .ok (if (t.getD (i / w * ((w + 7) / 8) + i % w / 8) 0).toNat / 2 ^ (7 - i % w % 8) % 2 = 1 then 0 else 255)
  else if t.getD i 0 ≤ top then .ok (scl (t.getD i 0) top) else .pan 3
def wideN (f : Int) (w : Nat) : Nat := if f = 4 then (w + 7) / 8 else w
theorem getD_nth {i : Nat} (h : i < t.length) : t.getD i 0 = t[i] := by
  rw [List.getD_eq_getElem?_getD, List.getElem?_eq_getElem h]; rfl
theorem At.nthD (ha : At p n t) {i : Nat} (hi : i < t.length) : idxp p ((n + i : Nat) : Int) = some (t.getD i 0) := by
  have := At.nth (x := t) (t := []) (by rw [List.append_nil]; exact ha) hi
  rw [this, getD_nth hi]
theorem getD_range (hr : ∀ v ∈ t, 0 ≤ v ∧ v < 256) (i : Nat) : 0 ≤ t.getD i 0 ∧ t.getD i 0 < 256 := by
  by_cases h : i < t.length
  · rw [getD_nth h]; exact hr _ (List.getElem_mem _)
  · rw [List.getD_eq_getElem?_getD, List.getElem?_eq_none (by omega)]; decide
theorem shr8 {P k : Nat} (hk : k ≤ 7) : shrp .u8 (P : Int) (k : Int) = some ((P / 2 ^ k : Nat) : Int) := by
  by_cases h : P / 2 ^ k < 256
  · unfold shrp
    rw [if_neg (by omega), Int.toNat_natCast, show min k IntKind.u8.bits = k by have : IntKind.u8.bits = 8 := rfl; omega]
    rw [Int.fdiv_eq_ediv_of_nonneg _ (Int.le_of_lt (by exact Int.pow_pos (by decide)))]
    congr 1
  · unfold shrp
    rw [if_neg (by omega), Int.toNat_natCast, show min k IntKind.u8.bits = k by have : IntKind.u8.bits = 8 := rfl; omega]
    rw [Int.fdiv_eq_ediv_of_nonneg _ (Int.le_of_lt (by exact Int.pow_pos (by decide)))]
    congr 1
theorem idx4 {w h i : Nat} (hw : 1 ≤ w) (hi : i < w * h) : i / w * ((w + 7) / 8) + i % w / 8 < (w + 7) / 8 * h := by
  have hyh : i / w < h := by rw [Nat.div_lt_iff_lt_mul (by omega), Nat.mul_comm]; exact hi
  have hmod := Nat.mod_lt i (show 0 < w by omega)
  have h1 : i % w / 8 < (w + 7) / 8 := by omega
  have h2 : (i / w + 1) * ((w + 7) / 8) ≤ h * ((w + 7) / 8) := Nat.mul_le_mul_right _ hyh
  rw [Nat.add_mul, Nat.one_mul] at h2
  rw [Nat.mul_comm _ h]
  omega
theorem raw_all (hp : p.length ≤ 2 ^ 30) {f : Int} (hf : f = 4 ∨ f = 5) {w h : Nat} (hw : 1 ≤ w) (hwh : w * h ≤ 2 ^ 30) (hr : ∀ v ∈ t, 0 ≤ v ∧ v < 256) {top : Int} (ht : top ≠ 0) (hlen : wideN f w * h ≤ t.length) (ha : At p n t) : ∀ (d i : Nat) (pix : List Int), pix.length = i + d → pix.length = w * h → ∀ k, d < k →
    Option.map er (F56.L7p lf k p (n : Int) (w : Int) (h : Int) pix f top ((wideN f w : Nat) : Int) (pix.length : Int) (i : Int)) = some (match rdL (pxV f t w top) i d with | .ok l => .ok (((n + wideN f w * h : Nat) : Int), (w : Int), (h : Int), pix.take i ++ l) | .pan e => .pan e)
  | 0, i, pix, hi, hpl, k + 1, _ => by
    have hln := ha.len
    unfold F56.L7p
    rw [show decide ((i : Int) < (pix.length : Int)) = false by simp; omega, ifp_ff]
    have w1 : IntKind.i64.wrap (((wideN f w : Nat) : Int) * (h : Int)) = ((wideN f w * h : Nat) : Int) := by rw [← Int.natCast_mul, wr64 (by omega) (by omega)]
    have w2 : IntKind.i64.wrap ((n : Int) + ((wideN f w * h : Nat) : Int)) = ((n + wideN f w * h : Nat) : Int) := by rw [wr64 (by omega) (by omega)]; omega
    have : pix.take i = pix := List.take_of_length_le (by omega)
    simp only [rdL, this, List.append_nil, w1, w2]; rfl
  | d + 1, i, pix, hi, hpl, k + 1, hk => by
    have hil : i < pix.length := by omega
    have hln := ha.len
    have hw0 : w ≠ 0 := by omega
    unfold F56.L7p
    rw [show decide ((i : Int) < (pix.length : Int)) = true by simp; omega, ifp_tt]
    unfold F56.J8p
    simp only [letJ_eq]
    have w0 : IntKind.i64.wrap ((i : Int) + 1) = ((i + 1 : Nat) : Int) := wrS (by omega)
    have fin : ∀ v : Int, Option.map er (F56.L7p lf k p (n : Int) (w : Int) (h : Int) (pix.set i v) f top ((wideN f w : Nat) : Int) (pix.length : Int) ((i + 1 : Nat) : Int)) = some (match (match rdL (pxV f t w top) (i + 1) d with
        | .pan e => (Res.pan e : Res (List Int) Int)
        | .ok l => .ok (v :: l)) with | .ok l => .ok (((n + wideN f w * h : Nat) : Int), (w : Int), (h : Int), pix.take i ++ l) | .pan e => .pan e) := by
      intro v
      have := raw_all hp hf hw hwh hr ht hlen ha d (i + 1) (pix.set i v) (by rw [List.length_set]; omega) (by rw [List.length_set]; omega) k (by omega)
      rw [List.length_set] at this
      rw [this, set_take hil]
      cases rdL (pxV f t w top) (i + 1) d with
      | ok l => simp only [List.append_assoc, List.singleton_append]
      | pan e => rfl
    rcases hf with rfl | rfl
    · have hwd : wideN 4 w = (w + 7) / 8 := rfl
      rw [hwd] at hlen fin ⊢
      have hix := idx4 hw (show i < w * h by omega)
      have hmod := Nat.mod_lt i (show 0 < w by omega)
      have hiw : i / w * ((w + 7) / 8) ≤ 2 ^ 30 := by omega
      have w1 : IntKind.i64.wrap (((i / w : Nat) : Int) * (((w + 7) / 8 : Nat) : Int)) = ((i / w * ((w + 7) / 8) : Nat) : Int) := by
        rw [← Int.natCast_mul, wr64 (by omega) (by omega)]
      have w2 : IntKind.i64.wrap ((n : Int) + ((i / w * ((w + 7) / 8) : Nat) : Int)) = ((n + i / w * ((w + 7) / 8) : Nat) : Int) := by rw [wr64 (by omega) (by omega)]; omega
      have w3 : Int.tdiv ((i % w : Nat) : Int) 8 = ((i % w / 8 : Nat) : Int) := tdiv_nat _ 8
      have w4 : IntKind.i64.wrap ((i % w / 8 : Nat) : Int) = ((i % w / 8 : Nat) : Int) := by
        have := Nat.div_le_self (i % w) 8
        exact wr64 (by omega) (by omega)
      have w5 : IntKind.i64.wrap (((n + i / w * ((w + 7) / 8) : Nat) : Int) + ((i % w / 8 : Nat) : Int)) = ((n + (i / w * ((w + 7) / 8) + i % w / 8) : Nat) : Int) := by rw [wr64 (by omega) (by omega)]; omega
      have w6 : Int.tmod ((i % w : Nat) : Int) 8 = ((i % w % 8 : Nat) : Int) := tmod_nat _ 8
      have w7 : IntKind.i64.wrap (7 - ((i % w % 8 : Nat) : Int)) = ((7 - i % w % 8 : Nat) : Int) := by rw [wr64 (by omega) (by omega)]; omega
      have w8 : IntKind.u64.wrap ((7 - i % w % 8 : Nat) : Int) = ((7 - i % w % 8 : Nat) : Int) := wru64 (by omega) (by omega)
      rw [bindp_of (remp_nat hw0), bindp_of (quop_nat hw0 (by omega)), show ((4 : Int) == 4) = true from rfl, ifp_tt, w1, w2, w3, w4, w5, bindp_of (ha.nthD (by omega)), w6, w7, w8]
      have hpx : pxV 4 t w top i = .ok (if (t.getD (i / w * ((w + 7) / 8) + i % w / 8) 0).toNat / 2 ^ (7 - i % w % 8) % 2 = 1 then 0 else 255) := by unfold pxV; rw [if_pos rfl]
      have hrg := getD_range hr (i / w * ((w + 7) / 8) + i % w / 8)
      simp only [rdL, hpx]
      generalize t.getD (i / w * ((w + 7) / 8) + i % w / 8) 0 = v at hrg
      obtain ⟨P, rfl⟩ : ∃ P : Nat, v = (P : Int) := ⟨v.toNat, by omega⟩
      have hPd : P / 2 ^ (7 - i % w % 8) < 256 := Nat.lt_of_le_of_lt (Nat.div_le_self _ _) (by omega)
      rw [bindp_of (shr8 (by omega)), and1 _ hPd, F68_ok, bindp_s, Int.toNat_natCast]
      by_cases hb : P / 2 ^ (7 - i % w % 8) % 2 = 1
      · rw [if_pos hb, hb, show (((1 : Nat) : Int) == 1) = true from rfl, if_pos rfl, bindp_of (setp_nat hil _), w0, fin]
      · rw [if_neg hb, show (P / 2 ^ (7 - i % w % 8) % 2) = 0 by omega, show (((0 : Nat) : Int) == 1) = false from rfl, if_neg (by decide), bindp_of (setp_nat hil _), w0, fin]
    · have hwd : wideN 5 w = w := rfl
      rw [hwd] at hlen fin ⊢
      have w1 : IntKind.i64.wrap ((n : Int) + (i : Int)) = ((n + i : Nat) : Int) := by rw [wr64 (by omega) (by omega)]; omega
      have hrg := getD_range hr i
      rw [bindp_of (remp_nat hw0), bindp_of (quop_nat hw0 (by omega)), show ((5 : Int) == 4) = false from rfl, ifp_ff, w1, bindp_of (ha.nthD (by omega)), wr64 (by omega) (by omega)]
      have hpx : pxV 5 t w top i = if t.getD i 0 ≤ top then .ok (scl (t.getD i 0) top) else .pan 3 := by unfold pxV; rw [if_neg (by decide)]
      simp only [rdL, hpx]
      by_cases hv : t.getD i 0 ≤ top
      · rw [show decide (t.getD i 0 ≤ top) = true by simpa using hv, F52_t, bindr_o, F66_all lf _ ht, bindp_s, bindp_of (setp_nat hil _), w0, if_pos hv, fin]
      · rw [show decide (t.getD i 0 ≤ top) = false by simpa using hv, F52_f, bindr_p, if_neg hv]; rfl
/-- The pixels of all formats. -/
def rawS (f : Int) (w h : Nat) (top : Int) (s : List Int) : Res (List Int × Nat) Int := match s with
  | [] => .pan 0
  | c :: t => if sp c then (if wideN f w * h ≤ t.length then (match rdL (pxV f t w top) 0 (w * h) with
    | .ok l => .ok (l, 1 + wideN f w * h)
    | .pan e => .pan e) else .pan 10) else .pan 9
def pixS (f : Int) (w h : Nat) (top : Int) (s : List Int) : Res (List Int × Nat) Int :=
  if f = 1 then bitsS (w * h) s else if f = 2 then numsS top (w * h) s else rawS f w h top s
def imgB (f : Int) (w h : Nat) (n : Nat) : Res (List Int × Nat) Int → Res (Int × Int × List Int × Int × Int) Int
  | .ok (l, k) => .ok ((w : Int), (h : Int), l, f, ((n + k : Nat) : Int))
  | .pan e => .pan e
theorem raw_p (hp : p.length ≤ 2 ^ 30) {f : Int} (hf : f = 4 ∨ f = 5) {w h : Nat} (hw : 1 ≤ w ∧ w ≤ 4096) (hh : 1 ≤ h ∧ h ≤ 4096) (hwh : w * h ≤ 4194304) (hlf2 : w * h < lf) {top : Int} (ht : top ≠ 0) (hr : ∀ v ∈ s, 0 ≤ v ∧ v < 256) (hs : s ≠ []) (ha : At p n s) (pix : List Int) (hrl : pix.length = w * h) :
    Option.map er (F56.p lf p (n : Int) (w : Int) (h : Int) pix f top) = some (match rawS f w h top s with | .ok (l, j) => .ok (((n + j : Nat) : Int), (w : Int), (h : Int), l) | .pan e => .pan e) := by
  cases s with
  | nil => exact absurd rfl hs
  | cons c t =>
    have hln := ha.len
    simp only [List.length_cons] at hln
    unfold F56.p
    rw [bindp_of ha.idx, F36_ok, bindp_s]
    simp only [rawS]
    cases hc : sp c with
    | false => rw [F52_f, bindr_p, if_neg (by decide)]; rfl
    | true =>
      rw [F52_t, bindr_o, if_pos rfl]
      have wb : wideN f w * h ≤ 2 ^ 30 := by
        have : wideN f w ≤ w := by unfold wideN; split <;> omega
        have := Nat.mul_le_mul_right h this
        omega
      have e0 : ifp (f == 4) (F56.J5p lf p (IntKind.i64.wrap ((n : Int) + 1)) (w : Int) (h : Int) pix f top (IntKind.i64.wrap (Int.tdiv (IntKind.i64.wrap ((w : Int) + 7)) 8))) (F56.J5p lf p (IntKind.i64.wrap ((n : Int) + 1)) (w : Int) (h : Int) pix f top (w : Int)) = F56.J5p lf p ((n + 1 : Nat) : Int) (w : Int) (h : Int) pix f top ((wideN f w : Nat) : Int) := by
        have w0 : IntKind.i64.wrap ((n : Int) + 1) = ((n + 1 : Nat) : Int) := wrS (by omega)
        have w2 : IntKind.i64.wrap ((w : Int) + 7) = ((w + 7 : Nat) : Int) := by rw [wr64 (by omega) (by omega)]; omega
        have w3 : Int.tdiv ((w + 7 : Nat) : Int) 8 = (((w + 7) / 8 : Nat) : Int) := tdiv_nat _ 8
        have w4 : IntKind.i64.wrap (((w + 7) / 8 : Nat) : Int) = (((w + 7) / 8 : Nat) : Int) := by exact wr64 (by omega) (by omega)
        rw [w0, w2, w3, w4]
        rcases hf with rfl | rfl <;> rfl
      rw [e0]
      unfold F56.J5p
      have w5 : IntKind.i64.wrap (((wideN f w : Nat) : Int) * (h : Int)) = ((wideN f w * h : Nat) : Int) := by rw [← Int.natCast_mul, wr64 (by omega) (by omega)]
      have w6 : IntKind.i64.wrap ((p.length : Int) - ((n + 1 : Nat) : Int)) = ((t.length : Nat) : Int) := by rw [wr64 (by omega) (by omega)]; omega
      rw [w5, w6]
      by_cases hl : wideN f w * h ≤ t.length
      · rw [show decide (((t.length : Nat) : Int) ≥ ((wideN f w * h : Nat) : Int)) = true by simp only [decide_eq_true_eq]; omega, F52_t, bindr_o, if_pos hl]
        have : Option.map er (F56.L7p lf lf p ((n + 1 : Nat) : Int) (w : Int) (h : Int) pix f top ((wideN f w : Nat) : Int) (pix.length : Int) 0) = _ := raw_all hp hf hw.1 (by omega) (fun v hv => hr v (.tail _ hv)) ht hl ha.step (w * h) 0 pix (by omega) hrl lf hlf2
        rw [this]
        cases rdL (pxV f t w top) 0 (w * h) with
        | ok l => simp only [List.take_zero, List.nil_append]; rw [show n + 1 + wideN f w * h = n + (1 + wideN f w * h) by omega]
        | pan e => rfl
      · rw [show decide (((t.length : Nat) : Int) ≥ ((wideN f w * h : Nat) : Int)) = false by simp only [decide_eq_false_iff_not]; omega, F52_f, bindr_p, if_neg hl]; rfl
def onR {α γ : Type} : Res α Int → (α → Option (Res γ Int)) → Option (Res γ Int)
  | .ok a, k => k a
  | .pan e, _ => some (.pan e)
theorem map_bindr_er {α β β' γ : Type} {x : Option (Res α (Int × β))} {y : Res α Int} (hx : Option.map er x = some y) (kp : Int × β → Option (Res γ (Int × β'))) (hkp : ∀ r, Option.map er (kp r) = some (.pan r.1)) (k : α → Option (Res γ (Int × β'))) :
    Option.map er (bindr x kp k) = onR y fun a => Option.map er (k a) := by
  cases x with
  | none => cases hx
  | some r => cases r with
    | ok a => simp only [Option.map_some, Option.some.injEq, er] at hx; subst hx; rfl
    | pan r => simp only [Option.map_some, Option.some.injEq, er] at hx; subst hx; exact hkp r
theorem body_all (hp : p.length ≤ 2 ^ 30) (hlf : p.length < lf) {f : Int} (hf : f = 1 ∨ f = 2 ∨ f = 4 ∨ f = 5) {w h : Nat} (hw : 1 ≤ w ∧ w ≤ 4096) (hh : 1 ≤ h ∧ h ≤ 4096) (hwh : w * h ≤ 4194304) (hlf2 : w * h < lf) {top : Int} (ht : top ≠ 0) (hr : ∀ v ∈ s, 0 ≤ v ∧ v < 256) (hs : s ≠ []) (ha : At p n s) (a b : Int) :
    Option.map er (F44.J13p lf p (n : Int) a b f (w : Int) (h : Int) top) = some (imgB f w h n (pixS f w h top s)) := by
  have hln := ha.len
  have w1 : IntKind.i64.wrap ((w : Int) * (h : Int)) = ((w * h : Nat) : Int) := by rw [← Int.natCast_mul, wr64 (by omega) (by omega)]
  have hmk : repp 1 (0 : Int) ((w * h : Nat) : Int) = some (List.replicate (w * h) 0) := by
    unfold repp
    rw [if_pos ⟨by omega, by unfold bigLimit; omega, by unfold bigLimit; omega⟩, Int.toNat_natCast]
  have hrl : (List.replicate (w * h) (0 : Int)).length = w * h := List.length_replicate
  unfold F44.J13p
  rw [w1, bindp_of hmk, F54_ok, bindp_s]
  simp only [letJ_eq]
  generalize List.replicate (w * h) (0 : Int) = pix at hrl
  rcases hf with rfl | rfl | rfl | rfl
  · rw [show ((1 : Int) == 1 || (1 : Int) == 2) = true from rfl, ifp_tt]
    unfold F55.p
    have : Option.map er (F55.L1p lf lf p (n : Int) (w : Int) (h : Int) pix 1 top (pix.length : Int) 0) = _ := text1_all hp hlf (w : Int) (h : Int) top (w * h) 0 pix (by omega) (by omega) s n ha lf hlf2
    rw [map_bindr_er this _ (fun _ => rfl)]
    unfold pixS
    rw [if_pos rfl]
    cases bitsS (w * h) s with
    | ok r => rfl
    | pan e => rfl
  · rw [show ((2 : Int) == 1 || (2 : Int) == 2) = true from rfl, ifp_tt]
    unfold F55.p
    have : Option.map er (F55.L1p lf lf p (n : Int) (w : Int) (h : Int) pix 2 top (pix.length : Int) 0) = _ := text2_all hp hlf (w : Int) (h : Int) ht (w * h) 0 pix (by omega) (by omega) s n ha lf hlf2
    rw [map_bindr_er this _ (fun _ => rfl)]
    unfold pixS
    rw [if_neg (by decide), if_pos rfl]
    cases numsS top (w * h) s with
    | ok r => rfl
    | pan e => rfl
  · rw [show ((4 : Int) == 1 || (4 : Int) == 2) = false from rfl, ifp_ff]
    rw [map_bindr_er (raw_p hp (.inl rfl) hw hh hwh hlf2 ht hr hs ha pix hrl) _ (fun _ => rfl)]
    rw [show pixS 4 w h top s = rawS 4 w h top s from rfl]
    cases rawS 4 w h top s with
    | ok r => rfl
    | pan e => rfl
  · rw [show ((5 : Int) == 1 || (5 : Int) == 2) = false from rfl, ifp_ff]
    rw [map_bindr_er (raw_p hp (.inr rfl) hw hh hwh hlf2 ht hr hs ha pix hrl) _ (fun _ => rfl)]
    rw [show pixS 5 w h top s = rawS 5 w h top s from rfl]
    cases rawS 5 w h top s with
    | ok r => rfl
    | pan e => rfl
end Go.Proofs.YtgpnjdldpehidaaDoor

open Go Go.Abs Go.Proofs
set_option maxRecDepth 100000
set_option linter.unusedVariables false
set_option linter.unusedSimpArgs false
namespace Go.Proofs.YtgpnjdldpehidaaDoor
variable {p s t : List Int} {n lf : Nat}
def kn (f : Int) : Bool := f == 1 || f == 4 || f == 2 || f == 5
abbrev ImgK := Int × Int × List Int × Int × Nat
def finS (w h f : Int) (k : Nat) : Res (List Int × Nat) Int → Res ImgK Int
  | .ok (l, j) => .ok (w, h, l, f, k + j)
  | .pan e => .pan e
def hdrS (f : Int) (t : List Int) : Res ImgK Int := match headS 0 65535 t with
  | .pan e => .pan e
  | .ok (w, k1) => match headS 0 65535 (t.drop k1) with
    | .pan e => .pan e
    | .ok (h, k2) => if 1 ≤ w ∧ w ≤ 4096 ∧ 1 ≤ h ∧ h ≤ 4096 ∧ w * h ≤ 4194304 then
        (if f = 1 ∨ f = 4 then finS w h f (2 + k1 + k2) (pixS f w.toNat h.toNat 1 ((t.drop k1).drop k2))
        else match headS 1 255 ((t.drop k1).drop k2) with
          | .pan e => .pan e
          | .ok (top, k3) => finS w h f (2 + k1 + k2 + k3) (pixS f w.toNat h.toNat top (((t.drop k1).drop k2).drop k3)))
        else .pan 23
def imgS (s : List Int) : Res ImgK Int := match s with
  | c :: d :: t => if c = 80 ∧ kn (d - 48) = true then hdrS (d - 48) t else .pan 25
  | _ => .pan 25
def shiftN (n : Nat) : Res ImgK Int → Res (Int × Int × List Int × Int × Int) Int
  | .ok (w, h, l, f, k) => .ok (w, h, l, f, ((n + k : Nat) : Int))
  | .pan e => .pan e
theorem kn_cases {f : Int} (h : kn f = true) : f = 1 ∨ f = 2 ∨ f = 4 ∨ f = 5 := by
  unfold kn at h; simp at h; omega
theorem drop_range {k : Nat} (hr : ∀ v ∈ s, 0 ≤ v ∧ v < 256) : ∀ v ∈ s.drop k, 0 ≤ v ∧ v < 256 := fun v hv => hr v (List.mem_of_mem_drop hv)
theorem drop_ne {k : Nat} (hk : k < s.length) : s.drop k ≠ [] := by
  intro h; have := congrArg List.length h; rw [List.length_drop] at this; simp at this; omega
theorem F44_J4 (hp : p.length ≤ 2 ^ 30) (hlf : p.length < lf) (hlf2 : 4194304 < lf) {f : Int} (hk : kn f = true) {c d : Int} (hr : ∀ v ∈ t, 0 ≤ v ∧ v < 256) (ha : At p n (c :: d :: t)) (a b : Int) :
    Option.map er (F44.J4p lf p (n : Int) a b f) = some (shiftN n (hdrS f t)) := by
  have ha2 := ha.step.step
  have hln := ha.len
  simp only [List.length_cons] at hln
  have hf := kn_cases hk
  unfold F44.J4p
  have w2 : IntKind.i64.wrap ((n : Int) + 2) = ((n + 1 + 1 : Nat) : Int) := by rw [wr64 (by omega) (by omega)]; omega
  rw [F20_ok, bindp_s, show (f == 1 || f == 4 || f == 2 || f == 5) = true from hk, F52_t, bindr_o, w2]
  unfold hdrS
  rcases head_cases hp hlf ha2 0 65535 with ⟨w, k1, e1, e2, h1, h2, h3⟩ | ⟨e, x, e1, e2, _⟩
  case inr => rw [bindr_of e2, bindr_p, e1]; rfl
  rw [bindr_of e2, bindr_o, e1]
  simp only
  have ha3 := ha2.drop (Nat.le_of_lt h1)
  rcases head_cases hp hlf ha3 0 65535 with ⟨h, k2, e3, e4, h4, h5, h6⟩ | ⟨e, x, e3, e4, _⟩
  case inr => rw [bindr_of e4, bindr_p, e3]; rfl
  rw [bindr_of e4, bindr_o, e3]
  simp only
  have ha4 := ha3.drop (Nat.le_of_lt h4)
  rw [List.length_drop] at h4
  by_cases c1 : 1 ≤ w
  case neg => rw [show decide (w ≥ 1) = false by simp; omega, ifp_ff, F52_f, bindr_p, if_neg (fun hh => c1 hh.1)]; rfl
  by_cases c2 : w ≤ 4096
  case neg => rw [show decide (w ≥ 1) = true by simp; omega, ifp_tt, show decide (w ≤ 4096) = false by simp; omega, ifp_ff, F52_f, bindr_p, if_neg (fun hh => c2 hh.2.1)]; rfl
  by_cases c3 : 1 ≤ h
  case neg => rw [show decide (w ≥ 1) = true by simp; omega, ifp_tt, show decide (w ≤ 4096) = true by simp; omega, ifp_tt, show decide (h ≥ 1) = false by simp; omega, ifp_ff, F52_f, bindr_p, if_neg (fun hh => c3 hh.2.2.1)]; rfl
  by_cases c4 : h ≤ 4096
  case neg => rw [show decide (w ≥ 1) = true by simp; omega, ifp_tt, show decide (w ≤ 4096) = true by simp; omega, ifp_tt, show decide (h ≥ 1) = true by simp; omega, ifp_tt, show decide (h ≤ 4096) = false by simp; omega, ifp_ff, F52_f, bindr_p, if_neg (fun hh => c4 hh.2.2.2.1)]; rfl
  obtain ⟨W, rfl⟩ : ∃ W : Nat, w = (W : Int) := ⟨w.toNat, by omega⟩
  obtain ⟨H, rfl⟩ : ∃ H : Nat, h = (H : Int) := ⟨h.toNat, by omega⟩
  have hWH : W * H ≤ 4096 * 4096 := Nat.mul_le_mul (by omega) (by omega)
  have w3 : IntKind.i64.wrap ((W : Int) * (H : Int)) = ((W * H : Nat) : Int) := by rw [← Int.natCast_mul, wr64 (by omega) (by omega)]
  have m1 : (W : Int) * (H : Int) = ((W * H : Nat) : Int) := by rw [Int.natCast_mul]
  rw [show decide ((W : Int) ≥ 1) = true by simp; omega, ifp_tt, show decide ((W : Int) ≤ 4096) = true by simp; omega, ifp_tt, show decide ((H : Int) ≥ 1) = true by simp; omega, ifp_tt, show decide ((H : Int) ≤ 4096) = true by simp; omega, ifp_tt, w3]
  by_cases c5 : W * H ≤ 4194304
  case neg => rw [show decide (((W * H : Nat) : Int) ≤ 4194304) = false by simp only [decide_eq_false_iff_not]; omega, F52_f, bindr_p, if_neg (fun hh => c5 (by have := hh.2.2.2.2; rw [m1] at this; omega))]; rfl
  rw [show decide (((W * H : Nat) : Int) ≤ 4194304) = true by simp only [decide_eq_true_eq]; omega, F52_t, bindr_o, if_pos ⟨c1, c2, c3, c4, by rw [m1]; omega⟩]
  unfold F44.J10p
  rw [F21_ok, bindp_s, Int.toNat_natCast, Int.toNat_natCast]
  by_cases hb : f = 1 ∨ f = 4
  · rw [show (!(f == 1 || f == 4)) = false by rcases hb with rfl | rfl <;> rfl, ifp_ff, if_pos hb]
    rw [body_all hp hlf hf ⟨by omega, by omega⟩ ⟨by omega, by omega⟩ c5 (by omega) (by decide) (drop_range (drop_range hr)) (drop_ne (by rw [List.length_drop]; omega)) ha4]
    cases pixS f W H 1 (List.drop k2 (List.drop k1 t)) with
    | ok r => obtain ⟨l, j⟩ := r; simp only [imgB, finS, shiftN]; rw [show n + 1 + 1 + k1 + k2 + j = n + (2 + k1 + k2 + j) by omega]
    | pan e => rfl
  · rw [show (!(f == 1 || f == 4)) = true by rcases hf with rfl | rfl | rfl | rfl <;> first | rfl | (exfalso; omega), ifp_tt, if_neg hb]
    rcases head_cases hp hlf ha4 1 255 with ⟨top, k3, e5, e6, h7, h8, h9⟩ | ⟨e, x, e5, e6, _⟩
    case inr => rw [bindr_of e6, bindr_p, e5]; rfl
    have ha5 := ha4.drop (Nat.le_of_lt h7)
    rw [bindr_of e6, bindr_o, e5]
    simp only
    rw [body_all hp hlf hf ⟨by omega, by omega⟩ ⟨by omega, by omega⟩ c5 (by omega) (by omega) (drop_range (drop_range (drop_range hr))) (drop_ne h7) ha5]
    cases pixS f W H top (List.drop k3 (List.drop k2 (List.drop k1 t))) with
    | ok r => obtain ⟨l, j⟩ := r; simp only [imgB, finS, shiftN]; rw [show n + 1 + 1 + k1 + k2 + k3 + j = n + (2 + k1 + k2 + k3 + j) by omega]
    | pan e => rfl
theorem F44_J4n (lf : Nat) {f : Int} (hk : kn f = false) (a b : Int) (q : Int) : Option.map er (F44.J4p lf p q a b f) = some (.pan 25) := by
  unfold F44.J4p
  rw [F20_ok, bindp_s, show (f == 1 || f == 4 || f == 2 || f == 5) = false from hk, F52_f, bindr_p]; rfl
theorem F44_all (hp : p.length ≤ 2 ^ 30) (hlf : p.length < lf) (hlf2 : 4194304 < lf) (hr : ∀ v ∈ s, 0 ≤ v ∧ v < 256) (ha : At p n s) :
    Option.map er (F44.p lf p (n : Int)) = some (shiftN n (imgS s)) := by
  have hln := ha.len
  unfold F44.p
  have w0 : IntKind.i64.wrap ((p.length : Int) - (n : Int)) = ((s.length : Nat) : Int) := by rw [wr64 (by omega) (by omega)]; omega
  rw [w0]
  match s, hr, ha, hln with
  | [], _, _, _ => exact F44_J4n (p := p) (f := 0) lf rfl 0 0 _
  | [c], _, _, _ => exact F44_J4n (p := p) (f := 0) lf rfl 0 0 _
  | c :: d :: t, hr, ha, hln =>
    rw [show decide ((((c :: d :: t).length : Nat) : Int) ≥ 2) = true by simp only [List.length_cons, decide_eq_true_eq]; omega, ifp_tt, bindp_of ha.idx]
    simp only [List.length_cons] at hln
    have w1 : IntKind.i64.wrap ((n : Int) + 1) = ((n + 1 : Nat) : Int) := wrS (by omega)
    have hd := hr d (.tail _ (.head _))
    simp only [imgS]
    by_cases hc : c = 80
    · subst hc
      rw [show ((80 : Int) == 80) = true from rfl, ifp_tt, w1, bindp_of ha.step.idx, F51_ok, bindp_s]
      unfold F44.J3p
      cases hg : dig d with
      | true =>
        have hdr := dig_range hg
        have wf : IntKind.i64.wrap (IntKind.u8.wrap (d - 48)) = d - 48 := by rw [wru8 (by omega) (by omega), wr64 (by omega) (by omega)]
        rw [ifp_tt, w1, bindp_of ha.step.idx, wf]
        cases hk : kn (d - 48) with
        | true => rw [if_pos ⟨rfl, rfl⟩]; exact F44_J4 hp hlf hlf2 hk (fun v hv => hr v (.tail _ (.tail _ hv))) ha 0 0
        | false => rw [if_neg (by simp)]; exact F44_J4n lf hk 0 0 _
      | false =>
        rw [ifp_ff, if_neg (fun hh => by have := kn_cases hh.2; simp [dig] at hg; omega)]
        exact F44_J4n (p := p) (f := 0) lf rfl 0 0 _
    · rw [show (c == 80) = false by simpa using hc, ifp_ff, if_neg (fun hh => hc hh.1)]
      exact F44_J4n (p := p) (f := 0) lf rfl 0 0 _
end Go.Proofs.YtgpnjdldpehidaaDoor
