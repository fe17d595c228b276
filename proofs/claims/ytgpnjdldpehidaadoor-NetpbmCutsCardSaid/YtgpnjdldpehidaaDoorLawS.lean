/-
  What is read of a file that is cut off, in plain Lean, for every image that can be written; no statement of the seat is proved in this file.
-/
import Derived.Test.YtgpnjdldpehidaaDoorLawR
open Go Go.Abs Go.Proofs
set_option maxRecDepth 100000
set_option linter.unusedVariables false
set_option linter.unusedSimpArgs false
namespace Go.Proofs.YtgpnjdldpehidaaDoor
variable {p s : List Int} {n lf : Nat} {f : Int} {pix : List Int} {w h lf' : Nat}
/-! ### Files that are cut off -/
theorem numN_all : ∀ (v : Int) (s : List Int), (∀ c ∈ s, dig c = true) → (numN v s).2 = s.length
  | _, [], _ => rfl
  | v, c :: s, hs => by
    have := numN_all (if 65536 < 10 * v + (c - 48) then 65536 else 10 * v + (c - 48)) s (fun c hc => hs c (by simp [hc]))
    simp only [numN, hs c (by simp), if_true, this, List.length_cons]; omega
theorem decD_dig {v : Nat} (hv : v < 10000) : ∀ c ∈ decD v, dig c = true := by
  have key : ∀ d : Int, 48 ≤ d ∧ d ≤ 57 → dig d = true := fun d hd => by simp [dig]; omega
  intro c hc
  unfold decD at hc
  split at hc
  · simp only [List.mem_cons, List.not_mem_nil, or_false] at hc; exact key _ (by omega)
  split at hc
  · simp only [List.mem_cons, List.not_mem_nil, or_false] at hc; exact key _ (by omega)
  split at hc
  · simp only [List.mem_cons, List.not_mem_nil, or_false] at hc; exact key _ (by omega)
  · simp only [List.mem_cons, List.not_mem_nil, or_false] at hc; exact key _ (by omega)
def isPan10 {α : Type} : Res α (Int × Int) → Prop
  | .ok _ => False
  | .pan r => r.1 = 10
/-- A number of the header, cut off within it. -/
theorem head_cut {c : Int} (hc : sp c = true) {v : Nat} (hv : v < 10000) {j : Nat} (hj : j ≤ 1 + (decD v).length) {n : Nat} {p : List Int} (ha : At p n ((c :: decD v).take j)) (least most : Int) : isPan10 (headR least most n ((c :: decD v).take j) p.length) := by
  have hl := ha.len
  unfold headR
  cases j with
  | zero => simp [numR, isPan10]
  | succ j =>
    rw [List.take_succ_cons] at hl ⊢
    simp only [numR]
    rw [if_pos (.inl hc)]
    have hdg : ∀ d ∈ (decD v).take j, dig d = true := fun d hd => decD_dig hv d (List.mem_of_mem_take hd)
    have hlen : ((decD v).take j).length = j := by rw [List.length_take]; omega
    generalize (decD v).take j = z at hdg hlen hl
    cases z with
    | nil =>
      have e1 : skN false [c] = 1 := by simp [skN, hc]
      rw [e1]; simp [numK, isPan10]
    | cons d t =>
      have hd := hdg d (by simp)
      have hr := dig_range hd
      have e1 : skN false (c :: d :: t) = 1 := by
        have : sp d = false := by simp [sp]; omega
        simp only [skN, hc, if_true, this]
        rw [if_neg (by decide), if_neg (by omega)]
      have e2 := numN_all 0 (d :: t) hdg
      rw [e1, List.drop_succ_cons, List.drop_zero]
      simp only [numK, hd, if_true, e2]
      simp only [List.length_cons] at hl ⊢
      rw [if_neg (by omega)]
      rfl
theorem take_split {a b : List Int} {j : Nat} (hj : a.length < j) : (a ++ b).take j = a ++ b.take (j - a.length) := by
  rw [List.take_append, List.take_of_length_le (by omega)]
/-- The pixels of the format P1, cut off. -/
theorem text1_cut (hp : p.length ≤ 2 ^ 30) (hlf : p.length < lf) (w h : Int) (pix : List Int) (hpl : pix.length ≤ 2 ^ 30) (hv : ∀ v ∈ pix, v = 0 ∨ v = 255) (g : Int) {t : List Int} : ∀ (d i : Nat), pix.length = i + d → ∀ (s : List Int) (j n : Nat), j + t.length < s.length → At p n (s.take j) → reads1 (pix.drop i) s t → ∀ k, d < k →
    ∃ r, F55.L1p lf k p (n : Int) w h (part pix i) 1 g (pix.length : Int) (i : Int) = some (.pan r) ∧ r.1 = 10
  | 0, i, hi, s, j, n, hj, ha, hr, k + 1, _ => by
    rw [List.drop_eq_nil_of_le (by omega)] at hr
    have hr : s = t := hr
    subst hr; omega
  | d + 1, i, hi, s, j, n, hj, ha, hr, k + 1, hk => by
    have hil : i < pix.length := by omega
    rw [List.drop_eq_getElem_cons hil] at hr
    obtain ⟨ws, s', rfl, hws, hr'⟩ := hr
    unfold F55.L1p
    rw [show decide ((i : Int) < (pix.length : Int)) = true by simp; omega, ifp_tt]
    unfold F55.J2p
    rw [show ((1 : Int) == 2) = false from rfl, ifp_ff]
    unfold F55.J7p
    simp only [letJ_eq]
    have hcv : chV pix[i] = 49 ∨ chV pix[i] = 48 := by unfold chV; split <;> simp
    have hsp : sp (chV pix[i]) = false ∧ chV pix[i] ≠ 35 := by rcases hcv with h | h <;> rw [h] <;> exact ⟨by decide, by decide⟩
    have hln := ha.len
    rw [bindp_of (F67_ok hp hlf ha)]
    by_cases hjw : j ≤ ws.length
    · rw [List.take_append, show j - ws.length = 0 by omega, List.take_zero, List.append_nil] at ha hln ⊢
      have hwt : ∀ c ∈ ws.take j, sp c = true := fun c hc => hws c (List.mem_of_mem_take hc)
      have hsk : ∀ z : List Int, (∀ c ∈ z, sp c = true) → skN false z = z.length := by
        intro z
        induction z with
        | nil => intro _; rfl
        | cons c z ih => intro hz; simp only [skN, hz c (by simp), if_true, ih (fun c hc => hz c (by simp [hc])), List.length_cons]; omega
      rw [hsk _ hwt, hln]
      rw [show decide ((p.length : Int) < (p.length : Int)) = false by simp, F52_f, bindr_p]
      exact ⟨_, rfl, rfl⟩
    · rw [take_split (by omega)] at ha hln ⊢
      obtain ⟨j', hj'⟩ : ∃ j', j - ws.length = j' + 1 := ⟨j - ws.length - 1, by omega⟩
      rw [hj', List.take_succ_cons] at ha hln ⊢
      rw [skN_ws ws hws _ _ hsp.1 hsp.2]
      have ha2 := ha.skip
      rw [ha2.lt, F52_t, bindr_o, bindp_of ha2.idx]
      rw [List.length_append, List.length_cons] at hln
      have w1 : IntKind.i64.wrap (((n + ws.length : Nat) : Int) + 1) = ((n + ws.length + 1 : Nat) : Int) := wrS (by omega)
      have w2 : IntKind.i64.wrap ((i : Int) + 1) = ((i + 1 : Nat) : Int) := wrS (by omega)
      simp only [List.length_append, List.length_cons] at hj
      obtain ⟨r, e1, e2⟩ := text1_cut hp hlf w h pix hpl hv g d (i + 1) (by omega) s' j' (n + ws.length + 1) (by omega) ha2.step hr' k (by omega)
      refine ⟨r, ?_, e2⟩
      have hpx := hv pix[i] (List.getElem_mem _)
      have hset := part_set hil
      rcases hpx with h0 | h0
      · have hc : chV pix[i] = 49 := by unfold chV; rw [if_pos h0]
        rw [hc, show ((49 : Int) == 48) = false from rfl, ifp_ff, show ((49 : Int) == 49) = true from rfl, F52_t, bindr_o, F68_ok, bindp_s, if_pos rfl]
        rw [h0] at hset
        rw [bindp_of hset, w1, w2, e1]
      · have hc : chV pix[i] = 48 := by unfold chV; rw [if_neg (by omega)]
        rw [hc, show ((48 : Int) == 48) = true from rfl, ifp_tt, F52_t, bindr_o, show ((48 : Int) == 49) = false from rfl, F68_ok, bindp_s, if_neg (by decide)]
        rw [h0] at hset
        rw [bindp_of hset, w1, w2, e1]
/-- The pixels, cut off. -/
theorem body_cut (hp : p.length ≤ 2 ^ 30) (hlf : p.length < lf) (hlf2 : pix.length < lf) (hd : Dom f pix w h lf') (hf2 : f ≠ 2) (hv : f = 1 ∨ f = 4 → ∀ v ∈ pix, v = 0 ∨ v = 255) {j : Nat} (hj0 : 1 ≤ j) (hj : j + leftL f < (10 :: encA f pix w h 0).length) (ha : At p n ((10 :: encA f pix w h 0).take j)) (a b : Int) :
    ∃ r, F44.J13p lf p (n : Int) a b f (w : Int) (h : Int) (if f = 2 ∨ f = 5 then 255 else 1) = some (.pan r) ∧ r.1 = 10 := by
  have hwh := hd.wh
  have hlen := hd.len
  have m1 : (w : Int) * (h : Int) = ((pix.length : Nat) : Int) := by rw [hlen, Int.natCast_mul]
  have w1 : IntKind.i64.wrap ((w : Int) * (h : Int)) = ((pix.length : Nat) : Int) := by rw [m1, wr64 (by omega) (by omega)]
  have hmk : repp 1 (0 : Int) ((pix.length : Nat) : Int) = some (part pix 0) := by
    unfold repp
    rw [if_pos ⟨by omega, by unfold bigLimit; omega, by unfold bigLimit; omega⟩, Int.toNat_natCast, part_zero]
  have hpl : (part pix 0).length = pix.length := part_len (by omega)
  obtain ⟨j, rfl⟩ : ∃ i, j = i + 1 := ⟨j - 1, by omega⟩
  unfold F44.J13p
  rw [w1, bindp_of hmk, F54_ok, bindp_s]
  simp only [letJ_eq]
  rcases hd.fm with rfl | rfl | rfl | rfl
  · rw [show ((1 : Int) == 1 || (1 : Int) == 2) = true from rfl, ifp_tt, if_neg (by decide)]
    unfold F55.p
    rw [hpl]
    have hr := encA_reads1 hd [] h 0 (by omega)
    rw [pix_all hd, List.append_nil] at hr
    have hl1 : leftL 1 = 1 := rfl
    obtain ⟨r, e1, e2⟩ := text1_cut (lf := lf) (t := [10]) hp hlf (w : Int) (h : Int) pix (by omega) (hv (.inl rfl)) 1 pix.length 0 (by omega) _ (j + 1) n (by simp only [List.length_cons, List.length_nil] at hj ⊢; omega) ha (by rw [List.drop_zero]; exact hr) lf hlf2
    exact ⟨(r.1, r.2.1), by rw [bindr_of (show F55.L1p lf lf p (n : Int) (w : Int) (h : Int) (part pix 0) 1 1 (pix.length : Int) 0 = _ from e1), bindr_p], e2⟩
  · exact absurd rfl hf2
  · rw [show ((4 : Int) == 1 || (4 : Int) == 2) = false from rfl, ifp_ff, if_neg (by decide)]
    rw [List.take_succ_cons] at ha
    have hln := ha.len
    have htl : ((encA 4 pix w h 0).take j).length = j := by rw [List.length_take]; simp only [List.length_cons] at hj; omega
    rw [List.length_cons, htl] at hln
    unfold F56.p
    rw [bindp_of ha.idx, F36_ok, bindp_s, show sp 10 = true from rfl, F52_t, bindr_o, show ((4 : Int) == 4) = true from rfl, ifp_tt, wrS (by omega)]
    have w2 : IntKind.i64.wrap ((w : Int) + 7) = ((w + 7 : Nat) : Int) := by have := hd.w2; rw [wr64 (by omega) (by omega)]; omega
    have w3 : Int.tdiv ((w + 7 : Nat) : Int) 8 = (((w + 7) / 8 : Nat) : Int) := tdiv_nat _ 8
    have w4 : IntKind.i64.wrap (((w + 7) / 8 : Nat) : Int) = (((w + 7) / 8 : Nat) : Int) := by have := hd.w2; exact wr64 (by omega) (by omega)
    rw [w2, w3, w4]
    unfold F56.J5p
    have hle := encA4_len hd h 0 (by omega)
    have hle2 := encA_len hd h 0 (by omega)
    have m2 : (((w + 7) / 8 : Nat) : Int) * (h : Int) = (((encA 4 pix w h 0).length : Nat) : Int) := by rw [hle, Int.natCast_mul]
    have w5 : IntKind.i64.wrap ((((w + 7) / 8 : Nat) : Int) * (h : Int)) = (((encA 4 pix w h 0).length : Nat) : Int) := by rw [m2, wr64 (by omega) (by omega)]
    have w6 : IntKind.i64.wrap ((p.length : Int) - ((n + 1 : Nat) : Int)) = ((p.length - (n + 1) : Nat) : Int) := by rw [wr64 (by omega) (by omega)]; omega
    rw [w5, w6, show decide (((p.length - (n + 1) : Nat) : Int) ≥ (((encA 4 pix w h 0).length : Nat) : Int)) = false by simp only [List.length_cons] at hj; simp; omega, F52_f, bindr_p, bindr_p]
    exact ⟨_, rfl, rfl⟩
  · rw [show ((5 : Int) == 1 || (5 : Int) == 2) = false from rfl, ifp_ff, if_pos (.inr rfl)]
    rw [List.take_succ_cons] at ha
    have hln := ha.len
    have hl0 : leftL 5 = 0 := rfl
    have htl : ((encA 5 pix w h 0).take j).length = j := by rw [List.length_take]; simp only [List.length_cons] at hj; omega
    rw [List.length_cons, htl] at hln
    unfold F56.p
    rw [bindp_of ha.idx, F36_ok, bindp_s, show sp 10 = true from rfl, F52_t, bindr_o, show ((5 : Int) == 4) = false from rfl, ifp_ff, wrS (by omega)]
    unfold F56.J5p
    have he5 : (encA 5 pix w h 0).length = pix.length := by
      have key : ∀ d y, h = y + d → (encA 5 pix w d y).length = d * w := by
        intro d
        induction d with
        | zero => intro y hy; simp [encA]
        | succ d ih =>
          intro y hy
          obtain ⟨r1, r2, r3⟩ := hd.row (y := y) (by omega)
          have e1 : encR 5 (rowAt pix w y) = rowAt pix w y := by unfold encR; rw [if_neg (by decide), if_neg (by decide)]
          show (encR 5 (rowAt pix w y) ++ _).length = _
          rw [List.length_append, e1, r1, ih (y + 1) (by omega), Nat.add_mul]; omega
      rw [key h 0 (by omega), hlen, Nat.mul_comm]
    have w6 : IntKind.i64.wrap ((p.length : Int) - ((n + 1 : Nat) : Int)) = ((p.length - (n + 1) : Nat) : Int) := by rw [wr64 (by omega) (by omega)]; omega
    rw [w1, w6, show decide (((p.length - (n + 1) : Nat) : Int) ≥ ((pix.length : Nat) : Int)) = false by simp only [List.length_cons] at hj; simp; omega, F52_f, bindr_p, bindr_p]
    exact ⟨_, rfl, rfl⟩
theorem headR_pan {least most : Int} {n len : Nat} {s : List Int} (h : isPan10 (headR least most n s len)) : ∃ r, headR least most n s len = .pan r ∧ r.1 = 10 := by
  cases hh : headR least most n s len with
  | ok r => rw [hh] at h; exact h.elim
  | pan r => rw [hh] at h; exact ⟨r, rfl, h⟩
/-- A cut file is no file. -/
theorem file_cut (hd : Dom f pix w h lf') (hf2 : f ≠ 2) (hpx : w * h ≤ 4194304) (hv : f = 1 ∨ f = 4 → ∀ v ∈ pix, v = 0 ∨ v = 255) {j : Nat} (hj : j + leftL f < (fileL f pix w h).length) (hp : p = (fileL f pix w h).take j) (hpl : p.length ≤ 4194304) (hlf : p.length < lf) (hlf2 : pix.length < lf) :
    F13.p lf p = some (0, 0, [], 0, 0, if j < 2 then 25 else 10) := by
  have hf : 1 ≤ f ∧ f ≤ 5 := by rcases hd.fm with rfl | rfl | rfl | rfl <;> omega
  have hp30 : p.length ≤ 2 ^ 30 := by omega
  have hw2 := hd.w2
  have hh2 := hd.h2
  have hw1 := hd.w1
  have hh1 := hd.h1
  have hwh := hd.wh
  have hlen : p.length = j := by rw [hp, List.length_take]; omega
  have key : ∃ r, F44.p lf p 0 = some (.pan r) ∧ r.1 = if j < 2 then 25 else 10 := by
    have w0 : IntKind.i64.wrap ((p.length : Int) - 0) = (p.length : Int) := by rw [wr64 (by omega) (by omega)]; omega
    unfold F44.p
    rw [w0]
    by_cases h2 : j < 2
    · rw [show decide ((p.length : Int) ≥ 2) = false by simp; omega, ifp_ff, if_pos h2]
      unfold F44.J3p F44.J4p
      rw [ifp_ff, F20_ok, bindp_s, show ((0 : Int) == 1 || (0 : Int) == 4 || (0 : Int) == 2 || (0 : Int) == 5) = false from rfl, F52_f, bindr_p]
      exact ⟨_, rfl, rfl⟩
    · rw [if_neg h2]
      obtain ⟨i, rfl⟩ : ∃ i, j = i + 2 := ⟨j - 2, by omega⟩
      have hfile : fileL f pix w h = 80 :: (48 + f) :: ((10 :: decD w) ++ ((32 :: decD h) ++ (topL f ++ 10 :: encA f pix w h 0))) := by
        rw [← fileX_eq]; unfold fileX; simp
      rw [hfile] at hp hj
      simp only [List.length_cons, List.length_append] at hj
      rw [List.take_succ_cons, List.take_succ_cons] at hp
      have ha0 : At p 0 (80 :: (48 + f) :: ((10 :: decD w) ++ ((32 :: decD h) ++ (topL f ++ 10 :: encA f pix w h 0))).take i) := ⟨hp, Nat.zero_le _⟩
      have ha1 := ha0.step
      have ha2 := ha1.step
      have i0 : idxp p (0 : Int) = some 80 := ha0.idx
      have i1 : idxp p (IntKind.i64.wrap (0 + 1)) = some (48 + f) := by rw [show IntKind.i64.wrap (0 + 1) = ((1 : Nat) : Int) by decide]; exact ha1.idx
      rw [show decide ((p.length : Int) ≥ 2) = true by simp; omega, ifp_tt, bindp_of i0, show ((80 : Int) == 80) = true from rfl, ifp_tt, bindp_of i1, F51_ok, bindp_s]
      have hdig : dig (48 + f) = true := by simp [dig]; omega
      rw [hdig]
      unfold F44.J3p
      have wf : IntKind.i64.wrap (IntKind.u8.wrap (48 + f - 48)) = f := by
        rw [show 48 + f - 48 = f by omega, wru8 (by omega) (by omega), wr64 (by omega) (by omega)]
      rw [ifp_tt, bindp_of i1, wf]
      unfold F44.J4p
      have hkn : (f == 1 || f == 4 || f == 2 || f == 5) = true := by rcases hd.fm with rfl | rfl | rfl | rfl <;> rfl
      have w2 : IntKind.i64.wrap ((0 : Int) + 2) = ((0 + 1 + 1 : Nat) : Int) := by decide
      rw [F20_ok, bindp_s, hkn, F52_t, bindr_o, w2, bindr_of (F53_ok hp30 hlf ha2 0 65535)]
      -- the width
      by_cases c1 : i ≤ 1 + (decD w).length
      · have e1 : ((10 :: decD w) ++ ((32 :: decD h) ++ (topL f ++ 10 :: encA f pix w h 0))).take i = (10 :: decD w).take i := by
          rw [List.take_append, show i - (10 :: decD w).length = 0 by simp only [List.length_cons]; omega, List.take_zero, List.append_nil]
        rw [e1] at ha2 ⊢
        obtain ⟨r, e2, e3⟩ := headR_pan (head_cut (c := 10) rfl (by omega) c1 ha2 0 65535)
        rw [e2, bindr_p]
        exact ⟨_, rfl, e3⟩
      · have e1 := take_split (a := 10 :: decD w) (b := (32 :: decD h) ++ (topL f ++ 10 :: encA f pix w h 0)) (j := i) (by simp only [List.length_cons]; omega)
        obtain ⟨i2, hi2⟩ : ∃ i2, i = (10 :: decD w).length + (i2 + 1) := ⟨i - (10 :: decD w).length - 1, by simp only [List.length_cons]; omega⟩
        rw [e1, show i - (10 :: decD w).length = i2 + 1 by omega] at ha2 ⊢
        have hne : ((32 :: decD h) ++ (topL f ++ 10 :: encA f pix w h 0)).take (i2 + 1) = 32 :: (decD h ++ (topL f ++ 10 :: encA f pix w h 0)).take i2 := by rw [List.cons_append, List.take_succ_cons]
        have ha2' : At p (0 + 1 + 1) ([10] ++ decD w ++ ((32 :: decD h) ++ (topL f ++ 10 :: encA f pix w h 0)).take (i2 + 1)) := by simpa using ha2
        rw [show (10 :: decD w) ++ ((32 :: decD h) ++ (topL f ++ 10 :: encA f pix w h 0)).take (i2 + 1) = [10] ++ decD w ++ ((32 :: decD h) ++ (topL f ++ 10 :: encA f pix w h 0)).take (i2 + 1) by simp]
        rw [headR_dec (sep_one rfl) (by omega) (by rw [hne]; exact noDig_cons rfl) (by rw [hne]; simp) ⟨by omega, by omega⟩ ha2', bindr_o]
        have ha3 := At.skip ha2'
        simp only
        simp only [List.length_cons] at hi2
        rw [bindr_of (F53_ok hp30 hlf ha3 0 65535)]
        -- the height
        by_cases c2 : i2 + 1 ≤ 1 + (decD h).length
        · have e3 : ((32 :: decD h) ++ (topL f ++ 10 :: encA f pix w h 0)).take (i2 + 1) = (32 :: decD h).take (i2 + 1) := by
            rw [List.take_append, show i2 + 1 - (32 :: decD h).length = 0 by simp only [List.length_cons]; omega, List.take_zero, List.append_nil]
          rw [e3] at ha3 ⊢
          obtain ⟨r, e4, e5⟩ := headR_pan (head_cut (c := 32) rfl (by omega) c2 ha3 0 65535)
          rw [e4, bindr_p]
          exact ⟨_, rfl, e5⟩
        · have e3 := take_split (a := 32 :: decD h) (b := topL f ++ 10 :: encA f pix w h 0) (j := i2 + 1) (by simp only [List.length_cons]; omega)
          obtain ⟨i3, hi3⟩ : ∃ i3, i2 + 1 = (32 :: decD h).length + (i3 + 1) := ⟨i2 + 1 - (32 :: decD h).length - 1, by simp only [List.length_cons]; omega⟩
          rw [e3, show i2 + 1 - (32 :: decD h).length = i3 + 1 by omega] at ha3 ⊢
          have hne3 : noDig ((topL f ++ 10 :: encA f pix w h 0).take (i3 + 1)) ∧ (topL f ++ 10 :: encA f pix w h 0).take (i3 + 1) ≠ [] := by
            unfold topL; split
            · rw [List.cons_append, List.take_succ_cons]; exact ⟨noDig_cons rfl, by simp⟩
            · rw [List.nil_append, List.take_succ_cons]; exact ⟨noDig_cons rfl, by simp⟩
          have e5 : (32 :: decD h) ++ (topL f ++ 10 :: encA f pix w h 0).take (i3 + 1) = [32] ++ decD h ++ (topL f ++ 10 :: encA f pix w h 0).take (i3 + 1) := by simp
          rw [e5] at ha3 ⊢
          rw [headR_dec (sep_one rfl) (by omega) hne3.1 hne3.2 ⟨by omega, by omega⟩ ha3, bindr_o]
          have ha4 := At.skip ha3
          simp only
          simp only [List.length_cons] at hi3
          have m1 : (w : Int) * (h : Int) = ((w * h : Nat) : Int) := by rw [Int.natCast_mul]
          have w3 : IntKind.i64.wrap ((w : Int) * (h : Int)) = ((w * h : Nat) : Int) := by rw [m1, wr64 (by omega) (by omega)]
          rw [show decide ((w : Int) ≥ 1) = true by simp; omega, ifp_tt, show decide ((w : Int) ≤ 4096) = true by simp; omega, ifp_tt, show decide ((h : Int) ≥ 1) = true by simp; omega, ifp_tt, show decide ((h : Int) ≤ 4096) = true by simp; omega, ifp_tt, w3, show decide (((w * h : Nat) : Int) ≤ 4194304) = true by simp only [decide_eq_true_eq]; omega, F52_t, bindr_o]
          unfold F44.J10p
          rw [F21_ok, bindp_s]
          by_cases hb : f = 2 ∨ f = 5
          · have hbb : (!(f == 1 || f == 4)) = true := by rcases hb with rfl | rfl <;> rfl
            have htop : topL f = 10 :: decD 255 := by unfold topL; rw [if_pos hb]
            have ht4 : (decD 255).length = 3 := by decide
            rw [htop] at ha4 hj
            simp only [List.length_cons] at hj
            rw [hbb, ifp_tt, bindr_of (F53_ok hp30 hlf ha4 1 255)]
            by_cases c3 : i3 + 1 ≤ 1 + (decD 255).length
            · have e6 : ((10 :: decD 255) ++ 10 :: encA f pix w h 0).take (i3 + 1) = (10 :: decD 255).take (i3 + 1) := by
                rw [List.take_append, show i3 + 1 - (10 :: decD 255).length = 0 by simp only [List.length_cons]; omega, List.take_zero, List.append_nil]
              rw [e6] at ha4
              obtain ⟨r, e7, e8⟩ := headR_pan (head_cut (c := 10) rfl (by decide) c3 ha4 1 255)
              rw [e6, e7, bindr_p]
              exact ⟨_, rfl, e8⟩
            · have e6 := take_split (a := 10 :: decD 255) (b := 10 :: encA f pix w h 0) (j := i3 + 1) (by simp only [List.length_cons]; omega)
              obtain ⟨i4, hi4⟩ : ∃ i4, i3 + 1 = (10 :: decD 255).length + (i4 + 1) := ⟨i3 + 1 - (10 :: decD 255).length - 1, by simp only [List.length_cons]; omega⟩
              rw [e6, show i3 + 1 - (10 :: decD 255).length = i4 + 1 by omega] at ha4
              have e9 : (10 :: decD 255) ++ (10 :: encA f pix w h 0).take (i4 + 1) = [10] ++ decD 255 ++ (10 :: encA f pix w h 0).take (i4 + 1) := by simp
              rw [e9] at ha4
              rw [e6, show i3 + 1 - (10 :: decD 255).length = i4 + 1 by omega, e9]
              rw [headR_dec (sep_one rfl) (by decide) (by rw [List.take_succ_cons]; exact noDig_cons rfl) (by rw [List.take_succ_cons]; simp) ⟨by decide, by decide⟩ ha4, bindr_o]
              have ha5 := At.skip ha4
              simp only [List.length_cons] at hi4
              obtain ⟨r, e1', e2'⟩ := body_cut hp30 hlf hlf2 hd hf2 hv (j := i4 + 1) (by omega) (by simp only [List.length_cons]; omega) ha5 0 0
              rw [if_pos hb] at e1'
              exact ⟨r, e1', e2'⟩
          · have hbb : (!(f == 1 || f == 4)) = false := by rcases hd.fm with rfl | rfl | rfl | rfl <;> first | rfl | omega
            have htop : topL f = [] := by unfold topL; rw [if_neg hb]
            rw [htop, List.nil_append] at ha4
            rw [htop] at hj
            simp only [List.length_nil] at hj
            rw [hbb, ifp_ff]
            obtain ⟨r, e1', e2'⟩ := body_cut hp30 hlf hlf2 hd hf2 hv (j := i3 + 1) (by omega) (by simp only [List.length_cons]; omega) ha4 0 0
            rw [if_neg hb] at e1'
            exact ⟨r, e1', e2'⟩
  obtain ⟨r, e1, e2⟩ := key
  unfold F13.p
  rw [show decide ((p.length : Int) > 4194304) = false by simp; omega, ifp_ff]
  unfold F13.J3p
  have e35 : F35.p lf p 0 = some (0, 0, [], 0, r.1, r.2) := by unfold F35.p; rw [e1]
  rw [bindp_of e35]
  simp only
  rw [show (r.1 != 0) = true by rw [e2]; split <;> rfl, ifp_tt, e2]
/-! ### The bytes of a file -/
theorem enc1_range (f : Int) (row : List Int) (hr : ∀ v ∈ row, 0 ≤ v ∧ v < 256) : ∀ d i, row.length = i + d → ∀ v ∈ enc1 f row d i, 0 ≤ v ∧ v < 256
  | 0, _, _, v, hv => by cases hv
  | d + 1, i, hi, v, hv => by
    have hil : i < row.length := by omega
    simp only [enc1, List.mem_append] at hv
    rcases hv with (hv | hv) | hv
    · unfold num1 at hv
      split at hv
      · have := hr row[i] (List.getElem_mem _)
        rw [getD_at hil] at this
        exact decD_range (by omega) v hv
      · simp only [List.mem_singleton] at hv; split at hv <;> omega
    · unfold end1 sep1 at hv
      split at hv
      · simp only [List.mem_singleton] at hv; omega
      · split at hv
        · simp only [List.mem_singleton] at hv; omega
        · cases hv
    · exact enc1_range f row hr d (i + 1) (by omega) v hv
theorem pks_range (row : List Int) : ∀ d i, ∀ v ∈ pks row d i, 0 ≤ v ∧ v < 256
  | 0, _, v, hv => by cases hv
  | d + 1, i, v, hv => by
    simp only [pks] at hv
    split at hv
    · rcases List.mem_cons.1 hv with rfl | hv
      · have := pkv_lt row i 8; omega
      · exact pks_range row d (i + 8) v hv
    · cases hv
theorem encA_range (hd : Dom f pix w h lf') : ∀ d y, h = y + d → ∀ v ∈ encA f pix w d y, 0 ≤ v ∧ v < 256
  | 0, _, _, v, hv => by cases hv
  | d + 1, y, hy, v, hv => by
    obtain ⟨r1, r2, r3⟩ := hd.row (y := y) (by omega)
    have e : encA f pix w (d + 1) y = encR f (rowAt pix w y) ++ encA f pix w d (y + 1) := rfl
    rw [e] at hv
    rcases List.mem_append.1 hv with hv | hv
    · unfold encR at hv
      split at hv
      · exact enc1_range f _ r2 _ 0 (by omega) v hv
      · split at hv
        · exact pks_range _ _ _ v hv
        · exact r2 v hv
    · exact encA_range hd d (y + 1) (by omega) v hv
theorem file_range {x y : Int} (hw : Wrote f x y pix lf' w h) : ∀ v ∈ fileL f pix w h, 0 ≤ v ∧ v < 256 := by
  intro v hv
  have hf : 1 ≤ f ∧ f ≤ 5 := by rcases hw.dom.fm with rfl | rfl | rfl | rfl <;> omega
  have hw2 := hw.dom.w2
  have hh2 := hw.dom.h2
  unfold fileL headL at hv
  rcases List.mem_append.1 hv with hv | hv
  · simp only [List.mem_append, List.mem_cons, List.not_mem_nil, or_false] at hv
    rcases hv with ((((hv | hv) | hv) | hv) | hv) | hv
    · omega
    · exact decD_range (by omega) v hv
    · omega
    · exact decD_range (by omega) v hv
    · omega
    · split at hv
      · simp only [List.mem_cons, List.not_mem_nil, or_false] at hv; omega
      · cases hv
  · exact encA_range hw.dom h 0 (by omega) v hv
/-! ### Cuts -/
theorem cuts_true (x y : Int) (pix : List Int) (k at_ : Int) (hr : ∀ v ∈ pix, 0 ≤ v ∧ v < 256) (hat : 0 ≤ at_ ∧ at_ < 65536) (hlf : 20000 ≤ lf) (hlf2 : pix.length < lf) : F5.p lf x y pix k at_ = some true := by
  obtain ⟨r, e, hres⟩ := F12_res x y pix k hr (by omega) hlf2
  unfold F5.p
  simp only [letJ_eq]
  rw [bindp_of e]
  rcases hres with rfl | ⟨f, w, h, hw, hp, rfl⟩
  · rfl
  · obtain ⟨l1, l2⟩ := fileL_len hw hp
    have hx := hw.ew
    have hy := hw.eh
    subst hx hy
    dsimp only
    rw [show (((fileL f pix w h).length : Int) == 0) = false by simp; intro hh; rw [hh] at l1; simp at l1, ifp_ff]
    by_cases h2 : f = 2
    · rw [show (f == 2) = true by simpa using h2]; rfl
    · rw [show (f == 2) = false by simpa using h2, ifp_ff]
      unfold F5.J4p
      have hll : leftL f ≤ 1 := by unfold leftL; split <;> omega
      obtain ⟨a, rfl⟩ : ∃ a : Nat, at_ = a := ⟨at_.toNat, by omega⟩
      have wa : IntKind.i64.wrap (a : Int) = (a : Int) := wr64 (by omega) (by omega)
      have hL : (fileL f pix w h).length - leftL f ≠ 0 := by omega
      rw [bindp_of (F14_ok _ f hw.dom.fm ⟨by omega, by omega⟩), wa, bindp_of (remp_nat hL)]
      have hmod := Nat.mod_lt a (show 0 < (fileL f pix w h).length - leftL f by omega)
      generalize a % ((fileL f pix w h).length - leftL f) = j at hmod
      have key : ∀ want, want = (if j < 2 then 25 else 10) → F5.J8p lf (fileL f pix w h) (j : Int) want = some true := by
        intro want hwant
        unfold F5.J8p
        simp only [letJ_eq]
        have hsub : subp (fileL f pix w h) 0 (j : Int) = some ((fileL f pix w h).take j) := by
          refine (subp_nat (a := 0) (b := (j : Int)) (i := 0) (j := j) rfl rfl (by omega) (by omega)).trans ?_
          rw [List.drop_zero, Nat.sub_zero]
        rw [bindp_of hsub]
        have hrange : ∀ v ∈ (fileL f pix w h).take j, 0 ≤ v ∧ v < 256 := fun v hv => file_range hw v (List.mem_of_mem_take hv)
        have hlen : ((fileL f pix w h).take j).length ≤ 10020 := by rw [List.length_take]; omega
        have hcut := file_cut (lf := lf) (p := (fileL f pix w h).take j) hw.dom h2 hw.size hw.two (j := j) (by omega) rfl (by omega) (by omega) hlf2
        have h16 : F16.p lf (strp ((fileL f pix w h).take j)) want = some true := by
          unfold F16.p
          simp only [letJ_eq]
          rw [bytp_strp hrange, bindp_of hcut]
          simp only
          have e15 := F15_same (lf := lf) 0 0 [] (by simp) (by simp; omega)
          rw [hwant]
          simp [e15]
        rw [bindp_of h16]
        simp [F9.p]
      by_cases hj2 : j < 2
      · rw [show decide ((j : Int) < 2) = true by simp; omega, ifp_tt]; exact key 25 (by rw [if_pos hj2])
      · rw [show decide ((j : Int) < 2) = false by simp; omega, ifp_ff]; exact key 10 (by rw [if_neg hj2])
end Go.Proofs.YtgpnjdldpehidaaDoor
