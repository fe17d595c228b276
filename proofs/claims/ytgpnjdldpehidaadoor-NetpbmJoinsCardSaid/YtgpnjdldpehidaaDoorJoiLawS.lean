/-
  What is read of files one after the other, in plain Lean, for every images that the law lets in; no statement of the seat is proved in this file.
-/
import Derived.Test.YtgpnjdldpehidaaDoorJoiLawR
open Go Go.Abs Go.Proofs
set_option maxRecDepth 100000
set_option linter.unusedVariables false
set_option linter.unusedSimpArgs false
namespace Go.Proofs.YtgpnjdldpehidaaDoor
variable {p s t : List Int} {n lf lf' : Nat} {f : Int} {pix : List Int} {w h : Nat}
theorem enc1_range (f : Int) (row : List Int) (hr : ∀ v ∈ row, 0 ≤ v ∧ v < 256) : ∀ d i, row.length = i + d → ∀ v ∈ enc1 f row d i, 0 ≤ v ∧ v < 256
  | 0, _, _, v, hv => by cases hv
  | d + 1, i, hi, v, hv => by
    have hil : i < row.length := by omega
    simp only [enc1, List.mem_append] at hv
    rcases hv with (hv | hv) | hv
    · unfold num1 at hv
      split at hv
      · have := hr row[i] (List.getElem_mem _)
        rw [getD_at hil] at this
        exact decD_range (by omega) v hv
      · simp only [List.mem_singleton] at hv; split at hv <;> omega
    · unfold end1 sep1 at hv
      split at hv
      · simp only [List.mem_singleton] at hv; omega
      · split at hv
        · simp only [List.mem_singleton] at hv; omega
        · cases hv
    · exact enc1_range f row hr d (i + 1) (by omega) v hv
theorem pks_range (row : List Int) : ∀ d i, ∀ v ∈ pks row d i, 0 ≤ v ∧ v < 256
  | 0, _, v, hv => by cases hv
  | d + 1, i, v, hv => by
    simp only [pks] at hv
    split at hv
    · rcases List.mem_cons.1 hv with rfl | hv
      · have := pkv_lt row i 8; omega
      · exact pks_range row d (i + 8) v hv
    · cases hv
theorem encA_range (hd : Dom f pix w h lf') : ∀ d y, h = y + d → ∀ v ∈ encA f pix w d y, 0 ≤ v ∧ v < 256
  | 0, _, _, v, hv => by cases hv
  | d + 1, y, hy, v, hv => by
    obtain ⟨r1, r2, r3⟩ := hd.row (y := y) (by omega)
    have e : encA f pix w (d + 1) y = encR f (rowAt pix w y) ++ encA f pix w d (y + 1) := rfl
    rw [e] at hv
    rcases List.mem_append.1 hv with hv | hv
    · unfold encR at hv
      split at hv
      · exact enc1_range f _ r2 _ 0 (by omega) v hv
      · split at hv
        · exact pks_range _ _ _ v hv
        · exact r2 v hv
    · exact encA_range hd d (y + 1) (by omega) v hv
theorem file_range {x y : Int} (hw : Wrote f x y pix lf' w h) : ∀ v ∈ fileL f pix w h, 0 ≤ v ∧ v < 256 := by
  intro v hv
  have hf : 1 ≤ f ∧ f ≤ 5 := by rcases hw.dom.fm with rfl | rfl | rfl | rfl <;> omega
  have hw2 := hw.dom.w2
  have hh2 := hw.dom.h2
  unfold fileL headL at hv
  rcases List.mem_append.1 hv with hv | hv
  · simp only [List.mem_append, List.mem_cons, List.not_mem_nil, or_false] at hv
    rcases hv with ((((hv | hv) | hv) | hv) | hv) | hv
    · omega
    · exact decD_range (by omega) v hv
    · omega
    · exact decD_range (by omega) v hv
    · omega
    · split at hv
      · simp only [List.mem_cons, List.not_mem_nil, or_false] at hv; omega
      · cases hv
  · exact encA_range hw.dom h 0 (by omega) v hv
/-! ### Cuts -/

def wsN : List Int → Nat
  | [] => 0
  | c :: s => if sp c then 1 + wsN s else 0
theorem wsN_le : ∀ (s : List Int), wsN s ≤ s.length
  | [] => by simp [wsN]
  | c :: s => by have := wsN_le s; simp only [wsN, List.length_cons]; split <;> omega
theorem F17_L12 (hp : p.length ≤ 2 ^ 30) (kb : List Int → List Img → List Int → Int → Bool → Option (List Img × Int)) (im : List Img) : ∀ (s : List Int) (n : Nat), At p n s → ∀ k, s.length < k →
    F17.L12p lf kb k p im p (n : Int) = kb p im p ((n + wsN s : Nat) : Int) (decide (wsN s < s.length))
  | [], n, h, k + 1, _ => by
    unfold F17.L12p
    simp only [letJ_eq]
    rw [h.end_, ifp_ff, ifp_ff]; rfl
  | c :: s, n, h, k + 1, hk => by
    have hl := h.len
    simp only [List.length_cons] at hl hk
    unfold F17.L12p
    simp only [letJ_eq]
    rw [h.lt, ifp_tt, bindp_of h.idx, F36_ok, bindp_s]
    cases hc : sp c with
    | true =>
      rw [ifp_tt, wrS (by omega), F17_L12 hp kb im s (n + 1) h.step k (by omega)]
      simp only [wsN, hc, if_true, List.length_cons]
      rw [show n + 1 + wsN s = n + (1 + wsN s) by omega]
      congr 1
      exact decide_eq_decide.2 (by omega)
    | false =>
      rw [ifp_ff]
      simp only [wsN, hc, List.length_cons]
      congr 1
theorem app40 {im : List Img} {x : Img} (h : im.length ≤ 2 ^ 30) : appp 40 im [x] = some (im ++ [x]) := by
  unfold appp
  rw [if_pos ⟨by simp only [List.length_singleton]; unfold bigLimit; omega, by simp only [List.length_singleton]; unfold bigLimit; omega⟩]

theorem enc1_last (f : Int) (row : List Int) : ∀ (d i : Nat), i + (d + 1) = row.length → ∃ u, enc1 f row (d + 1) i = u ++ [10]
  | 0, i, hi => by
    refine ⟨num1 f row i, ?_⟩
    simp only [enc1, List.append_nil]
    unfold end1
    rw [if_pos (.inr (by omega))]
  | d + 1, i, hi => by
    obtain ⟨u, hu⟩ := enc1_last f row d (i + 1) (by omega)
    refine ⟨num1 f row i ++ end1 f row i ++ u, ?_⟩
    rw [show enc1 f row (d + 1 + 1) i = num1 f row i ++ end1 f row i ++ enc1 f row (d + 1) (i + 1) from rfl, hu]
    simp only [List.append_assoc]
theorem encA_last (hd : Dom f pix w h lf') (hf : f < 4) : ∀ (d y : Nat), h = y + (d + 1) → ∃ u, encA f pix w (d + 1) y = u ++ [10]
  | 0, y, hy => by
    obtain ⟨r1, _, _⟩ := hd.row (y := y) (by omega)
    have hw1 := hd.w1
    obtain ⟨m, hm⟩ : ∃ m, (rowAt pix w y).length = m + 1 := ⟨w - 1, by omega⟩
    obtain ⟨u, hu⟩ := enc1_last f (rowAt pix w y) m 0 (by omega)
    refine ⟨u, ?_⟩
    have hf2 : f = 1 ∨ f = 2 := by rcases hd.fm with h | h | h | h <;> omega
    simp only [encA, List.append_nil]
    unfold encR
    rw [if_pos hf2, hm, hu]
  | d + 1, y, hy => by
    obtain ⟨u, hu⟩ := encA_last hd hf d (y + 1) (by omega)
    refine ⟨encR f (rowAt pix w y) ++ u, ?_⟩
    rw [show encA f pix w (d + 1 + 1) y = encR f (rowAt pix w y) ++ encA f pix w (d + 1) (y + 1) from rfl, hu]
    simp only [List.append_assoc]
theorem file_last (hd : Dom f pix w h lf') (hf : f < 4) : ∃ u, fileL f pix w h = u ++ [10] := by
  have h1 := hd.h1
  obtain ⟨m, hm⟩ : ∃ m, h = m + 1 := ⟨h - 1, by omega⟩
  subst hm
  obtain ⟨u, hu⟩ := encA_last hd hf m 0 (by omega)
  exact ⟨headL f w (m + 1) ++ u, by unfold fileL; rw [hu, List.append_assoc]⟩
theorem file_first (f : Int) (pix : List Int) (w h : Nat) : ∃ u, fileL f pix w h = 80 :: u := by
  unfold fileL headL
  exact ⟨_, rfl⟩
/-- The file of an image, and more, at any place: the image, and what is left. -/
theorem read_at {x y : Int} (hw : Wrote f x y pix lf w h) {X : List Int} (hp : p.length ≤ 2 ^ 30) (hlf : p.length < lf) (hlf2 : 4194304 < lf) (hpl : pix.length ≤ 2000) (hX : ∀ v ∈ X, 0 ≤ v ∧ v < 256) (ha : At p n (fileL f pix w h ++ X)) (hs : (fileL f pix w h ++ X).length ≤ 4194304) :
    ∃ k : Nat, F35.p lf p (n : Int) = some (x, y, pix, f, 0, ((n + k : Nat) : Int)) ∧ k ≤ (fileL f pix w h ++ X).length ∧ 1 ≤ k ∧ (fileL f pix w h ++ X).drop k = (if f < 4 then 10 :: X else X) := by
  have hx := hw.ew
  have hy := hw.eh
  subst hx hy
  have hl := fileL_len hw hpl
  obtain ⟨m, e1, e2⟩ := read_file (lf := lf) (x := [10]) (X := X) (p := fileL f pix w h ++ X) hw.dom hw.size hw.two (sep_one rfl) (by rw [fileX_eq]) hs (by omega) (by omega)
  rw [List.length_append] at e2
  have hr : ∀ v ∈ fileL f pix w h ++ X, 0 ≤ v ∧ v < 256 := by
    intro v hv
    rcases List.mem_append.1 hv with h | h
    · exact file_range hw v h
    · exact hX v h
  have e3 := F44_all (lf := lf) (by omega) (by omega) hlf2 hr (At.start (fileL f pix w h ++ X))
  rw [show F44.p lf (fileL f pix w h ++ X) ((0 : Nat) : Int) = _ from e1] at e3
  simp only [Option.map_some, er, Option.some.injEq] at e3
  cases hi : imgS (fileL f pix w h ++ X) with
  | pan e => rw [hi] at e3; cases e3
  | ok r =>
    obtain ⟨w', h', l', f', k'⟩ := r
    rw [hi] at e3
    simp only [shiftN, Res.ok.injEq, Prod.mk.injEq] at e3
    obtain ⟨g1, g2, rfl, rfl, g5⟩ := e3
    subst g1 g2
    have hk : m = k' := by omega
    subst hk
    have e4 := F44_all (lf := lf) hp hlf hlf2 hr ha
    rw [hi] at e4
    have e5 : F35.p lf p (n : Int) = some ((w : Int), (h : Int), pix, f, 0, ((n + m : Nat) : Int)) := by
      unfold F35.p
      cases hx : F44.p lf p (n : Int) with
      | none => rw [hx] at e4; cases e4
      | some r =>
        rw [hx] at e4
        cases r with
        | pan r => cases e4
        | ok r =>
          simp only [Option.map_some, er, shiftN, Option.some.injEq, Res.ok.injEq] at e4
          subst e4
          rfl
    have hl2 : leftL f ≤ 1 := by unfold leftL; split <;> omega
    refine ⟨m, e5, by rw [List.length_append]; omega, by omega, ?_⟩
    by_cases hf : f < 4
    · obtain ⟨u, hu⟩ := file_last hw.dom hf
      have hlu : (fileL f pix w h).length = u.length + 1 := by rw [hu, List.length_append]; rfl
      unfold leftL at e2
      rw [if_pos hf] at e2 ⊢
      rw [hu, List.append_assoc, List.drop_append_of_le_length (by omega), List.drop_of_length_le (by omega)]; rfl
    · unfold leftL at e2
      rw [if_neg hf] at e2 ⊢
      rw [List.drop_append_of_le_length (by omega), List.drop_of_length_le (by omega)]; rfl
/-- The files of images, one after the other. -/
inductive Cat (lf : Nat) : List Img → List Int → Prop where
  | nil : Cat lf [] []
  | cons {f : Int} {w h : Nat} {x : Img} {l : List Img} {r : List Int} (hw : Wrote f x.1 x.2.1 x.2.2 lf w h) (hp : x.2.2.length ≤ 2000) (hc : Cat lf l r) : Cat lf (x :: l) (fileL f x.2.2 w h ++ r)
theorem Cat.snoc {l : List Img} {r : List Int} (hc : Cat lf l r) {x : Img} (hw : Wrote f x.1 x.2.1 x.2.2 lf w h) (hp : x.2.2.length ≤ 2000) : Cat lf (l ++ [x]) (r ++ fileL f x.2.2 w h) := by
  induction hc with
  | nil => have := Cat.cons hw hp .nil; rwa [List.append_nil] at this
  | cons hw2 hp2 _ ih => rw [List.append_assoc]; exact .cons hw2 hp2 ih
theorem Cat.len {l : List Img} {r : List Int} (hc : Cat lf l r) : r.length ≤ 10020 * l.length := by
  induction hc with
  | nil => simp
  | cons hw hp _ ih => have := fileL_len hw hp; rw [List.length_append, List.length_cons]; omega
theorem Cat.range {l : List Img} {r : List Int} (hc : Cat lf l r) : ∀ v ∈ r, 0 ≤ v ∧ v < 256 := by
  induction hc with
  | nil => simp
  | cons hw hp _ ih =>
    intro v hv
    rcases List.mem_append.1 hv with h | h
    · exact file_range hw v h
    · exact ih v h
theorem Cat.ws {l : List Img} {r : List Int} (hc : Cat lf l r) : wsN r = 0 ∧ (l ≠ [] → 0 < r.length) ∧ (l = [] → r = []) := by
  cases hc with
  | nil => exact ⟨rfl, fun h => absurd rfl h, fun _ => rfl⟩
  | cons hw hp hc =>
    refine ⟨?_, fun _ => ?_, fun h => by cases h⟩
    · obtain ⟨u, hu⟩ := file_first _ _ _ _
      rw [hu]; rfl
    · have := fileL_len hw hp; rw [List.length_append]; omega
theorem join_loop (hp : p.length ≤ 4194304) (hlf : 4194304 < lf) {l : List Img} {s : List Int} (hc : Cat lf l s) : ∀ (n : Nat) (im : List Img) (k : Nat), At p n s → im.length ≤ n → s.length < k → F17.L6p lf k p im p (n : Int) (decide (0 < s.length)) = some (im ++ l, 0) := by
  induction hc with
  | nil =>
    intro n im k ha him hk
    obtain ⟨k, rfl⟩ : ∃ j, k = j + 1 := ⟨k - 1, by omega⟩
    unfold F17.L6p
    rw [List.append_nil]; rfl
  | @cons f w h x l r hw hpx hc ih =>
    intro n im k ha him hk
    obtain ⟨k, rfl⟩ : ∃ j, k = j + 1 := ⟨k - 1, by omega⟩
    have hln := ha.len
    have hfl := fileL_len hw hpx
    rw [List.length_append] at hk
    unfold F17.L6p
    rw [show decide (0 < (fileL f x.2.2 w h ++ r).length) = true from decide_eq_true (by rw [List.length_append]; omega), ifp_tt]
    unfold F17.J8p
    obtain ⟨m, e1, e2, e3, e4⟩ := read_at hw (by omega) (by omega) hlf hpx hc.range ha (by omega)
    rw [bindp_of e1]
    simp only
    rw [show ((0 : Int) != 0) = false from rfl, ifp_ff]
    unfold F17.J11p
    have ha2 := ha.drop e2
    rw [e4] at ha2
    have hl2 := ha2.len
    rw [bindp_of (app40 (by omega)), F17_L12 (by omega) _ _ _ _ ha2 lf (by omega)]
    have hw0 := hc.ws
    have hws : wsN (if f < 4 then 10 :: r else r) + r.length = (if f < 4 then 10 :: r else r).length ∧ (if f < 4 then 10 :: r else r).drop (wsN (if f < 4 then 10 :: r else r)) = r := by
      by_cases hf : f < 4
      · rw [if_pos hf]
        have : wsN (10 :: r) = 1 := by simp only [wsN, hw0.1]; rfl
        rw [this, List.length_cons]; exact ⟨by omega, rfl⟩
      · rw [if_neg hf, hw0.1]; exact ⟨by omega, rfl⟩
    have ha3 := ha2.drop (wsN_le _)
    rw [hws.2] at ha3
    have hd : (decide (wsN (if f < 4 then 10 :: r else r) < (if f < 4 then 10 :: r else r).length)) = decide (0 < r.length) := decide_eq_decide.2 (by omega)
    rw [hd]
    have := ih (n + m + wsN (if f < 4 then 10 :: r else r)) (im ++ [(x.1, x.2.1, x.2.2)]) k ha3 (by rw [List.length_append, List.length_singleton]; omega) (by omega)
    rw [this, List.append_assoc]; rfl
end Go.Proofs.YtgpnjdldpehidaaDoor

open Go Go.Abs Go.Proofs
set_option maxRecDepth 100000
set_option linter.unusedVariables false
set_option linter.unusedSimpArgs false
namespace Go.Proofs.YtgpnjdldpehidaaDoor
variable {p s t : List Int} {n lf lf' : Nat}
theorem F44_nil (lf : Nat) : F35.p lf [] 0 = some (0, 0, [], 0, 25, 0) := by
  unfold F35.p F44.p
  rw [show decide (IntKind.i64.wrap ((([] : List Int).length : Int) - 0) ≥ 2) = false from rfl, ifp_ff]
  unfold F44.J3p
  rw [ifp_ff]
  unfold F44.J4p
  rw [F20_ok, bindp_s]
  rfl
theorem sames8 (lf : Nat) (h9 : F9.p lf = some true) (l : List Img) (hl : l.length ≤ 2 ^ 30) (hx : ∀ x ∈ l, x.2.2.length ≤ 2 ^ 30 ∧ x.2.2.length < lf) : ∀ (d i : Nat), i + d = l.length → ∀ k, d < k → F8.L18p lf k l l (i : Int) = some true
  | 0, i, hi, k + 1, _ => by
    unfold F8.L18p
    rw [show decide ((i : Int) < (l.length : Int)) = false from decide_eq_false (by omega), ifp_ff, h9]; rfl
  | d + 1, i, hi, k + 1, hk => by
    unfold F8.L18p
    rw [show decide ((i : Int) < (l.length : Int)) = true from decide_eq_true (by omega), ifp_tt]
    unfold F8.J20p
    have h1 := idxp_nat (show i < l.length by omega)
    have h2 := hx l[i] (List.getElem_mem _)
    rw [bindp_of h1, bindp_of h1, F15_same _ _ _ h2.1 h2.2, bindp_s, show (!true) = false from rfl, ifp_ff, wrS (by omega)]
    exact sames8 lf h9 l hl hx d (i + 1) (by omega) k (by omega)
theorem J12_true (h9 : F9.p lf = some true) (hlf : 4194304 < lf) {want : List Img} {all : List Int} (hc : Cat lf want all) (hw : want.length ≤ 5) (hx : ∀ x ∈ want, x.2.2.length ≤ 2 ^ 30 ∧ x.2.2.length < lf) : F8.J12p lf all want = some true := by
  have hl := hc.len
  unfold F8.J12p F17.p
  rw [show decide ((all.length : Int) > 4194304) = false from decide_eq_false (by omega), ifp_ff]
  unfold F17.J3p
  simp only [letJ_eq]
  by_cases h0 : want = []
  · subst h0
    have : all = [] := hc.ws.2.2 rfl
    subst this
    obtain ⟨k, rfl⟩ : ∃ j, lf = j + 1 := ⟨lf - 1, by omega⟩
    have e : F17.L6p (k + 1) (k + 1) [] [] [] 0 true = some ([], 25) := by
      unfold F17.L6p
      rw [ifp_tt]
      unfold F17.J8p
      rw [bindp_of (F44_nil _)]
      rfl
    rw [bindp_of e]
    rw [show ((([] : List Img).length : Int) == 0) = true from rfl, ifp_tt, show ((25 : Int) == 25) = true from rfl, ifp_tt, ifp_tt, h9]; rfl
  · have hpos := hc.ws.2.1 h0
    have e := join_loop (p := all) (by omega) hlf hc 0 [] lf (At.start all) (by simp) (by omega)
    rw [show decide (0 < all.length) = true from decide_eq_true hpos] at e
    rw [bindp_of (show F17.L6p lf lf all [] all 0 true = _ from e)]
    have hwl := List.length_pos_iff.2 h0
    rw [show ((want.length : Int) == 0) = false by simp only [beq_eq_false_iff_ne]; omega, ifp_ff]
    unfold F8.J15p
    simp only [letJ_eq, List.nil_append]
    rw [show ((0 : Int) != 0) = false from rfl, ifp_ff, show ((want.length : Int) != (want.length : Int)) = false by simp, ifp_ff]
    unfold F8.J17p
    exact sames8 lf h9 want (by omega) hx want.length 0 (by omega) lf (by omega)
theorem L6_true (h9 : F9.p lf = some true) (hlf : 4194304 < lf) {l : List Img} {ks : List Int} (hl5 : l.length ≤ 5) (hl : ∀ x ∈ l, (∀ v ∈ x.2.2, 0 ≤ v ∧ v < 256) ∧ x.2.2.length < lf) : ∀ (d i : Nat) (all : List Int) (want : List Img), i + d = l.length → want.length ≤ i → Cat lf want all → (∀ x ∈ want, x.2.2.length ≤ 2 ^ 30 ∧ x.2.2.length < lf) → ∀ k, d < k →
    F8.L6p lf k l ks all want (i : Int) = some true
  | 0, i, all, want, hi, hw, hc, hx, k + 1, _ => by
    unfold F8.L6p
    simp only [letJ_eq]
    rw [show decide ((i : Int) < (l.length : Int)) = false from decide_eq_false (by omega), ifp_ff, ifp_ff]
    exact J12_true h9 hlf hc (by omega) hx
  | d + 1, i, all, want, hi, hw, hc, hx, k + 1, hk => by
    unfold F8.L6p
    simp only [letJ_eq]
    rw [show decide ((i : Int) < (l.length : Int)) = true from decide_eq_true (by omega), ifp_tt]
    by_cases hks : i < ks.length
    case neg =>
      rw [show decide ((i : Int) < (ks.length : Int)) = false from decide_eq_false (by omega), ifp_ff]
      exact J12_true h9 hlf hc (by omega) hx
    rw [show decide ((i : Int) < (ks.length : Int)) = true from decide_eq_true (by omega), ifp_tt]
    unfold F8.J8p
    simp only [letJ_eq]
    have h1 := idxp_nat (show i < l.length by omega)
    have hm := hl l[i] (List.getElem_mem _)
    rw [bindp_of h1, bindp_of (idxp_nat hks), wrS (by omega)]
    obtain ⟨r, e, hres⟩ := F12_res (lf := lf) l[i].1 l[i].2.1 l[i].2.2 ks[i] hm.1 (by omega) hm.2
    rw [bindp_of e]
    rcases hres with rfl | ⟨f, w, h, hw2, hp, rfl⟩
    · rw [show decide (((([] : List Int), (0 : Int)).1.length : Int) > 0) = false from rfl, ifp_ff]
      exact L6_true h9 hlf hl5 hl d (i + 1) all want (by omega) (by omega) hc hx k (by omega)
    · have hfl := fileL_len hw2 hp
      have hcl := hc.len
      rw [show decide (((fileL f l[i].2.2 w h, f).1.length : Int) > 0) = true from decide_eq_true (by simp only; omega), ifp_tt]
      simp only
      rw [bindp_of (appp_ok (by omega)), bindp_of h1, bindp_of (app40 (by omega))]
      refine L6_true h9 hlf hl5 hl d (i + 1) _ _ (by omega) (by rw [List.length_append, List.length_singleton]; omega) (hc.snoc (x := (l[i].1, l[i].2.1, l[i].2.2)) hw2 hp) ?_ k (by omega)
      intro x hx'
      rcases List.mem_append.1 hx' with h' | h'
      · exact hx x h'
      · simp only [List.mem_singleton] at h'; subst h'; exact ⟨by simp only; omega, by simp only; omega⟩
def lfOf : List Img → Nat
  | [] => 4194305
  | x :: l => x.2.2.length + lfOf l
theorem lfOf_ge : ∀ (l : List Img), 4194304 < lfOf l ∧ ∀ x ∈ l, x.2.2.length < lfOf l
  | [] => ⟨by decide, by simp⟩
  | x :: l => by
    obtain ⟨h1, h2⟩ := lfOf_ge l
    refine ⟨by simp only [lfOf]; omega, fun z hz => ?_⟩
    rcases List.mem_cons.1 hz with rfl | hz
    · simp only [lfOf]; omega
    · have := h2 z hz; simp only [lfOf]; omega
theorem joins_true (l : List Img) (ks : List Int) (hl : ∀ x ∈ l, (∀ v ∈ x.2.2, 0 ≤ v ∧ v < 256) ∧ x.2.2.length < lf) (hlf : 4194304 < lf) : F8.p lf l ks = some true := by
  have h9 : F9.p lf = some true := rfl
  unfold F8.p
  by_cases h5 : l.length > 5
  · rw [show decide ((l.length : Int) > 5) = true from decide_eq_true (by omega), ifp_tt, h9]; rfl
  rw [show decide ((l.length : Int) > 5) = false from decide_eq_false (by omega), ifp_ff]
  unfold F8.J3p
  exact L6_true h9 hlf (by omega) hl l.length 0 [] [] (by omega) (by simp) .nil (by simp) lf (by omega)
end Go.Proofs.YtgpnjdldpehidaaDoor
