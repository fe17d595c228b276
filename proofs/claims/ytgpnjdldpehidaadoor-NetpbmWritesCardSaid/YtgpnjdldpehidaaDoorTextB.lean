/-
  The program's functions as plain functions of numbers and lists, and that they answer as the program does where they answer at all; no statement of the seat is proved in this file.
-/
import Derived.Test.YtgpnjdldpehidaaDoorTextA
open Go Go.Abs Go.Proofs
set_option maxRecDepth 100000
set_option linter.unusedVariables false
namespace Go.Proofs.YtgpnjdldpehidaaDoor
/-- What the proofs ask of the oracle: it answers for the examples (9), may answer for function 35, and else leaves the calls to the code. -/
structure HOra (ora : Ora) : Prop where
  none : ∀ ro f args h, f ∉ [9, 35] → ora ro f args h = none
  nine : ∀ ro h, ora ro 9 [] h = some (.ok (.bool true) h)
def gl0 : List Int := [1, 10, 100, 1000, 10000, 100000, 1000000, 10000000, 100000000, 1000000000, 10000000000, 100000000000, 1000000000000, 10000000000000, 100000000000000, 1000000000000000, 10000000000000000, 100000000000000000, 1000000000000000000, 10000000000000000000]
def F9.Post (F : List Ent) (ro : Nat) (r : Bool) (x : Out) : Prop := ∃ h', x = .ok (.bool r) h' ∧ Sat ro h' F
def F9.p (lf : Nat) : Option Bool := some true
theorem F9.ok {ora : Ora} (hora : HOra ora) {lf ro : Nat} {F : List Ent} {r : Bool} (h : Heap) (hs : Sat ro h F) (hp : F9.p lf = some r) : F9.Post F ro r (callW Tryd.prog ora ro 9 [] h) := by
  cases hp
  exact ⟨h, callW_ora (hora.nine ro h) (by simp), hs⟩
end Go.Proofs.YtgpnjdldpehidaaDoor

open Go Go.Abs Go.Proofs
set_option maxRecDepth 100000
set_option linter.unusedVariables false
set_option linter.unusedSimpArgs false
namespace Go.Proofs.YtgpnjdldpehidaaDoor

theorem agg22 : isAgg? Tryd.prog 22 = some false := by kernel_rfl
theorem agg24 : isAgg? Tryd.prog 24 = some true := by kernel_rfl
theorem agg3 : isAgg? Tryd.prog 3 = some false := by kernel_rfl
theorem agg5 : isAgg? Tryd.prog 5 = some false := by kernel_rfl
theorem agg74 : isAgg? Tryd.prog 74 = some false := by kernel_rfl
theorem one5 : One Tryd.prog 5 1 := ⟨Tryd.t5, _, by kernel_rfl, rfl, rfl, rfl, rfl⟩
theorem siz24 : sizeOf? Tryd.prog 24 = some 3 := by kernel_rfl
theorem siz5 : sizeOf? Tryd.prog 5 = some 1 := by kernel_rfl
theorem siz74 : sizeOf? Tryd.prog 74 = some 1 := by kernel_rfl
theorem und22 : Tryd.prog.underlying 22 = some (.slice 5) := by kernel_rfl
theorem und5 : Tryd.prog.underlying 5 = some (.int .u8) := by kernel_rfl
theorem und86 : Tryd.prog.underlying 86 = some (.array 24 5) := by kernel_rfl
theorem und9 : Tryd.prog.underlying 9 = some (.string) := by kernel_rfl
theorem und95 : Tryd.prog.underlying 95 = some (.array 20 74) := by kernel_rfl

def F21.Post (F : List Ent) (ro : Nat) (r : Bool) (x : Out) : Prop := ∃ h', x = .ok (.bool r) h' ∧ Sat ro h' (F)
theorem F21.Post.ne {F : List Ent} {ro : Nat} {r : Bool} {x : Out} (hx : F21.Post F ro r x) : x ≠ .fail := by
  obtain ⟨h', rfl, _⟩ := hx
  simp

def F21.p (lf : Nat) (x0 : Int) : Option (Bool) :=
  letJ (fun (b1 : Bool) => (
    some b1 : Option (Bool))) fun j2p =>
  ifp (x0 == 1) (
    j2p true) (
    j2p (x0 == 4))

theorem F21.t_ok {ora : Ora} (hora : HOra ora) {lf ro : Nat} {F : List Ent} {r : (Bool)} (x0 : Int) (h : Heap) (hs : Sat ro h (F)) (hp : F21.p lf x0 = some r) : F21.Post F ro r (F21.t (callW Tryd.prog ora) lf ro x0 h) := by
  unfold F21.t
  unfold F21.p at hp
  refine st_letJ hp (fun j2p j2 => ∀ (b1 : Bool), Sat ro h (F) → j2p b1 = some r → F21.Post F ro r (j2 b1)) ?_ ?_
  · intro b1 hs hp
    cases hp
    exact ⟨_, rfl, hs⟩
  · intro j2p j2 hj2 hp
    refine st_if (Q := F21.Post F ro r) (fun hc_1 => ?_) (fun hc_1 => ?_)
    · replace hp := ifp_t hc_1 hp
      exact hj2 true hs hp
    · replace hp := ifp_f hc_1 hp
      exact hj2 (x0 == 4) hs hp

theorem F21.ok {ora : Ora} (hora : HOra ora) {lf ro : Nat} {F : List Ent} {r : (Bool)} (x0 : Int) (h : Heap) (hs : Sat ro h (F)) (hp : F21.p lf x0 = some r) : F21.Post F ro r (callW Tryd.prog ora ro 21 [.int .i64 x0] h) := by
  have h1 := F21.t_ok hora x0 h hs hp
  have h2 : callW Tryd.prog ora ro 21 [.int .i64 x0] h = _ := callW_body (hora.none _ _ _ _ (by decide)) Tryd.func21 (F21.le (callW Tryd.prog ora) lf ro x0 h) (F21.Post.ne h1)
  rw [h2]; exact h1

def F20.Post (F : List Ent) (ro : Nat) (r : Bool) (x : Out) : Prop := ∃ h', x = .ok (.bool r) h' ∧ Sat ro h' (F)
theorem F20.Post.ne {F : List Ent} {ro : Nat} {r : Bool} {x : Out} (hx : F20.Post F ro r x) : x ≠ .fail := by
  obtain ⟨h', rfl, _⟩ := hx
  simp

def F20.p (lf : Nat) (x0 : Int) : Option (Bool) :=
  letJ (fun (b4 : Bool) => (
    some b4 : Option (Bool))) fun j6p =>
  bindp (F21.p lf x0) fun r_3 =>
  ifp r_3 (
    j6p true) (
    ifp (x0 == 2) (
      j6p true) (
      j6p (x0 == 5)))

theorem F20.t_ok {ora : Ora} (hora : HOra ora) {lf ro : Nat} {F : List Ent} {r : (Bool)} (x0 : Int) (h : Heap) (hs : Sat ro h (F)) (hp : F20.p lf x0 = some r) : F20.Post F ro r (F20.t (callW Tryd.prog ora) lf ro x0 h) := by
  unfold F20.t
  unfold F20.p at hp
  refine st_letJ hp (fun j6p j6 => ∀ (b4 : Bool) (h_10 : Heap), Sat ro h_10 (F) → j6p b4 = some r → F20.Post F ro r (j6 b4 h_10)) ?_ ?_
  · intro b4 h_10 hs hp
    cases hp
    exact ⟨_, rfl, hs⟩
  · intro j6p j6 hj6 hp
    obtain ⟨r_3, hx_4, hp⟩ := bindp_some hp
    obtain ⟨h_5, e_7, hs_6⟩ := F21.ok hora (ro := ro) (F := F) x0 _ hs hx_4
    refine st_ok (Q := F20.Post F ro r) isO e_7 ?_
    refine st_bool (Q := F20.Post F ro r) ?_
    refine st_if (Q := F20.Post F ro r) (fun hc_8 => ?_) (fun hc_8 => ?_)
    · replace hp := ifp_t hc_8 hp
      exact hj6 true _ hs_6 hp
    · replace hp := ifp_f hc_8 hp
      refine st_if (Q := F20.Post F ro r) (fun hc_9 => ?_) (fun hc_9 => ?_)
      · replace hp := ifp_t hc_9 hp
        exact hj6 true _ hs_6 hp
      · replace hp := ifp_f hc_9 hp
        exact hj6 (x0 == 5) _ hs_6 hp

theorem F20.ok {ora : Ora} (hora : HOra ora) {lf ro : Nat} {F : List Ent} {r : (Bool)} (x0 : Int) (h : Heap) (hs : Sat ro h (F)) (hp : F20.p lf x0 = some r) : F20.Post F ro r (callW Tryd.prog ora ro 20 [.int .i64 x0] h) := by
  have h1 := F20.t_ok hora x0 h hs hp
  have h2 : callW Tryd.prog ora ro 20 [.int .i64 x0] h = _ := callW_body (hora.none _ _ _ _ (by decide)) Tryd.func20 (F20.le (callW Tryd.prog ora) lf ro x0 h) (F20.Post.ne h1)
  rw [h2]; exact h1

def F39.Post (F : List Ent) (ro : Nat) (r : Bool) (x : Out) : Prop := ∃ h', x = .ok (.bool r) h' ∧ Sat ro h' (F)
theorem F39.Post.ne {F : List Ent} {ro : Nat} {r : Bool} {x : Out} (hx : F39.Post F ro r x) : x ≠ .fail := by
  obtain ⟨h', rfl, _⟩ := hx
  simp

def F39.p (lf : Nat) (x0 : Int) (x1 : Int) : Option (Bool) :=
  letJ (fun (b1 : Bool) => (
    some b1 : Option (Bool))) fun j2p =>
  ifp (decide (x0 ≥ 1)) (
    ifp (decide (x0 ≤ 4096)) (
      ifp (decide (x1 ≥ 1)) (
        ifp (decide (x1 ≤ 4096)) (
          j2p (decide (IntKind.i64.wrap (x0 * x1) ≤ 4194304))) (
          j2p false)) (
        j2p false)) (
      j2p false)) (
    j2p false)

theorem F39.t_ok {ora : Ora} (hora : HOra ora) {lf ro : Nat} {F : List Ent} {r : (Bool)} (x0 : Int) (x1 : Int) (h : Heap) (hs : Sat ro h (F)) (hp : F39.p lf x0 x1 = some r) : F39.Post F ro r (F39.t (callW Tryd.prog ora) lf ro x0 x1 h) := by
  unfold F39.t
  unfold F39.p at hp
  refine st_letJ hp (fun j2p j2 => ∀ (b1 : Bool), Sat ro h (F) → j2p b1 = some r → F39.Post F ro r (j2 b1)) ?_ ?_
  · intro b1 hs hp
    cases hp
    exact ⟨_, rfl, hs⟩
  · intro j2p j2 hj2 hp
    refine st_if (Q := F39.Post F ro r) (fun hc_11 => ?_) (fun hc_11 => ?_)
    · replace hp := ifp_t hc_11 hp
      refine st_if (Q := F39.Post F ro r) (fun hc_12 => ?_) (fun hc_12 => ?_)
      · replace hp := ifp_t hc_12 hp
        refine st_if (Q := F39.Post F ro r) (fun hc_13 => ?_) (fun hc_13 => ?_)
        · replace hp := ifp_t hc_13 hp
          refine st_if (Q := F39.Post F ro r) (fun hc_14 => ?_) (fun hc_14 => ?_)
          · replace hp := ifp_t hc_14 hp
            exact hj2 (decide (IntKind.i64.wrap (x0 * x1) ≤ 4194304)) hs hp
          · replace hp := ifp_f hc_14 hp
            exact hj2 false hs hp
        · replace hp := ifp_f hc_13 hp
          exact hj2 false hs hp
      · replace hp := ifp_f hc_12 hp
        exact hj2 false hs hp
    · replace hp := ifp_f hc_11 hp
      exact hj2 false hs hp

theorem F39.ok {ora : Ora} (hora : HOra ora) {lf ro : Nat} {F : List Ent} {r : (Bool)} (x0 : Int) (x1 : Int) (h : Heap) (hs : Sat ro h (F)) (hp : F39.p lf x0 x1 = some r) : F39.Post F ro r (callW Tryd.prog ora ro 39 [.int .i64 x0, .int .i64 x1] h) := by
  have h1 := F39.t_ok hora x0 x1 h hs hp
  have h2 : callW Tryd.prog ora ro 39 [.int .i64 x0, .int .i64 x1] h = _ := callW_body (hora.none _ _ _ _ (by decide)) Tryd.func39 (F39.le (callW Tryd.prog ora) lf ro x0 x1 h) (F39.Post.ne h1)
  rw [h2]; exact h1

def F19.Post (F : List Ent) (ro : Nat) (r : Int) (x : Out) : Prop := ∃ h', x = .ok (.int .i64 r) h' ∧ Sat ro h' (F)
theorem F19.Post.ne {F : List Ent} {ro : Nat} {r : Int} {x : Out} (hx : F19.Post F ro r x) : x ≠ .fail := by
  obtain ⟨h', rfl, _⟩ := hx
  simp

def F19.p (lf : Nat) (x0_0 : Int) (x0_1 : Int) (xax0_2 : List Int) : Option (Int) :=
  letJ (fun (b21 : Bool) => (
    ifp b21 (
      some 1) (
      some 0) : Option (Int))) fun j23p =>
  bindp (F39.p lf x0_0 x0_1) fun r_18 =>
  ifp (!r_18) (
    j23p true) (
    j23p ((xax0_2.length : Int) != (IntKind.i64.wrap (x0_0 * x0_1))))

theorem F19.t_ok {ora : Ora} (hora : HOra ora) {lf ro : Nat} {F : List Ent} {r : (Int)} (x0_0 : Int) (x0_1 : Int) (ax0_2 : Option Addr) (cx0_2 : Nat) (xax0_2 : List Int) (h : Heap) (hs : Sat ro h (.row ax0_2 cx0_2 (xax0_2.map (Value.int .u8)) :: F)) (hp : F19.p lf x0_0 x0_1 xax0_2 = some r) : F19.Post F ro r (F19.t (callW Tryd.prog ora) lf ro x0_0 x0_1 ax0_2 xax0_2.length cx0_2 h) := by
  unfold F19.t
  unfold F19.p at hp
  refine st_pushJ (Q := F19.Post F ro r) hs hs.low rfl fun h_16 _ hs_17 => ?_
  refine st_letJ hp (fun j23p j23 => ∀ (b21 : Bool) (h_28 : Heap), Sat ro h_28 (F) → j23p b21 = some r → F19.Post F ro r (j23 b21 h_28)) ?_ ?_
  · intro b21 h_28 hs hp
    refine st_if (Q := F19.Post F ro r) (fun hc_29 => ?_) (fun hc_29 => ?_)
    · replace hp := ifp_t hc_29 hp
      cases hp
      exact ⟨_, rfl, hs⟩
    · replace hp := ifp_f hc_29 hp
      cases hp
      exact ⟨_, rfl, hs⟩
  · intro j23p j23 hj23 hp
    refine st_load (Q := F19.Post F ro r) isO hs_17 agg3 rfl ?_
    refine st_int (Q := F19.Post F ro r) ?_
    refine st_load (Q := F19.Post F ro r) isO hs_17 agg3 rfl ?_
    refine st_int (Q := F19.Post F ro r) ?_
    obtain ⟨r_18, hx_19, hp⟩ := bindp_some hp
    obtain ⟨h_20, e_22, hs_21⟩ := F39.ok hora (ro := ro) (F := .own ro (some ⟨h.next, 0, none⟩) 1 [.int .i64 x0_0, .int .i64 x0_1, .slice ax0_2 xax0_2.length cx0_2] :: .row ax0_2 cx0_2 (xax0_2.map (Value.int .u8)) :: F) x0_0 x0_1 _ hs_17 hx_19
    refine st_ok (Q := F19.Post F ro r) isO e_22 ?_
    refine st_bool (Q := F19.Post F ro r) ?_
    refine st_if (Q := F19.Post F ro r) (fun hc_23 => ?_) (fun hc_23 => ?_)
    · replace hp := ifp_t hc_23 hp
      have hs_24 := hs_21.tail
      have hs_25 := hs_24.tail
      exact hj23 true _ hs_25 hp
    · replace hp := ifp_f hc_23 hp
      refine st_load (Q := F19.Post F ro r) isO hs_21 agg22 rfl ?_
      refine st_slice (Q := F19.Post F ro r) ?_
      refine st_load (Q := F19.Post F ro r) isO hs_21 agg3 rfl ?_
      refine st_int (Q := F19.Post F ro r) ?_
      refine st_load (Q := F19.Post F ro r) isO hs_21 agg3 rfl ?_
      refine st_int (Q := F19.Post F ro r) ?_
      have hs_26 := hs_21.tail
      have hs_27 := hs_26.tail
      exact hj23 ((xax0_2.length : Int) != (IntKind.i64.wrap (x0_0 * x0_1))) _ hs_27 hp

theorem F19.ok {ora : Ora} (hora : HOra ora) {lf ro : Nat} {F : List Ent} {r : (Int)} (x0_0 : Int) (x0_1 : Int) (ax0_2 : Option Addr) (cx0_2 : Nat) (xax0_2 : List Int) (h : Heap) (hs : Sat ro h (.row ax0_2 cx0_2 (xax0_2.map (Value.int .u8)) :: F)) (hp : F19.p lf x0_0 x0_1 xax0_2 = some r) : F19.Post F ro r (callW Tryd.prog ora ro 19 [.agg #[.int .i64 x0_0, .int .i64 x0_1, .slice ax0_2 xax0_2.length cx0_2]] h) := by
  have h1 := F19.t_ok hora x0_0 x0_1 ax0_2 cx0_2 xax0_2 h hs hp
  have h2 : callW Tryd.prog ora ro 19 [.agg #[.int .i64 x0_0, .int .i64 x0_1, .slice ax0_2 xax0_2.length cx0_2]] h = _ := callW_body (hora.none _ _ _ _ (by decide)) Tryd.func19 (F19.le (callW Tryd.prog ora) lf ro x0_0 x0_1 ax0_2 xax0_2.length cx0_2 h) (F19.Post.ne h1)
  rw [h2]; exact h1

def F25.Post (F : List Ent) (ro : Nat) (r : List Int) (x : Out) : Prop := ∃ a0 h', x = .ok (.slice a0 r.length r.length) h' ∧ Sat ro h' (.own ro a0 1 (r.map (Value.int .u8)) :: F)
theorem F25.Post.ne {F : List Ent} {ro : Nat} {r : List Int} {x : Out} (hx : F25.Post F ro r x) : x ≠ .fail := by
  obtain ⟨a0, h', rfl, _⟩ := hx
  simp

def F25.J7p (lf : Nat) (kb2p : List Int → List Int → List Int → Int → Int → Option (List Int)) (xa23 : List Int) (xa24 : List Int) (n25 : Int) (n26 : Int) (xa27 : List Int) (n28 : Int) (n29 : Int) : Option (List Int) :=
  letJ (fun (xa87 : List Int) => (
    kb2p xa87 xa24 xa27 n28 (IntKind.i64.wrap (n29 + 1)) : Option (List Int))) fun j89p =>
  bindp (appp 1 xa23 [n26]) fun x_37 =>
  letJ (fun (b140 : Bool) => (
    ifp b140 (
      bindp (appp 1 x_37 [10]) fun x_58 =>
      j89p x_58) (
      j89p x_37) : Option (List Int))) fun j141p =>
  ifp ((Int.tmod n25 70) == 69) (
    j141p true) (
    j141p (n25 == (IntKind.i64.wrap ((xa24.length : Int) - 1))))

theorem F25.J7_ok {ora : Ora} (hora : HOra ora) {lf ro : Nat} {F : List Ent} {r : (List Int)} {kb2p : List Int → List Int → List Int → Int → Int → Option (List Int)} {kb2 : (Option Addr) → Nat → Nat → (Option Addr) → Nat → Nat → (Option Addr) → Nat → Nat → Int → Int → Heap → Out} (hkb2 : ∀ (a1 : Option Addr) (xa1 : List Int) (a2 : Option Addr) (c2 : Nat) (xa2 : List Int) (a3 : Option Addr) (c3 : Nat) (xa3 : List Int) (n4 : Int) (n5 : Int) (h : Heap), Sat ro h (.own ro a1 1 (xa1.map (Value.int .u8)) :: .row a2 c2 (xa2.map (Value.int .u8)) :: .row a3 c3 (xa3.map (Value.int .u8)) :: F) → kb2p xa1 xa2 xa3 n4 n5 = some r → F25.Post F ro r (kb2 a1 xa1.length xa1.length a2 xa2.length c2 a3 xa3.length c3 n4 n5 h)) (a23 : Option Addr) (xa23 : List Int) (a24 : Option Addr) (c24 : Nat) (xa24 : List Int) (n25 : Int) (n26 : Int) (a27 : Option Addr) (c27 : Nat) (xa27 : List Int) (n28 : Int) (n29 : Int) (h : Heap) (hs : Sat ro h (.own ro a23 1 (xa23.map (Value.int .u8)) :: .row a24 c24 (xa24.map (Value.int .u8)) :: .row a27 c27 (xa27.map (Value.int .u8)) :: F)) (hp : F25.J7p lf kb2p xa23 xa24 n25 n26 xa27 n28 n29 = some r) : F25.Post F ro r (F25.J7 (callW Tryd.prog ora) lf ro kb2 a23 xa23.length xa23.length a24 xa24.length c24 n25 n26 a27 xa27.length c27 n28 n29 h) := by
  unfold F25.J7
  unfold F25.J7p at hp
  refine st_letJ hp (fun j89p j89 => ∀ (a87 : Option Addr) (xa87 : List Int) (h_72 : Heap), Sat ro h_72 (.own ro a87 1 (xa87.map (Value.int .u8)) :: .row a24 c24 (xa24.map (Value.int .u8)) :: .row a27 c27 (xa27.map (Value.int .u8)) :: F) → j89p xa87 = some r → F25.Post F ro r (j89 a87 xa87.length xa87.length h_72)) ?_ ?_
  · intro a87 xa87 h_72 hs hp
    have hs_73 := hs.pull 2 rfl
    have hs_74 := hs_73.pull 2 rfl
    have hs_75 := hs_74.pull 2 rfl
    exact hkb2 a87 xa87 a24 _ xa24 a27 _ xa27 n28 (IntKind.i64.wrap (n29 + 1)) _ hs_75 hp
  · intro j89p j89 hj89 hp
    refine st_pushJ (Q := F25.Post F ro r) hs hs.low rfl fun h_35 _ hs_36 => ?_
    have hs_42 := hs_36.pull 1 rfl
    obtain ⟨x_37, hx_38, hp⟩ := bindp_some hp
    refine st_appO (Q := F25.Post F ro r) isO hs_42 (fun _ => rfl) und22 und22 one5 rfl rfl rfl hx_38 fun a_39 h_40 hs_41 => ?_
    refine st_slice (Q := F25.Post F ro r) ?_
    refine st_letJ hp (fun j141p j141 => ∀ (b140 : Bool), Sat ro h_40 (.own ro a_39 1 (x_37.map (Value.int .u8)) :: .row a24 c24 (xa24.map (Value.int .u8)) :: .row a27 c27 (xa27.map (Value.int .u8)) :: F) → j141p b140 = some r → F25.Post F ro r (j141 b140)) ?_ ?_
    · intro b140 hs hp
      refine st_if (Q := F25.Post F ro r) (fun hc_55 => ?_) (fun hc_55 => ?_)
      · replace hp := ifp_t hc_55 hp
        refine st_pushJ (Q := F25.Post F ro r) hs hs.low rfl fun h_56 _ hs_57 => ?_
        have hs_63 := hs_57.pull 1 rfl
        obtain ⟨x_58, hx_59, hp⟩ := bindp_some hp
        refine st_appO (Q := F25.Post F ro r) isO hs_63 (fun _ => rfl) und22 und22 one5 rfl rfl rfl hx_59 fun a_60 h_61 hs_62 => ?_
        refine st_slice (Q := F25.Post F ro r) ?_
        have hs_64 := hs_62.pull 1 rfl
        have hs_65 := hs_64.tail
        have hs_66 := hs_65.pull 2 rfl
        have hs_67 := hs_66.pull 2 rfl
        have hs_68 := hs_67.pull 2 rfl
        exact hj89 a_60 x_58 _ hs_68 hp
      · replace hp := ifp_f hc_55 hp
        have hs_69 := hs.pull 2 rfl
        have hs_70 := hs_69.pull 2 rfl
        have hs_71 := hs_70.pull 2 rfl
        exact hj89 a_39 x_37 _ hs_71 hp
    · intro j141p j141 hj141 hp
      refine st_if (Q := F25.Post F ro r) (fun hc_43 => ?_) (fun hc_43 => ?_)
      · replace hp := ifp_t hc_43 hp
        have hs_44 := hs_41.pull 1 rfl
        have hs_45 := hs_44.tail
        have hs_46 := hs_45.pull 2 rfl
        have hs_47 := hs_46.pull 2 rfl
        have hs_48 := hs_47.pull 2 rfl
        exact hj141 true hs_48 hp
      · replace hp := ifp_f hc_43 hp
        have hs_49 := hs_41.pull 1 rfl
        have hs_50 := hs_49.tail
        have hs_51 := hs_50.pull 2 rfl
        have hs_52 := hs_51.pull 2 rfl
        have hs_53 := hs_52.pull 2 rfl
        exact hj141 (n25 == (IntKind.i64.wrap ((xa24.length : Int) - 1))) hs_53 hp

def F25.J3p (lf : Nat) (kb2p : List Int → List Int → List Int → Int → Int → Option (List Int)) (xa7 : List Int) (xa8 : List Int) (xa9 : List Int) (n10 : Int) (n11 : Int) : Option (List Int) :=
  bindp (idxp xa9 n11) fun x_31 =>
  ifp (x_31 == 0) (
    F25.J7p lf kb2p xa7 xa8 n11 49 xa9 n10 n11) (
    F25.J7p lf kb2p xa7 xa8 n11 48 xa9 n10 n11)

theorem F25.J3_ok {ora : Ora} (hora : HOra ora) {lf ro : Nat} {F : List Ent} {r : (List Int)} {kb2p : List Int → List Int → List Int → Int → Int → Option (List Int)} {kb2 : (Option Addr) → Nat → Nat → (Option Addr) → Nat → Nat → (Option Addr) → Nat → Nat → Int → Int → Heap → Out} (hkb2 : ∀ (a1 : Option Addr) (xa1 : List Int) (a2 : Option Addr) (c2 : Nat) (xa2 : List Int) (a3 : Option Addr) (c3 : Nat) (xa3 : List Int) (n4 : Int) (n5 : Int) (h : Heap), Sat ro h (.own ro a1 1 (xa1.map (Value.int .u8)) :: .row a2 c2 (xa2.map (Value.int .u8)) :: .row a3 c3 (xa3.map (Value.int .u8)) :: F) → kb2p xa1 xa2 xa3 n4 n5 = some r → F25.Post F ro r (kb2 a1 xa1.length xa1.length a2 xa2.length c2 a3 xa3.length c3 n4 n5 h)) (a7 : Option Addr) (xa7 : List Int) (a8 : Option Addr) (c8 : Nat) (xa8 : List Int) (a9 : Option Addr) (c9 : Nat) (xa9 : List Int) (n10 : Int) (n11 : Int) (h : Heap) (hs : Sat ro h (.own ro a7 1 (xa7.map (Value.int .u8)) :: .row a8 c8 (xa8.map (Value.int .u8)) :: .row a9 c9 (xa9.map (Value.int .u8)) :: F)) (hp : F25.J3p lf kb2p xa7 xa8 xa9 n10 n11 = some r) : F25.Post F ro r (F25.J3 (callW Tryd.prog ora) lf ro kb2 a7 xa7.length xa7.length a8 xa8.length c8 a9 xa9.length c9 n10 n11 h) := by
  unfold F25.J3
  unfold F25.J3p at hp
  have hs_33 := hs.pull 2 rfl
  obtain ⟨x_31, hx_32, hp⟩ := bindp_some hp
  refine st_idxR (Q := F25.Post F ro r) isO isO hs_33 und22 siz5 agg5 rfl hx_32 ?_
  refine st_int (Q := F25.Post F ro r) ?_
  refine st_if (Q := F25.Post F ro r) (fun hc_34 => ?_) (fun hc_34 => ?_)
  · replace hp := ifp_t hc_34 hp
    have hs_76 := hs_33.pull 2 rfl
    have hs_77 := hs_76.pull 2 rfl
    exact F25.J7_ok hora hkb2 a7 xa7 a8 _ xa8 n11 49 a9 _ xa9 n10 n11 _ hs_77 hp
  · replace hp := ifp_f hc_34 hp
    have hs_78 := hs_33.pull 2 rfl
    have hs_79 := hs_78.pull 2 rfl
    exact F25.J7_ok hora hkb2 a7 xa7 a8 _ xa8 n11 48 a9 _ xa9 n10 n11 _ hs_79 hp

def F25.L2p (lf : Nat) : Nat → List Int → List Int → List Int → Int → Int → Option (List Int)
  | 0, _, _, _, _, _ => none
  | n + 1, xa1, xa2, xa3, n4, n5 =>
  ifp (decide (n5 < n4)) (
    F25.J3p lf (F25.L2p lf n) xa1 xa2 xa3 n4 n5) (
    some xa1)

theorem F25.L2_ok {ora : Ora} (hora : HOra ora) {lf ro : Nat} {F : List Ent} {r : (List Int)} : ∀ (n : Nat) (a1 : Option Addr) (xa1 : List Int) (a2 : Option Addr) (c2 : Nat) (xa2 : List Int) (a3 : Option Addr) (c3 : Nat) (xa3 : List Int) (n4 : Int) (n5 : Int) (h : Heap), Sat ro h (.own ro a1 1 (xa1.map (Value.int .u8)) :: .row a2 c2 (xa2.map (Value.int .u8)) :: .row a3 c3 (xa3.map (Value.int .u8)) :: F) → F25.L2p lf n xa1 xa2 xa3 n4 n5 = some r → F25.Post F ro r (F25.L2 (callW Tryd.prog ora) lf ro n a1 xa1.length xa1.length a2 xa2.length c2 a3 xa3.length c3 n4 n5 h) := by
  intro n
  induction n with
  | zero => intro a1 xa1 a2 c2 xa2 a3 c3 xa3 n4 n5 h hs hp; cases hp
  | succ n ih =>
    intro a1 xa1 a2 c2 xa2 a3 c3 xa3 n4 n5 h hs hp
    unfold F25.L2
    unfold F25.L2p at hp
    refine st_if (Q := F25.Post F ro r) (fun hc_30 => ?_) (fun hc_30 => ?_)
    · replace hp := ifp_t hc_30 hp
      have hs_80 := hs.pull 2 rfl
      have hs_81 := hs_80.pull 2 rfl
      have hs_82 := hs_81.pull 2 rfl
      exact F25.J3_ok hora ih a1 xa1 a2 _ xa2 a3 _ xa3 n4 n5 _ hs_82 hp
    · replace hp := ifp_f hc_30 hp
      have hs_83 := hs.pull 1 rfl
      have hs_84 := hs_83.tail
      have hs_85 := hs_84.pull 1 rfl
      have hs_86 := hs_85.tail
      cases hp
      exact ⟨a1, _, rfl, hs_86⟩

def F25.p (lf : Nat) (xax0 : List Int) (xax1 : List Int) : Option (List Int) :=
  F25.L2p lf lf xax0 xax1 xax1 (xax1.length : Int) 0

theorem F25.t_ok {ora : Ora} (hora : HOra ora) {lf ro : Nat} {F : List Ent} {r : (List Int)} (ax0 : Option Addr) (xax0 : List Int) (ax1 : Option Addr) (cx1 : Nat) (xax1 : List Int) (h : Heap) (hs : Sat ro h (.own ro ax0 1 (xax0.map (Value.int .u8)) :: .row ax1 cx1 (xax1.map (Value.int .u8)) :: F)) (hp : F25.p lf xax0 xax1 = some r) : F25.Post F ro r (F25.t (callW Tryd.prog ora) lf ro ax0 xax0.length xax0.length ax1 xax1.length cx1 h) := by
  unfold F25.t
  unfold F25.p at hp
  have hs_87 := hs.pull 1 rfl
  have hs_88 := hs_87.dup
  have hs_89 := hs_88.pull 1 rfl
  have hs_90 := hs_89.pull 2 rfl
  exact F25.L2_ok hora lf ax0 xax0 ax1 _ xax1 ax1 _ xax1 (xax1.length : Int) 0 _ hs_90 hp

theorem F25.ok {ora : Ora} (hora : HOra ora) {lf ro : Nat} {F : List Ent} {r : (List Int)} (ax0 : Option Addr) (xax0 : List Int) (ax1 : Option Addr) (cx1 : Nat) (xax1 : List Int) (h : Heap) (hs : Sat ro h (.own ro ax0 1 (xax0.map (Value.int .u8)) :: .row ax1 cx1 (xax1.map (Value.int .u8)) :: F)) (hp : F25.p lf xax0 xax1 = some r) : F25.Post F ro r (callW Tryd.prog ora ro 25 [.slice ax0 xax0.length xax0.length, .slice ax1 xax1.length cx1] h) := by
  have h1 := F25.t_ok hora ax0 xax0 ax1 cx1 xax1 h hs hp
  have h2 : callW Tryd.prog ora ro 25 [.slice ax0 xax0.length xax0.length, .slice ax1 xax1.length cx1] h = _ := callW_body (hora.none _ _ _ _ (by decide)) Tryd.func25 (F25.le (callW Tryd.prog ora) lf ro ax0 xax0.length xax0.length ax1 xax1.length cx1 h) (F25.Post.ne h1)
  rw [h2]; exact h1

def F23.Post (F : List Ent) (ro : Nat) (r : Bool) (x : Out) : Prop := ∃ h', x = .ok (.bool r) h' ∧ Sat ro h' (F)
theorem F23.Post.ne {F : List Ent} {ro : Nat} {r : Bool} {x : Out} (hx : F23.Post F ro r x) : x ≠ .fail := by
  obtain ⟨h', rfl, _⟩ := hx
  simp

def F23.p (lf : Nat) (x0 : Int) : Option (Bool) :=
  letJ (fun (b1 : Bool) => (
    some b1 : Option (Bool))) fun j2p =>
  ifp (x0 != 0) (
    j2p (x0 != 255)) (
    j2p false)

theorem F23.t_ok {ora : Ora} (hora : HOra ora) {lf ro : Nat} {F : List Ent} {r : (Bool)} (x0 : Int) (h : Heap) (hs : Sat ro h (F)) (hp : F23.p lf x0 = some r) : F23.Post F ro r (F23.t (callW Tryd.prog ora) lf ro x0 h) := by
  unfold F23.t
  unfold F23.p at hp
  refine st_letJ hp (fun j2p j2 => ∀ (b1 : Bool), Sat ro h (F) → j2p b1 = some r → F23.Post F ro r (j2 b1)) ?_ ?_
  · intro b1 hs hp
    cases hp
    exact ⟨_, rfl, hs⟩
  · intro j2p j2 hj2 hp
    refine st_if (Q := F23.Post F ro r) (fun hc_91 => ?_) (fun hc_91 => ?_)
    · replace hp := ifp_t hc_91 hp
      exact hj2 (x0 != 255) hs hp
    · replace hp := ifp_f hc_91 hp
      exact hj2 false hs hp

theorem F23.ok {ora : Ora} (hora : HOra ora) {lf ro : Nat} {F : List Ent} {r : (Bool)} (x0 : Int) (h : Heap) (hs : Sat ro h (F)) (hp : F23.p lf x0 = some r) : F23.Post F ro r (callW Tryd.prog ora ro 23 [.int .u8 x0] h) := by
  have h1 := F23.t_ok hora x0 h hs hp
  have h2 : callW Tryd.prog ora ro 23 [.int .u8 x0] h = _ := callW_body (hora.none _ _ _ _ (by decide)) Tryd.func23 (F23.le (callW Tryd.prog ora) lf ro x0 h) (F23.Post.ne h1)
  rw [h2]; exact h1

def F40.Post (F : List Ent) (ro : Nat) (r : Int) (x : Out) : Prop := ∃ h', x = .ok (.int .i64 r) h' ∧ Sat ro h' (F)
theorem F40.Post.ne {F : List Ent} {ro : Nat} {r : Int} {x : Out} (hx : F40.Post F ro r x) : x ≠ .fail := by
  obtain ⟨h', rfl, _⟩ := hx
  simp

def F40.J3p (lf : Nat) (kb2p : List Int → Int → Int → Option (Int)) (xa5 : List Int) (n6 : Int) (n7 : Int) : Option (Int) :=
  bindp (idxp xa5 n7) fun x_94 =>
  bindp (F23.p lf x_94) fun r_96 =>
  ifp r_96 (
    some n7) (
    kb2p xa5 n6 (IntKind.i64.wrap (n7 + 1)))

theorem F40.J3_ok {ora : Ora} (hora : HOra ora) {lf ro : Nat} {F : List Ent} {r : (Int)} {kb2p : List Int → Int → Int → Option (Int)} {kb2 : (Option Addr) → Nat → Nat → Int → Int → Heap → Out} (hkb2 : ∀ (a1 : Option Addr) (c1 : Nat) (xa1 : List Int) (n2 : Int) (n3 : Int) (h : Heap), Sat ro h (.row a1 c1 (xa1.map (Value.int .u8)) :: F) → kb2p xa1 n2 n3 = some r → F40.Post F ro r (kb2 a1 xa1.length c1 n2 n3 h)) (a5 : Option Addr) (c5 : Nat) (xa5 : List Int) (n6 : Int) (n7 : Int) (h : Heap) (hs : Sat ro h (.row a5 c5 (xa5.map (Value.int .u8)) :: F)) (hp : F40.J3p lf kb2p xa5 n6 n7 = some r) : F40.Post F ro r (F40.J3 (callW Tryd.prog ora) lf ro kb2 a5 xa5.length c5 n6 n7 h) := by
  unfold F40.J3
  unfold F40.J3p at hp
  obtain ⟨x_94, hx_95, hp⟩ := bindp_some hp
  refine st_idxR (Q := F40.Post F ro r) isO isO hs und22 siz5 agg5 rfl hx_95 ?_
  refine st_int (Q := F40.Post F ro r) ?_
  obtain ⟨r_96, hx_97, hp⟩ := bindp_some hp
  obtain ⟨h_98, e_100, hs_99⟩ := F23.ok hora (ro := ro) (F := .row a5 c5 (xa5.map (Value.int .u8)) :: F) x_94 _ hs hx_97
  refine st_ok (Q := F40.Post F ro r) isO e_100 ?_
  refine st_bool (Q := F40.Post F ro r) ?_
  refine st_if (Q := F40.Post F ro r) (fun hc_101 => ?_) (fun hc_101 => ?_)
  · replace hp := ifp_t hc_101 hp
    have hs_102 := hs_99.tail
    cases hp
    exact ⟨_, rfl, hs_102⟩
  · replace hp := ifp_f hc_101 hp
    exact hkb2 a5 _ xa5 n6 (IntKind.i64.wrap (n7 + 1)) _ hs_99 hp

def F40.L2p (lf : Nat) : Nat → List Int → Int → Int → Option (Int)
  | 0, _, _, _ => none
  | n + 1, xa1, n2, n3 =>
  ifp (decide (n3 < n2)) (
    F40.J3p lf (F40.L2p lf n) xa1 n2 n3) (
    some (-1))

theorem F40.L2_ok {ora : Ora} (hora : HOra ora) {lf ro : Nat} {F : List Ent} {r : (Int)} : ∀ (n : Nat) (a1 : Option Addr) (c1 : Nat) (xa1 : List Int) (n2 : Int) (n3 : Int) (h : Heap), Sat ro h (.row a1 c1 (xa1.map (Value.int .u8)) :: F) → F40.L2p lf n xa1 n2 n3 = some r → F40.Post F ro r (F40.L2 (callW Tryd.prog ora) lf ro n a1 xa1.length c1 n2 n3 h) := by
  intro n
  induction n with
  | zero => intro a1 c1 xa1 n2 n3 h hs hp; cases hp
  | succ n ih =>
    intro a1 c1 xa1 n2 n3 h hs hp
    unfold F40.L2
    unfold F40.L2p at hp
    refine st_if (Q := F40.Post F ro r) (fun hc_93 => ?_) (fun hc_93 => ?_)
    · replace hp := ifp_t hc_93 hp
      exact F40.J3_ok hora ih a1 _ xa1 n2 n3 _ hs hp
    · replace hp := ifp_f hc_93 hp
      have hs_103 := hs.tail
      cases hp
      exact ⟨_, rfl, hs_103⟩

def F40.p (lf : Nat) (xax0 : List Int) : Option (Int) :=
  F40.L2p lf lf xax0 (xax0.length : Int) 0

theorem F40.t_ok {ora : Ora} (hora : HOra ora) {lf ro : Nat} {F : List Ent} {r : (Int)} (ax0 : Option Addr) (cx0 : Nat) (xax0 : List Int) (h : Heap) (hs : Sat ro h (.row ax0 cx0 (xax0.map (Value.int .u8)) :: F)) (hp : F40.p lf xax0 = some r) : F40.Post F ro r (F40.t (callW Tryd.prog ora) lf ro ax0 xax0.length cx0 h) := by
  unfold F40.t
  unfold F40.p at hp
  exact F40.L2_ok hora lf ax0 _ xax0 (xax0.length : Int) 0 _ hs hp

theorem F40.ok {ora : Ora} (hora : HOra ora) {lf ro : Nat} {F : List Ent} {r : (Int)} (ax0 : Option Addr) (cx0 : Nat) (xax0 : List Int) (h : Heap) (hs : Sat ro h (.row ax0 cx0 (xax0.map (Value.int .u8)) :: F)) (hp : F40.p lf xax0 = some r) : F40.Post F ro r (callW Tryd.prog ora ro 40 [.slice ax0 xax0.length cx0, .func (.func 23) #[] #[]] h) := by
  have h1 := F40.t_ok hora ax0 cx0 xax0 h hs hp
  have h2 : callW Tryd.prog ora ro 40 [.slice ax0 xax0.length cx0, .func (.func 23) #[] #[]] h = _ := callW_body (hora.none _ _ _ _ (by decide)) Tryd.func40 (F40.le (callW Tryd.prog ora) lf ro ax0 xax0.length cx0 h) (F40.Post.ne h1)
  rw [h2]; exact h1

def F22.Post (F : List Ent) (ro : Nat) (r : Bool) (x : Out) : Prop := ∃ h', x = .ok (.bool r) h' ∧ Sat ro h' (F)
theorem F22.Post.ne {F : List Ent} {ro : Nat} {r : Bool} {x : Out} (hx : F22.Post F ro r x) : x ≠ .fail := by
  obtain ⟨h', rfl, _⟩ := hx
  simp

def F22.p (lf : Nat) (xax0 : List Int) : Option (Bool) :=
  bindp (F40.p lf xax0) fun r_105 =>
  some (decide (r_105 ≥ 0))

theorem F22.t_ok {ora : Ora} (hora : HOra ora) {lf ro : Nat} {F : List Ent} {r : (Bool)} (ax0 : Option Addr) (cx0 : Nat) (xax0 : List Int) (h : Heap) (hs : Sat ro h (.row ax0 cx0 (xax0.map (Value.int .u8)) :: F)) (hp : F22.p lf xax0 = some r) : F22.Post F ro r (F22.t (callW Tryd.prog ora) lf ro ax0 xax0.length cx0 h) := by
  unfold F22.t
  unfold F22.p at hp
  have hs_104 := hs.dup
  obtain ⟨r_105, hx_106, hp⟩ := bindp_some hp
  obtain ⟨h_107, e_109, hs_108⟩ := F40.ok hora (ro := ro) (F := .row ax0 cx0 (xax0.map (Value.int .u8)) :: F) ax0 cx0 xax0 _ hs_104 hx_106
  refine st_ok (Q := F22.Post F ro r) isO e_109 ?_
  refine st_int (Q := F22.Post F ro r) ?_
  have hs_110 := hs_108.tail
  cases hp
  exact ⟨_, rfl, hs_110⟩

theorem F22.ok {ora : Ora} (hora : HOra ora) {lf ro : Nat} {F : List Ent} {r : (Bool)} (ax0 : Option Addr) (cx0 : Nat) (xax0 : List Int) (h : Heap) (hs : Sat ro h (.row ax0 cx0 (xax0.map (Value.int .u8)) :: F)) (hp : F22.p lf xax0 = some r) : F22.Post F ro r (callW Tryd.prog ora ro 22 [.slice ax0 xax0.length cx0, .func (.func 23) #[] #[]] h) := by
  have h1 := F22.t_ok hora ax0 cx0 xax0 h hs hp
  have h2 : callW Tryd.prog ora ro 22 [.slice ax0 xax0.length cx0, .func (.func 23) #[] #[]] h = _ := callW_body (hora.none _ _ _ _ (by decide)) Tryd.func22 (F22.le (callW Tryd.prog ora) lf ro ax0 xax0.length cx0 h) (F22.Post.ne h1)
  rw [h2]; exact h1

def F61.Post (F : List Ent) (ro : Nat) (r : ByteArray) (x : Out) : Prop := ∃ h', x = .ok (.string r) h' ∧ Sat ro h' (F)
theorem F61.Post.ne {F : List Ent} {ro : Nat} {r : ByteArray} {x : Out} (hx : F61.Post F ro r x) : x ≠ .fail := by
  obtain ⟨h', rfl, _⟩ := hx
  simp

def F61.p (lf : Nat) (x0 : Int) : Option (ByteArray) :=
  ifp (decide (x0 < 10)) (
    bindp (ssubp (⟨#[48, 49, 50, 51, 52, 53, 54, 55, 56, 57, 97, 98, 99, 100, 101, 102, 103, 104, 105, 106, 107, 108, 109, 110, 111, 112, 113, 114, 115, 116, 117, 118, 119, 120, 121, 122]⟩ : ByteArray) x0 (IntKind.i64.wrap (x0 + 1))) fun s_112 =>
    some s_112) (
    bindp (ssubp (⟨#[48, 48, 48, 49, 48, 50, 48, 51, 48, 52, 48, 53, 48, 54, 48, 55, 48, 56, 48, 57, 49, 48, 49, 49, 49, 50, 49, 51, 49, 52, 49, 53, 49, 54, 49, 55, 49, 56, 49, 57, 50, 48, 50, 49, 50, 50, 50, 51, 50, 52, 50, 53, 50, 54, 50, 55, 50, 56, 50, 57, 51, 48, 51, 49, 51, 50, 51, 51, 51, 52, 51, 53, 51, 54, 51, 55, 51, 56, 51, 57, 52, 48, 52, 49, 52, 50, 52, 51, 52, 52, 52, 53, 52, 54, 52, 55, 52, 56, 52, 57, 53, 48, 53, 49, 53, 50, 53, 51, 53, 52, 53, 53, 53, 54, 53, 55, 53, 56, 53, 57, 54, 48, 54, 49, 54, 50, 54, 51, 54, 52, 54, 53, 54, 54, 54, 55, 54, 56, 54, 57, 55, 48, 55, 49, 55, 50, 55, 51, 55, 52, 55, 53, 55, 54, 55, 55, 55, 56, 55, 57, 56, 48, 56, 49, 56, 50, 56, 51, 56, 52, 56, 53, 56, 54, 56, 55, 56, 56, 56, 57, 57, 48, 57, 49, 57, 50, 57, 51, 57, 52, 57, 53, 57, 54, 57, 55, 57, 56, 57, 57]⟩ : ByteArray) (IntKind.i64.wrap (x0 * 2)) (IntKind.i64.wrap ((IntKind.i64.wrap (x0 * 2)) + 2))) fun s_114 =>
    some s_114)

theorem F61.t_ok {ora : Ora} (hora : HOra ora) {lf ro : Nat} {F : List Ent} {r : (ByteArray)} (x0 : Int) (h : Heap) (hs : Sat ro h (F)) (hp : F61.p lf x0 = some r) : F61.Post F ro r (F61.t (callW Tryd.prog ora) lf ro x0 h) := by
  unfold F61.t
  unfold F61.p at hp
  refine st_if (Q := F61.Post F ro r) (fun hc_111 => ?_) (fun hc_111 => ?_)
  · replace hp := ifp_t hc_111 hp
    obtain ⟨s_112, hx_113, hp⟩ := bindp_some hp
    refine st_ssub (Q := F61.Post F ro r) isO und9 (.inr ⟨_, rfl⟩) (.inr ⟨_, rfl⟩) hx_113 ?_
    refine st_str (Q := F61.Post F ro r) ?_
    cases hp
    exact ⟨_, rfl, hs⟩
  · replace hp := ifp_f hc_111 hp
    obtain ⟨s_114, hx_115, hp⟩ := bindp_some hp
    refine st_ssub (Q := F61.Post F ro r) isO und9 (.inr ⟨_, rfl⟩) (.inr ⟨_, rfl⟩) hx_115 ?_
    refine st_str (Q := F61.Post F ro r) ?_
    cases hp
    exact ⟨_, rfl, hs⟩

theorem F61.ok {ora : Ora} (hora : HOra ora) {lf ro : Nat} {F : List Ent} {r : (ByteArray)} (x0 : Int) (h : Heap) (hs : Sat ro h (F)) (hp : F61.p lf x0 = some r) : F61.Post F ro r (callW Tryd.prog ora ro 61 [.int .i64 x0] h) := by
  have h1 := F61.t_ok hora x0 h hs hp
  have h2 : callW Tryd.prog ora ro 61 [.int .i64 x0] h = _ := callW_body (hora.none _ _ _ _ (by decide)) Tryd.func61 (F61.le (callW Tryd.prog ora) lf ro x0 h) (F61.Post.ne h1)
  rw [h2]; exact h1

def F70.Post (F : List Ent) (ro : Nat) (r : Int) (x : Out) : Prop := ∃ h', x = .ok (.int .i64 r) h' ∧ Sat ro h' (F)
theorem F70.Post.ne {F : List Ent} {ro : Nat} {r : Int} {x : Out} (hx : F70.Post F ro r x) : x ≠ .fail := by
  obtain ⟨h', rfl, _⟩ := hx
  simp

def F70.p (lf : Nat) (x0 : Int) : Option (Int) :=
  some (Int.fdiv (IntKind.i64.wrap (x0 * 78913)) 262144)

theorem F70.t_ok {ora : Ora} (hora : HOra ora) {lf ro : Nat} {F : List Ent} {r : (Int)} (x0 : Int) (h : Heap) (hs : Sat ro h (F)) (hp : F70.p lf x0 = some r) : F70.Post F ro r (F70.t (callW Tryd.prog ora) lf ro x0 h) := by
  unfold F70.t
  unfold F70.p at hp
  cases hp
  exact ⟨_, rfl, hs⟩

theorem F70.ok {ora : Ora} (hora : HOra ora) {lf ro : Nat} {F : List Ent} {r : (Int)} (x0 : Int) (h : Heap) (hs : Sat ro h (F)) (hp : F70.p lf x0 = some r) : F70.Post F ro r (callW Tryd.prog ora ro 70 [.int .i64 x0] h) := by
  have h1 := F70.t_ok hora x0 h hs hp
  have h2 : callW Tryd.prog ora ro 70 [.int .i64 x0] h = _ := callW_body (hora.none _ _ _ _ (by decide)) Tryd.func70 (F70.le (callW Tryd.prog ora) lf ro x0 h) (F70.Post.ne h1)
  rw [h2]; exact h1

def F71.Post (F : List Ent) (ro : Nat) (r : Int) (x : Out) : Prop := ∃ h', x = .ok (.int .i64 r) h' ∧ Sat ro h' (F)
theorem F71.Post.ne {F : List Ent} {ro : Nat} {r : Int} {x : Out} (hx : F71.Post F ro r x) : x ≠ .fail := by
  obtain ⟨h', rfl, _⟩ := hx
  simp

def F71.J7p (lf : Nat) (n4 : Int) (n5 : Int) : Option (Int) :=
  letJ (fun (n7 : Int) (n8 : Int) => (
    bindp (sidxp (⟨#[0, 1, 2, 2, 3, 3, 3, 3, 4, 4, 4, 4, 4, 4, 4, 4, 5, 5, 5, 5, 5, 5, 5, 5, 5, 5, 5, 5, 5, 5, 5, 5, 6, 6, 6, 6, 6, 6, 6, 6, 6, 6, 6, 6, 6, 6, 6, 6, 6, 6, 6, 6, 6, 6, 6, 6, 6, 6, 6, 6, 6, 6, 6, 6, 7, 7, 7, 7, 7, 7, 7, 7, 7, 7, 7, 7, 7, 7, 7, 7, 7, 7, 7, 7, 7, 7, 7, 7, 7, 7, 7, 7, 7, 7, 7, 7, 7, 7, 7, 7, 7, 7, 7, 7, 7, 7, 7, 7, 7, 7, 7, 7, 7, 7, 7, 7, 7, 7, 7, 7, 7, 7, 7, 7, 7, 7, 7, 7, 8, 8, 8, 8, 8, 8, 8, 8, 8, 8, 8, 8, 8, 8, 8, 8, 8, 8, 8, 8, 8, 8, 8, 8, 8, 8, 8, 8, 8, 8, 8, 8, 8, 8, 8, 8, 8, 8, 8, 8, 8, 8, 8, 8, 8, 8, 8, 8, 8, 8, 8, 8, 8, 8, 8, 8, 8, 8, 8, 8, 8, 8, 8, 8, 8, 8, 8, 8, 8, 8, 8, 8, 8, 8, 8, 8, 8, 8, 8, 8, 8, 8, 8, 8, 8, 8, 8, 8, 8, 8, 8, 8, 8, 8, 8, 8, 8, 8, 8, 8, 8, 8, 8, 8, 8, 8, 8, 8, 8, 8, 8, 8, 8, 8, 8, 8, 8, 8, 8, 8, 8, 8, 8, 8, 8, 8, 8, 8]⟩ : ByteArray) (IntKind.u8.wrap n7)) fun x_120 =>
    some (IntKind.i64.wrap (n8 + (IntKind.i64.wrap x_120))) : Option (Int))) fun j9p =>
  ifp (decide (n4 ≥ 256)) (
    j9p (Int.fdiv n4 256) (IntKind.i64.wrap (n5 + 8))) (
    j9p n4 n5)

theorem F71.J7_ok {ora : Ora} (hora : HOra ora) {lf ro : Nat} {F : List Ent} {r : (Int)} (n4 : Int) (n5 : Int) (h : Heap) (hs : Sat ro h (F)) (hp : F71.J7p lf n4 n5 = some r) : F71.Post F ro r (F71.J7 (callW Tryd.prog ora) lf ro n4 n5 h) := by
  unfold F71.J7
  unfold F71.J7p at hp
  refine st_letJ hp (fun j9p j9 => ∀ (n7 : Int) (n8 : Int), Sat ro h (F) → j9p n7 n8 = some r → F71.Post F ro r (j9 n7 n8)) ?_ ?_
  · intro n7 n8 hs hp
    obtain ⟨x_120, hx_121, hp⟩ := bindp_some hp
    refine st_sidx (Q := F71.Post F ro r) isO und9 hx_121 ?_
    refine st_int (Q := F71.Post F ro r) ?_
    cases hp
    exact ⟨_, rfl, hs⟩
  · intro j9p j9 hj9 hp
    refine st_if (Q := F71.Post F ro r) (fun hc_118 => ?_) (fun hc_118 => ?_)
    · replace hp := ifp_t hc_118 hp
      exact hj9 (Int.fdiv n4 256) (IntKind.i64.wrap (n5 + 8)) hs hp
    · replace hp := ifp_f hc_118 hp
      exact hj9 n4 n5 hs hp

def F71.J4p (lf : Nat) (n1 : Int) (n2 : Int) : Option (Int) :=
  ifp (decide (n1 ≥ 65536)) (
    F71.J7p lf (Int.fdiv n1 65536) (IntKind.i64.wrap (n2 + 16))) (
    F71.J7p lf n1 n2)

theorem F71.J4_ok {ora : Ora} (hora : HOra ora) {lf ro : Nat} {F : List Ent} {r : (Int)} (n1 : Int) (n2 : Int) (h : Heap) (hs : Sat ro h (F)) (hp : F71.J4p lf n1 n2 = some r) : F71.Post F ro r (F71.J4 (callW Tryd.prog ora) lf ro n1 n2 h) := by
  unfold F71.J4
  unfold F71.J4p at hp
  refine st_if (Q := F71.Post F ro r) (fun hc_117 => ?_) (fun hc_117 => ?_)
  · replace hp := ifp_t hc_117 hp
    exact F71.J7_ok hora (Int.fdiv n1 65536) (IntKind.i64.wrap (n2 + 16)) _ hs hp
  · replace hp := ifp_f hc_117 hp
    exact F71.J7_ok hora n1 n2 _ hs hp

def F71.p (lf : Nat) (x0 : Int) : Option (Int) :=
  ifp (decide (x0 ≥ 4294967296)) (
    F71.J4p lf (Int.fdiv x0 4294967296) 32) (
    F71.J4p lf x0 0)

theorem F71.t_ok {ora : Ora} (hora : HOra ora) {lf ro : Nat} {F : List Ent} {r : (Int)} (x0 : Int) (h : Heap) (hs : Sat ro h (F)) (hp : F71.p lf x0 = some r) : F71.Post F ro r (F71.t (callW Tryd.prog ora) lf ro x0 h) := by
  unfold F71.t
  unfold F71.p at hp
  refine st_if (Q := F71.Post F ro r) (fun hc_116 => ?_) (fun hc_116 => ?_)
  · replace hp := ifp_t hc_116 hp
    exact F71.J4_ok hora (Int.fdiv x0 4294967296) 32 _ hs hp
  · replace hp := ifp_f hc_116 hp
    exact F71.J4_ok hora x0 0 _ hs hp

theorem F71.ok {ora : Ora} (hora : HOra ora) {lf ro : Nat} {F : List Ent} {r : (Int)} (x0 : Int) (h : Heap) (hs : Sat ro h (F)) (hp : F71.p lf x0 = some r) : F71.Post F ro r (callW Tryd.prog ora ro 71 [.int .u64 x0] h) := by
  have h1 := F71.t_ok hora x0 h hs hp
  have h2 : callW Tryd.prog ora ro 71 [.int .u64 x0] h = _ := callW_body (hora.none _ _ _ _ (by decide)) Tryd.func71 (F71.le (callW Tryd.prog ora) lf ro x0 h) (F71.Post.ne h1)
  rw [h2]; exact h1

def F72.Post (F : List Ent) (ro : Nat) (r : Int) (x : Out) : Prop := ∃ h', x = .ok (.int .i64 r) h' ∧ Sat ro h' (F)
theorem F72.Post.ne {F : List Ent} {ro : Nat} {r : Int} {x : Out} (hx : F72.Post F ro r x) : x ≠ .fail := by
  obtain ⟨h', rfl, _⟩ := hx
  simp

def F72.p (lf : Nat) (x0 : Bool) : Option (Int) :=
  ifp x0 (
    some 1) (
    some 0)

theorem F72.t_ok {ora : Ora} (hora : HOra ora) {lf ro : Nat} {F : List Ent} {r : (Int)} (x0 : Bool) (h : Heap) (hs : Sat ro h (F)) (hp : F72.p lf x0 = some r) : F72.Post F ro r (F72.t (callW Tryd.prog ora) lf ro x0 h) := by
  unfold F72.t
  unfold F72.p at hp
  refine st_if (Q := F72.Post F ro r) (fun hc_122 => ?_) (fun hc_122 => ?_)
  · replace hp := ifp_t hc_122 hp
    cases hp
    exact ⟨_, rfl, hs⟩
  · replace hp := ifp_f hc_122 hp
    cases hp
    exact ⟨_, rfl, hs⟩

theorem F72.ok {ora : Ora} (hora : HOra ora) {lf ro : Nat} {F : List Ent} {r : (Int)} (x0 : Bool) (h : Heap) (hs : Sat ro h (F)) (hp : F72.p lf x0 = some r) : F72.Post F ro r (callW Tryd.prog ora ro 72 [.bool x0] h) := by
  have h1 := F72.t_ok hora x0 h hs hp
  have h2 : callW Tryd.prog ora ro 72 [.bool x0] h = _ := callW_body (hora.none _ _ _ _ (by decide)) Tryd.func72 (F72.le (callW Tryd.prog ora) lf ro x0 h) (F72.Post.ne h1)
  rw [h2]; exact h1

def F62.Post (F : List Ent) (ro : Nat) (r : Int) (x : Out) : Prop := ∃ h', x = .ok (.int .i64 r) h' ∧ Sat ro h' (F)
theorem F62.Post.ne {F : List Ent} {ro : Nat} {r : Int} {x : Out} (hx : F62.Post F ro r x) : x ≠ .fail := by
  obtain ⟨h', rfl, _⟩ := hx
  simp

def F62.p (lf : Nat) (x0 : Int) : Option (Int) :=
  bindp (F71.p lf x0) fun r_123 =>
  bindp (F70.p lf r_123) fun r_128 =>
  bindp (idxp gl0 r_128) fun x_133 =>
  bindp (F72.p lf (decide (x0 ≥ x_133))) fun r_135 =>
  some (IntKind.i64.wrap (r_128 + r_135))

theorem F62.t_ok {ora : Ora} (hora : HOra ora) {lf ro : Nat} {F : List Ent} {r : (Int)} (x0 : Int) (h : Heap) (hs : Sat ro h (.row (some ⟨0, 0, none⟩) 20 (gl0.map (Value.int .u64)) :: F)) (hp : F62.p lf x0 = some r) : F62.Post F ro r (F62.t (callW Tryd.prog ora) lf ro x0 h) := by
  unfold F62.t
  unfold F62.p at hp
  obtain ⟨r_123, hx_124, hp⟩ := bindp_some hp
  obtain ⟨h_125, e_127, hs_126⟩ := F71.ok hora (ro := ro) (F := .row (some ⟨0, 0, none⟩) 20 (gl0.map (Value.int .u64)) :: F) x0 _ hs hx_124
  refine st_ok (Q := F62.Post F ro r) isO e_127 ?_
  refine st_int (Q := F62.Post F ro r) ?_
  obtain ⟨r_128, hx_129, hp⟩ := bindp_some hp
  obtain ⟨h_130, e_132, hs_131⟩ := F70.ok hora (ro := ro) (F := .row (some ⟨0, 0, none⟩) 20 (gl0.map (Value.int .u64)) :: F) r_123 _ hs_126 hx_129
  refine st_ok (Q := F62.Post F ro r) isO e_132 ?_
  refine st_int (Q := F62.Post F ro r) ?_
  obtain ⟨x_133, hx_134, hp⟩ := bindp_some hp
  refine st_idxT (Q := F62.Post F ro r) isO isO hs_131 und95 siz74 agg74 (by decide) hx_134 ?_
  refine st_int (Q := F62.Post F ro r) ?_
  obtain ⟨r_135, hx_136, hp⟩ := bindp_some hp
  obtain ⟨h_137, e_139, hs_138⟩ := F72.ok hora (ro := ro) (F := .row (some ⟨0, 0, none⟩) 20 (gl0.map (Value.int .u64)) :: F) (decide (x0 ≥ x_133)) _ hs_131 hx_136
  refine st_ok (Q := F62.Post F ro r) isO e_139 ?_
  refine st_int (Q := F62.Post F ro r) ?_
  have hs_140 := hs_138.tail
  cases hp
  exact ⟨_, rfl, hs_140⟩

theorem F62.ok {ora : Ora} (hora : HOra ora) {lf ro : Nat} {F : List Ent} {r : (Int)} (x0 : Int) (h : Heap) (hs : Sat ro h (.row (some ⟨0, 0, none⟩) 20 (gl0.map (Value.int .u64)) :: F)) (hp : F62.p lf x0 = some r) : F62.Post F ro r (callW Tryd.prog ora ro 62 [.int .u64 x0] h) := by
  have h1 := F62.t_ok hora x0 h hs hp
  have h2 : callW Tryd.prog ora ro 62 [.int .u64 x0] h = _ := callW_body (hora.none _ _ _ _ (by decide)) Tryd.func62 (F62.le (callW Tryd.prog ora) lf ro x0 h) (F62.Post.ne h1)
  rw [h2]; exact h1

def F63.Post (ax0 : Option Addr) (F : List Ent) (ro : Nat) (r : List Int) (x : Out) : Prop := ∃ h', x = .ok (.tuple #[]) h' ∧ Sat ro h' (.own ro ax0 1 (r.map (Value.int .u8)) :: F)
theorem F63.Post.ne {ax0 : Option Addr} {F : List Ent} {ro : Nat} {r : List Int} {x : Out} (hx : F63.Post ax0 F ro r x) : x ≠ .fail := by
  obtain ⟨h', rfl, _⟩ := hx
  simp

def F63.J25p (lf : Nat) (l97 : Nat) (xa97 : List Int) (n98 : Int) (n99 : Int) : Option (List Int) :=
  ifp (decide (n98 > 0)) (
    bindp (vsetp l97 xa97 0 (IntKind.u8.wrap (IntKind.u32.wrap (48 + n99)))) fun x_229 =>
    some x_229) (
    some xa97)

theorem F63.J25_ok {ora : Ora} (hora : HOra ora) {lf ro : Nat} {F : List Ent} {r : (List Int)} {ax0 : Option Addr} (l97 : Nat) (c97 : Nat) (xa97 : List Int) (n98 : Int) (n99 : Int) (h : Heap) (hs : Sat ro h (.own ro ax0 1 (xa97.map (Value.int .u8)) :: F)) (hp : F63.J25p lf l97 xa97 n98 n99 = some r) : F63.Post ax0 F ro r (F63.J25 (callW Tryd.prog ora) lf ro ax0 l97 c97 n98 n99 h) := by
  unfold F63.J25
  unfold F63.J25p at hp
  refine st_if (Q := F63.Post ax0 F ro r) (fun hc_228 => ?_) (fun hc_228 => ?_)
  · replace hp := ifp_t hc_228 hp
    obtain ⟨x_229, hx_230, hp⟩ := bindp_some hp
    refine st_idxSV (Q := F63.Post ax0 F ro r) isO isO hs und22 siz5 siz5 (fun _ => rfl) hx_230 fun h_231 hs_232 => ?_
    cases hp
    exact ⟨_, rfl, hs_232⟩
  · replace hp := ifp_f hc_228 hp
    cases hp
    exact ⟨_, rfl, hs⟩

def F63.J20p (lf : Nat) (l65 : Nat) (xa65 : List Int) (n66 : Int) (n67 : Int) : Option (List Int) :=
  ifp (decide (n66 ≥ 2)) (
    bindp (sidxp (⟨#[48, 48, 48, 49, 48, 50, 48, 51, 48, 52, 48, 53, 48, 54, 48, 55, 48, 56, 48, 57, 49, 48, 49, 49, 49, 50, 49, 51, 49, 52, 49, 53, 49, 54, 49, 55, 49, 56, 49, 57, 50, 48, 50, 49, 50, 50, 50, 51, 50, 52, 50, 53, 50, 54, 50, 55, 50, 56, 50, 57, 51, 48, 51, 49, 51, 50, 51, 51, 51, 52, 51, 53, 51, 54, 51, 55, 51, 56, 51, 57, 52, 48, 52, 49, 52, 50, 52, 51, 52, 52, 52, 53, 52, 54, 52, 55, 52, 56, 52, 57, 53, 48, 53, 49, 53, 50, 53, 51, 53, 52, 53, 53, 53, 54, 53, 55, 53, 56, 53, 57, 54, 48, 54, 49, 54, 50, 54, 51, 54, 52, 54, 53, 54, 54, 54, 55, 54, 56, 54, 57, 55, 48, 55, 49, 55, 50, 55, 51, 55, 52, 55, 53, 55, 54, 55, 55, 55, 56, 55, 57, 56, 48, 56, 49, 56, 50, 56, 51, 56, 52, 56, 53, 56, 54, 56, 55, 56, 56, 56, 57, 57, 48, 57, 49, 57, 50, 57, 51, 57, 52, 57, 53, 57, 54, 57, 55, 57, 56, 57, 57]⟩ : ByteArray) (IntKind.u32.wrap ((IntKind.u32.wrap ((Int.tmod n67 100) * 2)) + 1))) fun x_216 =>
    bindp (sidxp (⟨#[48, 48, 48, 49, 48, 50, 48, 51, 48, 52, 48, 53, 48, 54, 48, 55, 48, 56, 48, 57, 49, 48, 49, 49, 49, 50, 49, 51, 49, 52, 49, 53, 49, 54, 49, 55, 49, 56, 49, 57, 50, 48, 50, 49, 50, 50, 50, 51, 50, 52, 50, 53, 50, 54, 50, 55, 50, 56, 50, 57, 51, 48, 51, 49, 51, 50, 51, 51, 51, 52, 51, 53, 51, 54, 51, 55, 51, 56, 51, 57, 52, 48, 52, 49, 52, 50, 52, 51, 52, 52, 52, 53, 52, 54, 52, 55, 52, 56, 52, 57, 53, 48, 53, 49, 53, 50, 53, 51, 53, 52, 53, 53, 53, 54, 53, 55, 53, 56, 53, 57, 54, 48, 54, 49, 54, 50, 54, 51, 54, 52, 54, 53, 54, 54, 54, 55, 54, 56, 54, 57, 55, 48, 55, 49, 55, 50, 55, 51, 55, 52, 55, 53, 55, 54, 55, 55, 55, 56, 55, 57, 56, 48, 56, 49, 56, 50, 56, 51, 56, 52, 56, 53, 56, 54, 56, 55, 56, 56, 56, 57, 57, 48, 57, 49, 57, 50, 57, 51, 57, 52, 57, 53, 57, 54, 57, 55, 57, 56, 57, 57]⟩ : ByteArray) (IntKind.u32.wrap ((Int.tmod n67 100) * 2))) fun x_218 =>
    bindp (vsetp l65 xa65 (IntKind.i64.wrap (n66 - 1)) x_216) fun x_220 =>
    bindp (vsetp l65 x_220 (IntKind.i64.wrap (n66 - 2)) x_218) fun x_224 =>
    F63.J25p lf l65 x_224 (IntKind.i64.wrap (n66 - 2)) (IntKind.u32.wrap (Int.tdiv n67 100))) (
    F63.J25p lf l65 xa65 n66 n67)

theorem F63.J20_ok {ora : Ora} (hora : HOra ora) {lf ro : Nat} {F : List Ent} {r : (List Int)} {ax0 : Option Addr} (l65 : Nat) (c65 : Nat) (xa65 : List Int) (n66 : Int) (n67 : Int) (h : Heap) (hs : Sat ro h (.own ro ax0 1 (xa65.map (Value.int .u8)) :: F)) (hp : F63.J20p lf l65 xa65 n66 n67 = some r) : F63.Post ax0 F ro r (F63.J20 (callW Tryd.prog ora) lf ro ax0 l65 c65 n66 n67 h) := by
  unfold F63.J20
  unfold F63.J20p at hp
  refine st_if (Q := F63.Post ax0 F ro r) (fun hc_215 => ?_) (fun hc_215 => ?_)
  · replace hp := ifp_t hc_215 hp
    obtain ⟨x_216, hx_217, hp⟩ := bindp_some hp
    refine st_sidx (Q := F63.Post ax0 F ro r) isN und9 hx_217 ?_
    refine st_int (Q := F63.Post ax0 F ro r) ?_
    obtain ⟨x_218, hx_219, hp⟩ := bindp_some hp
    refine st_sidx (Q := F63.Post ax0 F ro r) isN und9 hx_219 ?_
    refine st_int (Q := F63.Post ax0 F ro r) ?_
    obtain ⟨x_220, hx_221, hp⟩ := bindp_some hp
    refine st_idxSV (Q := F63.Post ax0 F ro r) isN isN hs und22 siz5 siz5 (fun _ => rfl) hx_221 fun h_222 hs_223 => ?_
    obtain ⟨x_224, hx_225, hp⟩ := bindp_some hp
    refine st_idxSV (Q := F63.Post ax0 F ro r) isO isO hs_223 und22 siz5 siz5 (fun _ => rfl) hx_225 fun h_226 hs_227 => ?_
    exact F63.J25_ok hora l65 c65 x_224 (IntKind.i64.wrap (n66 - 2)) (IntKind.u32.wrap (Int.tdiv n67 100)) _ hs_227 hp
  · replace hp := ifp_f hc_215 hp
    exact F63.J25_ok hora l65 c65 xa65 n66 n67 _ hs hp

def F63.J12p (lf : Nat) (l5 : Nat) (xa5 : List Int) (n6 : Int) (n7 : Int) : Option (List Int) :=
  ifp (decide (n7 ≥ 4)) (
    bindp (sidxp (⟨#[48, 48, 48, 49, 48, 50, 48, 51, 48, 52, 48, 53, 48, 54, 48, 55, 48, 56, 48, 57, 49, 48, 49, 49, 49, 50, 49, 51, 49, 52, 49, 53, 49, 54, 49, 55, 49, 56, 49, 57, 50, 48, 50, 49, 50, 50, 50, 51, 50, 52, 50, 53, 50, 54, 50, 55, 50, 56, 50, 57, 51, 48, 51, 49, 51, 50, 51, 51, 51, 52, 51, 53, 51, 54, 51, 55, 51, 56, 51, 57, 52, 48, 52, 49, 52, 50, 52, 51, 52, 52, 52, 53, 52, 54, 52, 55, 52, 56, 52, 57, 53, 48, 53, 49, 53, 50, 53, 51, 53, 52, 53, 53, 53, 54, 53, 55, 53, 56, 53, 57, 54, 48, 54, 49, 54, 50, 54, 51, 54, 52, 54, 53, 54, 54, 54, 55, 54, 56, 54, 57, 55, 48, 55, 49, 55, 50, 55, 51, 55, 52, 55, 53, 55, 54, 55, 55, 55, 56, 55, 57, 56, 48, 56, 49, 56, 50, 56, 51, 56, 52, 56, 53, 56, 54, 56, 55, 56, 56, 56, 57, 57, 48, 57, 49, 57, 50, 57, 51, 57, 52, 57, 53, 57, 54, 57, 55, 57, 56, 57, 57]⟩ : ByteArray) (IntKind.u32.wrap ((IntKind.u32.wrap ((Int.tmod (Int.tmod (IntKind.u32.wrap n6) 10000) 100) * 2)) + 1))) fun x_191 =>
    bindp (sidxp (⟨#[48, 48, 48, 49, 48, 50, 48, 51, 48, 52, 48, 53, 48, 54, 48, 55, 48, 56, 48, 57, 49, 48, 49, 49, 49, 50, 49, 51, 49, 52, 49, 53, 49, 54, 49, 55, 49, 56, 49, 57, 50, 48, 50, 49, 50, 50, 50, 51, 50, 52, 50, 53, 50, 54, 50, 55, 50, 56, 50, 57, 51, 48, 51, 49, 51, 50, 51, 51, 51, 52, 51, 53, 51, 54, 51, 55, 51, 56, 51, 57, 52, 48, 52, 49, 52, 50, 52, 51, 52, 52, 52, 53, 52, 54, 52, 55, 52, 56, 52, 57, 53, 48, 53, 49, 53, 50, 53, 51, 53, 52, 53, 53, 53, 54, 53, 55, 53, 56, 53, 57, 54, 48, 54, 49, 54, 50, 54, 51, 54, 52, 54, 53, 54, 54, 54, 55, 54, 56, 54, 57, 55, 48, 55, 49, 55, 50, 55, 51, 55, 52, 55, 53, 55, 54, 55, 55, 55, 56, 55, 57, 56, 48, 56, 49, 56, 50, 56, 51, 56, 52, 56, 53, 56, 54, 56, 55, 56, 56, 56, 57, 57, 48, 57, 49, 57, 50, 57, 51, 57, 52, 57, 53, 57, 54, 57, 55, 57, 56, 57, 57]⟩ : ByteArray) (IntKind.u32.wrap ((Int.tmod (Int.tmod (IntKind.u32.wrap n6) 10000) 100) * 2))) fun x_193 =>
    bindp (vsetp l5 xa5 (IntKind.i64.wrap (n7 - 1)) x_191) fun x_195 =>
    bindp (vsetp l5 x_195 (IntKind.i64.wrap (n7 - 2)) x_193) fun x_199 =>
    bindp (sidxp (⟨#[48, 48, 48, 49, 48, 50, 48, 51, 48, 52, 48, 53, 48, 54, 48, 55, 48, 56, 48, 57, 49, 48, 49, 49, 49, 50, 49, 51, 49, 52, 49, 53, 49, 54, 49, 55, 49, 56, 49, 57, 50, 48, 50, 49, 50, 50, 50, 51, 50, 52, 50, 53, 50, 54, 50, 55, 50, 56, 50, 57, 51, 48, 51, 49, 51, 50, 51, 51, 51, 52, 51, 53, 51, 54, 51, 55, 51, 56, 51, 57, 52, 48, 52, 49, 52, 50, 52, 51, 52, 52, 52, 53, 52, 54, 52, 55, 52, 56, 52, 57, 53, 48, 53, 49, 53, 50, 53, 51, 53, 52, 53, 53, 53, 54, 53, 55, 53, 56, 53, 57, 54, 48, 54, 49, 54, 50, 54, 51, 54, 52, 54, 53, 54, 54, 54, 55, 54, 56, 54, 57, 55, 48, 55, 49, 55, 50, 55, 51, 55, 52, 55, 53, 55, 54, 55, 55, 55, 56, 55, 57, 56, 48, 56, 49, 56, 50, 56, 51, 56, 52, 56, 53, 56, 54, 56, 55, 56, 56, 56, 57, 57, 48, 57, 49, 57, 50, 57, 51, 57, 52, 57, 53, 57, 54, 57, 55, 57, 56, 57, 57]⟩ : ByteArray) (IntKind.u32.wrap ((IntKind.u32.wrap ((IntKind.u32.wrap (Int.tdiv (Int.tmod (IntKind.u32.wrap n6) 10000) 100)) * 2)) + 1))) fun x_203 =>
    bindp (sidxp (⟨#[48, 48, 48, 49, 48, 50, 48, 51, 48, 52, 48, 53, 48, 54, 48, 55, 48, 56, 48, 57, 49, 48, 49, 49, 49, 50, 49, 51, 49, 52, 49, 53, 49, 54, 49, 55, 49, 56, 49, 57, 50, 48, 50, 49, 50, 50, 50, 51, 50, 52, 50, 53, 50, 54, 50, 55, 50, 56, 50, 57, 51, 48, 51, 49, 51, 50, 51, 51, 51, 52, 51, 53, 51, 54, 51, 55, 51, 56, 51, 57, 52, 48, 52, 49, 52, 50, 52, 51, 52, 52, 52, 53, 52, 54, 52, 55, 52, 56, 52, 57, 53, 48, 53, 49, 53, 50, 53, 51, 53, 52, 53, 53, 53, 54, 53, 55, 53, 56, 53, 57, 54, 48, 54, 49, 54, 50, 54, 51, 54, 52, 54, 53, 54, 54, 54, 55, 54, 56, 54, 57, 55, 48, 55, 49, 55, 50, 55, 51, 55, 52, 55, 53, 55, 54, 55, 55, 55, 56, 55, 57, 56, 48, 56, 49, 56, 50, 56, 51, 56, 52, 56, 53, 56, 54, 56, 55, 56, 56, 56, 57, 57, 48, 57, 49, 57, 50, 57, 51, 57, 52, 57, 53, 57, 54, 57, 55, 57, 56, 57, 57]⟩ : ByteArray) (IntKind.u32.wrap ((IntKind.u32.wrap (Int.tdiv (Int.tmod (IntKind.u32.wrap n6) 10000) 100)) * 2))) fun x_205 =>
    bindp (vsetp l5 x_199 (IntKind.i64.wrap (n7 - 3)) x_203) fun x_207 =>
    bindp (vsetp l5 x_207 (IntKind.i64.wrap (n7 - 4)) x_205) fun x_211 =>
    F63.J20p lf l5 x_211 (IntKind.i64.wrap (n7 - 4)) (IntKind.u32.wrap (Int.tdiv (IntKind.u32.wrap n6) 10000))) (
    F63.J20p lf l5 xa5 n7 (IntKind.u32.wrap n6))

theorem F63.J12_ok {ora : Ora} (hora : HOra ora) {lf ro : Nat} {F : List Ent} {r : (List Int)} {ax0 : Option Addr} (l5 : Nat) (c5 : Nat) (xa5 : List Int) (n6 : Int) (n7 : Int) (h : Heap) (hs : Sat ro h (.own ro ax0 1 (xa5.map (Value.int .u8)) :: F)) (hp : F63.J12p lf l5 xa5 n6 n7 = some r) : F63.Post ax0 F ro r (F63.J12 (callW Tryd.prog ora) lf ro ax0 l5 c5 n6 n7 h) := by
  unfold F63.J12
  unfold F63.J12p at hp
  refine st_if (Q := F63.Post ax0 F ro r) (fun hc_190 => ?_) (fun hc_190 => ?_)
  · replace hp := ifp_t hc_190 hp
    obtain ⟨x_191, hx_192, hp⟩ := bindp_some hp
    refine st_sidx (Q := F63.Post ax0 F ro r) isN und9 hx_192 ?_
    refine st_int (Q := F63.Post ax0 F ro r) ?_
    obtain ⟨x_193, hx_194, hp⟩ := bindp_some hp
    refine st_sidx (Q := F63.Post ax0 F ro r) isN und9 hx_194 ?_
    refine st_int (Q := F63.Post ax0 F ro r) ?_
    obtain ⟨x_195, hx_196, hp⟩ := bindp_some hp
    refine st_idxSV (Q := F63.Post ax0 F ro r) isN isN hs und22 siz5 siz5 (fun _ => rfl) hx_196 fun h_197 hs_198 => ?_
    obtain ⟨x_199, hx_200, hp⟩ := bindp_some hp
    refine st_idxSV (Q := F63.Post ax0 F ro r) isO isO hs_198 und22 siz5 siz5 (fun _ => rfl) hx_200 fun h_201 hs_202 => ?_
    obtain ⟨x_203, hx_204, hp⟩ := bindp_some hp
    refine st_sidx (Q := F63.Post ax0 F ro r) isN und9 hx_204 ?_
    refine st_int (Q := F63.Post ax0 F ro r) ?_
    obtain ⟨x_205, hx_206, hp⟩ := bindp_some hp
    refine st_sidx (Q := F63.Post ax0 F ro r) isN und9 hx_206 ?_
    refine st_int (Q := F63.Post ax0 F ro r) ?_
    obtain ⟨x_207, hx_208, hp⟩ := bindp_some hp
    refine st_idxSV (Q := F63.Post ax0 F ro r) isN isN hs_202 und22 siz5 siz5 (fun _ => rfl) hx_208 fun h_209 hs_210 => ?_
    obtain ⟨x_211, hx_212, hp⟩ := bindp_some hp
    refine st_idxSV (Q := F63.Post ax0 F ro r) isO isO hs_210 und22 siz5 siz5 (fun _ => rfl) hx_212 fun h_213 hs_214 => ?_
    exact F63.J20_ok hora l5 c5 x_211 (IntKind.i64.wrap (n7 - 4)) (IntKind.u32.wrap (Int.tdiv (IntKind.u32.wrap n6) 10000)) _ hs_214 hp
  · replace hp := ifp_f hc_190 hp
    exact F63.J20_ok hora l5 c5 xa5 n7 (IntKind.u32.wrap n6) _ hs hp

def F63.L1p (lf : Nat) : Nat → Nat → List Int → Int → Int → Option (List Int)
  | 0, _, _, _, _ => none
  | n + 1, l1, xa1, n2, n3 =>
  ifp (decide (n3 ≥ 8)) (
    bindp (sidxp (⟨#[48, 48, 48, 49, 48, 50, 48, 51, 48, 52, 48, 53, 48, 54, 48, 55, 48, 56, 48, 57, 49, 48, 49, 49, 49, 50, 49, 51, 49, 52, 49, 53, 49, 54, 49, 55, 49, 56, 49, 57, 50, 48, 50, 49, 50, 50, 50, 51, 50, 52, 50, 53, 50, 54, 50, 55, 50, 56, 50, 57, 51, 48, 51, 49, 51, 50, 51, 51, 51, 52, 51, 53, 51, 54, 51, 55, 51, 56, 51, 57, 52, 48, 52, 49, 52, 50, 52, 51, 52, 52, 52, 53, 52, 54, 52, 55, 52, 56, 52, 57, 53, 48, 53, 49, 53, 50, 53, 51, 53, 52, 53, 53, 53, 54, 53, 55, 53, 56, 53, 57, 54, 48, 54, 49, 54, 50, 54, 51, 54, 52, 54, 53, 54, 54, 54, 55, 54, 56, 54, 57, 55, 48, 55, 49, 55, 50, 55, 51, 55, 52, 55, 53, 55, 54, 55, 55, 55, 56, 55, 57, 56, 48, 56, 49, 56, 50, 56, 51, 56, 52, 56, 53, 56, 54, 56, 55, 56, 56, 56, 57, 57, 48, 57, 49, 57, 50, 57, 51, 57, 52, 57, 53, 57, 54, 57, 55, 57, 56, 57, 57]⟩ : ByteArray) (IntKind.u32.wrap ((IntKind.u32.wrap ((Int.tmod (Int.tmod (IntKind.u32.wrap (Int.tmod n2 100000000)) 10000) 100) * 2)) + 1))) fun x_142 =>
    bindp (sidxp (⟨#[48, 48, 48, 49, 48, 50, 48, 51, 48, 52, 48, 53, 48, 54, 48, 55, 48, 56, 48, 57, 49, 48, 49, 49, 49, 50, 49, 51, 49, 52, 49, 53, 49, 54, 49, 55, 49, 56, 49, 57, 50, 48, 50, 49, 50, 50, 50, 51, 50, 52, 50, 53, 50, 54, 50, 55, 50, 56, 50, 57, 51, 48, 51, 49, 51, 50, 51, 51, 51, 52, 51, 53, 51, 54, 51, 55, 51, 56, 51, 57, 52, 48, 52, 49, 52, 50, 52, 51, 52, 52, 52, 53, 52, 54, 52, 55, 52, 56, 52, 57, 53, 48, 53, 49, 53, 50, 53, 51, 53, 52, 53, 53, 53, 54, 53, 55, 53, 56, 53, 57, 54, 48, 54, 49, 54, 50, 54, 51, 54, 52, 54, 53, 54, 54, 54, 55, 54, 56, 54, 57, 55, 48, 55, 49, 55, 50, 55, 51, 55, 52, 55, 53, 55, 54, 55, 55, 55, 56, 55, 57, 56, 48, 56, 49, 56, 50, 56, 51, 56, 52, 56, 53, 56, 54, 56, 55, 56, 56, 56, 57, 57, 48, 57, 49, 57, 50, 57, 51, 57, 52, 57, 53, 57, 54, 57, 55, 57, 56, 57, 57]⟩ : ByteArray) (IntKind.u32.wrap ((Int.tmod (Int.tmod (IntKind.u32.wrap (Int.tmod n2 100000000)) 10000) 100) * 2))) fun x_144 =>
    bindp (vsetp l1 xa1 (IntKind.i64.wrap (n3 - 1)) x_142) fun x_146 =>
    bindp (vsetp l1 x_146 (IntKind.i64.wrap (n3 - 2)) x_144) fun x_150 =>
    bindp (sidxp (⟨#[48, 48, 48, 49, 48, 50, 48, 51, 48, 52, 48, 53, 48, 54, 48, 55, 48, 56, 48, 57, 49, 48, 49, 49, 49, 50, 49, 51, 49, 52, 49, 53, 49, 54, 49, 55, 49, 56, 49, 57, 50, 48, 50, 49, 50, 50, 50, 51, 50, 52, 50, 53, 50, 54, 50, 55, 50, 56, 50, 57, 51, 48, 51, 49, 51, 50, 51, 51, 51, 52, 51, 53, 51, 54, 51, 55, 51, 56, 51, 57, 52, 48, 52, 49, 52, 50, 52, 51, 52, 52, 52, 53, 52, 54, 52, 55, 52, 56, 52, 57, 53, 48, 53, 49, 53, 50, 53, 51, 53, 52, 53, 53, 53, 54, 53, 55, 53, 56, 53, 57, 54, 48, 54, 49, 54, 50, 54, 51, 54, 52, 54, 53, 54, 54, 54, 55, 54, 56, 54, 57, 55, 48, 55, 49, 55, 50, 55, 51, 55, 52, 55, 53, 55, 54, 55, 55, 55, 56, 55, 57, 56, 48, 56, 49, 56, 50, 56, 51, 56, 52, 56, 53, 56, 54, 56, 55, 56, 56, 56, 57, 57, 48, 57, 49, 57, 50, 57, 51, 57, 52, 57, 53, 57, 54, 57, 55, 57, 56, 57, 57]⟩ : ByteArray) (IntKind.u32.wrap ((IntKind.u32.wrap ((IntKind.u32.wrap (Int.tdiv (Int.tmod (IntKind.u32.wrap (Int.tmod n2 100000000)) 10000) 100)) * 2)) + 1))) fun x_154 =>
    bindp (sidxp (⟨#[48, 48, 48, 49, 48, 50, 48, 51, 48, 52, 48, 53, 48, 54, 48, 55, 48, 56, 48, 57, 49, 48, 49, 49, 49, 50, 49, 51, 49, 52, 49, 53, 49, 54, 49, 55, 49, 56, 49, 57, 50, 48, 50, 49, 50, 50, 50, 51, 50, 52, 50, 53, 50, 54, 50, 55, 50, 56, 50, 57, 51, 48, 51, 49, 51, 50, 51, 51, 51, 52, 51, 53, 51, 54, 51, 55, 51, 56, 51, 57, 52, 48, 52, 49, 52, 50, 52, 51, 52, 52, 52, 53, 52, 54, 52, 55, 52, 56, 52, 57, 53, 48, 53, 49, 53, 50, 53, 51, 53, 52, 53, 53, 53, 54, 53, 55, 53, 56, 53, 57, 54, 48, 54, 49, 54, 50, 54, 51, 54, 52, 54, 53, 54, 54, 54, 55, 54, 56, 54, 57, 55, 48, 55, 49, 55, 50, 55, 51, 55, 52, 55, 53, 55, 54, 55, 55, 55, 56, 55, 57, 56, 48, 56, 49, 56, 50, 56, 51, 56, 52, 56, 53, 56, 54, 56, 55, 56, 56, 56, 57, 57, 48, 57, 49, 57, 50, 57, 51, 57, 52, 57, 53, 57, 54, 57, 55, 57, 56, 57, 57]⟩ : ByteArray) (IntKind.u32.wrap ((IntKind.u32.wrap (Int.tdiv (Int.tmod (IntKind.u32.wrap (Int.tmod n2 100000000)) 10000) 100)) * 2))) fun x_156 =>
    bindp (vsetp l1 x_150 (IntKind.i64.wrap (n3 - 3)) x_154) fun x_158 =>
    bindp (vsetp l1 x_158 (IntKind.i64.wrap (n3 - 4)) x_156) fun x_162 =>
    bindp (sidxp (⟨#[48, 48, 48, 49, 48, 50, 48, 51, 48, 52, 48, 53, 48, 54, 48, 55, 48, 56, 48, 57, 49, 48, 49, 49, 49, 50, 49, 51, 49, 52, 49, 53, 49, 54, 49, 55, 49, 56, 49, 57, 50, 48, 50, 49, 50, 50, 50, 51, 50, 52, 50, 53, 50, 54, 50, 55, 50, 56, 50, 57, 51, 48, 51, 49, 51, 50, 51, 51, 51, 52, 51, 53, 51, 54, 51, 55, 51, 56, 51, 57, 52, 48, 52, 49, 52, 50, 52, 51, 52, 52, 52, 53, 52, 54, 52, 55, 52, 56, 52, 57, 53, 48, 53, 49, 53, 50, 53, 51, 53, 52, 53, 53, 53, 54, 53, 55, 53, 56, 53, 57, 54, 48, 54, 49, 54, 50, 54, 51, 54, 52, 54, 53, 54, 54, 54, 55, 54, 56, 54, 57, 55, 48, 55, 49, 55, 50, 55, 51, 55, 52, 55, 53, 55, 54, 55, 55, 55, 56, 55, 57, 56, 48, 56, 49, 56, 50, 56, 51, 56, 52, 56, 53, 56, 54, 56, 55, 56, 56, 56, 57, 57, 48, 57, 49, 57, 50, 57, 51, 57, 52, 57, 53, 57, 54, 57, 55, 57, 56, 57, 57]⟩ : ByteArray) (IntKind.u32.wrap ((IntKind.u32.wrap ((Int.tmod (IntKind.u32.wrap (Int.tdiv (IntKind.u32.wrap (Int.tmod n2 100000000)) 10000)) 100) * 2)) + 1))) fun x_166 =>
    bindp (sidxp (⟨#[48, 48, 48, 49, 48, 50, 48, 51, 48, 52, 48, 53, 48, 54, 48, 55, 48, 56, 48, 57, 49, 48, 49, 49, 49, 50, 49, 51, 49, 52, 49, 53, 49, 54, 49, 55, 49, 56, 49, 57, 50, 48, 50, 49, 50, 50, 50, 51, 50, 52, 50, 53, 50, 54, 50, 55, 50, 56, 50, 57, 51, 48, 51, 49, 51, 50, 51, 51, 51, 52, 51, 53, 51, 54, 51, 55, 51, 56, 51, 57, 52, 48, 52, 49, 52, 50, 52, 51, 52, 52, 52, 53, 52, 54, 52, 55, 52, 56, 52, 57, 53, 48, 53, 49, 53, 50, 53, 51, 53, 52, 53, 53, 53, 54, 53, 55, 53, 56, 53, 57, 54, 48, 54, 49, 54, 50, 54, 51, 54, 52, 54, 53, 54, 54, 54, 55, 54, 56, 54, 57, 55, 48, 55, 49, 55, 50, 55, 51, 55, 52, 55, 53, 55, 54, 55, 55, 55, 56, 55, 57, 56, 48, 56, 49, 56, 50, 56, 51, 56, 52, 56, 53, 56, 54, 56, 55, 56, 56, 56, 57, 57, 48, 57, 49, 57, 50, 57, 51, 57, 52, 57, 53, 57, 54, 57, 55, 57, 56, 57, 57]⟩ : ByteArray) (IntKind.u32.wrap ((Int.tmod (IntKind.u32.wrap (Int.tdiv (IntKind.u32.wrap (Int.tmod n2 100000000)) 10000)) 100) * 2))) fun x_168 =>
    bindp (vsetp l1 x_162 (IntKind.i64.wrap (n3 - 5)) x_166) fun x_170 =>
    bindp (vsetp l1 x_170 (IntKind.i64.wrap (n3 - 6)) x_168) fun x_174 =>
    bindp (sidxp (⟨#[48, 48, 48, 49, 48, 50, 48, 51, 48, 52, 48, 53, 48, 54, 48, 55, 48, 56, 48, 57, 49, 48, 49, 49, 49, 50, 49, 51, 49, 52, 49, 53, 49, 54, 49, 55, 49, 56, 49, 57, 50, 48, 50, 49, 50, 50, 50, 51, 50, 52, 50, 53, 50, 54, 50, 55, 50, 56, 50, 57, 51, 48, 51, 49, 51, 50, 51, 51, 51, 52, 51, 53, 51, 54, 51, 55, 51, 56, 51, 57, 52, 48, 52, 49, 52, 50, 52, 51, 52, 52, 52, 53, 52, 54, 52, 55, 52, 56, 52, 57, 53, 48, 53, 49, 53, 50, 53, 51, 53, 52, 53, 53, 53, 54, 53, 55, 53, 56, 53, 57, 54, 48, 54, 49, 54, 50, 54, 51, 54, 52, 54, 53, 54, 54, 54, 55, 54, 56, 54, 57, 55, 48, 55, 49, 55, 50, 55, 51, 55, 52, 55, 53, 55, 54, 55, 55, 55, 56, 55, 57, 56, 48, 56, 49, 56, 50, 56, 51, 56, 52, 56, 53, 56, 54, 56, 55, 56, 56, 56, 57, 57, 48, 57, 49, 57, 50, 57, 51, 57, 52, 57, 53, 57, 54, 57, 55, 57, 56, 57, 57]⟩ : ByteArray) (IntKind.u32.wrap ((IntKind.u32.wrap ((IntKind.u32.wrap (Int.tdiv (IntKind.u32.wrap (Int.tdiv (IntKind.u32.wrap (Int.tmod n2 100000000)) 10000)) 100)) * 2)) + 1))) fun x_178 =>
    bindp (sidxp (⟨#[48, 48, 48, 49, 48, 50, 48, 51, 48, 52, 48, 53, 48, 54, 48, 55, 48, 56, 48, 57, 49, 48, 49, 49, 49, 50, 49, 51, 49, 52, 49, 53, 49, 54, 49, 55, 49, 56, 49, 57, 50, 48, 50, 49, 50, 50, 50, 51, 50, 52, 50, 53, 50, 54, 50, 55, 50, 56, 50, 57, 51, 48, 51, 49, 51, 50, 51, 51, 51, 52, 51, 53, 51, 54, 51, 55, 51, 56, 51, 57, 52, 48, 52, 49, 52, 50, 52, 51, 52, 52, 52, 53, 52, 54, 52, 55, 52, 56, 52, 57, 53, 48, 53, 49, 53, 50, 53, 51, 53, 52, 53, 53, 53, 54, 53, 55, 53, 56, 53, 57, 54, 48, 54, 49, 54, 50, 54, 51, 54, 52, 54, 53, 54, 54, 54, 55, 54, 56, 54, 57, 55, 48, 55, 49, 55, 50, 55, 51, 55, 52, 55, 53, 55, 54, 55, 55, 55, 56, 55, 57, 56, 48, 56, 49, 56, 50, 56, 51, 56, 52, 56, 53, 56, 54, 56, 55, 56, 56, 56, 57, 57, 48, 57, 49, 57, 50, 57, 51, 57, 52, 57, 53, 57, 54, 57, 55, 57, 56, 57, 57]⟩ : ByteArray) (IntKind.u32.wrap ((IntKind.u32.wrap (Int.tdiv (IntKind.u32.wrap (Int.tdiv (IntKind.u32.wrap (Int.tmod n2 100000000)) 10000)) 100)) * 2))) fun x_180 =>
    bindp (vsetp l1 x_174 (IntKind.i64.wrap (n3 - 7)) x_178) fun x_182 =>
    bindp (vsetp l1 x_182 (IntKind.i64.wrap (n3 - 8)) x_180) fun x_186 =>
    F63.L1p lf n l1 x_186 (IntKind.u64.wrap (Int.tdiv n2 100000000)) (IntKind.i64.wrap (n3 - 8))) (
    F63.J12p lf l1 xa1 n2 n3)

theorem F63.L1_ok {ora : Ora} (hora : HOra ora) {lf ro : Nat} {F : List Ent} {r : (List Int)} {ax0 : Option Addr} : ∀ (n : Nat) (l1 : Nat) (c1 : Nat) (xa1 : List Int) (n2 : Int) (n3 : Int) (h : Heap), Sat ro h (.own ro ax0 1 (xa1.map (Value.int .u8)) :: F) → F63.L1p lf n l1 xa1 n2 n3 = some r → F63.Post ax0 F ro r (F63.L1 (callW Tryd.prog ora) lf ro n ax0 l1 c1 n2 n3 h) := by
  intro n
  induction n with
  | zero => intro l1 c1 xa1 n2 n3 h hs hp; cases hp
  | succ n ih =>
    intro l1 c1 xa1 n2 n3 h hs hp
    unfold F63.L1
    unfold F63.L1p at hp
    refine st_if (Q := F63.Post ax0 F ro r) (fun hc_141 => ?_) (fun hc_141 => ?_)
    · replace hp := ifp_t hc_141 hp
      obtain ⟨x_142, hx_143, hp⟩ := bindp_some hp
      refine st_sidx (Q := F63.Post ax0 F ro r) isN und9 hx_143 ?_
      refine st_int (Q := F63.Post ax0 F ro r) ?_
      obtain ⟨x_144, hx_145, hp⟩ := bindp_some hp
      refine st_sidx (Q := F63.Post ax0 F ro r) isN und9 hx_145 ?_
      refine st_int (Q := F63.Post ax0 F ro r) ?_
      obtain ⟨x_146, hx_147, hp⟩ := bindp_some hp
      refine st_idxSV (Q := F63.Post ax0 F ro r) isN isN hs und22 siz5 siz5 (fun _ => rfl) hx_147 fun h_148 hs_149 => ?_
      obtain ⟨x_150, hx_151, hp⟩ := bindp_some hp
      refine st_idxSV (Q := F63.Post ax0 F ro r) isO isO hs_149 und22 siz5 siz5 (fun _ => rfl) hx_151 fun h_152 hs_153 => ?_
      obtain ⟨x_154, hx_155, hp⟩ := bindp_some hp
      refine st_sidx (Q := F63.Post ax0 F ro r) isN und9 hx_155 ?_
      refine st_int (Q := F63.Post ax0 F ro r) ?_
      obtain ⟨x_156, hx_157, hp⟩ := bindp_some hp
      refine st_sidx (Q := F63.Post ax0 F ro r) isN und9 hx_157 ?_
      refine st_int (Q := F63.Post ax0 F ro r) ?_
      obtain ⟨x_158, hx_159, hp⟩ := bindp_some hp
      refine st_idxSV (Q := F63.Post ax0 F ro r) isN isN hs_153 und22 siz5 siz5 (fun _ => rfl) hx_159 fun h_160 hs_161 => ?_
      obtain ⟨x_162, hx_163, hp⟩ := bindp_some hp
      refine st_idxSV (Q := F63.Post ax0 F ro r) isO isO hs_161 und22 siz5 siz5 (fun _ => rfl) hx_163 fun h_164 hs_165 => ?_
      obtain ⟨x_166, hx_167, hp⟩ := bindp_some hp
      refine st_sidx (Q := F63.Post ax0 F ro r) isN und9 hx_167 ?_
      refine st_int (Q := F63.Post ax0 F ro r) ?_
      obtain ⟨x_168, hx_169, hp⟩ := bindp_some hp
      refine st_sidx (Q := F63.Post ax0 F ro r) isN und9 hx_169 ?_
      refine st_int (Q := F63.Post ax0 F ro r) ?_
      obtain ⟨x_170, hx_171, hp⟩ := bindp_some hp
      refine st_idxSV (Q := F63.Post ax0 F ro r) isN isN hs_165 und22 siz5 siz5 (fun _ => rfl) hx_171 fun h_172 hs_173 => ?_
      obtain ⟨x_174, hx_175, hp⟩ := bindp_some hp
      refine st_idxSV (Q := F63.Post ax0 F ro r) isO isO hs_173 und22 siz5 siz5 (fun _ => rfl) hx_175 fun h_176 hs_177 => ?_
      obtain ⟨x_178, hx_179, hp⟩ := bindp_some hp
      refine st_sidx (Q := F63.Post ax0 F ro r) isN und9 hx_179 ?_
      refine st_int (Q := F63.Post ax0 F ro r) ?_
      obtain ⟨x_180, hx_181, hp⟩ := bindp_some hp
      refine st_sidx (Q := F63.Post ax0 F ro r) isN und9 hx_181 ?_
      refine st_int (Q := F63.Post ax0 F ro r) ?_
      obtain ⟨x_182, hx_183, hp⟩ := bindp_some hp
      refine st_idxSV (Q := F63.Post ax0 F ro r) isN isN hs_177 und22 siz5 siz5 (fun _ => rfl) hx_183 fun h_184 hs_185 => ?_
      obtain ⟨x_186, hx_187, hp⟩ := bindp_some hp
      refine st_idxSV (Q := F63.Post ax0 F ro r) isO isO hs_185 und22 siz5 siz5 (fun _ => rfl) hx_187 fun h_188 hs_189 => ?_
      exact ih l1 c1 x_186 (IntKind.u64.wrap (Int.tdiv n2 100000000)) (IntKind.i64.wrap (n3 - 8)) _ hs_189 hp
    · replace hp := ifp_f hc_141 hp
      exact F63.J12_ok hora l1 c1 xa1 n2 n3 _ hs hp

def F63.p (lf : Nat) (lx0 : Nat) (xax0 : List Int) (x1 : Int) : Option (List Int) :=
  F63.L1p lf lf lx0 xax0 x1 (lx0 : Int)

theorem F63.t_ok {ora : Ora} (hora : HOra ora) {lf ro : Nat} {F : List Ent} {r : (List Int)} {ax0 : Option Addr} (lx0 : Nat) (cx0 : Nat) (xax0 : List Int) (x1 : Int) (h : Heap) (hs : Sat ro h (.own ro ax0 1 (xax0.map (Value.int .u8)) :: F)) (hp : F63.p lf lx0 xax0 x1 = some r) : F63.Post ax0 F ro r (F63.t (callW Tryd.prog ora) lf ro ax0 lx0 cx0 x1 h) := by
  unfold F63.t
  unfold F63.p at hp
  exact F63.L1_ok hora lf lx0 cx0 xax0 x1 (lx0 : Int) _ hs hp

theorem F63.ok {ora : Ora} (hora : HOra ora) {lf ro : Nat} {F : List Ent} {r : (List Int)} {ax0 : Option Addr} (lx0 : Nat) (cx0 : Nat) (xax0 : List Int) (x1 : Int) (h : Heap) (hs : Sat ro h (.own ro ax0 1 (xax0.map (Value.int .u8)) :: F)) (hp : F63.p lf lx0 xax0 x1 = some r) : F63.Post ax0 F ro r (callW Tryd.prog ora ro 63 [.slice ax0 lx0 cx0, .int .u64 x1] h) := by
  have h1 := F63.t_ok hora lx0 cx0 xax0 x1 h hs hp
  have h2 : callW Tryd.prog ora ro 63 [.slice ax0 lx0 cx0, .int .u64 x1] h = _ := callW_body (hora.none _ _ _ _ (by decide)) Tryd.func63 (F63.le (callW Tryd.prog ora) lf ro ax0 lx0 cx0 x1 h) (F63.Post.ne h1)
  rw [h2]; exact h1

def F49.Post (F : List Ent) (ro : Nat) (r : List Int) (x : Out) : Prop := ∃ a0 h', x = .ok (.slice a0 r.length r.length) h' ∧ Sat ro h' (.own ro a0 1 (r.map (Value.int .u8)) :: F)
theorem F49.Post.ne {F : List Ent} {ro : Nat} {r : List Int} {x : Out} (hx : F49.Post F ro r x) : x ≠ .fail := by
  obtain ⟨a0, h', rfl, _⟩ := hx
  simp

def F49.p (lf : Nat) (xax0 : List Int) (x1 : Int) (x2 : Int) : Option (List Int) :=
  ifp (x2 == 10) (
    ifp (decide (x1 < 100)) (
      bindp (F61.p lf (IntKind.i64.wrap x1)) fun r_235 =>
      bindp (appp 1 xax0 (bytp r_235)) fun x_240 =>
      some x_240) (
      bindp (F62.p lf x1) fun r_251 =>
      bindp (arrp 24 [0, 0, 0, 0, 0, 0, 0, 0, 0, 0, 0, 0, 0, 0, 0, 0, 0, 0, 0, 0, 0, 0, 0, 0] r_251) fun n_257 =>
      bindp (F63.p lf n_257 [0, 0, 0, 0, 0, 0, 0, 0, 0, 0, 0, 0, 0, 0, 0, 0, 0, 0, 0, 0, 0, 0, 0, 0] x1) fun r_259 =>
      bindp (arrp 24 r_259 r_251) fun n_264 =>
      bindp (vtakep n_264 r_259) fun x_272 =>
      bindp (appp 1 xax0 x_272) fun x_266 =>
      some x_266)) (
    none)

theorem F49.t_ok {ora : Ora} (hora : HOra ora) {lf ro : Nat} {F : List Ent} {r : (List Int)} (ax0 : Option Addr) (xax0 : List Int) (x1 : Int) (x2 : Int) (h : Heap) (hs : Sat ro h (.own ro ax0 1 (xax0.map (Value.int .u8)) :: .row (some ⟨0, 0, none⟩) 20 (gl0.map (Value.int .u64)) :: F)) (hp : F49.p lf xax0 x1 x2 = some r) : F49.Post F ro r (F49.t (callW Tryd.prog ora) lf ro ax0 xax0.length xax0.length x1 x2 h) := by
  unfold F49.t
  unfold F49.p at hp
  refine st_if (Q := F49.Post F ro r) (fun hc_233 => ?_) (fun hc_233 => ?_)
  · replace hp := ifp_t hc_233 hp
    refine st_if (Q := F49.Post F ro r) (fun hc_234 => ?_) (fun hc_234 => ?_)
    · replace hp := ifp_t hc_234 hp
      obtain ⟨r_235, hx_236, hp⟩ := bindp_some hp
      obtain ⟨h_237, e_239, hs_238⟩ := F61.ok hora (ro := ro) (F := .own ro ax0 1 (xax0.map (Value.int .u8)) :: .row (some ⟨0, 0, none⟩) 20 (gl0.map (Value.int .u64)) :: F) (IntKind.i64.wrap x1) _ hs hx_236
      refine st_ok (Q := F49.Post F ro r) isO e_239 ?_
      refine st_str (Q := F49.Post F ro r) ?_
      obtain ⟨x_240, hx_241, hp⟩ := bindp_some hp
      refine st_appS (Q := F49.Post F ro r) isO hs_238 und22 und9 one5 rfl rfl hx_241 fun a_242 h_243 hs_244 => ?_
      refine st_slice (Q := F49.Post F ro r) ?_
      have hs_245 := hs_244.pull 1 rfl
      have hs_246 := hs_245.tail
      cases hp
      exact ⟨a_242, _, rfl, hs_246⟩
    · replace hp := ifp_f hc_234 hp
      refine st_pushJ (Q := F49.Post F ro r) hs hs.low rfl fun h_247 _ hs_248 => ?_
      have hs_249 := hs_248.pull 2 rfl
      have hs_250 := hs_249.dup
      obtain ⟨r_251, hx_252, hp⟩ := bindp_some hp
      obtain ⟨h_253, e_255, hs_254⟩ := F62.ok hora (ro := ro) (F := .row (some ⟨0, 0, none⟩) 20 (gl0.map (Value.int .u64)) :: .own ro (some ⟨h.next, 0, none⟩) 1 [.int .u8 0, .int .u8 0, .int .u8 0, .int .u8 0, .int .u8 0, .int .u8 0, .int .u8 0, .int .u8 0, .int .u8 0, .int .u8 0, .int .u8 0, .int .u8 0, .int .u8 0, .int .u8 0, .int .u8 0, .int .u8 0, .int .u8 0, .int .u8 0, .int .u8 0, .int .u8 0, .int .u8 0, .int .u8 0, .int .u8 0, .int .u8 0] :: .own ro ax0 1 (xax0.map (Value.int .u8)) :: F) x1 _ hs_250 hx_252
      refine st_ok (Q := F49.Post F ro r) isO e_255 ?_
      refine st_int (Q := F49.Post F ro r) ?_
      have hs_256 := hs_254.pull 1 rfl
      obtain ⟨n_257, hx_258, hp⟩ := bindp_some hp
      refine st_arr (Q := F49.Post F ro r) isO (l := [0, 0, 0, 0, 0, 0, 0, 0, 0, 0, 0, 0, 0, 0, 0, 0, 0, 0, 0, 0, 0, 0, 0, 0]) (f := (Value.int .u8)) hs_256 und86 siz5 (by decide) hx_258 ?_
      refine st_slice (Q := F49.Post F ro r) ?_
      obtain ⟨r_259, hx_260, hp⟩ := bindp_some hp
      obtain ⟨h_261, e_263, hs_262⟩ := F63.ok hora (ro := ro) (ax0 := some ⟨h.next, 0, none⟩) (F := .row (some ⟨0, 0, none⟩) 20 (gl0.map (Value.int .u64)) :: .own ro ax0 1 (xax0.map (Value.int .u8)) :: F) n_257 24 [0, 0, 0, 0, 0, 0, 0, 0, 0, 0, 0, 0, 0, 0, 0, 0, 0, 0, 0, 0, 0, 0, 0, 0] x1 _ hs_256 hx_260
      refine st_ok (Q := F49.Post F ro r) isO e_263 ?_
      refine st_tup (Q := F49.Post F ro r) (l := []) ?_
      refine st_nil (Q := F49.Post F ro r) ?_
      obtain ⟨n_264, hx_265, hp⟩ := bindp_some hp
      refine st_arr (Q := F49.Post F ro r) isO hs_262 und86 siz5 (by decide) hx_265 ?_
      refine st_slice (Q := F49.Post F ro r) ?_
      have hs_271 := hs_262.pull 2 rfl
      obtain ⟨x_272, hx_273, hp⟩ := bindp_some hp
      obtain ⟨x_266, hx_267, hp⟩ := bindp_some hp
      refine st_appV (Q := F49.Post F ro r) isO hs_271 (fun _ => rfl) und22 und22 one5 rfl rfl hx_273 hx_267 fun a_268 h_269 hs_270 => ?_
      refine st_slice (Q := F49.Post F ro r) ?_
      have hs_274 := hs_270.pull 1 rfl
      have hs_275 := hs_274.tail
      have hs_276 := hs_275.pull 1 rfl
      have hs_277 := hs_276.tail
      cases hp
      exact ⟨a_268, _, rfl, hs_277⟩
  · replace hp := ifp_f hc_233 hp
    cases hp

theorem F49.ok {ora : Ora} (hora : HOra ora) {lf ro : Nat} {F : List Ent} {r : (List Int)} (ax0 : Option Addr) (xax0 : List Int) (x1 : Int) (x2 : Int) (h : Heap) (hs : Sat ro h (.own ro ax0 1 (xax0.map (Value.int .u8)) :: .row (some ⟨0, 0, none⟩) 20 (gl0.map (Value.int .u64)) :: F)) (hp : F49.p lf xax0 x1 x2 = some r) : F49.Post F ro r (callW Tryd.prog ora ro 49 [.slice ax0 xax0.length xax0.length, .int .u64 x1, .int .i64 x2] h) := by
  have h1 := F49.t_ok hora ax0 xax0 x1 x2 h hs hp
  have h2 : callW Tryd.prog ora ro 49 [.slice ax0 xax0.length xax0.length, .int .u64 x1, .int .i64 x2] h = _ := callW_body (hora.none _ _ _ _ (by decide)) Tryd.func49 (F49.le (callW Tryd.prog ora) lf ro ax0 xax0.length xax0.length x1 x2 h) (F49.Post.ne h1)
  rw [h2]; exact h1

def F41.Post (F : List Ent) (ro : Nat) (r : List Int) (x : Out) : Prop := ∃ a0 h', x = .ok (.slice a0 r.length r.length) h' ∧ Sat ro h' (.own ro a0 1 (r.map (Value.int .u8)) :: F)
theorem F41.Post.ne {F : List Ent} {ro : Nat} {r : List Int} {x : Out} (hx : F41.Post F ro r x) : x ≠ .fail := by
  obtain ⟨a0, h', rfl, _⟩ := hx
  simp

def F41.p (lf : Nat) (xax0 : List Int) (x1 : Int) (x2 : Int) : Option (List Int) :=
  letJ (fun (xa9 : List Int) (n10 : Int) (n11 : Int) => (
    bindp (F49.p lf xa9 n11 n10) fun r_297 =>
    some r_297 : Option (List Int))) fun j13p =>
  ifp (decide (x1 < 0)) (
    bindp (appp 1 xax0 [45]) fun x_281 =>
    j13p x_281 x2 (IntKind.u64.wrap (0 - (IntKind.u64.wrap x1)))) (
    j13p xax0 x2 (IntKind.u64.wrap x1))

theorem F41.t_ok {ora : Ora} (hora : HOra ora) {lf ro : Nat} {F : List Ent} {r : (List Int)} (ax0 : Option Addr) (xax0 : List Int) (x1 : Int) (x2 : Int) (h : Heap) (hs : Sat ro h (.own ro ax0 1 (xax0.map (Value.int .u8)) :: .row (some ⟨0, 0, none⟩) 20 (gl0.map (Value.int .u64)) :: F)) (hp : F41.p lf xax0 x1 x2 = some r) : F41.Post F ro r (F41.t (callW Tryd.prog ora) lf ro ax0 xax0.length xax0.length x1 x2 h) := by
  unfold F41.t
  unfold F41.p at hp
  refine st_letJ hp (fun j13p j13 => ∀ (a9 : Option Addr) (xa9 : List Int) (n10 : Int) (n11 : Int) (h_293 : Heap), Sat ro h_293 (.own ro a9 1 (xa9.map (Value.int .u8)) :: .row (some ⟨0, 0, none⟩) 20 (gl0.map (Value.int .u64)) :: F) → j13p xa9 n10 n11 = some r → F41.Post F ro r (j13 a9 xa9.length xa9.length n10 n11 h_293)) ?_ ?_
  · intro a9 xa9 n10 n11 h_293 hs hp
    have hs_294 := hs.pull 1 rfl
    have hs_295 := hs_294.dup
    have hs_296 := hs_295.pull 2 rfl
    obtain ⟨r_297, hx_298, hp⟩ := bindp_some hp
    obtain ⟨a_302, h_299, e_301, hs_300⟩ := F49.ok hora (ro := ro) (F := .row (some ⟨0, 0, none⟩) 20 (gl0.map (Value.int .u64)) :: F) a9 xa9 n11 n10 _ hs_296 hx_298
    refine st_ok (Q := F41.Post F ro r) isO e_301 ?_
    refine st_slice (Q := F41.Post F ro r) ?_
    have hs_303 := hs_300.pull 1 rfl
    have hs_304 := hs_303.tail
    cases hp
    exact ⟨a_302, _, rfl, hs_304⟩
  · intro j13p j13 hj13 hp
    refine st_if (Q := F41.Post F ro r) (fun hc_278 => ?_) (fun hc_278 => ?_)
    · replace hp := ifp_t hc_278 hp
      refine st_pushJ (Q := F41.Post F ro r) hs hs.low rfl fun h_279 _ hs_280 => ?_
      have hs_286 := hs_280.pull 1 rfl
      obtain ⟨x_281, hx_282, hp⟩ := bindp_some hp
      refine st_appO (Q := F41.Post F ro r) isO hs_286 (fun _ => rfl) und22 und22 one5 rfl rfl rfl hx_282 fun a_283 h_284 hs_285 => ?_
      refine st_slice (Q := F41.Post F ro r) ?_
      have hs_287 := hs_285.pull 1 rfl
      have hs_288 := hs_287.tail
      have hs_289 := hs_288.pull 1 rfl
      have hs_290 := hs_289.pull 1 rfl
      exact hj13 a_283 x_281 x2 (IntKind.u64.wrap (0 - (IntKind.u64.wrap x1))) _ hs_290 hp
    · replace hp := ifp_f hc_278 hp
      have hs_291 := hs.pull 1 rfl
      have hs_292 := hs_291.pull 1 rfl
      exact hj13 ax0 xax0 x2 (IntKind.u64.wrap x1) _ hs_292 hp

theorem F41.ok {ora : Ora} (hora : HOra ora) {lf ro : Nat} {F : List Ent} {r : (List Int)} (ax0 : Option Addr) (xax0 : List Int) (x1 : Int) (x2 : Int) (h : Heap) (hs : Sat ro h (.own ro ax0 1 (xax0.map (Value.int .u8)) :: .row (some ⟨0, 0, none⟩) 20 (gl0.map (Value.int .u64)) :: F)) (hp : F41.p lf xax0 x1 x2 = some r) : F41.Post F ro r (callW Tryd.prog ora ro 41 [.slice ax0 xax0.length xax0.length, .int .i64 x1, .int .i64 x2] h) := by
  have h1 := F41.t_ok hora ax0 xax0 x1 x2 h hs hp
  have h2 : callW Tryd.prog ora ro 41 [.slice ax0 xax0.length xax0.length, .int .i64 x1, .int .i64 x2] h = _ := callW_body (hora.none _ _ _ _ (by decide)) Tryd.func41 (F41.le (callW Tryd.prog ora) lf ro ax0 xax0.length xax0.length x1 x2 h) (F41.Post.ne h1)
  rw [h2]; exact h1

def F24.Post (F : List Ent) (ro : Nat) (r : List Int) (x : Out) : Prop := ∃ a0 h', x = .ok (.slice a0 r.length r.length) h' ∧ Sat ro h' (.own ro a0 1 (r.map (Value.int .u8)) :: F)
theorem F24.Post.ne {F : List Ent} {ro : Nat} {r : List Int} {x : Out} (hx : F24.Post F ro r x) : x ≠ .fail := by
  obtain ⟨a0, h', rfl, _⟩ := hx
  simp

def F24.p (lf : Nat) (xax0 : List Int) (x1 : Int) (x2 : Int) : Option (List Int) :=
  bindp (F41.p lf xax0 x1 x2) fun r_308 =>
  some r_308

theorem F24.t_ok {ora : Ora} (hora : HOra ora) {lf ro : Nat} {F : List Ent} {r : (List Int)} (ax0 : Option Addr) (xax0 : List Int) (x1 : Int) (x2 : Int) (h : Heap) (hs : Sat ro h (.own ro ax0 1 (xax0.map (Value.int .u8)) :: .row (some ⟨0, 0, none⟩) 20 (gl0.map (Value.int .u64)) :: F)) (hp : F24.p lf xax0 x1 x2 = some r) : F24.Post F ro r (F24.t (callW Tryd.prog ora) lf ro ax0 xax0.length xax0.length x1 x2 h) := by
  unfold F24.t
  unfold F24.p at hp
  have hs_305 := hs.pull 1 rfl
  have hs_306 := hs_305.dup
  have hs_307 := hs_306.pull 2 rfl
  obtain ⟨r_308, hx_309, hp⟩ := bindp_some hp
  obtain ⟨a_313, h_310, e_312, hs_311⟩ := F41.ok hora (ro := ro) (F := .row (some ⟨0, 0, none⟩) 20 (gl0.map (Value.int .u64)) :: F) ax0 xax0 x1 x2 _ hs_307 hx_309
  refine st_ok (Q := F24.Post F ro r) isO e_312 ?_
  refine st_slice (Q := F24.Post F ro r) ?_
  have hs_314 := hs_311.pull 1 rfl
  have hs_315 := hs_314.tail
  cases hp
  exact ⟨a_313, _, rfl, hs_315⟩

theorem F24.ok {ora : Ora} (hora : HOra ora) {lf ro : Nat} {F : List Ent} {r : (List Int)} (ax0 : Option Addr) (xax0 : List Int) (x1 : Int) (x2 : Int) (h : Heap) (hs : Sat ro h (.own ro ax0 1 (xax0.map (Value.int .u8)) :: .row (some ⟨0, 0, none⟩) 20 (gl0.map (Value.int .u64)) :: F)) (hp : F24.p lf xax0 x1 x2 = some r) : F24.Post F ro r (callW Tryd.prog ora ro 24 [.slice ax0 xax0.length xax0.length, .int .i64 x1, .int .i64 x2] h) := by
  have h1 := F24.t_ok hora ax0 xax0 x1 x2 h hs hp
  have h2 : callW Tryd.prog ora ro 24 [.slice ax0 xax0.length xax0.length, .int .i64 x1, .int .i64 x2] h = _ := callW_body (hora.none _ _ _ _ (by decide)) Tryd.func24 (F24.le (callW Tryd.prog ora) lf ro ax0 xax0.length xax0.length x1 x2 h) (F24.Post.ne h1)
  rw [h2]; exact h1

def F26.Post (F : List Ent) (ro : Nat) (r : List Int) (x : Out) : Prop := ∃ a0 h', x = .ok (.slice a0 r.length r.length) h' ∧ Sat ro h' (.own ro a0 1 (r.map (Value.int .u8)) :: F)
theorem F26.Post.ne {F : List Ent} {ro : Nat} {r : List Int} {x : Out} (hx : F26.Post F ro r x) : x ≠ .fail := by
  obtain ⟨a0, h', rfl, _⟩ := hx
  simp

def F26.J6p (lf : Nat) (kb2p : List Int → List Int → List Int → Int → Int → Option (List Int)) (xa29 : List Int) (xa30 : List Int) (xa31 : List Int) (n32 : Int) (n33 : Int) (b34 : Bool) : Option (List Int) :=
  letJ (fun (xa68 : List Int) => (
    kb2p xa68 xa30 xa31 n32 (IntKind.i64.wrap (n33 + 1)) : Option (List Int))) fun j70p =>
  ifp b34 (
    bindp (appp 1 xa29 [10]) fun x_333 =>
    j70p x_333) (
    bindp (appp 1 xa29 [32]) fun x_347 =>
    j70p x_347)

theorem F26.J6_ok {ora : Ora} (hora : HOra ora) {lf ro : Nat} {F : List Ent} {r : (List Int)} {kb2p : List Int → List Int → List Int → Int → Int → Option (List Int)} {kb2 : (Option Addr) → Nat → Nat → (Option Addr) → Nat → Nat → (Option Addr) → Nat → Nat → Int → Int → Heap → Out} (hkb2 : ∀ (a1 : Option Addr) (xa1 : List Int) (a2 : Option Addr) (c2 : Nat) (xa2 : List Int) (a3 : Option Addr) (c3 : Nat) (xa3 : List Int) (n4 : Int) (n5 : Int) (h : Heap), Sat ro h (.own ro a1 1 (xa1.map (Value.int .u8)) :: .row a2 c2 (xa2.map (Value.int .u8)) :: .row a3 c3 (xa3.map (Value.int .u8)) :: .row (some ⟨0, 0, none⟩) 20 (gl0.map (Value.int .u64)) :: F) → kb2p xa1 xa2 xa3 n4 n5 = some r → F26.Post F ro r (kb2 a1 xa1.length xa1.length a2 xa2.length c2 a3 xa3.length c3 n4 n5 h)) (a29 : Option Addr) (xa29 : List Int) (a30 : Option Addr) (c30 : Nat) (xa30 : List Int) (a31 : Option Addr) (c31 : Nat) (xa31 : List Int) (n32 : Int) (n33 : Int) (b34 : Bool) (h : Heap) (hs : Sat ro h (.own ro a29 1 (xa29.map (Value.int .u8)) :: .row a30 c30 (xa30.map (Value.int .u8)) :: .row a31 c31 (xa31.map (Value.int .u8)) :: .row (some ⟨0, 0, none⟩) 20 (gl0.map (Value.int .u64)) :: F)) (hp : F26.J6p lf kb2p xa29 xa30 xa31 n32 n33 b34 = some r) : F26.Post F ro r (F26.J6 (callW Tryd.prog ora) lf ro kb2 a29 xa29.length xa29.length a30 xa30.length c30 a31 xa31.length c31 n32 n33 b34 h) := by
  unfold F26.J6
  unfold F26.J6p at hp
  refine st_letJ hp (fun j70p j70 => ∀ (a68 : Option Addr) (xa68 : List Int) (h_359 : Heap), Sat ro h_359 (.own ro a68 1 (xa68.map (Value.int .u8)) :: .row a30 c30 (xa30.map (Value.int .u8)) :: .row a31 c31 (xa31.map (Value.int .u8)) :: .row (some ⟨0, 0, none⟩) 20 (gl0.map (Value.int .u64)) :: F) → j70p xa68 = some r → F26.Post F ro r (j70 a68 xa68.length xa68.length h_359)) ?_ ?_
  · intro a68 xa68 h_359 hs hp
    have hs_360 := hs.pull 3 rfl
    have hs_361 := hs_360.pull 3 rfl
    have hs_362 := hs_361.pull 3 rfl
    have hs_363 := hs_362.pull 3 rfl
    exact hkb2 a68 xa68 a30 _ xa30 a31 _ xa31 n32 (IntKind.i64.wrap (n33 + 1)) _ hs_363 hp
  · intro j70p j70 hj70 hp
    refine st_if (Q := F26.Post F ro r) (fun hc_330 => ?_) (fun hc_330 => ?_)
    · replace hp := ifp_t hc_330 hp
      refine st_pushJ (Q := F26.Post F ro r) hs hs.low rfl fun h_331 _ hs_332 => ?_
      have hs_338 := hs_332.pull 1 rfl
      obtain ⟨x_333, hx_334, hp⟩ := bindp_some hp
      refine st_appO (Q := F26.Post F ro r) isO hs_338 (fun _ => rfl) und22 und22 one5 rfl rfl rfl hx_334 fun a_335 h_336 hs_337 => ?_
      refine st_slice (Q := F26.Post F ro r) ?_
      have hs_339 := hs_337.pull 1 rfl
      have hs_340 := hs_339.tail
      have hs_341 := hs_340.pull 3 rfl
      have hs_342 := hs_341.pull 3 rfl
      have hs_343 := hs_342.pull 3 rfl
      have hs_344 := hs_343.pull 3 rfl
      exact hj70 a_335 x_333 _ hs_344 hp
    · replace hp := ifp_f hc_330 hp
      refine st_pushJ (Q := F26.Post F ro r) hs hs.low rfl fun h_345 _ hs_346 => ?_
      have hs_352 := hs_346.pull 1 rfl
      obtain ⟨x_347, hx_348, hp⟩ := bindp_some hp
      refine st_appO (Q := F26.Post F ro r) isO hs_352 (fun _ => rfl) und22 und22 one5 rfl rfl rfl hx_348 fun a_349 h_350 hs_351 => ?_
      refine st_slice (Q := F26.Post F ro r) ?_
      have hs_353 := hs_351.pull 1 rfl
      have hs_354 := hs_353.tail
      have hs_355 := hs_354.pull 3 rfl
      have hs_356 := hs_355.pull 3 rfl
      have hs_357 := hs_356.pull 3 rfl
      have hs_358 := hs_357.pull 3 rfl
      exact hj70 a_349 x_347 _ hs_358 hp

def F26.J3p (lf : Nat) (kb2p : List Int → List Int → List Int → Int → Int → Option (List Int)) (xa7 : List Int) (xa8 : List Int) (xa9 : List Int) (n10 : Int) (n11 : Int) : Option (List Int) :=
  bindp (idxp xa9 n11) fun x_317 =>
  bindp (F24.p lf xa7 (IntKind.i64.wrap x_317) 10) fun r_323 =>
  ifp ((Int.tmod n11 17) == 16) (
    F26.J6p lf kb2p r_323 xa8 xa9 n10 n11 true) (
    F26.J6p lf kb2p r_323 xa8 xa9 n10 n11 (n11 == (IntKind.i64.wrap ((xa8.length : Int) - 1))))

theorem F26.J3_ok {ora : Ora} (hora : HOra ora) {lf ro : Nat} {F : List Ent} {r : (List Int)} {kb2p : List Int → List Int → List Int → Int → Int → Option (List Int)} {kb2 : (Option Addr) → Nat → Nat → (Option Addr) → Nat → Nat → (Option Addr) → Nat → Nat → Int → Int → Heap → Out} (hkb2 : ∀ (a1 : Option Addr) (xa1 : List Int) (a2 : Option Addr) (c2 : Nat) (xa2 : List Int) (a3 : Option Addr) (c3 : Nat) (xa3 : List Int) (n4 : Int) (n5 : Int) (h : Heap), Sat ro h (.own ro a1 1 (xa1.map (Value.int .u8)) :: .row a2 c2 (xa2.map (Value.int .u8)) :: .row a3 c3 (xa3.map (Value.int .u8)) :: .row (some ⟨0, 0, none⟩) 20 (gl0.map (Value.int .u64)) :: F) → kb2p xa1 xa2 xa3 n4 n5 = some r → F26.Post F ro r (kb2 a1 xa1.length xa1.length a2 xa2.length c2 a3 xa3.length c3 n4 n5 h)) (a7 : Option Addr) (xa7 : List Int) (a8 : Option Addr) (c8 : Nat) (xa8 : List Int) (a9 : Option Addr) (c9 : Nat) (xa9 : List Int) (n10 : Int) (n11 : Int) (h : Heap) (hs : Sat ro h (.own ro a7 1 (xa7.map (Value.int .u8)) :: .row a8 c8 (xa8.map (Value.int .u8)) :: .row a9 c9 (xa9.map (Value.int .u8)) :: .row (some ⟨0, 0, none⟩) 20 (gl0.map (Value.int .u64)) :: F)) (hp : F26.J3p lf kb2p xa7 xa8 xa9 n10 n11 = some r) : F26.Post F ro r (F26.J3 (callW Tryd.prog ora) lf ro kb2 a7 xa7.length xa7.length a8 xa8.length c8 a9 xa9.length c9 n10 n11 h) := by
  unfold F26.J3
  unfold F26.J3p at hp
  have hs_319 := hs.pull 2 rfl
  obtain ⟨x_317, hx_318, hp⟩ := bindp_some hp
  refine st_idxR (Q := F26.Post F ro r) isO isO hs_319 und22 siz5 agg5 rfl hx_318 ?_
  refine st_int (Q := F26.Post F ro r) ?_
  have hs_320 := hs_319.pull 3 rfl
  have hs_321 := hs_320.dup
  have hs_322 := hs_321.pull 3 rfl
  obtain ⟨r_323, hx_324, hp⟩ := bindp_some hp
  obtain ⟨a_328, h_325, e_327, hs_326⟩ := F24.ok hora (ro := ro) (F := .row (some ⟨0, 0, none⟩) 20 (gl0.map (Value.int .u64)) :: .row a9 c9 (xa9.map (Value.int .u8)) :: .row a8 c8 (xa8.map (Value.int .u8)) :: F) a7 xa7 (IntKind.i64.wrap x_317) 10 _ hs_322 hx_324
  refine st_ok (Q := F26.Post F ro r) isO e_327 ?_
  refine st_slice (Q := F26.Post F ro r) ?_
  refine st_if (Q := F26.Post F ro r) (fun hc_329 => ?_) (fun hc_329 => ?_)
  · replace hp := ifp_t hc_329 hp
    have hs_364 := hs_326.pull 1 rfl
    have hs_365 := hs_364.pull 2 rfl
    have hs_366 := hs_365.pull 3 rfl
    have hs_367 := hs_366.pull 3 rfl
    exact F26.J6_ok hora hkb2 a_328 r_323 a8 _ xa8 a9 _ xa9 n10 n11 true _ hs_367 hp
  · replace hp := ifp_f hc_329 hp
    have hs_368 := hs_326.pull 1 rfl
    have hs_369 := hs_368.pull 2 rfl
    have hs_370 := hs_369.pull 3 rfl
    have hs_371 := hs_370.pull 3 rfl
    exact F26.J6_ok hora hkb2 a_328 r_323 a8 _ xa8 a9 _ xa9 n10 n11 (n11 == (IntKind.i64.wrap ((xa8.length : Int) - 1))) _ hs_371 hp

def F26.L2p (lf : Nat) : Nat → List Int → List Int → List Int → Int → Int → Option (List Int)
  | 0, _, _, _, _, _ => none
  | n + 1, xa1, xa2, xa3, n4, n5 =>
  ifp (decide (n5 < n4)) (
    F26.J3p lf (F26.L2p lf n) xa1 xa2 xa3 n4 n5) (
    some xa1)

theorem F26.L2_ok {ora : Ora} (hora : HOra ora) {lf ro : Nat} {F : List Ent} {r : (List Int)} : ∀ (n : Nat) (a1 : Option Addr) (xa1 : List Int) (a2 : Option Addr) (c2 : Nat) (xa2 : List Int) (a3 : Option Addr) (c3 : Nat) (xa3 : List Int) (n4 : Int) (n5 : Int) (h : Heap), Sat ro h (.own ro a1 1 (xa1.map (Value.int .u8)) :: .row a2 c2 (xa2.map (Value.int .u8)) :: .row a3 c3 (xa3.map (Value.int .u8)) :: .row (some ⟨0, 0, none⟩) 20 (gl0.map (Value.int .u64)) :: F) → F26.L2p lf n xa1 xa2 xa3 n4 n5 = some r → F26.Post F ro r (F26.L2 (callW Tryd.prog ora) lf ro n a1 xa1.length xa1.length a2 xa2.length c2 a3 xa3.length c3 n4 n5 h) := by
  intro n
  induction n with
  | zero => intro a1 xa1 a2 c2 xa2 a3 c3 xa3 n4 n5 h hs hp; cases hp
  | succ n ih =>
    intro a1 xa1 a2 c2 xa2 a3 c3 xa3 n4 n5 h hs hp
    unfold F26.L2
    unfold F26.L2p at hp
    refine st_if (Q := F26.Post F ro r) (fun hc_316 => ?_) (fun hc_316 => ?_)
    · replace hp := ifp_t hc_316 hp
      have hs_372 := hs.pull 3 rfl
      have hs_373 := hs_372.pull 3 rfl
      have hs_374 := hs_373.pull 3 rfl
      have hs_375 := hs_374.pull 3 rfl
      exact F26.J3_ok hora ih a1 xa1 a2 _ xa2 a3 _ xa3 n4 n5 _ hs_375 hp
    · replace hp := ifp_f hc_316 hp
      have hs_376 := hs.pull 1 rfl
      have hs_377 := hs_376.tail
      have hs_378 := hs_377.pull 1 rfl
      have hs_379 := hs_378.tail
      have hs_380 := hs_379.pull 1 rfl
      have hs_381 := hs_380.tail
      cases hp
      exact ⟨a1, _, rfl, hs_381⟩

def F26.p (lf : Nat) (xax0 : List Int) (xax1 : List Int) : Option (List Int) :=
  F26.L2p lf lf xax0 xax1 xax1 (xax1.length : Int) 0

theorem F26.t_ok {ora : Ora} (hora : HOra ora) {lf ro : Nat} {F : List Ent} {r : (List Int)} (ax0 : Option Addr) (xax0 : List Int) (ax1 : Option Addr) (cx1 : Nat) (xax1 : List Int) (h : Heap) (hs : Sat ro h (.own ro ax0 1 (xax0.map (Value.int .u8)) :: .row ax1 cx1 (xax1.map (Value.int .u8)) :: .row (some ⟨0, 0, none⟩) 20 (gl0.map (Value.int .u64)) :: F)) (hp : F26.p lf xax0 xax1 = some r) : F26.Post F ro r (F26.t (callW Tryd.prog ora) lf ro ax0 xax0.length xax0.length ax1 xax1.length cx1 h) := by
  unfold F26.t
  unfold F26.p at hp
  have hs_382 := hs.pull 1 rfl
  have hs_383 := hs_382.dup
  have hs_384 := hs_383.pull 3 rfl
  have hs_385 := hs_384.pull 1 rfl
  have hs_386 := hs_385.pull 2 rfl
  have hs_387 := hs_386.pull 3 rfl
  exact F26.L2_ok hora lf ax0 xax0 ax1 _ xax1 ax1 _ xax1 (xax1.length : Int) 0 _ hs_387 hp

theorem F26.ok {ora : Ora} (hora : HOra ora) {lf ro : Nat} {F : List Ent} {r : (List Int)} (ax0 : Option Addr) (xax0 : List Int) (ax1 : Option Addr) (cx1 : Nat) (xax1 : List Int) (h : Heap) (hs : Sat ro h (.own ro ax0 1 (xax0.map (Value.int .u8)) :: .row ax1 cx1 (xax1.map (Value.int .u8)) :: .row (some ⟨0, 0, none⟩) 20 (gl0.map (Value.int .u64)) :: F)) (hp : F26.p lf xax0 xax1 = some r) : F26.Post F ro r (callW Tryd.prog ora ro 26 [.slice ax0 xax0.length xax0.length, .slice ax1 xax1.length cx1] h) := by
  have h1 := F26.t_ok hora ax0 xax0 ax1 cx1 xax1 h hs hp
  have h2 : callW Tryd.prog ora ro 26 [.slice ax0 xax0.length xax0.length, .slice ax1 xax1.length cx1] h = _ := callW_body (hora.none _ _ _ _ (by decide)) Tryd.func26 (F26.le (callW Tryd.prog ora) lf ro ax0 xax0.length xax0.length ax1 xax1.length cx1 h) (F26.Post.ne h1)
  rw [h2]; exact h1

def F27.Post (F : List Ent) (ro : Nat) (r : List Int) (x : Out) : Prop := ∃ a0 h', x = .ok (.slice a0 r.length r.length) h' ∧ Sat ro h' (.own ro a0 1 (r.map (Value.int .u8)) :: F)
theorem F27.Post.ne {F : List Ent} {ro : Nat} {r : List Int} {x : Out} (hx : F27.Post F ro r x) : x ≠ .fail := by
  obtain ⟨a0, h', rfl, _⟩ := hx
  simp

def F27.J7p (lf : Nat) (kb2p : List Int → List Int → Int → Option (List Int)) (kb6p : List Int → List Int → Int → Int → Int → Option (List Int)) (xa15 : List Int) (xa16 : List Int) (n17 : Int) (n18 : Int) (n19 : Int) : Option (List Int) :=
  letJ (fun (n237 : Int) => (
    kb6p xa15 xa16 n17 n237 (IntKind.i64.wrap (n19 + 1)) : Option (List Int))) fun j239p =>
  letJ (fun (b245 : Bool) => (
    ifp b245 (
      j239p (bOr .u8 (IntKind.u8.wrap (n18 * 2)) 1)) (
      j239p (IntKind.u8.wrap (n18 * 2))) : Option (List Int))) fun j247p =>
  ifp (decide (IntKind.i64.wrap (n17 + n19) < (xa16.length : Int))) (
    bindp (idxp xa16 (IntKind.i64.wrap (n17 + n19))) fun x_391 =>
    j247p (x_391 == 0)) (
    j247p false)

theorem F27.J7_ok {ora : Ora} (hora : HOra ora) {lf ro : Nat} {F : List Ent} {r : (List Int)} {kb2p : List Int → List Int → Int → Option (List Int)} {kb2 : (Option Addr) → Nat → Nat → (Option Addr) → Nat → Nat → Int → Heap → Out} (hkb2 : ∀ (a1 : Option Addr) (xa1 : List Int) (a2 : Option Addr) (c2 : Nat) (xa2 : List Int) (n3 : Int) (h : Heap), Sat ro h (.own ro a1 1 (xa1.map (Value.int .u8)) :: .row a2 c2 (xa2.map (Value.int .u8)) :: F) → kb2p xa1 xa2 n3 = some r → F27.Post F ro r (kb2 a1 xa1.length xa1.length a2 xa2.length c2 n3 h)) {kb6p : List Int → List Int → Int → Int → Int → Option (List Int)} {kb6 : (Option Addr) → Nat → Nat → (Option Addr) → Nat → Nat → Int → Int → Int → Heap → Out} (hkb6 : ∀ (a9 : Option Addr) (xa9 : List Int) (a10 : Option Addr) (c10 : Nat) (xa10 : List Int) (n11 : Int) (n12 : Int) (n13 : Int) (h : Heap), Sat ro h (.own ro a9 1 (xa9.map (Value.int .u8)) :: .row a10 c10 (xa10.map (Value.int .u8)) :: F) → kb6p xa9 xa10 n11 n12 n13 = some r → F27.Post F ro r (kb6 a9 xa9.length xa9.length a10 xa10.length c10 n11 n12 n13 h)) (a15 : Option Addr) (xa15 : List Int) (a16 : Option Addr) (c16 : Nat) (xa16 : List Int) (n17 : Int) (n18 : Int) (n19 : Int) (h : Heap) (hs : Sat ro h (.own ro a15 1 (xa15.map (Value.int .u8)) :: .row a16 c16 (xa16.map (Value.int .u8)) :: F)) (hp : F27.J7p lf kb2p kb6p xa15 xa16 n17 n18 n19 = some r) : F27.Post F ro r (F27.J7 (callW Tryd.prog ora) lf ro kb2 kb6 a15 xa15.length xa15.length a16 xa16.length c16 n17 n18 n19 h) := by
  unfold F27.J7
  unfold F27.J7p at hp
  refine st_letJ hp (fun j239p j239 => ∀ (n237 : Int) (h_403 : Heap), Sat ro h_403 (.own ro a15 1 (xa15.map (Value.int .u8)) :: .row a16 c16 (xa16.map (Value.int .u8)) :: F) → j239p n237 = some r → F27.Post F ro r (j239 n237 h_403)) ?_ ?_
  · intro n237 h_403 hs hp
    have hs_404 := hs.pull 1 rfl
    have hs_405 := hs_404.pull 1 rfl
    exact hkb6 a15 xa15 a16 _ xa16 n17 n237 (IntKind.i64.wrap (n19 + 1)) _ hs_405 hp
  · intro j239p j239 hj239 hp
    refine st_letJ hp (fun j247p j247 => ∀ (b245 : Bool) (h_397 : Heap), Sat ro h_397 (.own ro a15 1 (xa15.map (Value.int .u8)) :: .row a16 c16 (xa16.map (Value.int .u8)) :: F) → j247p b245 = some r → F27.Post F ro r (j247 b245 h_397)) ?_ ?_
    · intro b245 h_397 hs hp
      refine st_if (Q := F27.Post F ro r) (fun hc_398 => ?_) (fun hc_398 => ?_)
      · replace hp := ifp_t hc_398 hp
        have hs_399 := hs.pull 1 rfl
        have hs_400 := hs_399.pull 1 rfl
        exact hj239 (bOr .u8 (IntKind.u8.wrap (n18 * 2)) 1) _ hs_400 hp
      · replace hp := ifp_f hc_398 hp
        have hs_401 := hs.pull 1 rfl
        have hs_402 := hs_401.pull 1 rfl
        exact hj239 (IntKind.u8.wrap (n18 * 2)) _ hs_402 hp
    · intro j247p j247 hj247 hp
      refine st_if (Q := F27.Post F ro r) (fun hc_390 => ?_) (fun hc_390 => ?_)
      · replace hp := ifp_t hc_390 hp
        have hs_393 := hs.pull 1 rfl
        obtain ⟨x_391, hx_392, hp⟩ := bindp_some hp
        refine st_idxR (Q := F27.Post F ro r) isO isO hs_393 und22 siz5 agg5 rfl hx_392 ?_
        refine st_int (Q := F27.Post F ro r) ?_
        have hs_394 := hs_393.pull 1 rfl
        exact hj247 (x_391 == 0) _ hs_394 hp
      · replace hp := ifp_f hc_390 hp
        have hs_395 := hs.pull 1 rfl
        have hs_396 := hs_395.pull 1 rfl
        exact hj247 false _ hs_396 hp

def F27.L6p (lf : Nat) (kb2p : List Int → List Int → Int → Option (List Int)) : Nat → List Int → List Int → Int → Int → Int → Option (List Int)
  | 0, _, _, _, _, _ => none
  | n + 1, xa9, xa10, n11, n12, n13 =>
  ifp (decide (n13 < 8)) (
    F27.J7p lf kb2p (F27.L6p lf kb2p n) xa9 xa10 n11 n12 n13) (
    bindp (appp 1 xa9 [n12]) fun x_410 =>
    kb2p x_410 xa10 (IntKind.i64.wrap (n11 + 8)))

theorem F27.L6_ok {ora : Ora} (hora : HOra ora) {lf ro : Nat} {F : List Ent} {r : (List Int)} {kb2p : List Int → List Int → Int → Option (List Int)} {kb2 : (Option Addr) → Nat → Nat → (Option Addr) → Nat → Nat → Int → Heap → Out} (hkb2 : ∀ (a1 : Option Addr) (xa1 : List Int) (a2 : Option Addr) (c2 : Nat) (xa2 : List Int) (n3 : Int) (h : Heap), Sat ro h (.own ro a1 1 (xa1.map (Value.int .u8)) :: .row a2 c2 (xa2.map (Value.int .u8)) :: F) → kb2p xa1 xa2 n3 = some r → F27.Post F ro r (kb2 a1 xa1.length xa1.length a2 xa2.length c2 n3 h)) : ∀ (n : Nat) (a9 : Option Addr) (xa9 : List Int) (a10 : Option Addr) (c10 : Nat) (xa10 : List Int) (n11 : Int) (n12 : Int) (n13 : Int) (h : Heap), Sat ro h (.own ro a9 1 (xa9.map (Value.int .u8)) :: .row a10 c10 (xa10.map (Value.int .u8)) :: F) → F27.L6p lf kb2p n xa9 xa10 n11 n12 n13 = some r → F27.Post F ro r (F27.L6 (callW Tryd.prog ora) lf ro kb2 n a9 xa9.length xa9.length a10 xa10.length c10 n11 n12 n13 h) := by
  intro n
  induction n with
  | zero => intro a9 xa9 a10 c10 xa10 n11 n12 n13 h hs hp; cases hp
  | succ n ih =>
    intro a9 xa9 a10 c10 xa10 n11 n12 n13 h hs hp
    unfold F27.L6
    unfold F27.L6p at hp
    refine st_if (Q := F27.Post F ro r) (fun hc_389 => ?_) (fun hc_389 => ?_)
    · replace hp := ifp_t hc_389 hp
      have hs_406 := hs.pull 1 rfl
      have hs_407 := hs_406.pull 1 rfl
      exact F27.J7_ok hora hkb2 ih a9 xa9 a10 _ xa10 n11 n12 n13 _ hs_407 hp
    · replace hp := ifp_f hc_389 hp
      refine st_pushJ (Q := F27.Post F ro r) hs hs.low rfl fun h_408 _ hs_409 => ?_
      have hs_415 := hs_409.pull 1 rfl
      obtain ⟨x_410, hx_411, hp⟩ := bindp_some hp
      refine st_appO (Q := F27.Post F ro r) isO hs_415 (fun _ => rfl) und22 und22 one5 rfl rfl rfl hx_411 fun a_412 h_413 hs_414 => ?_
      refine st_slice (Q := F27.Post F ro r) ?_
      have hs_416 := hs_414.pull 1 rfl
      have hs_417 := hs_416.tail
      have hs_418 := hs_417.pull 1 rfl
      have hs_419 := hs_418.pull 1 rfl
      exact hkb2 a_412 x_410 a10 _ xa10 (IntKind.i64.wrap (n11 + 8)) _ hs_419 hp

def F27.J4p (lf : Nat) (kb2p : List Int → List Int → Int → Option (List Int)) (xa5 : List Int) (xa6 : List Int) (n7 : Int) : Option (List Int) :=
  F27.L6p lf kb2p lf xa5 xa6 n7 0 0

theorem F27.J4_ok {ora : Ora} (hora : HOra ora) {lf ro : Nat} {F : List Ent} {r : (List Int)} {kb2p : List Int → List Int → Int → Option (List Int)} {kb2 : (Option Addr) → Nat → Nat → (Option Addr) → Nat → Nat → Int → Heap → Out} (hkb2 : ∀ (a1 : Option Addr) (xa1 : List Int) (a2 : Option Addr) (c2 : Nat) (xa2 : List Int) (n3 : Int) (h : Heap), Sat ro h (.own ro a1 1 (xa1.map (Value.int .u8)) :: .row a2 c2 (xa2.map (Value.int .u8)) :: F) → kb2p xa1 xa2 n3 = some r → F27.Post F ro r (kb2 a1 xa1.length xa1.length a2 xa2.length c2 n3 h)) (a5 : Option Addr) (xa5 : List Int) (a6 : Option Addr) (c6 : Nat) (xa6 : List Int) (n7 : Int) (h : Heap) (hs : Sat ro h (.own ro a5 1 (xa5.map (Value.int .u8)) :: .row a6 c6 (xa6.map (Value.int .u8)) :: F)) (hp : F27.J4p lf kb2p xa5 xa6 n7 = some r) : F27.Post F ro r (F27.J4 (callW Tryd.prog ora) lf ro kb2 a5 xa5.length xa5.length a6 xa6.length c6 n7 h) := by
  unfold F27.J4
  unfold F27.J4p at hp
  have hs_420 := hs.pull 1 rfl
  have hs_421 := hs_420.pull 1 rfl
  exact F27.L6_ok hora hkb2 lf a5 xa5 a6 _ xa6 n7 0 0 _ hs_421 hp

def F27.L2p (lf : Nat) : Nat → List Int → List Int → Int → Option (List Int)
  | 0, _, _, _ => none
  | n + 1, xa1, xa2, n3 =>
  ifp (decide (n3 < (xa2.length : Int))) (
    F27.J4p lf (F27.L2p lf n) xa1 xa2 n3) (
    some xa1)

theorem F27.L2_ok {ora : Ora} (hora : HOra ora) {lf ro : Nat} {F : List Ent} {r : (List Int)} : ∀ (n : Nat) (a1 : Option Addr) (xa1 : List Int) (a2 : Option Addr) (c2 : Nat) (xa2 : List Int) (n3 : Int) (h : Heap), Sat ro h (.own ro a1 1 (xa1.map (Value.int .u8)) :: .row a2 c2 (xa2.map (Value.int .u8)) :: F) → F27.L2p lf n xa1 xa2 n3 = some r → F27.Post F ro r (F27.L2 (callW Tryd.prog ora) lf ro n a1 xa1.length xa1.length a2 xa2.length c2 n3 h) := by
  intro n
  induction n with
  | zero => intro a1 xa1 a2 c2 xa2 n3 h hs hp; cases hp
  | succ n ih =>
    intro a1 xa1 a2 c2 xa2 n3 h hs hp
    unfold F27.L2
    unfold F27.L2p at hp
    refine st_if (Q := F27.Post F ro r) (fun hc_388 => ?_) (fun hc_388 => ?_)
    · replace hp := ifp_t hc_388 hp
      have hs_422 := hs.pull 1 rfl
      have hs_423 := hs_422.pull 1 rfl
      exact F27.J4_ok hora ih a1 xa1 a2 _ xa2 n3 _ hs_423 hp
    · replace hp := ifp_f hc_388 hp
      have hs_424 := hs.pull 1 rfl
      have hs_425 := hs_424.tail
      cases hp
      exact ⟨a1, _, rfl, hs_425⟩

def F27.p (lf : Nat) (xax0 : List Int) (xax1 : List Int) : Option (List Int) :=
  F27.L2p lf lf xax0 xax1 0

theorem F27.t_ok {ora : Ora} (hora : HOra ora) {lf ro : Nat} {F : List Ent} {r : (List Int)} (ax0 : Option Addr) (xax0 : List Int) (ax1 : Option Addr) (cx1 : Nat) (xax1 : List Int) (h : Heap) (hs : Sat ro h (.own ro ax0 1 (xax0.map (Value.int .u8)) :: .row ax1 cx1 (xax1.map (Value.int .u8)) :: F)) (hp : F27.p lf xax0 xax1 = some r) : F27.Post F ro r (F27.t (callW Tryd.prog ora) lf ro ax0 xax0.length xax0.length ax1 xax1.length cx1 h) := by
  unfold F27.t
  unfold F27.p at hp
  have hs_426 := hs.pull 1 rfl
  have hs_427 := hs_426.pull 1 rfl
  exact F27.L2_ok hora lf ax0 xax0 ax1 _ xax1 0 _ hs_427 hp

theorem F27.ok {ora : Ora} (hora : HOra ora) {lf ro : Nat} {F : List Ent} {r : (List Int)} (ax0 : Option Addr) (xax0 : List Int) (ax1 : Option Addr) (cx1 : Nat) (xax1 : List Int) (h : Heap) (hs : Sat ro h (.own ro ax0 1 (xax0.map (Value.int .u8)) :: .row ax1 cx1 (xax1.map (Value.int .u8)) :: F)) (hp : F27.p lf xax0 xax1 = some r) : F27.Post F ro r (callW Tryd.prog ora ro 27 [.slice ax0 xax0.length xax0.length, .slice ax1 xax1.length cx1] h) := by
  have h1 := F27.t_ok hora ax0 xax0 ax1 cx1 xax1 h hs hp
  have h2 : callW Tryd.prog ora ro 27 [.slice ax0 xax0.length xax0.length, .slice ax1 xax1.length cx1] h = _ := callW_body (hora.none _ _ _ _ (by decide)) Tryd.func27 (F27.le (callW Tryd.prog ora) lf ro ax0 xax0.length xax0.length ax1 xax1.length cx1 h) (F27.Post.ne h1)
  rw [h2]; exact h1

def F10.Post (F : List Ent) (ro : Nat) (r : List Int × Int) (x : Out) : Prop := ∃ a0 h', x = .ok (.tuple #[.slice a0 r.1.length r.1.length, .int .i64 r.2]) h' ∧ Sat ro h' (.own ro a0 1 (r.1.map (Value.int .u8)) :: F)
theorem F10.Post.ne {F : List Ent} {ro : Nat} {r : List Int × Int} {x : Out} (hx : F10.Post F ro r x) : x ≠ .fail := by
  obtain ⟨a0, h', rfl, _⟩ := hx
  simp

def F10.J13p (lf : Nat) (kb12p : Int → Int → Int → List Int → List Int → Int → Int → Option (List Int × Int)) (n109 : Int) (mp110_0 : Int) (mp110_1 : Int) (xp110_2 : List Int) (xa111 : List Int) (n112 : Int) (n113 : Int) : Option (List Int × Int) :=
  letJ (fun (xa226 : List Int) => (
    kb12p n109 mp110_0 mp110_1 xp110_2 xa226 n112 (IntKind.i64.wrap (n113 + 1)) : Option (List Int × Int))) fun j228p =>
  bindp (subp xp110_2 (IntKind.i64.wrap (n113 * mp110_0)) (IntKind.i64.wrap ((IntKind.i64.wrap (n113 + 1)) * mp110_0))) fun x_539 =>
  ifp (n109 == 1) (
    bindp (F25.p lf xa111 x_539) fun r_547 =>
    j228p r_547) (
    ifp (n109 == 2) (
      bindp (F26.p lf xa111 x_539) fun r_565 =>
      j228p r_565) (
      ifp (n109 == 4) (
        bindp (F27.p lf xa111 x_539) fun r_580 =>
        j228p r_580) (
        bindp (appp 1 xa111 x_539) fun x_592 =>
        j228p x_592)))

theorem F10.J13_ok {ora : Ora} (hora : HOra ora) {lf ro : Nat} {F : List Ent} {r : (List Int × Int)} {kb12p : Int → Int → Int → List Int → List Int → Int → Int → Option (List Int × Int)} {kb12 : Int → Nat → Nat → (Option Addr) → Nat → Nat → Int → Int → Heap → Out} (hkb12 : ∀ (n103 : Int) (p104 : Nat) (mp104_0 : Int) (mp104_1 : Int) (ap104_2 : Option Addr) (cp104_2 : Nat) (xp104_2 : List Int) (a105 : Option Addr) (xa105 : List Int) (n106 : Int) (n107 : Int) (h : Heap), Sat ro h (.own ro (some ⟨p104, 0, none⟩) 1 [.int .i64 mp104_0, .int .i64 mp104_1, .slice ap104_2 xp104_2.length cp104_2] :: .row ap104_2 cp104_2 (xp104_2.map (Value.int .u8)) :: .own ro a105 1 (xa105.map (Value.int .u8)) :: .row (some ⟨0, 0, none⟩) 20 (gl0.map (Value.int .u64)) :: F) → kb12p n103 mp104_0 mp104_1 xp104_2 xa105 n106 n107 = some r → F10.Post F ro r (kb12 n103 p104 0 a105 xa105.length xa105.length n106 n107 h)) (n109 : Int) (p110 : Nat) (mp110_0 : Int) (mp110_1 : Int) (ap110_2 : Option Addr) (cp110_2 : Nat) (xp110_2 : List Int) (a111 : Option Addr) (xa111 : List Int) (n112 : Int) (n113 : Int) (h : Heap) (hs : Sat ro h (.own ro (some ⟨p110, 0, none⟩) 1 [.int .i64 mp110_0, .int .i64 mp110_1, .slice ap110_2 xp110_2.length cp110_2] :: .row ap110_2 cp110_2 (xp110_2.map (Value.int .u8)) :: .own ro a111 1 (xa111.map (Value.int .u8)) :: .row (some ⟨0, 0, none⟩) 20 (gl0.map (Value.int .u64)) :: F)) (hp : F10.J13p lf kb12p n109 mp110_0 mp110_1 xp110_2 xa111 n112 n113 = some r) : F10.Post F ro r (F10.J13 (callW Tryd.prog ora) lf ro kb12 n109 p110 0 a111 xa111.length xa111.length n112 n113 h) := by
  unfold F10.J13
  unfold F10.J13p at hp
  refine st_letJ hp (fun j228p j228 => ∀ (a226 : Option Addr) (xa226 : List Int) (h_604 : Heap), Sat ro h_604 (.own ro a226 1 (xa226.map (Value.int .u8)) :: .own ro (some ⟨p110, 0, none⟩) 1 [.int .i64 mp110_0, .int .i64 mp110_1, .slice ap110_2 xp110_2.length cp110_2] :: .row ap110_2 cp110_2 (xp110_2.map (Value.int .u8)) :: .row (some ⟨0, 0, none⟩) 20 (gl0.map (Value.int .u64)) :: F) → j228p xa226 = some r → F10.Post F ro r (j228 a226 xa226.length xa226.length h_604)) ?_ ?_
  · intro a226 xa226 h_604 hs hp
    have hs_605 := hs.pull 3 rfl
    have hs_606 := hs_605.pull 1 rfl
    have hs_607 := hs_606.pull 3 rfl
    have hs_608 := hs_607.pull 3 rfl
    exact hkb12 n109 p110 mp110_0 mp110_1 _ _ xp110_2 a226 xa226 n112 (IntKind.i64.wrap (n113 + 1)) _ hs_608 hp
  · intro j228p j228 hj228 hp
    refine st_load (Q := F10.Post F ro r) isO hs agg22 rfl ?_
    refine st_slice (Q := F10.Post F ro r) ?_
    refine st_load (Q := F10.Post F ro r) isO hs agg3 rfl ?_
    refine st_int (Q := F10.Post F ro r) ?_
    refine st_load (Q := F10.Post F ro r) isO hs agg3 rfl ?_
    refine st_int (Q := F10.Post F ro r) ?_
    have hs_538 := hs.pull 1 rfl
    obtain ⟨x_539, hx_540, hp⟩ := bindp_some hp
    refine st_subR (Q := F10.Post F ro r) isO hs_538 und22 siz5 rfl (.inr ⟨_, rfl⟩) (.inr ⟨_, rfl⟩) hx_540 fun a_541 c_542 hs_543 => ?_
    refine st_slice (Q := F10.Post F ro r) ?_
    refine st_if (Q := F10.Post F ro r) (fun hc_544 => ?_) (fun hc_544 => ?_)
    · replace hp := ifp_t hc_544 hp
      have hs_545 := hs_543.dup
      have hs_546 := hs_545.pull 4 rfl
      obtain ⟨r_547, hx_548, hp⟩ := bindp_some hp
      obtain ⟨a_552, h_549, e_551, hs_550⟩ := F25.ok hora (ro := ro) (F := .row a_541 c_542 (x_539.map (Value.int .u8)) :: .row ap110_2 cp110_2 (xp110_2.map (Value.int .u8)) :: .own ro (some ⟨p110, 0, none⟩) 1 [.int .i64 mp110_0, .int .i64 mp110_1, .slice ap110_2 xp110_2.length cp110_2] :: .row (some ⟨0, 0, none⟩) 20 (gl0.map (Value.int .u64)) :: F) a111 xa111 a_541 c_542 x_539 _ hs_546 hx_548
      refine st_ok (Q := F10.Post F ro r) isO e_551 ?_
      refine st_slice (Q := F10.Post F ro r) ?_
      have hs_553 := hs_550.pull 1 rfl
      have hs_554 := hs_553.tail
      have hs_555 := hs_554.pull 3 rfl
      have hs_556 := hs_555.pull 2 rfl
      have hs_557 := hs_556.pull 3 rfl
      have hs_558 := hs_557.pull 3 rfl
      exact hj228 a_552 r_547 _ hs_558 hp
    · replace hp := ifp_f hc_544 hp
      refine st_if (Q := F10.Post F ro r) (fun hc_559 => ?_) (fun hc_559 => ?_)
      · replace hp := ifp_t hc_559 hp
        have hs_560 := hs_543.dup
        have hs_561 := hs_560.pull 5 rfl
        have hs_562 := hs_561.dup
        have hs_563 := hs_562.pull 2 rfl
        have hs_564 := hs_563.pull 6 rfl
        obtain ⟨r_565, hx_566, hp⟩ := bindp_some hp
        obtain ⟨a_570, h_567, e_569, hs_568⟩ := F26.ok hora (ro := ro) (F := .row (some ⟨0, 0, none⟩) 20 (gl0.map (Value.int .u64)) :: .row a_541 c_542 (x_539.map (Value.int .u8)) :: .row ap110_2 cp110_2 (xp110_2.map (Value.int .u8)) :: .own ro (some ⟨p110, 0, none⟩) 1 [.int .i64 mp110_0, .int .i64 mp110_1, .slice ap110_2 xp110_2.length cp110_2] :: F) a111 xa111 a_541 c_542 x_539 _ hs_564 hx_566
        refine st_ok (Q := F10.Post F ro r) isO e_569 ?_
        refine st_slice (Q := F10.Post F ro r) ?_
        have hs_571 := hs_568.pull 2 rfl
        have hs_572 := hs_571.tail
        have hs_573 := hs_572.pull 1 rfl
        have hs_574 := hs_573.pull 2 rfl
        have hs_575 := hs_574.pull 3 rfl
        have hs_576 := hs_575.pull 3 rfl
        exact hj228 a_570 r_565 _ hs_576 hp
      · replace hp := ifp_f hc_559 hp
        refine st_if (Q := F10.Post F ro r) (fun hc_577 => ?_) (fun hc_577 => ?_)
        · replace hp := ifp_t hc_577 hp
          have hs_578 := hs_543.dup
          have hs_579 := hs_578.pull 4 rfl
          obtain ⟨r_580, hx_581, hp⟩ := bindp_some hp
          obtain ⟨a_585, h_582, e_584, hs_583⟩ := F27.ok hora (ro := ro) (F := .row a_541 c_542 (x_539.map (Value.int .u8)) :: .row ap110_2 cp110_2 (xp110_2.map (Value.int .u8)) :: .own ro (some ⟨p110, 0, none⟩) 1 [.int .i64 mp110_0, .int .i64 mp110_1, .slice ap110_2 xp110_2.length cp110_2] :: .row (some ⟨0, 0, none⟩) 20 (gl0.map (Value.int .u64)) :: F) a111 xa111 a_541 c_542 x_539 _ hs_579 hx_581
          refine st_ok (Q := F10.Post F ro r) isO e_584 ?_
          refine st_slice (Q := F10.Post F ro r) ?_
          have hs_586 := hs_583.pull 1 rfl
          have hs_587 := hs_586.tail
          have hs_588 := hs_587.pull 3 rfl
          have hs_589 := hs_588.pull 2 rfl
          have hs_590 := hs_589.pull 3 rfl
          have hs_591 := hs_590.pull 3 rfl
          exact hj228 a_585 r_580 _ hs_591 hp
        · replace hp := ifp_f hc_577 hp
          have hs_597 := hs_543.pull 3 rfl
          obtain ⟨x_592, hx_593, hp⟩ := bindp_some hp
          refine st_appR (Q := F10.Post F ro r) isO hs_597 und22 und22 one5 rfl rfl rfl hx_593 fun a_594 h_595 hs_596 => ?_
          refine st_slice (Q := F10.Post F ro r) ?_
          have hs_598 := hs_596.pull 1 rfl
          have hs_599 := hs_598.tail
          have hs_600 := hs_599.pull 3 rfl
          have hs_601 := hs_600.pull 2 rfl
          have hs_602 := hs_601.pull 3 rfl
          have hs_603 := hs_602.pull 3 rfl
          exact hj228 a_594 x_592 _ hs_603 hp

def F10.L12p (lf : Nat) : Nat → Int → Int → Int → List Int → List Int → Int → Int → Option (List Int × Int)
  | 0, _, _, _, _, _, _, _ => none
  | n + 1, n103, mp104_0, mp104_1, xp104_2, xa105, n106, n107 =>
  ifp (decide (n107 < n106)) (
    F10.J13p lf (F10.L12p lf n) n103 mp104_0 mp104_1 xp104_2 xa105 n106 n107) (
    some (xa105, 0))

theorem F10.L12_ok {ora : Ora} (hora : HOra ora) {lf ro : Nat} {F : List Ent} {r : (List Int × Int)} : ∀ (n : Nat) (n103 : Int) (p104 : Nat) (mp104_0 : Int) (mp104_1 : Int) (ap104_2 : Option Addr) (cp104_2 : Nat) (xp104_2 : List Int) (a105 : Option Addr) (xa105 : List Int) (n106 : Int) (n107 : Int) (h : Heap), Sat ro h (.own ro (some ⟨p104, 0, none⟩) 1 [.int .i64 mp104_0, .int .i64 mp104_1, .slice ap104_2 xp104_2.length cp104_2] :: .row ap104_2 cp104_2 (xp104_2.map (Value.int .u8)) :: .own ro a105 1 (xa105.map (Value.int .u8)) :: .row (some ⟨0, 0, none⟩) 20 (gl0.map (Value.int .u64)) :: F) → F10.L12p lf n n103 mp104_0 mp104_1 xp104_2 xa105 n106 n107 = some r → F10.Post F ro r (F10.L12 (callW Tryd.prog ora) lf ro n n103 p104 0 a105 xa105.length xa105.length n106 n107 h) := by
  intro n
  induction n with
  | zero => intro n103 p104 mp104_0 mp104_1 ap104_2 cp104_2 xp104_2 a105 xa105 n106 n107 h hs hp; cases hp
  | succ n ih =>
    intro n103 p104 mp104_0 mp104_1 ap104_2 cp104_2 xp104_2 a105 xa105 n106 n107 h hs hp
    unfold F10.L12
    unfold F10.L12p at hp
    refine st_if (Q := F10.Post F ro r) (fun hc_537 => ?_) (fun hc_537 => ?_)
    · replace hp := ifp_t hc_537 hp
      have hs_609 := hs.pull 3 rfl
      have hs_610 := hs_609.pull 3 rfl
      have hs_611 := hs_610.pull 3 rfl
      have hs_612 := hs_611.pull 3 rfl
      exact F10.J13_ok hora ih n103 p104 mp104_0 mp104_1 _ _ xp104_2 a105 xa105 n106 n107 _ hs_612 hp
    · replace hp := ifp_f hc_537 hp
      have hs_613 := hs.tail
      have hs_614 := hs_613.tail
      have hs_615 := hs_614.pull 1 rfl
      have hs_616 := hs_615.tail
      cases hp
      exact ⟨a105, _, rfl, hs_616⟩

def F10.J11p (lf : Nat) (n93 : Int) (mp94_0 : Int) (mp94_1 : Int) (xp94_2 : List Int) (xa95 : List Int) : Option (List Int × Int) :=
  F10.L12p lf lf n93 mp94_0 mp94_1 xp94_2 xa95 mp94_1 0

theorem F10.J11_ok {ora : Ora} (hora : HOra ora) {lf ro : Nat} {F : List Ent} {r : (List Int × Int)} (n93 : Int) (p94 : Nat) (mp94_0 : Int) (mp94_1 : Int) (ap94_2 : Option Addr) (cp94_2 : Nat) (xp94_2 : List Int) (a95 : Option Addr) (xa95 : List Int) (h : Heap) (hs : Sat ro h (.own ro (some ⟨p94, 0, none⟩) 1 [.int .i64 mp94_0, .int .i64 mp94_1, .slice ap94_2 xp94_2.length cp94_2] :: .row ap94_2 cp94_2 (xp94_2.map (Value.int .u8)) :: .own ro a95 1 (xa95.map (Value.int .u8)) :: .row (some ⟨0, 0, none⟩) 20 (gl0.map (Value.int .u64)) :: F)) (hp : F10.J11p lf n93 mp94_0 mp94_1 xp94_2 xa95 = some r) : F10.Post F ro r (F10.J11 (callW Tryd.prog ora) lf ro n93 p94 0 a95 xa95.length xa95.length h) := by
  unfold F10.J11
  unfold F10.J11p at hp
  refine st_load (Q := F10.Post F ro r) isO hs agg3 rfl ?_
  refine st_int (Q := F10.Post F ro r) ?_
  have hs_617 := hs.pull 3 rfl
  have hs_618 := hs_617.pull 3 rfl
  have hs_619 := hs_618.pull 3 rfl
  have hs_620 := hs_619.pull 3 rfl
  exact F10.L12_ok hora lf n93 p94 mp94_0 mp94_1 _ _ xp94_2 a95 xa95 mp94_1 0 _ hs_620 hp

def F10.J5p (lf : Nat) (n39 : Int) (mp40_0 : Int) (mp40_1 : Int) (xp40_2 : List Int) : Option (List Int × Int) :=
  bindp (F24.p lf [80, IntKind.u8.wrap (48 + (IntKind.u8.wrap n39)), 10] mp40_0 10) fun r_492 =>
  bindp (appp 1 r_492 [32]) fun x_500 =>
  bindp (F24.p lf x_500 mp40_1 10) fun r_512 =>
  bindp (appp 1 r_512 [10]) fun x_520 =>
  bindp (F21.p lf n39) fun r_526 =>
  ifp (!r_526) (
    bindp (appp 1 x_520 (bytp (⟨#[50, 53, 53, 10]⟩ : ByteArray))) fun x_532 =>
    F10.J11p lf n39 mp40_0 mp40_1 xp40_2 x_532) (
    F10.J11p lf n39 mp40_0 mp40_1 xp40_2 x_520)

theorem F10.J5_ok {ora : Ora} (hora : HOra ora) {lf ro : Nat} {F : List Ent} {r : (List Int × Int)} (n39 : Int) (p40 : Nat) (mp40_0 : Int) (mp40_1 : Int) (ap40_2 : Option Addr) (cp40_2 : Nat) (xp40_2 : List Int) (h : Heap) (hs : Sat ro h (.own ro (some ⟨p40, 0, none⟩) 1 [.int .i64 mp40_0, .int .i64 mp40_1, .slice ap40_2 xp40_2.length cp40_2] :: .row ap40_2 cp40_2 (xp40_2.map (Value.int .u8)) :: .row (some ⟨0, 0, none⟩) 20 (gl0.map (Value.int .u64)) :: F)) (hp : F10.J5p lf n39 mp40_0 mp40_1 xp40_2 = some r) : F10.Post F ro r (F10.J5 (callW Tryd.prog ora) lf ro n39 p40 0 h) := by
  unfold F10.J5
  unfold F10.J5p at hp
  refine st_pushJ (Q := F10.Post F ro r) hs hs.low rfl fun h_486 _ hs_487 => ?_
  have hs_488 := hs_487.pull 1 rfl
  refine st_load (Q := F10.Post F ro r) isO hs_488 agg3 rfl ?_
  refine st_int (Q := F10.Post F ro r) ?_
  have hs_489 := hs_488.pull 3 rfl
  have hs_490 := hs_489.dup
  have hs_491 := hs_490.pull 3 rfl
  obtain ⟨r_492, hx_493, hp⟩ := bindp_some hp
  obtain ⟨a_497, h_494, e_496, hs_495⟩ := F24.ok hora (ro := ro) (F := .row (some ⟨0, 0, none⟩) 20 (gl0.map (Value.int .u64)) :: .own ro (some ⟨p40, 0, none⟩) 1 [.int .i64 mp40_0, .int .i64 mp40_1, .slice ap40_2 xp40_2.length cp40_2] :: .row ap40_2 cp40_2 (xp40_2.map (Value.int .u8)) :: F) (some ⟨h.next, 0, none⟩) [80, IntKind.u8.wrap (48 + (IntKind.u8.wrap n39)), 10] mp40_0 10 _ hs_491 hx_493
  refine st_ok (Q := F10.Post F ro r) isO e_496 ?_
  refine st_slice (Q := F10.Post F ro r) ?_
  refine st_pushJ (Q := F10.Post F ro r) hs_495 hs_495.low rfl fun h_498 _ hs_499 => ?_
  have hs_505 := hs_499.pull 1 rfl
  have hap_506 := (List.pairwise_cons.1 hs_505.apart).1
  obtain ⟨x_500, hx_501, hp⟩ := bindp_some hp
  refine st_appO (Q := F10.Post F ro r) isN hs_505 (fun _ => rfl) und22 und22 one5 rfl rfl rfl hx_501 fun a_502 h_503 hs_504 => ?_
  refine st_slice (Q := F10.Post F ro r) ?_
  have hs_507 := hs_504.pull 3 rfl
  refine st_load (Q := F10.Post F ro r) isN hs_507 agg3 rfl ?_
  refine st_int (Q := F10.Post F ro r) ?_
  have ha_508 : apartB (touch (some (.slice a_497 r_492.length r_492.length))) (touch (some (.pointer (some ⟨p40, 1, none⟩)))) = true := apartB_of (by first | rfl | exact touch_slice _ _ _) (by first | rfl | exact touch_slice _ _ _) (hap_506 _ (.tail _ (.tail _ (.head _))) rfl)
  refine st_if (Q := F10.Post F ro r) (fun _ => ?_) (fun hf => absurd hf (by simp [ha_508]))
  have hs_509 := hs_507.pull 3 rfl
  have hs_510 := hs_509.dup
  have hs_511 := hs_510.pull 3 rfl
  obtain ⟨r_512, hx_513, hp⟩ := bindp_some hp
  obtain ⟨a_517, h_514, e_516, hs_515⟩ := F24.ok hora (ro := ro) (F := .row (some ⟨0, 0, none⟩) 20 (gl0.map (Value.int .u64)) :: .own ro (some ⟨p40, 0, none⟩) 1 [.int .i64 mp40_0, .int .i64 mp40_1, .slice ap40_2 xp40_2.length cp40_2] :: .own ro (some ⟨h_494.next, 0, none⟩) 1 ([32].map (Value.int .u8)) :: .row ap40_2 cp40_2 (xp40_2.map (Value.int .u8)) :: F) a_502 x_500 mp40_1 10 _ hs_511 hx_513
  refine st_ok (Q := F10.Post F ro r) isO e_516 ?_
  refine st_slice (Q := F10.Post F ro r) ?_
  refine st_pushJ (Q := F10.Post F ro r) hs_515 hs_515.low rfl fun h_518 _ hs_519 => ?_
  have hs_525 := hs_519.pull 1 rfl
  obtain ⟨x_520, hx_521, hp⟩ := bindp_some hp
  refine st_appO (Q := F10.Post F ro r) isO hs_525 (fun _ => rfl) und22 und22 one5 rfl rfl rfl hx_521 fun a_522 h_523 hs_524 => ?_
  refine st_slice (Q := F10.Post F ro r) ?_
  obtain ⟨r_526, hx_527, hp⟩ := bindp_some hp
  obtain ⟨h_528, e_530, hs_529⟩ := F21.ok hora (ro := ro) (F := .own ro a_522 1 (x_520.map (Value.int .u8)) :: .own ro (some ⟨h_514.next, 0, none⟩) 1 ([10].map (Value.int .u8)) :: .row (some ⟨0, 0, none⟩) 20 (gl0.map (Value.int .u64)) :: .own ro (some ⟨p40, 0, none⟩) 1 [.int .i64 mp40_0, .int .i64 mp40_1, .slice ap40_2 xp40_2.length cp40_2] :: .own ro (some ⟨h_494.next, 0, none⟩) 1 ([32].map (Value.int .u8)) :: .row ap40_2 cp40_2 (xp40_2.map (Value.int .u8)) :: F) n39 _ hs_524 hx_527
  refine st_ok (Q := F10.Post F ro r) isO e_530 ?_
  refine st_bool (Q := F10.Post F ro r) ?_
  refine st_if (Q := F10.Post F ro r) (fun hc_531 => ?_) (fun hc_531 => ?_)
  · replace hp := ifp_t hc_531 hp
    obtain ⟨x_532, hx_533, hp⟩ := bindp_some hp
    refine st_appS (Q := F10.Post F ro r) isO hs_529 und22 und9 one5 rfl rfl hx_533 fun a_534 h_535 hs_536 => ?_
    refine st_slice (Q := F10.Post F ro r) ?_
    have hs_621 := hs_536.pull 1 rfl
    have hs_622 := hs_621.tail
    have hs_623 := hs_622.pull 3 rfl
    have hs_624 := hs_623.tail
    have hs_625 := hs_624.pull 1 rfl
    have hs_626 := hs_625.pull 1 rfl
    have hs_627 := hs_626.pull 3 rfl
    have hs_628 := hs_627.pull 3 rfl
    exact F10.J11_ok hora n39 p40 mp40_0 mp40_1 _ _ xp40_2 a_534 x_532 _ hs_628 hp
  · replace hp := ifp_f hc_531 hp
    have hs_629 := hs_529.pull 1 rfl
    have hs_630 := hs_629.tail
    have hs_631 := hs_630.pull 3 rfl
    have hs_632 := hs_631.tail
    have hs_633 := hs_632.pull 1 rfl
    have hs_634 := hs_633.pull 1 rfl
    have hs_635 := hs_634.pull 3 rfl
    have hs_636 := hs_635.pull 3 rfl
    exact F10.J11_ok hora n39 p40 mp40_0 mp40_1 _ _ xp40_2 a_522 x_520 _ hs_636 hp

def F10.J3p (lf : Nat) (n24 : Int) (mp25_0 : Int) (mp25_1 : Int) (xp25_2 : List Int) : Option (List Int × Int) :=
  letJ (fun (b36 : Bool) => (
    ifp b36 (
      some ([], 3)) (
      F10.J5p lf n24 mp25_0 mp25_1 xp25_2) : Option (List Int × Int))) fun j38p =>
  bindp (F21.p lf n24) fun r_458 =>
  ifp r_458 (
    bindp (F22.p lf xp25_2) fun r_466 =>
    j38p r_466) (
    j38p false)

theorem F10.J3_ok {ora : Ora} (hora : HOra ora) {lf ro : Nat} {F : List Ent} {r : (List Int × Int)} (n24 : Int) (p25 : Nat) (mp25_0 : Int) (mp25_1 : Int) (ap25_2 : Option Addr) (cp25_2 : Nat) (xp25_2 : List Int) (h : Heap) (hs : Sat ro h (.own ro (some ⟨p25, 0, none⟩) 1 [.int .i64 mp25_0, .int .i64 mp25_1, .slice ap25_2 xp25_2.length cp25_2] :: .row ap25_2 cp25_2 (xp25_2.map (Value.int .u8)) :: .row (some ⟨0, 0, none⟩) 20 (gl0.map (Value.int .u64)) :: F)) (hp : F10.J3p lf n24 mp25_0 mp25_1 xp25_2 = some r) : F10.Post F ro r (F10.J3 (callW Tryd.prog ora) lf ro n24 p25 0 h) := by
  unfold F10.J3
  unfold F10.J3p at hp
  refine st_letJ hp (fun j38p j38 => ∀ (b36 : Bool) (h_477 : Heap), Sat ro h_477 (.own ro (some ⟨p25, 0, none⟩) 1 [.int .i64 mp25_0, .int .i64 mp25_1, .slice ap25_2 xp25_2.length cp25_2] :: .row ap25_2 cp25_2 (xp25_2.map (Value.int .u8)) :: .row (some ⟨0, 0, none⟩) 20 (gl0.map (Value.int .u64)) :: F) → j38p b36 = some r → F10.Post F ro r (j38 b36 h_477)) ?_ ?_
  · intro b36 h_477 hs hp
    refine st_if (Q := F10.Post F ro r) (fun hc_478 => ?_) (fun hc_478 => ?_)
    · replace hp := ifp_t hc_478 hp
      have hs_479 := hs.nilOwn ro 1
      have hs_480 := hs_479.pull 1 rfl
      have hs_481 := hs_480.tail
      have hs_482 := hs_481.pull 1 rfl
      have hs_483 := hs_482.tail
      have hs_484 := hs_483.pull 1 rfl
      have hs_485 := hs_484.tail
      cases hp
      exact ⟨none, _, rfl, hs_485⟩
    · replace hp := ifp_f hc_478 hp
      have hs_637 := hs.pull 2 rfl
      have hs_638 := hs_637.pull 2 rfl
      have hs_639 := hs_638.pull 2 rfl
      exact F10.J5_ok hora n24 p25 mp25_0 mp25_1 _ _ xp25_2 _ hs_639 hp
  · intro j38p j38 hj38 hp
    obtain ⟨r_458, hx_459, hp⟩ := bindp_some hp
    obtain ⟨h_460, e_462, hs_461⟩ := F21.ok hora (ro := ro) (F := .own ro (some ⟨p25, 0, none⟩) 1 [.int .i64 mp25_0, .int .i64 mp25_1, .slice ap25_2 xp25_2.length cp25_2] :: .row ap25_2 cp25_2 (xp25_2.map (Value.int .u8)) :: .row (some ⟨0, 0, none⟩) 20 (gl0.map (Value.int .u64)) :: F) n24 _ hs hx_459
    refine st_ok (Q := F10.Post F ro r) isO e_462 ?_
    refine st_bool (Q := F10.Post F ro r) ?_
    refine st_if (Q := F10.Post F ro r) (fun hc_463 => ?_) (fun hc_463 => ?_)
    · replace hp := ifp_t hc_463 hp
      refine st_load (Q := F10.Post F ro r) isO hs_461 agg22 rfl ?_
      refine st_slice (Q := F10.Post F ro r) ?_
      have hs_464 := hs_461.pull 1 rfl
      have hs_465 := hs_464.dup
      obtain ⟨r_466, hx_467, hp⟩ := bindp_some hp
      obtain ⟨h_468, e_470, hs_469⟩ := F22.ok hora (ro := ro) (F := .row ap25_2 cp25_2 (xp25_2.map (Value.int .u8)) :: .own ro (some ⟨p25, 0, none⟩) 1 [.int .i64 mp25_0, .int .i64 mp25_1, .slice ap25_2 xp25_2.length cp25_2] :: .row (some ⟨0, 0, none⟩) 20 (gl0.map (Value.int .u64)) :: F) ap25_2 cp25_2 xp25_2 _ hs_465 hx_467
      refine st_ok (Q := F10.Post F ro r) isO e_470 ?_
      refine st_bool (Q := F10.Post F ro r) ?_
      have hs_471 := hs_469.pull 2 rfl
      have hs_472 := hs_471.pull 1 rfl
      have hs_473 := hs_472.pull 2 rfl
      exact hj38 r_466 _ hs_473 hp
    · replace hp := ifp_f hc_463 hp
      have hs_474 := hs_461.pull 2 rfl
      have hs_475 := hs_474.pull 2 rfl
      have hs_476 := hs_475.pull 2 rfl
      exact hj38 false _ hs_476 hp

def F10.p (lf : Nat) (x0_0 : Int) (x0_1 : Int) (xax0_2 : List Int) (x1 : Int) : Option (List Int × Int) :=
  letJ (fun (b21 : Bool) => (
    ifp b21 (
      some ([], 1)) (
      F10.J3p lf x1 x0_0 x0_1 xax0_2) : Option (List Int × Int))) fun j23p =>
  bindp (F19.p lf x0_0 x0_1 xax0_2) fun r_432 =>
  ifp (r_432 != 0) (
    j23p true) (
    bindp (F20.p lf x1) fun r_441 =>
    j23p (!r_441))

theorem F10.t_ok {ora : Ora} (hora : HOra ora) {lf ro : Nat} {F : List Ent} {r : (List Int × Int)} (x0_0 : Int) (x0_1 : Int) (ax0_2 : Option Addr) (cx0_2 : Nat) (xax0_2 : List Int) (x1 : Int) (h : Heap) (hs : Sat ro h (.row ax0_2 cx0_2 (xax0_2.map (Value.int .u8)) :: .row (some ⟨0, 0, none⟩) 20 (gl0.map (Value.int .u64)) :: F)) (hp : F10.p lf x0_0 x0_1 xax0_2 x1 = some r) : F10.Post F ro r (F10.t (callW Tryd.prog ora) lf ro x0_0 x0_1 ax0_2 xax0_2.length cx0_2 x1 h) := by
  unfold F10.t
  unfold F10.p at hp
  refine st_pushJ (Q := F10.Post F ro r) hs hs.low rfl fun h_428 _ hs_429 => ?_
  refine st_letJ hp (fun j23p j23 => ∀ (b21 : Bool) (h_449 : Heap), Sat ro h_449 (.own ro (some ⟨h.next, 0, none⟩) 1 [.int .i64 x0_0, .int .i64 x0_1, .slice ax0_2 xax0_2.length cx0_2] :: .row ax0_2 cx0_2 (xax0_2.map (Value.int .u8)) :: .row (some ⟨0, 0, none⟩) 20 (gl0.map (Value.int .u64)) :: F) → j23p b21 = some r → F10.Post F ro r (j23 b21 h_449)) ?_ ?_
  · intro b21 h_449 hs hp
    refine st_if (Q := F10.Post F ro r) (fun hc_450 => ?_) (fun hc_450 => ?_)
    · replace hp := ifp_t hc_450 hp
      have hs_451 := hs.nilOwn ro 1
      have hs_452 := hs_451.pull 1 rfl
      have hs_453 := hs_452.tail
      have hs_454 := hs_453.pull 1 rfl
      have hs_455 := hs_454.tail
      have hs_456 := hs_455.pull 1 rfl
      have hs_457 := hs_456.tail
      cases hp
      exact ⟨none, _, rfl, hs_457⟩
    · replace hp := ifp_f hc_450 hp
      have hs_640 := hs.pull 2 rfl
      have hs_641 := hs_640.pull 2 rfl
      have hs_642 := hs_641.pull 2 rfl
      exact F10.J3_ok hora x1 h.next x0_0 x0_1 _ _ xax0_2 _ hs_642 hp
  · intro j23p j23 hj23 hp
    refine st_loadA (Q := F10.Post F ro r) isO hs_429 agg24 siz24 rfl ?_
    refine st_agg (Q := F10.Post F ro r) (l := [.int .i64 x0_0, .int .i64 x0_1, .slice ax0_2 xax0_2.length cx0_2]) ?_
    refine st_cons (Q := F10.Post F ro r) ?_
    refine st_int (Q := F10.Post F ro r) ?_
    refine st_cons (Q := F10.Post F ro r) ?_
    refine st_int (Q := F10.Post F ro r) ?_
    refine st_cons (Q := F10.Post F ro r) ?_
    refine st_slice (Q := F10.Post F ro r) ?_
    refine st_nil (Q := F10.Post F ro r) ?_
    have hs_430 := hs_429.pull 1 rfl
    have hs_431 := hs_430.dup
    obtain ⟨r_432, hx_433, hp⟩ := bindp_some hp
    obtain ⟨h_434, e_436, hs_435⟩ := F19.ok hora (ro := ro) (F := .row ax0_2 cx0_2 (xax0_2.map (Value.int .u8)) :: .own ro (some ⟨h.next, 0, none⟩) 1 [.int .i64 x0_0, .int .i64 x0_1, .slice ax0_2 xax0_2.length cx0_2] :: .row (some ⟨0, 0, none⟩) 20 (gl0.map (Value.int .u64)) :: F) x0_0 x0_1 ax0_2 cx0_2 xax0_2 _ hs_431 hx_433
    refine st_ok (Q := F10.Post F ro r) isO e_436 ?_
    refine st_int (Q := F10.Post F ro r) ?_
    refine st_if (Q := F10.Post F ro r) (fun hc_437 => ?_) (fun hc_437 => ?_)
    · replace hp := ifp_t hc_437 hp
      have hs_438 := hs_435.pull 2 rfl
      have hs_439 := hs_438.pull 1 rfl
      have hs_440 := hs_439.pull 2 rfl
      exact hj23 true _ hs_440 hp
    · replace hp := ifp_f hc_437 hp
      obtain ⟨r_441, hx_442, hp⟩ := bindp_some hp
      obtain ⟨h_443, e_445, hs_444⟩ := F20.ok hora (ro := ro) (F := .row ax0_2 cx0_2 (xax0_2.map (Value.int .u8)) :: .own ro (some ⟨h.next, 0, none⟩) 1 [.int .i64 x0_0, .int .i64 x0_1, .slice ax0_2 xax0_2.length cx0_2] :: .row (some ⟨0, 0, none⟩) 20 (gl0.map (Value.int .u64)) :: F) x1 _ hs_435 hx_442
      refine st_ok (Q := F10.Post F ro r) isO e_445 ?_
      refine st_bool (Q := F10.Post F ro r) ?_
      have hs_446 := hs_444.pull 2 rfl
      have hs_447 := hs_446.pull 1 rfl
      have hs_448 := hs_447.pull 2 rfl
      exact hj23 (!r_441) _ hs_448 hp

theorem F10.ok {ora : Ora} (hora : HOra ora) {lf ro : Nat} {F : List Ent} {r : (List Int × Int)} (x0_0 : Int) (x0_1 : Int) (ax0_2 : Option Addr) (cx0_2 : Nat) (xax0_2 : List Int) (x1 : Int) (h : Heap) (hs : Sat ro h (.row ax0_2 cx0_2 (xax0_2.map (Value.int .u8)) :: .row (some ⟨0, 0, none⟩) 20 (gl0.map (Value.int .u64)) :: F)) (hp : F10.p lf x0_0 x0_1 xax0_2 x1 = some r) : F10.Post F ro r (callW Tryd.prog ora ro 10 [.agg #[.int .i64 x0_0, .int .i64 x0_1, .slice ax0_2 xax0_2.length cx0_2], .int .i64 x1] h) := by
  have h1 := F10.t_ok hora x0_0 x0_1 ax0_2 cx0_2 xax0_2 x1 h hs hp
  have h2 : callW Tryd.prog ora ro 10 [.agg #[.int .i64 x0_0, .int .i64 x0_1, .slice ax0_2 xax0_2.length cx0_2], .int .i64 x1] h = _ := callW_body (hora.none _ _ _ _ (by decide)) Tryd.func10 (F10.le (callW Tryd.prog ora) lf ro x0_0 x0_1 ax0_2 xax0_2.length cx0_2 x1 h) (F10.Post.ne h1)
  rw [h2]; exact h1

def F42.Post (F : List Ent) (ro : Nat) (r : Bool) (x : Out) : Prop := ∃ h', x = .ok (.bool r) h' ∧ Sat ro h' (F)
theorem F42.Post.ne {F : List Ent} {ro : Nat} {r : Bool} {x : Out} (hx : F42.Post F ro r x) : x ≠ .fail := by
  obtain ⟨h', rfl, _⟩ := hx
  simp

def F50.Post (F : List Ent) (ro : Nat) (r : Bool) (x : Out) : Prop := ∃ h', x = .ok (.bool r) h' ∧ Sat ro h' (F)
theorem F50.Post.ne {F : List Ent} {ro : Nat} {r : Bool} {x : Out} (hx : F50.Post F ro r x) : x ≠ .fail := by
  obtain ⟨h', rfl, _⟩ := hx
  simp

def F50.p (lf : Nat) (x0 : Int) (x1 : Int) : Option (Bool) :=
  letJ (fun (b1 : Bool) => (
    some b1 : Option (Bool))) fun j2p =>
  ifp (decide (x0 ≥ 1)) (
    ifp (decide (x0 ≤ 4096)) (
      ifp (decide (x1 ≥ 1)) (
        ifp (decide (x1 ≤ 4096)) (
          j2p (decide (IntKind.i64.wrap (x0 * x1) ≤ 4194304))) (
          j2p false)) (
        j2p false)) (
      j2p false)) (
    j2p false)

theorem F50.t_ok {ora : Ora} (hora : HOra ora) {lf ro : Nat} {F : List Ent} {r : (Bool)} (x0 : Int) (x1 : Int) (h : Heap) (hs : Sat ro h (F)) (hp : F50.p lf x0 x1 = some r) : F50.Post F ro r (F50.t (callW Tryd.prog ora) lf ro x0 x1 h) := by
  unfold F50.t
  unfold F50.p at hp
  refine st_letJ hp (fun j2p j2 => ∀ (b1 : Bool), Sat ro h (F) → j2p b1 = some r → F50.Post F ro r (j2 b1)) ?_ ?_
  · intro b1 hs hp
    cases hp
    exact ⟨_, rfl, hs⟩
  · intro j2p j2 hj2 hp
    refine st_if (Q := F50.Post F ro r) (fun hc_645 => ?_) (fun hc_645 => ?_)
    · replace hp := ifp_t hc_645 hp
      refine st_if (Q := F50.Post F ro r) (fun hc_646 => ?_) (fun hc_646 => ?_)
      · replace hp := ifp_t hc_646 hp
        refine st_if (Q := F50.Post F ro r) (fun hc_647 => ?_) (fun hc_647 => ?_)
        · replace hp := ifp_t hc_647 hp
          refine st_if (Q := F50.Post F ro r) (fun hc_648 => ?_) (fun hc_648 => ?_)
          · replace hp := ifp_t hc_648 hp
            exact hj2 (decide (IntKind.i64.wrap (x0 * x1) ≤ 4194304)) hs hp
          · replace hp := ifp_f hc_648 hp
            exact hj2 false hs hp
        · replace hp := ifp_f hc_647 hp
          exact hj2 false hs hp
      · replace hp := ifp_f hc_646 hp
        exact hj2 false hs hp
    · replace hp := ifp_f hc_645 hp
      exact hj2 false hs hp

theorem F50.ok {ora : Ora} (hora : HOra ora) {lf ro : Nat} {F : List Ent} {r : (Bool)} (x0 : Int) (x1 : Int) (h : Heap) (hs : Sat ro h (F)) (hp : F50.p lf x0 x1 = some r) : F50.Post F ro r (callW Tryd.prog ora ro 50 [.int .i64 x0, .int .i64 x1] h) := by
  have h1 := F50.t_ok hora x0 x1 h hs hp
  have h2 : callW Tryd.prog ora ro 50 [.int .i64 x0, .int .i64 x1] h = _ := callW_body (hora.none _ _ _ _ (by decide)) Tryd.func50 (F50.le (callW Tryd.prog ora) lf ro x0 x1 h) (F50.Post.ne h1)
  rw [h2]; exact h1

def F42.p (lf : Nat) (x0_0 : Int) (x0_1 : Int) (xax0_2 : List Int) : Option (Bool) :=
  letJ (fun (b21 : Bool) => (
    some b21 : Option (Bool))) fun j23p =>
  bindp (F50.p lf x0_0 x0_1) fun r_650 =>
  ifp r_650 (
    j23p ((xax0_2.length : Int) == (IntKind.i64.wrap (x0_0 * x0_1)))) (
    j23p false)

theorem F42.t_ok {ora : Ora} (hora : HOra ora) {lf ro : Nat} {F : List Ent} {r : (Bool)} (x0_0 : Int) (x0_1 : Int) (ax0_2 : Option Addr) (cx0_2 : Nat) (xax0_2 : List Int) (h : Heap) (hs : Sat ro h (.row ax0_2 cx0_2 (xax0_2.map (Value.int .u8)) :: F)) (hp : F42.p lf x0_0 x0_1 xax0_2 = some r) : F42.Post F ro r (F42.t (callW Tryd.prog ora) lf ro x0_0 x0_1 ax0_2 xax0_2.length cx0_2 h) := by
  unfold F42.t
  unfold F42.p at hp
  refine st_pushJ (Q := F42.Post F ro r) hs hs.low rfl fun h_643 _ hs_644 => ?_
  refine st_letJ hp (fun j23p j23 => ∀ (b21 : Bool) (h_660 : Heap), Sat ro h_660 (F) → j23p b21 = some r → F42.Post F ro r (j23 b21 h_660)) ?_ ?_
  · intro b21 h_660 hs hp
    cases hp
    exact ⟨_, rfl, hs⟩
  · intro j23p j23 hj23 hp
    refine st_load (Q := F42.Post F ro r) isO hs_644 agg3 rfl ?_
    refine st_int (Q := F42.Post F ro r) ?_
    refine st_load (Q := F42.Post F ro r) isO hs_644 agg3 rfl ?_
    refine st_int (Q := F42.Post F ro r) ?_
    obtain ⟨r_650, hx_651, hp⟩ := bindp_some hp
    obtain ⟨h_652, e_654, hs_653⟩ := F50.ok hora (ro := ro) (F := .own ro (some ⟨h.next, 0, none⟩) 1 [.int .i64 x0_0, .int .i64 x0_1, .slice ax0_2 xax0_2.length cx0_2] :: .row ax0_2 cx0_2 (xax0_2.map (Value.int .u8)) :: F) x0_0 x0_1 _ hs_644 hx_651
    refine st_ok (Q := F42.Post F ro r) isO e_654 ?_
    refine st_bool (Q := F42.Post F ro r) ?_
    refine st_if (Q := F42.Post F ro r) (fun hc_655 => ?_) (fun hc_655 => ?_)
    · replace hp := ifp_t hc_655 hp
      refine st_load (Q := F42.Post F ro r) isO hs_653 agg22 rfl ?_
      refine st_slice (Q := F42.Post F ro r) ?_
      refine st_load (Q := F42.Post F ro r) isO hs_653 agg3 rfl ?_
      refine st_int (Q := F42.Post F ro r) ?_
      refine st_load (Q := F42.Post F ro r) isO hs_653 agg3 rfl ?_
      refine st_int (Q := F42.Post F ro r) ?_
      have hs_656 := hs_653.tail
      have hs_657 := hs_656.tail
      exact hj23 ((xax0_2.length : Int) == (IntKind.i64.wrap (x0_0 * x0_1))) _ hs_657 hp
    · replace hp := ifp_f hc_655 hp
      have hs_658 := hs_653.tail
      have hs_659 := hs_658.tail
      exact hj23 false _ hs_659 hp

theorem F42.ok {ora : Ora} (hora : HOra ora) {lf ro : Nat} {F : List Ent} {r : (Bool)} (x0_0 : Int) (x0_1 : Int) (ax0_2 : Option Addr) (cx0_2 : Nat) (xax0_2 : List Int) (h : Heap) (hs : Sat ro h (.row ax0_2 cx0_2 (xax0_2.map (Value.int .u8)) :: F)) (hp : F42.p lf x0_0 x0_1 xax0_2 = some r) : F42.Post F ro r (callW Tryd.prog ora ro 42 [.agg #[.int .i64 x0_0, .int .i64 x0_1, .slice ax0_2 xax0_2.length cx0_2]] h) := by
  have h1 := F42.t_ok hora x0_0 x0_1 ax0_2 cx0_2 xax0_2 h hs hp
  have h2 : callW Tryd.prog ora ro 42 [.agg #[.int .i64 x0_0, .int .i64 x0_1, .slice ax0_2 xax0_2.length cx0_2]] h = _ := callW_body (hora.none _ _ _ _ (by decide)) Tryd.func42 (F42.le (callW Tryd.prog ora) lf ro x0_0 x0_1 ax0_2 xax0_2.length cx0_2 h) (F42.Post.ne h1)
  rw [h2]; exact h1

def F28.Post (F : List Ent) (ro : Nat) (r : Int) (x : Out) : Prop := ∃ h', x = .ok (.int .i64 r) h' ∧ Sat ro h' (F)
theorem F28.Post.ne {F : List Ent} {ro : Nat} {r : Int} {x : Out} (hx : F28.Post F ro r x) : x ≠ .fail := by
  obtain ⟨h', rfl, _⟩ := hx
  simp

def F28.p (lf : Nat) (x0_0 : Int) (x0_1 : Int) (xax0_2 : List Int) : Option (Int) :=
  bindp (F42.p lf x0_0 x0_1 xax0_2) fun r_665 =>
  ifp (!r_665) (
    some 1) (
    some 0)

theorem F28.t_ok {ora : Ora} (hora : HOra ora) {lf ro : Nat} {F : List Ent} {r : (Int)} (x0_0 : Int) (x0_1 : Int) (ax0_2 : Option Addr) (cx0_2 : Nat) (xax0_2 : List Int) (h : Heap) (hs : Sat ro h (.row ax0_2 cx0_2 (xax0_2.map (Value.int .u8)) :: F)) (hp : F28.p lf x0_0 x0_1 xax0_2 = some r) : F28.Post F ro r (F28.t (callW Tryd.prog ora) lf ro x0_0 x0_1 ax0_2 xax0_2.length cx0_2 h) := by
  unfold F28.t
  unfold F28.p at hp
  refine st_pushJ (Q := F28.Post F ro r) hs hs.low rfl fun h_661 _ hs_662 => ?_
  refine st_loadA (Q := F28.Post F ro r) isO hs_662 agg24 siz24 rfl ?_
  refine st_agg (Q := F28.Post F ro r) (l := [.int .i64 x0_0, .int .i64 x0_1, .slice ax0_2 xax0_2.length cx0_2]) ?_
  refine st_cons (Q := F28.Post F ro r) ?_
  refine st_int (Q := F28.Post F ro r) ?_
  refine st_cons (Q := F28.Post F ro r) ?_
  refine st_int (Q := F28.Post F ro r) ?_
  refine st_cons (Q := F28.Post F ro r) ?_
  refine st_slice (Q := F28.Post F ro r) ?_
  refine st_nil (Q := F28.Post F ro r) ?_
  have hs_663 := hs_662.pull 1 rfl
  have hs_664 := hs_663.dup
  obtain ⟨r_665, hx_666, hp⟩ := bindp_some hp
  obtain ⟨h_667, e_669, hs_668⟩ := F42.ok hora (ro := ro) (F := .row ax0_2 cx0_2 (xax0_2.map (Value.int .u8)) :: .own ro (some ⟨h.next, 0, none⟩) 1 [.int .i64 x0_0, .int .i64 x0_1, .slice ax0_2 xax0_2.length cx0_2] :: F) x0_0 x0_1 ax0_2 cx0_2 xax0_2 _ hs_664 hx_666
  refine st_ok (Q := F28.Post F ro r) isO e_669 ?_
  refine st_bool (Q := F28.Post F ro r) ?_
  refine st_if (Q := F28.Post F ro r) (fun hc_670 => ?_) (fun hc_670 => ?_)
  · replace hp := ifp_t hc_670 hp
    have hs_671 := hs_668.tail
    have hs_672 := hs_671.tail
    cases hp
    exact ⟨_, rfl, hs_672⟩
  · replace hp := ifp_f hc_670 hp
    have hs_673 := hs_668.tail
    have hs_674 := hs_673.tail
    cases hp
    exact ⟨_, rfl, hs_674⟩

theorem F28.ok {ora : Ora} (hora : HOra ora) {lf ro : Nat} {F : List Ent} {r : (Int)} (x0_0 : Int) (x0_1 : Int) (ax0_2 : Option Addr) (cx0_2 : Nat) (xax0_2 : List Int) (h : Heap) (hs : Sat ro h (.row ax0_2 cx0_2 (xax0_2.map (Value.int .u8)) :: F)) (hp : F28.p lf x0_0 x0_1 xax0_2 = some r) : F28.Post F ro r (callW Tryd.prog ora ro 28 [.agg #[.int .i64 x0_0, .int .i64 x0_1, .slice ax0_2 xax0_2.length cx0_2]] h) := by
  have h1 := F28.t_ok hora x0_0 x0_1 ax0_2 cx0_2 xax0_2 h hs hp
  have h2 : callW Tryd.prog ora ro 28 [.agg #[.int .i64 x0_0, .int .i64 x0_1, .slice ax0_2 xax0_2.length cx0_2]] h = _ := callW_body (hora.none _ _ _ _ (by decide)) Tryd.func28 (F28.le (callW Tryd.prog ora) lf ro x0_0 x0_1 ax0_2 xax0_2.length cx0_2 h) (F28.Post.ne h1)
  rw [h2]; exact h1

def F29.Post (F : List Ent) (ro : Nat) (r : Bool) (x : Out) : Prop := ∃ h', x = .ok (.bool r) h' ∧ Sat ro h' (F)
theorem F29.Post.ne {F : List Ent} {ro : Nat} {r : Bool} {x : Out} (hx : F29.Post F ro r x) : x ≠ .fail := by
  obtain ⟨h', rfl, _⟩ := hx
  simp

def F32.Post (F : List Ent) (ro : Nat) (r : Bool) (x : Out) : Prop := ∃ h', x = .ok (.bool r) h' ∧ Sat ro h' (F)
theorem F32.Post.ne {F : List Ent} {ro : Nat} {r : Bool} {x : Out} (hx : F32.Post F ro r x) : x ≠ .fail := by
  obtain ⟨h', rfl, _⟩ := hx
  simp

def F32.p (lf : Nat) (x0 : Int) : Option (Bool) :=
  letJ (fun (b1 : Bool) => (
    some b1 : Option (Bool))) fun j2p =>
  ifp (x0 == 1) (
    j2p true) (
    j2p (x0 == 2))

theorem F32.t_ok {ora : Ora} (hora : HOra ora) {lf ro : Nat} {F : List Ent} {r : (Bool)} (x0 : Int) (h : Heap) (hs : Sat ro h (F)) (hp : F32.p lf x0 = some r) : F32.Post F ro r (F32.t (callW Tryd.prog ora) lf ro x0 h) := by
  unfold F32.t
  unfold F32.p at hp
  refine st_letJ hp (fun j2p j2 => ∀ (b1 : Bool), Sat ro h (F) → j2p b1 = some r → F32.Post F ro r (j2 b1)) ?_ ?_
  · intro b1 hs hp
    cases hp
    exact ⟨_, rfl, hs⟩
  · intro j2p j2 hj2 hp
    refine st_if (Q := F32.Post F ro r) (fun hc_675 => ?_) (fun hc_675 => ?_)
    · replace hp := ifp_t hc_675 hp
      exact hj2 true hs hp
    · replace hp := ifp_f hc_675 hp
      exact hj2 (x0 == 2) hs hp

theorem F32.ok {ora : Ora} (hora : HOra ora) {lf ro : Nat} {F : List Ent} {r : (Bool)} (x0 : Int) (h : Heap) (hs : Sat ro h (F)) (hp : F32.p lf x0 = some r) : F32.Post F ro r (callW Tryd.prog ora ro 32 [.int .i64 x0] h) := by
  have h1 := F32.t_ok hora x0 h hs hp
  have h2 : callW Tryd.prog ora ro 32 [.int .i64 x0] h = _ := callW_body (hora.none _ _ _ _ (by decide)) Tryd.func32 (F32.le (callW Tryd.prog ora) lf ro x0 h) (F32.Post.ne h1)
  rw [h2]; exact h1

def F29.p (lf : Nat) (x0 : Int) : Option (Bool) :=
  letJ (fun (b4 : Bool) => (
    some b4 : Option (Bool))) fun j6p =>
  bindp (F32.p lf x0) fun r_677 =>
  ifp r_677 (
    j6p true) (
    ifp (x0 == 4) (
      j6p true) (
      j6p (x0 == 5)))

theorem F29.t_ok {ora : Ora} (hora : HOra ora) {lf ro : Nat} {F : List Ent} {r : (Bool)} (x0 : Int) (h : Heap) (hs : Sat ro h (F)) (hp : F29.p lf x0 = some r) : F29.Post F ro r (F29.t (callW Tryd.prog ora) lf ro x0 h) := by
  unfold F29.t
  unfold F29.p at hp
  refine st_letJ hp (fun j6p j6 => ∀ (b4 : Bool) (h_684 : Heap), Sat ro h_684 (F) → j6p b4 = some r → F29.Post F ro r (j6 b4 h_684)) ?_ ?_
  · intro b4 h_684 hs hp
    cases hp
    exact ⟨_, rfl, hs⟩
  · intro j6p j6 hj6 hp
    obtain ⟨r_677, hx_678, hp⟩ := bindp_some hp
    obtain ⟨h_679, e_681, hs_680⟩ := F32.ok hora (ro := ro) (F := F) x0 _ hs hx_678
    refine st_ok (Q := F29.Post F ro r) isO e_681 ?_
    refine st_bool (Q := F29.Post F ro r) ?_
    refine st_if (Q := F29.Post F ro r) (fun hc_682 => ?_) (fun hc_682 => ?_)
    · replace hp := ifp_t hc_682 hp
      exact hj6 true _ hs_680 hp
    · replace hp := ifp_f hc_682 hp
      refine st_if (Q := F29.Post F ro r) (fun hc_683 => ?_) (fun hc_683 => ?_)
      · replace hp := ifp_t hc_683 hp
        exact hj6 true _ hs_680 hp
      · replace hp := ifp_f hc_683 hp
        exact hj6 (x0 == 5) _ hs_680 hp

theorem F29.ok {ora : Ora} (hora : HOra ora) {lf ro : Nat} {F : List Ent} {r : (Bool)} (x0 : Int) (h : Heap) (hs : Sat ro h (F)) (hp : F29.p lf x0 = some r) : F29.Post F ro r (callW Tryd.prog ora ro 29 [.int .i64 x0] h) := by
  have h1 := F29.t_ok hora x0 h hs hp
  have h2 : callW Tryd.prog ora ro 29 [.int .i64 x0] h = _ := callW_body (hora.none _ _ _ _ (by decide)) Tryd.func29 (F29.le (callW Tryd.prog ora) lf ro x0 h) (F29.Post.ne h1)
  rw [h2]; exact h1

def F30.Post (F : List Ent) (ro : Nat) (r : Bool) (x : Out) : Prop := ∃ h', x = .ok (.bool r) h' ∧ Sat ro h' (F)
theorem F30.Post.ne {F : List Ent} {ro : Nat} {r : Bool} {x : Out} (hx : F30.Post F ro r x) : x ≠ .fail := by
  obtain ⟨h', rfl, _⟩ := hx
  simp

def F30.p (lf : Nat) (x0 : Int) : Option (Bool) :=
  letJ (fun (b1 : Bool) => (
    some b1 : Option (Bool))) fun j2p =>
  ifp (x0 == 2) (
    j2p true) (
    j2p (x0 == 5))

theorem F30.t_ok {ora : Ora} (hora : HOra ora) {lf ro : Nat} {F : List Ent} {r : (Bool)} (x0 : Int) (h : Heap) (hs : Sat ro h (F)) (hp : F30.p lf x0 = some r) : F30.Post F ro r (F30.t (callW Tryd.prog ora) lf ro x0 h) := by
  unfold F30.t
  unfold F30.p at hp
  refine st_letJ hp (fun j2p j2 => ∀ (b1 : Bool), Sat ro h (F) → j2p b1 = some r → F30.Post F ro r (j2 b1)) ?_ ?_
  · intro b1 hs hp
    cases hp
    exact ⟨_, rfl, hs⟩
  · intro j2p j2 hj2 hp
    refine st_if (Q := F30.Post F ro r) (fun hc_685 => ?_) (fun hc_685 => ?_)
    · replace hp := ifp_t hc_685 hp
      exact hj2 true hs hp
    · replace hp := ifp_f hc_685 hp
      exact hj2 (x0 == 5) hs hp

theorem F30.ok {ora : Ora} (hora : HOra ora) {lf ro : Nat} {F : List Ent} {r : (Bool)} (x0 : Int) (h : Heap) (hs : Sat ro h (F)) (hp : F30.p lf x0 = some r) : F30.Post F ro r (callW Tryd.prog ora ro 30 [.int .i64 x0] h) := by
  have h1 := F30.t_ok hora x0 h hs hp
  have h2 : callW Tryd.prog ora ro 30 [.int .i64 x0] h = _ := callW_body (hora.none _ _ _ _ (by decide)) Tryd.func30 (F30.le (callW Tryd.prog ora) lf ro x0 h) (F30.Post.ne h1)
  rw [h2]; exact h1

def F31.Post (F : List Ent) (ro : Nat) (r : ByteArray) (x : Out) : Prop := ∃ h', x = .ok (.string r) h' ∧ Sat ro h' (F)
theorem F31.Post.ne {F : List Ent} {ro : Nat} {r : ByteArray} {x : Out} (hx : F31.Post F ro r x) : x ≠ .fail := by
  obtain ⟨h', rfl, _⟩ := hx
  simp

def F31.L2p (lf : Nat) : Nat → Int → ByteArray → Option (ByteArray)
  | 0, _, _ => none
  | n + 1, n1, s2 =>
  letJ ((
    bindp (catp (strp [IntKind.u8.wrap (IntKind.i64.wrap (48 + n1))]) s2) fun s_696 =>
    some s_696 : Option (ByteArray))) fun j18p =>
  ifp (decide (n1 ≥ 10)) (
    bindp (catp (strp [IntKind.u8.wrap (IntKind.i64.wrap (48 + (Int.tmod n1 10)))]) s2) fun s_690 =>
    F31.L2p lf n (IntKind.i64.wrap (Int.tdiv n1 10)) s_690) (
    j18p)

theorem F31.L2_ok {ora : Ora} (hora : HOra ora) {lf ro : Nat} {F : List Ent} {r : (ByteArray)} : ∀ (n : Nat) (n1 : Int) (s2 : ByteArray) (h : Heap), Sat ro h (F) → F31.L2p lf n n1 s2 = some r → F31.Post F ro r (F31.L2 (callW Tryd.prog ora) lf ro n n1 s2 h) := by
  intro n
  induction n with
  | zero => intro n1 s2 h hs hp; cases hp
  | succ n ih =>
    intro n1 s2 h hs hp
    unfold F31.L2
    unfold F31.L2p at hp
    refine st_letJ hp (fun j18p j18 => Sat ro h (F) → j18p = some r → F31.Post F ro r (j18)) ?_ ?_
    · intro  hs hp
      refine st_pushJ (Q := F31.Post F ro r) hs hs.low rfl fun h_694 _ hs_695 => ?_
      refine st_strO (Q := F31.Post F ro r) (l := [IntKind.u8.wrap (IntKind.i64.wrap (48 + n1))]) isO hs_695 und22 und9 und5 rfl ?_
      refine st_str (Q := F31.Post F ro r) ?_
      obtain ⟨s_696, hx_697, hp⟩ := bindp_some hp
      refine st_cat (Q := F31.Post F ro r) isO hx_697 ?_
      refine st_str (Q := F31.Post F ro r) ?_
      have hs_698 := hs_695.tail
      cases hp
      exact ⟨_, rfl, hs_698⟩
    · intro j18p j18 hj18 hp
      refine st_if (Q := F31.Post F ro r) (fun hc_687 => ?_) (fun hc_687 => ?_)
      · replace hp := ifp_t hc_687 hp
        refine st_pushJ (Q := F31.Post F ro r) hs hs.low rfl fun h_688 _ hs_689 => ?_
        refine st_strO (Q := F31.Post F ro r) (l := [IntKind.u8.wrap (IntKind.i64.wrap (48 + (Int.tmod n1 10)))]) isO hs_689 und22 und9 und5 rfl ?_
        refine st_str (Q := F31.Post F ro r) ?_
        obtain ⟨s_690, hx_691, hp⟩ := bindp_some hp
        refine st_cat (Q := F31.Post F ro r) isO hx_691 ?_
        refine st_str (Q := F31.Post F ro r) ?_
        have hs_692 := hs_689.tail
        exact ih (IntKind.i64.wrap (Int.tdiv n1 10)) s_690 _ hs_692 hp
      · replace hp := ifp_f hc_687 hp
        exact hj18 hs hp

def F31.p (lf : Nat) (x0 : Int) : Option (ByteArray) :=
  F31.L2p lf lf x0 (⟨#[]⟩ : ByteArray)

theorem F31.t_ok {ora : Ora} (hora : HOra ora) {lf ro : Nat} {F : List Ent} {r : (ByteArray)} (x0 : Int) (h : Heap) (hs : Sat ro h (F)) (hp : F31.p lf x0 = some r) : F31.Post F ro r (F31.t (callW Tryd.prog ora) lf ro x0 h) := by
  unfold F31.t
  unfold F31.p at hp
  exact F31.L2_ok hora lf x0 (⟨#[]⟩ : ByteArray) _ hs hp

theorem F31.ok {ora : Ora} (hora : HOra ora) {lf ro : Nat} {F : List Ent} {r : (ByteArray)} (x0 : Int) (h : Heap) (hs : Sat ro h (F)) (hp : F31.p lf x0 = some r) : F31.Post F ro r (callW Tryd.prog ora ro 31 [.int .i64 x0] h) := by
  have h1 := F31.t_ok hora x0 h hs hp
  have h2 : callW Tryd.prog ora ro 31 [.int .i64 x0] h = _ := callW_body (hora.none _ _ _ _ (by decide)) Tryd.func31 (F31.le (callW Tryd.prog ora) lf ro x0 h) (F31.Post.ne h1)
  rw [h2]; exact h1

def F33.Post (F : List Ent) (ro : Nat) (r : ByteArray) (x : Out) : Prop := ∃ h', x = .ok (.string r) h' ∧ Sat ro h' (F)
theorem F33.Post.ne {F : List Ent} {ro : Nat} {r : ByteArray} {x : Out} (hx : F33.Post F ro r x) : x ≠ .fail := by
  obtain ⟨h', rfl, _⟩ := hx
  simp

def F33.J9p (lf : Nat) (kb3p : List Int → Int → ByteArray → Int → Option (ByteArray)) (xa20 : List Int) (n21 : Int) (s22 : ByteArray) (n23 : Int) : Option (ByteArray) :=
  letJ (fun (s133 : ByteArray) => (
    kb3p xa20 n21 s133 (IntKind.i64.wrap (n23 + 1)) : Option (ByteArray))) fun j135p =>
  ifp (n21 == 2) (
    bindp (idxp xa20 n23) fun x_707 =>
    bindp (F31.p lf (IntKind.i64.wrap x_707)) fun r_709 =>
    bindp (catp s22 r_709) fun s_714 =>
    j135p s_714) (
    bindp (idxp xa20 n23) fun x_716 =>
    ifp (x_716 == 0) (
      bindp (catp s22 (⟨#[49]⟩ : ByteArray)) fun s_719 =>
      j135p s_719) (
      bindp (catp s22 (⟨#[48]⟩ : ByteArray)) fun s_721 =>
      j135p s_721))

theorem F33.J9_ok {ora : Ora} (hora : HOra ora) {lf ro : Nat} {F : List Ent} {r : (ByteArray)} {kb3p : List Int → Int → ByteArray → Int → Option (ByteArray)} {kb3 : (Option Addr) → Nat → Nat → Int → ByteArray → Int → Heap → Out} (hkb3 : ∀ (a1 : Option Addr) (c1 : Nat) (xa1 : List Int) (n2 : Int) (s3 : ByteArray) (n4 : Int) (h : Heap), Sat ro h (.row a1 c1 (xa1.map (Value.int .u8)) :: F) → kb3p xa1 n2 s3 n4 = some r → F33.Post F ro r (kb3 a1 xa1.length c1 n2 s3 n4 h)) (a20 : Option Addr) (c20 : Nat) (xa20 : List Int) (n21 : Int) (s22 : ByteArray) (n23 : Int) (h : Heap) (hs : Sat ro h (.row a20 c20 (xa20.map (Value.int .u8)) :: F)) (hp : F33.J9p lf kb3p xa20 n21 s22 n23 = some r) : F33.Post F ro r (F33.J9 (callW Tryd.prog ora) lf ro kb3 a20 xa20.length c20 n21 s22 n23 h) := by
  unfold F33.J9
  unfold F33.J9p at hp
  refine st_letJ hp (fun j135p j135 => ∀ (s133 : ByteArray) (h_723 : Heap), Sat ro h_723 (.row a20 c20 (xa20.map (Value.int .u8)) :: F) → j135p s133 = some r → F33.Post F ro r (j135 s133 h_723)) ?_ ?_
  · intro s133 h_723 hs hp
    exact hkb3 a20 _ xa20 n21 s133 (IntKind.i64.wrap (n23 + 1)) _ hs hp
  · intro j135p j135 hj135 hp
    refine st_if (Q := F33.Post F ro r) (fun hc_706 => ?_) (fun hc_706 => ?_)
    · replace hp := ifp_t hc_706 hp
      obtain ⟨x_707, hx_708, hp⟩ := bindp_some hp
      refine st_idxR (Q := F33.Post F ro r) isO isO hs und22 siz5 agg5 rfl hx_708 ?_
      refine st_int (Q := F33.Post F ro r) ?_
      obtain ⟨r_709, hx_710, hp⟩ := bindp_some hp
      obtain ⟨h_711, e_713, hs_712⟩ := F31.ok hora (ro := ro) (F := .row a20 c20 (xa20.map (Value.int .u8)) :: F) (IntKind.i64.wrap x_707) _ hs hx_710
      refine st_ok (Q := F33.Post F ro r) isO e_713 ?_
      refine st_str (Q := F33.Post F ro r) ?_
      obtain ⟨s_714, hx_715, hp⟩ := bindp_some hp
      refine st_cat (Q := F33.Post F ro r) isO hx_715 ?_
      refine st_str (Q := F33.Post F ro r) ?_
      exact hj135 s_714 _ hs_712 hp
    · replace hp := ifp_f hc_706 hp
      obtain ⟨x_716, hx_717, hp⟩ := bindp_some hp
      refine st_idxR (Q := F33.Post F ro r) isO isO hs und22 siz5 agg5 rfl hx_717 ?_
      refine st_int (Q := F33.Post F ro r) ?_
      refine st_if (Q := F33.Post F ro r) (fun hc_718 => ?_) (fun hc_718 => ?_)
      · replace hp := ifp_t hc_718 hp
        obtain ⟨s_719, hx_720, hp⟩ := bindp_some hp
        refine st_cat (Q := F33.Post F ro r) isO hx_720 ?_
        refine st_str (Q := F33.Post F ro r) ?_
        exact hj135 s_719 _ hs hp
      · replace hp := ifp_f hc_718 hp
        obtain ⟨s_721, hx_722, hp⟩ := bindp_some hp
        refine st_cat (Q := F33.Post F ro r) isO hx_722 ?_
        refine st_str (Q := F33.Post F ro r) ?_
        exact hj135 s_721 _ hs hp

def F33.J6p (lf : Nat) (kb3p : List Int → Int → ByteArray → Int → Option (ByteArray)) (xa11 : List Int) (n12 : Int) (s13 : ByteArray) (n14 : Int) (b15 : Bool) : Option (ByteArray) :=
  ifp b15 (
    bindp (catp s13 (⟨#[10]⟩ : ByteArray)) fun s_704 =>
    F33.J9p lf kb3p xa11 n12 s_704 n14) (
    letJ (fun (b272 : Bool) => (
      ifp b272 (
        bindp (catp s13 (⟨#[32]⟩ : ByteArray)) fun s_727 =>
        F33.J9p lf kb3p xa11 n12 s_727 n14) (
        F33.J9p lf kb3p xa11 n12 s13 n14) : Option (ByteArray))) fun j273p =>
    ifp (n12 == 2) (
      j273p (decide (n14 > 0))) (
      j273p false))

theorem F33.J6_ok {ora : Ora} (hora : HOra ora) {lf ro : Nat} {F : List Ent} {r : (ByteArray)} {kb3p : List Int → Int → ByteArray → Int → Option (ByteArray)} {kb3 : (Option Addr) → Nat → Nat → Int → ByteArray → Int → Heap → Out} (hkb3 : ∀ (a1 : Option Addr) (c1 : Nat) (xa1 : List Int) (n2 : Int) (s3 : ByteArray) (n4 : Int) (h : Heap), Sat ro h (.row a1 c1 (xa1.map (Value.int .u8)) :: F) → kb3p xa1 n2 s3 n4 = some r → F33.Post F ro r (kb3 a1 xa1.length c1 n2 s3 n4 h)) (a11 : Option Addr) (c11 : Nat) (xa11 : List Int) (n12 : Int) (s13 : ByteArray) (n14 : Int) (b15 : Bool) (h : Heap) (hs : Sat ro h (.row a11 c11 (xa11.map (Value.int .u8)) :: F)) (hp : F33.J6p lf kb3p xa11 n12 s13 n14 b15 = some r) : F33.Post F ro r (F33.J6 (callW Tryd.prog ora) lf ro kb3 a11 xa11.length c11 n12 s13 n14 b15 h) := by
  unfold F33.J6
  unfold F33.J6p at hp
  refine st_if (Q := F33.Post F ro r) (fun hc_703 => ?_) (fun hc_703 => ?_)
  · replace hp := ifp_t hc_703 hp
    obtain ⟨s_704, hx_705, hp⟩ := bindp_some hp
    refine st_cat (Q := F33.Post F ro r) isO hx_705 ?_
    refine st_str (Q := F33.Post F ro r) ?_
    exact F33.J9_ok hora hkb3 a11 _ xa11 n12 s_704 n14 _ hs hp
  · replace hp := ifp_f hc_703 hp
    refine st_letJ hp (fun j273p j273 => ∀ (b272 : Bool), Sat ro h (.row a11 c11 (xa11.map (Value.int .u8)) :: F) → j273p b272 = some r → F33.Post F ro r (j273 b272)) ?_ ?_
    · intro b272 hs hp
      refine st_if (Q := F33.Post F ro r) (fun hc_726 => ?_) (fun hc_726 => ?_)
      · replace hp := ifp_t hc_726 hp
        obtain ⟨s_727, hx_728, hp⟩ := bindp_some hp
        refine st_cat (Q := F33.Post F ro r) isO hx_728 ?_
        refine st_str (Q := F33.Post F ro r) ?_
        exact F33.J9_ok hora hkb3 a11 _ xa11 n12 s_727 n14 _ hs hp
      · replace hp := ifp_f hc_726 hp
        exact F33.J9_ok hora hkb3 a11 _ xa11 n12 s13 n14 _ hs hp
    · intro j273p j273 hj273 hp
      refine st_if (Q := F33.Post F ro r) (fun hc_724 => ?_) (fun hc_724 => ?_)
      · replace hp := ifp_t hc_724 hp
        exact hj273 (decide (n14 > 0)) hs hp
      · replace hp := ifp_f hc_724 hp
        exact hj273 false hs hp

def F33.J5p (lf : Nat) (kb3p : List Int → Int → ByteArray → Int → Option (ByteArray)) (xa6 : List Int) (n7 : Int) (s8 : ByteArray) (n9 : Int) : Option (ByteArray) :=
  ifp (n7 == 1) (
    ifp (decide (n9 > 0)) (
      ifp ((Int.tmod n9 70) == 0) (
        F33.J6p lf kb3p xa6 n7 s8 n9 true) (
        ifp (n7 == 2) (
          ifp (decide (n9 > 0)) (
            F33.J6p lf kb3p xa6 n7 s8 n9 ((Int.tmod n9 17) == 0)) (
            F33.J6p lf kb3p xa6 n7 s8 n9 false)) (
          F33.J6p lf kb3p xa6 n7 s8 n9 false))) (
      ifp (n7 == 2) (
        ifp (decide (n9 > 0)) (
          F33.J6p lf kb3p xa6 n7 s8 n9 ((Int.tmod n9 17) == 0)) (
          F33.J6p lf kb3p xa6 n7 s8 n9 false)) (
        F33.J6p lf kb3p xa6 n7 s8 n9 false))) (
    ifp (n7 == 2) (
      ifp (decide (n9 > 0)) (
        F33.J6p lf kb3p xa6 n7 s8 n9 ((Int.tmod n9 17) == 0)) (
        F33.J6p lf kb3p xa6 n7 s8 n9 false)) (
      F33.J6p lf kb3p xa6 n7 s8 n9 false))

theorem F33.J5_ok {ora : Ora} (hora : HOra ora) {lf ro : Nat} {F : List Ent} {r : (ByteArray)} {kb3p : List Int → Int → ByteArray → Int → Option (ByteArray)} {kb3 : (Option Addr) → Nat → Nat → Int → ByteArray → Int → Heap → Out} (hkb3 : ∀ (a1 : Option Addr) (c1 : Nat) (xa1 : List Int) (n2 : Int) (s3 : ByteArray) (n4 : Int) (h : Heap), Sat ro h (.row a1 c1 (xa1.map (Value.int .u8)) :: F) → kb3p xa1 n2 s3 n4 = some r → F33.Post F ro r (kb3 a1 xa1.length c1 n2 s3 n4 h)) (a6 : Option Addr) (c6 : Nat) (xa6 : List Int) (n7 : Int) (s8 : ByteArray) (n9 : Int) (h : Heap) (hs : Sat ro h (.row a6 c6 (xa6.map (Value.int .u8)) :: F)) (hp : F33.J5p lf kb3p xa6 n7 s8 n9 = some r) : F33.Post F ro r (F33.J5 (callW Tryd.prog ora) lf ro kb3 a6 xa6.length c6 n7 s8 n9 h) := by
  unfold F33.J5
  unfold F33.J5p at hp
  refine st_if (Q := F33.Post F ro r) (fun hc_700 => ?_) (fun hc_700 => ?_)
  · replace hp := ifp_t hc_700 hp
    refine st_if (Q := F33.Post F ro r) (fun hc_701 => ?_) (fun hc_701 => ?_)
    · replace hp := ifp_t hc_701 hp
      refine st_if (Q := F33.Post F ro r) (fun hc_702 => ?_) (fun hc_702 => ?_)
      · replace hp := ifp_t hc_702 hp
        exact F33.J6_ok hora hkb3 a6 _ xa6 n7 s8 n9 true _ hs hp
      · replace hp := ifp_f hc_702 hp
        refine st_if (Q := F33.Post F ro r) (fun hc_729 => ?_) (fun hc_729 => ?_)
        · replace hp := ifp_t hc_729 hp
          refine st_if (Q := F33.Post F ro r) (fun hc_730 => ?_) (fun hc_730 => ?_)
          · replace hp := ifp_t hc_730 hp
            exact F33.J6_ok hora hkb3 a6 _ xa6 n7 s8 n9 ((Int.tmod n9 17) == 0) _ hs hp
          · replace hp := ifp_f hc_730 hp
            exact F33.J6_ok hora hkb3 a6 _ xa6 n7 s8 n9 false _ hs hp
        · replace hp := ifp_f hc_729 hp
          exact F33.J6_ok hora hkb3 a6 _ xa6 n7 s8 n9 false _ hs hp
    · replace hp := ifp_f hc_701 hp
      refine st_if (Q := F33.Post F ro r) (fun hc_731 => ?_) (fun hc_731 => ?_)
      · replace hp := ifp_t hc_731 hp
        refine st_if (Q := F33.Post F ro r) (fun hc_732 => ?_) (fun hc_732 => ?_)
        · replace hp := ifp_t hc_732 hp
          exact F33.J6_ok hora hkb3 a6 _ xa6 n7 s8 n9 ((Int.tmod n9 17) == 0) _ hs hp
        · replace hp := ifp_f hc_732 hp
          exact F33.J6_ok hora hkb3 a6 _ xa6 n7 s8 n9 false _ hs hp
      · replace hp := ifp_f hc_731 hp
        exact F33.J6_ok hora hkb3 a6 _ xa6 n7 s8 n9 false _ hs hp
  · replace hp := ifp_f hc_700 hp
    refine st_if (Q := F33.Post F ro r) (fun hc_733 => ?_) (fun hc_733 => ?_)
    · replace hp := ifp_t hc_733 hp
      refine st_if (Q := F33.Post F ro r) (fun hc_734 => ?_) (fun hc_734 => ?_)
      · replace hp := ifp_t hc_734 hp
        exact F33.J6_ok hora hkb3 a6 _ xa6 n7 s8 n9 ((Int.tmod n9 17) == 0) _ hs hp
      · replace hp := ifp_f hc_734 hp
        exact F33.J6_ok hora hkb3 a6 _ xa6 n7 s8 n9 false _ hs hp
    · replace hp := ifp_f hc_733 hp
      exact F33.J6_ok hora hkb3 a6 _ xa6 n7 s8 n9 false _ hs hp

def F33.L3p (lf : Nat) : Nat → List Int → Int → ByteArray → Int → Option (ByteArray)
  | 0, _, _, _, _ => none
  | n + 1, xa1, n2, s3, n4 =>
  ifp (decide (n4 < (xa1.length : Int))) (
    F33.J5p lf (F33.L3p lf n) xa1 n2 s3 n4) (
    bindp (catp s3 (⟨#[10]⟩ : ByteArray)) fun s_735 =>
    some s_735)

theorem F33.L3_ok {ora : Ora} (hora : HOra ora) {lf ro : Nat} {F : List Ent} {r : (ByteArray)} : ∀ (n : Nat) (a1 : Option Addr) (c1 : Nat) (xa1 : List Int) (n2 : Int) (s3 : ByteArray) (n4 : Int) (h : Heap), Sat ro h (.row a1 c1 (xa1.map (Value.int .u8)) :: F) → F33.L3p lf n xa1 n2 s3 n4 = some r → F33.Post F ro r (F33.L3 (callW Tryd.prog ora) lf ro n a1 xa1.length c1 n2 s3 n4 h) := by
  intro n
  induction n with
  | zero => intro a1 c1 xa1 n2 s3 n4 h hs hp; cases hp
  | succ n ih =>
    intro a1 c1 xa1 n2 s3 n4 h hs hp
    unfold F33.L3
    unfold F33.L3p at hp
    refine st_if (Q := F33.Post F ro r) (fun hc_699 => ?_) (fun hc_699 => ?_)
    · replace hp := ifp_t hc_699 hp
      exact F33.J5_ok hora ih a1 _ xa1 n2 s3 n4 _ hs hp
    · replace hp := ifp_f hc_699 hp
      obtain ⟨s_735, hx_736, hp⟩ := bindp_some hp
      refine st_cat (Q := F33.Post F ro r) isO hx_736 ?_
      refine st_str (Q := F33.Post F ro r) ?_
      have hs_737 := hs.tail
      cases hp
      exact ⟨_, rfl, hs_737⟩

def F33.p (lf : Nat) (xax0 : List Int) (x1 : Int) : Option (ByteArray) :=
  F33.L3p lf lf xax0 x1 (⟨#[]⟩ : ByteArray) 0

theorem F33.t_ok {ora : Ora} (hora : HOra ora) {lf ro : Nat} {F : List Ent} {r : (ByteArray)} (ax0 : Option Addr) (cx0 : Nat) (xax0 : List Int) (x1 : Int) (h : Heap) (hs : Sat ro h (.row ax0 cx0 (xax0.map (Value.int .u8)) :: F)) (hp : F33.p lf xax0 x1 = some r) : F33.Post F ro r (F33.t (callW Tryd.prog ora) lf ro ax0 xax0.length cx0 x1 h) := by
  unfold F33.t
  unfold F33.p at hp
  exact F33.L3_ok hora lf ax0 _ xax0 x1 (⟨#[]⟩ : ByteArray) 0 _ hs hp

theorem F33.ok {ora : Ora} (hora : HOra ora) {lf ro : Nat} {F : List Ent} {r : (ByteArray)} (ax0 : Option Addr) (cx0 : Nat) (xax0 : List Int) (x1 : Int) (h : Heap) (hs : Sat ro h (.row ax0 cx0 (xax0.map (Value.int .u8)) :: F)) (hp : F33.p lf xax0 x1 = some r) : F33.Post F ro r (callW Tryd.prog ora ro 33 [.slice ax0 xax0.length cx0, .int .i64 x1] h) := by
  have h1 := F33.t_ok hora ax0 cx0 xax0 x1 h hs hp
  have h2 : callW Tryd.prog ora ro 33 [.slice ax0 xax0.length cx0, .int .i64 x1] h = _ := callW_body (hora.none _ _ _ _ (by decide)) Tryd.func33 (F33.le (callW Tryd.prog ora) lf ro ax0 xax0.length cx0 x1 h) (F33.Post.ne h1)
  rw [h2]; exact h1

def F34.Post (F : List Ent) (ro : Nat) (r : List Int) (x : Out) : Prop := ∃ a0 h', x = .ok (.slice a0 r.length r.length) h' ∧ Sat ro h' (.own ro a0 1 (r.map (Value.int .u8)) :: F)
theorem F34.Post.ne {F : List Ent} {ro : Nat} {r : List Int} {x : Out} (hx : F34.Post F ro r x) : x ≠ .fail := by
  obtain ⟨a0, h', rfl, _⟩ := hx
  simp

def F34.J9p (lf : Nat) (kb3p : List Int → List Int → Int → Option (List Int)) (kb7p : List Int → List Int → Int → Int → Int → Option (List Int)) (xa15 : List Int) (xa16 : List Int) (n17 : Int) (n18 : Int) (n19 : Int) : Option (List Int) :=
  letJ (fun (n237 : Int) => (
    kb7p xa15 xa16 n17 n237 (IntKind.i64.wrap (n19 + 1)) : Option (List Int))) fun j239p =>
  letJ (fun (b245 : Bool) => (
    ifp b245 (
      j239p (IntKind.i64.wrap ((IntKind.i64.wrap (2 * n18)) + 1))) (
      j239p (IntKind.i64.wrap (2 * n18))) : Option (List Int))) fun j247p =>
  ifp (decide (n19 < (xa15.length : Int))) (
    bindp (idxp xa15 n19) fun x_741 =>
    j247p (x_741 == 0)) (
    j247p false)

theorem F34.J9_ok {ora : Ora} (hora : HOra ora) {lf ro : Nat} {F : List Ent} {r : (List Int)} {kb3p : List Int → List Int → Int → Option (List Int)} {kb3 : (Option Addr) → Nat → Nat → (Option Addr) → Nat → Nat → Int → Heap → Out} (hkb3 : ∀ (a1 : Option Addr) (c1 : Nat) (xa1 : List Int) (a2 : Option Addr) (xa2 : List Int) (n3 : Int) (h : Heap), Sat ro h (.row a1 c1 (xa1.map (Value.int .u8)) :: .own ro a2 1 (xa2.map (Value.int .u8)) :: F) → kb3p xa1 xa2 n3 = some r → F34.Post F ro r (kb3 a1 xa1.length c1 a2 xa2.length xa2.length n3 h)) {kb7p : List Int → List Int → Int → Int → Int → Option (List Int)} {kb7 : (Option Addr) → Nat → Nat → (Option Addr) → Nat → Nat → Int → Int → Int → Heap → Out} (hkb7 : ∀ (a9 : Option Addr) (c9 : Nat) (xa9 : List Int) (a10 : Option Addr) (xa10 : List Int) (n11 : Int) (n12 : Int) (n13 : Int) (h : Heap), Sat ro h (.row a9 c9 (xa9.map (Value.int .u8)) :: .own ro a10 1 (xa10.map (Value.int .u8)) :: F) → kb7p xa9 xa10 n11 n12 n13 = some r → F34.Post F ro r (kb7 a9 xa9.length c9 a10 xa10.length xa10.length n11 n12 n13 h)) (a15 : Option Addr) (c15 : Nat) (xa15 : List Int) (a16 : Option Addr) (xa16 : List Int) (n17 : Int) (n18 : Int) (n19 : Int) (h : Heap) (hs : Sat ro h (.row a15 c15 (xa15.map (Value.int .u8)) :: .own ro a16 1 (xa16.map (Value.int .u8)) :: F)) (hp : F34.J9p lf kb3p kb7p xa15 xa16 n17 n18 n19 = some r) : F34.Post F ro r (F34.J9 (callW Tryd.prog ora) lf ro kb3 kb7 a15 xa15.length c15 a16 xa16.length xa16.length n17 n18 n19 h) := by
  unfold F34.J9
  unfold F34.J9p at hp
  refine st_letJ hp (fun j239p j239 => ∀ (n237 : Int) (h_753 : Heap), Sat ro h_753 (.row a15 c15 (xa15.map (Value.int .u8)) :: .own ro a16 1 (xa16.map (Value.int .u8)) :: F) → j239p n237 = some r → F34.Post F ro r (j239 n237 h_753)) ?_ ?_
  · intro n237 h_753 hs hp
    have hs_754 := hs.pull 1 rfl
    have hs_755 := hs_754.pull 1 rfl
    exact hkb7 a15 _ xa15 a16 xa16 n17 n237 (IntKind.i64.wrap (n19 + 1)) _ hs_755 hp
  · intro j239p j239 hj239 hp
    refine st_letJ hp (fun j247p j247 => ∀ (b245 : Bool) (h_747 : Heap), Sat ro h_747 (.row a15 c15 (xa15.map (Value.int .u8)) :: .own ro a16 1 (xa16.map (Value.int .u8)) :: F) → j247p b245 = some r → F34.Post F ro r (j247 b245 h_747)) ?_ ?_
    · intro b245 h_747 hs hp
      refine st_if (Q := F34.Post F ro r) (fun hc_748 => ?_) (fun hc_748 => ?_)
      · replace hp := ifp_t hc_748 hp
        have hs_749 := hs.pull 1 rfl
        have hs_750 := hs_749.pull 1 rfl
        exact hj239 (IntKind.i64.wrap ((IntKind.i64.wrap (2 * n18)) + 1)) _ hs_750 hp
      · replace hp := ifp_f hc_748 hp
        have hs_751 := hs.pull 1 rfl
        have hs_752 := hs_751.pull 1 rfl
        exact hj239 (IntKind.i64.wrap (2 * n18)) _ hs_752 hp
    · intro j247p j247 hj247 hp
      refine st_if (Q := F34.Post F ro r) (fun hc_740 => ?_) (fun hc_740 => ?_)
      · replace hp := ifp_t hc_740 hp
        obtain ⟨x_741, hx_742, hp⟩ := bindp_some hp
        refine st_idxR (Q := F34.Post F ro r) isO isO hs und22 siz5 agg5 rfl hx_742 ?_
        refine st_int (Q := F34.Post F ro r) ?_
        have hs_743 := hs.pull 1 rfl
        have hs_744 := hs_743.pull 1 rfl
        exact hj247 (x_741 == 0) _ hs_744 hp
      · replace hp := ifp_f hc_740 hp
        have hs_745 := hs.pull 1 rfl
        have hs_746 := hs_745.pull 1 rfl
        exact hj247 false _ hs_746 hp

def F34.L7p (lf : Nat) (kb3p : List Int → List Int → Int → Option (List Int)) : Nat → List Int → List Int → Int → Int → Int → Option (List Int)
  | 0, _, _, _, _, _ => none
  | n + 1, xa9, xa10, n11, n12, n13 =>
  ifp (decide (n13 < IntKind.i64.wrap (n11 + 8))) (
    F34.J9p lf kb3p (F34.L7p lf kb3p n) xa9 xa10 n11 n12 n13) (
    bindp (appp 1 xa10 [IntKind.u8.wrap n12]) fun x_760 =>
    kb3p xa9 x_760 (IntKind.i64.wrap (n11 + 8)))

theorem F34.L7_ok {ora : Ora} (hora : HOra ora) {lf ro : Nat} {F : List Ent} {r : (List Int)} {kb3p : List Int → List Int → Int → Option (List Int)} {kb3 : (Option Addr) → Nat → Nat → (Option Addr) → Nat → Nat → Int → Heap → Out} (hkb3 : ∀ (a1 : Option Addr) (c1 : Nat) (xa1 : List Int) (a2 : Option Addr) (xa2 : List Int) (n3 : Int) (h : Heap), Sat ro h (.row a1 c1 (xa1.map (Value.int .u8)) :: .own ro a2 1 (xa2.map (Value.int .u8)) :: F) → kb3p xa1 xa2 n3 = some r → F34.Post F ro r (kb3 a1 xa1.length c1 a2 xa2.length xa2.length n3 h)) : ∀ (n : Nat) (a9 : Option Addr) (c9 : Nat) (xa9 : List Int) (a10 : Option Addr) (xa10 : List Int) (n11 : Int) (n12 : Int) (n13 : Int) (h : Heap), Sat ro h (.row a9 c9 (xa9.map (Value.int .u8)) :: .own ro a10 1 (xa10.map (Value.int .u8)) :: F) → F34.L7p lf kb3p n xa9 xa10 n11 n12 n13 = some r → F34.Post F ro r (F34.L7 (callW Tryd.prog ora) lf ro kb3 n a9 xa9.length c9 a10 xa10.length xa10.length n11 n12 n13 h) := by
  intro n
  induction n with
  | zero => intro a9 c9 xa9 a10 xa10 n11 n12 n13 h hs hp; cases hp
  | succ n ih =>
    intro a9 c9 xa9 a10 xa10 n11 n12 n13 h hs hp
    unfold F34.L7
    unfold F34.L7p at hp
    refine st_if (Q := F34.Post F ro r) (fun hc_739 => ?_) (fun hc_739 => ?_)
    · replace hp := ifp_t hc_739 hp
      have hs_756 := hs.pull 1 rfl
      have hs_757 := hs_756.pull 1 rfl
      exact F34.J9_ok hora hkb3 ih a9 _ xa9 a10 xa10 n11 n12 n13 _ hs_757 hp
    · replace hp := ifp_f hc_739 hp
      refine st_pushJ (Q := F34.Post F ro r) hs hs.low rfl fun h_758 _ hs_759 => ?_
      have hs_765 := hs_759.pull 2 rfl
      obtain ⟨x_760, hx_761, hp⟩ := bindp_some hp
      refine st_appO (Q := F34.Post F ro r) isO hs_765 (fun _ => rfl) und22 und22 one5 rfl rfl rfl hx_761 fun a_762 h_763 hs_764 => ?_
      refine st_slice (Q := F34.Post F ro r) ?_
      have hs_766 := hs_764.pull 1 rfl
      have hs_767 := hs_766.tail
      have hs_768 := hs_767.pull 1 rfl
      exact hkb3 a9 _ xa9 a_762 x_760 (IntKind.i64.wrap (n11 + 8)) _ hs_768 hp

def F34.J5p (lf : Nat) (kb3p : List Int → List Int → Int → Option (List Int)) (xa5 : List Int) (xa6 : List Int) (n7 : Int) : Option (List Int) :=
  F34.L7p lf kb3p lf xa5 xa6 n7 0 n7

theorem F34.J5_ok {ora : Ora} (hora : HOra ora) {lf ro : Nat} {F : List Ent} {r : (List Int)} {kb3p : List Int → List Int → Int → Option (List Int)} {kb3 : (Option Addr) → Nat → Nat → (Option Addr) → Nat → Nat → Int → Heap → Out} (hkb3 : ∀ (a1 : Option Addr) (c1 : Nat) (xa1 : List Int) (a2 : Option Addr) (xa2 : List Int) (n3 : Int) (h : Heap), Sat ro h (.row a1 c1 (xa1.map (Value.int .u8)) :: .own ro a2 1 (xa2.map (Value.int .u8)) :: F) → kb3p xa1 xa2 n3 = some r → F34.Post F ro r (kb3 a1 xa1.length c1 a2 xa2.length xa2.length n3 h)) (a5 : Option Addr) (c5 : Nat) (xa5 : List Int) (a6 : Option Addr) (xa6 : List Int) (n7 : Int) (h : Heap) (hs : Sat ro h (.row a5 c5 (xa5.map (Value.int .u8)) :: .own ro a6 1 (xa6.map (Value.int .u8)) :: F)) (hp : F34.J5p lf kb3p xa5 xa6 n7 = some r) : F34.Post F ro r (F34.J5 (callW Tryd.prog ora) lf ro kb3 a5 xa5.length c5 a6 xa6.length xa6.length n7 h) := by
  unfold F34.J5
  unfold F34.J5p at hp
  have hs_769 := hs.pull 1 rfl
  have hs_770 := hs_769.pull 1 rfl
  exact F34.L7_ok hora hkb3 lf a5 _ xa5 a6 xa6 n7 0 n7 _ hs_770 hp

def F34.L3p (lf : Nat) : Nat → List Int → List Int → Int → Option (List Int)
  | 0, _, _, _ => none
  | n + 1, xa1, xa2, n3 =>
  ifp (decide (n3 < (xa1.length : Int))) (
    F34.J5p lf (F34.L3p lf n) xa1 xa2 n3) (
    some xa2)

theorem F34.L3_ok {ora : Ora} (hora : HOra ora) {lf ro : Nat} {F : List Ent} {r : (List Int)} : ∀ (n : Nat) (a1 : Option Addr) (c1 : Nat) (xa1 : List Int) (a2 : Option Addr) (xa2 : List Int) (n3 : Int) (h : Heap), Sat ro h (.row a1 c1 (xa1.map (Value.int .u8)) :: .own ro a2 1 (xa2.map (Value.int .u8)) :: F) → F34.L3p lf n xa1 xa2 n3 = some r → F34.Post F ro r (F34.L3 (callW Tryd.prog ora) lf ro n a1 xa1.length c1 a2 xa2.length xa2.length n3 h) := by
  intro n
  induction n with
  | zero => intro a1 c1 xa1 a2 xa2 n3 h hs hp; cases hp
  | succ n ih =>
    intro a1 c1 xa1 a2 xa2 n3 h hs hp
    unfold F34.L3
    unfold F34.L3p at hp
    refine st_if (Q := F34.Post F ro r) (fun hc_738 => ?_) (fun hc_738 => ?_)
    · replace hp := ifp_t hc_738 hp
      have hs_771 := hs.pull 1 rfl
      have hs_772 := hs_771.pull 1 rfl
      exact F34.J5_ok hora ih a1 _ xa1 a2 xa2 n3 _ hs_772 hp
    · replace hp := ifp_f hc_738 hp
      have hs_773 := hs.tail
      cases hp
      exact ⟨a2, _, rfl, hs_773⟩

def F34.p (lf : Nat) (xax0 : List Int) : Option (List Int) :=
  F34.L3p lf lf xax0 [] 0

theorem F34.t_ok {ora : Ora} (hora : HOra ora) {lf ro : Nat} {F : List Ent} {r : (List Int)} (ax0 : Option Addr) (cx0 : Nat) (xax0 : List Int) (h : Heap) (hs : Sat ro h (.row ax0 cx0 (xax0.map (Value.int .u8)) :: F)) (hp : F34.p lf xax0 = some r) : F34.Post F ro r (F34.t (callW Tryd.prog ora) lf ro ax0 xax0.length cx0 h) := by
  unfold F34.t
  unfold F34.p at hp
  have hs_774 := hs.nilOwn ro 1
  have hs_775 := hs_774.pull 1 rfl
  exact F34.L3_ok hora lf ax0 _ xax0 none [] 0 _ hs_775 hp

theorem F34.ok {ora : Ora} (hora : HOra ora) {lf ro : Nat} {F : List Ent} {r : (List Int)} (ax0 : Option Addr) (cx0 : Nat) (xax0 : List Int) (h : Heap) (hs : Sat ro h (.row ax0 cx0 (xax0.map (Value.int .u8)) :: F)) (hp : F34.p lf xax0 = some r) : F34.Post F ro r (callW Tryd.prog ora ro 34 [.slice ax0 xax0.length cx0] h) := by
  have h1 := F34.t_ok hora ax0 cx0 xax0 h hs hp
  have h2 : callW Tryd.prog ora ro 34 [.slice ax0 xax0.length cx0] h = _ := callW_body (hora.none _ _ _ _ (by decide)) Tryd.func34 (F34.le (callW Tryd.prog ora) lf ro ax0 xax0.length cx0 h) (F34.Post.ne h1)
  rw [h2]; exact h1

def F11.Post (F : List Ent) (ro : Nat) (r : List Int × Int) (x : Out) : Prop := ∃ a0 h', x = .ok (.tuple #[.slice a0 r.1.length r.1.length, .int .i64 r.2]) h' ∧ Sat ro h' (.own ro a0 1 (r.1.map (Value.int .u8)) :: F)
theorem F11.Post.ne {F : List Ent} {ro : Nat} {r : List Int × Int} {x : Out} (hx : F11.Post F ro r x) : x ≠ .fail := by
  obtain ⟨a0, h', rfl, _⟩ := hx
  simp

def F11.J6p (lf : Nat) (kb4p : Int → Int → Int → List Int → Int → Option (List Int × Int)) (n40 : Int) (mp41_0 : Int) (mp41_1 : Int) (xp41_2 : List Int) (n42 : Int) : Option (List Int × Int) :=
  letJ (fun (b95 : Bool) => (
    ifp b95 (
      some ([], 3)) (
      kb4p n40 mp41_0 mp41_1 xp41_2 (IntKind.i64.wrap (n42 + 1))) : Option (List Int × Int))) fun j97p =>
  bindp (idxp xp41_2 n42) fun x_812 =>
  ifp (x_812 != 0) (
    bindp (idxp xp41_2 n42) fun x_817 =>
    j97p (x_817 != 255)) (
    j97p false)

theorem F11.J6_ok {ora : Ora} (hora : HOra ora) {lf ro : Nat} {F : List Ent} {r : (List Int × Int)} {kb4p : Int → Int → Int → List Int → Int → Option (List Int × Int)} {kb4 : Int → Nat → Nat → Int → Heap → Out} (hkb4 : ∀ (n27 : Int) (p28 : Nat) (mp28_0 : Int) (mp28_1 : Int) (ap28_2 : Option Addr) (cp28_2 : Nat) (xp28_2 : List Int) (n29 : Int) (h : Heap), Sat ro h (.own ro (some ⟨p28, 0, none⟩) 1 [.int .i64 mp28_0, .int .i64 mp28_1, .slice ap28_2 xp28_2.length cp28_2] :: .row ap28_2 cp28_2 (xp28_2.map (Value.int .u8)) :: F) → kb4p n27 mp28_0 mp28_1 xp28_2 n29 = some r → F11.Post F ro r (kb4 n27 p28 0 n29 h)) (n40 : Int) (p41 : Nat) (mp41_0 : Int) (mp41_1 : Int) (ap41_2 : Option Addr) (cp41_2 : Nat) (xp41_2 : List Int) (n42 : Int) (h : Heap) (hs : Sat ro h (.own ro (some ⟨p41, 0, none⟩) 1 [.int .i64 mp41_0, .int .i64 mp41_1, .slice ap41_2 xp41_2.length cp41_2] :: .row ap41_2 cp41_2 (xp41_2.map (Value.int .u8)) :: F)) (hp : F11.J6p lf kb4p n40 mp41_0 mp41_1 xp41_2 n42 = some r) : F11.Post F ro r (F11.J6 (callW Tryd.prog ora) lf ro kb4 n40 p41 0 n42 h) := by
  unfold F11.J6
  unfold F11.J6p at hp
  refine st_letJ hp (fun j97p j97 => ∀ (b95 : Bool) (h_822 : Heap), Sat ro h_822 (.own ro (some ⟨p41, 0, none⟩) 1 [.int .i64 mp41_0, .int .i64 mp41_1, .slice ap41_2 xp41_2.length cp41_2] :: .row ap41_2 cp41_2 (xp41_2.map (Value.int .u8)) :: F) → j97p b95 = some r → F11.Post F ro r (j97 b95 h_822)) ?_ ?_
  · intro b95 h_822 hs hp
    refine st_if (Q := F11.Post F ro r) (fun hc_823 => ?_) (fun hc_823 => ?_)
    · replace hp := ifp_t hc_823 hp
      have hs_824 := hs.nilOwn ro 1
      have hs_825 := hs_824.pull 1 rfl
      have hs_826 := hs_825.tail
      have hs_827 := hs_826.pull 1 rfl
      have hs_828 := hs_827.tail
      cases hp
      exact ⟨none, _, rfl, hs_828⟩
    · replace hp := ifp_f hc_823 hp
      have hs_829 := hs.pull 1 rfl
      have hs_830 := hs_829.pull 1 rfl
      exact hkb4 n40 p41 mp41_0 mp41_1 _ _ xp41_2 (IntKind.i64.wrap (n42 + 1)) _ hs_830 hp
  · intro j97p j97 hj97 hp
    refine st_load (Q := F11.Post F ro r) isO hs agg22 rfl ?_
    refine st_slice (Q := F11.Post F ro r) ?_
    have hs_814 := hs.pull 1 rfl
    obtain ⟨x_812, hx_813, hp⟩ := bindp_some hp
    refine st_idxR (Q := F11.Post F ro r) isO isO hs_814 und22 siz5 agg5 rfl hx_813 ?_
    refine st_int (Q := F11.Post F ro r) ?_
    refine st_if (Q := F11.Post F ro r) (fun hc_815 => ?_) (fun hc_815 => ?_)
    · replace hp := ifp_t hc_815 hp
      have hs_816 := hs_814.pull 1 rfl
      refine st_load (Q := F11.Post F ro r) isO hs_816 agg22 rfl ?_
      refine st_slice (Q := F11.Post F ro r) ?_
      have hs_819 := hs_816.pull 1 rfl
      obtain ⟨x_817, hx_818, hp⟩ := bindp_some hp
      refine st_idxR (Q := F11.Post F ro r) isO isO hs_819 und22 siz5 agg5 rfl hx_818 ?_
      refine st_int (Q := F11.Post F ro r) ?_
      have hs_820 := hs_819.pull 1 rfl
      exact hj97 (x_817 != 255) _ hs_820 hp
    · replace hp := ifp_f hc_815 hp
      have hs_821 := hs_814.pull 1 rfl
      exact hj97 false _ hs_821 hp

def F11.J15p (lf : Nat) (kb13p : Int → Int → Int → List Int → List Int → Int → Option (List Int × Int)) (n216 : Int) (mp217_0 : Int) (mp217_1 : Int) (xp217_2 : List Int) (xa218 : List Int) (n219 : Int) : Option (List Int × Int) :=
  letJ (fun (xa395 : List Int) => (
    kb13p n216 mp217_0 mp217_1 xp217_2 xa395 (IntKind.i64.wrap (n219 + 1)) : Option (List Int × Int))) fun j397p =>
  bindp (subp xp217_2 (IntKind.i64.wrap (n219 * mp217_0)) (IntKind.i64.wrap ((IntKind.i64.wrap (n219 * mp217_0)) + mp217_0))) fun x_875 =>
  bindp (F32.p lf n216) fun r_880 =>
  ifp r_880 (
    bindp (F33.p lf x_875 n216) fun r_887 =>
    bindp (appp 1 xa218 (bytp r_887)) fun x_892 =>
    j397p x_892) (
    bindp (F30.p lf n216) fun r_903 =>
    ifp r_903 (
      bindp (appp 1 xa218 x_875) fun x_909 =>
      j397p x_909) (
      bindp (F34.p lf x_875) fun r_921 =>
      bindp (appp 1 xa218 r_921) fun x_927 =>
      j397p x_927))

theorem F11.J15_ok {ora : Ora} (hora : HOra ora) {lf ro : Nat} {F : List Ent} {r : (List Int × Int)} {kb13p : Int → Int → Int → List Int → List Int → Int → Option (List Int × Int)} {kb13 : Int → Nat → Nat → (Option Addr) → Nat → Nat → Int → Heap → Out} (hkb13 : ∀ (n205 : Int) (p206 : Nat) (mp206_0 : Int) (mp206_1 : Int) (ap206_2 : Option Addr) (cp206_2 : Nat) (xp206_2 : List Int) (a207 : Option Addr) (xa207 : List Int) (n208 : Int) (h : Heap), Sat ro h (.own ro (some ⟨p206, 0, none⟩) 1 [.int .i64 mp206_0, .int .i64 mp206_1, .slice ap206_2 xp206_2.length cp206_2] :: .row ap206_2 cp206_2 (xp206_2.map (Value.int .u8)) :: .own ro a207 1 (xa207.map (Value.int .u8)) :: F) → kb13p n205 mp206_0 mp206_1 xp206_2 xa207 n208 = some r → F11.Post F ro r (kb13 n205 p206 0 a207 xa207.length xa207.length n208 h)) (n216 : Int) (p217 : Nat) (mp217_0 : Int) (mp217_1 : Int) (ap217_2 : Option Addr) (cp217_2 : Nat) (xp217_2 : List Int) (a218 : Option Addr) (xa218 : List Int) (n219 : Int) (h : Heap) (hs : Sat ro h (.own ro (some ⟨p217, 0, none⟩) 1 [.int .i64 mp217_0, .int .i64 mp217_1, .slice ap217_2 xp217_2.length cp217_2] :: .row ap217_2 cp217_2 (xp217_2.map (Value.int .u8)) :: .own ro a218 1 (xa218.map (Value.int .u8)) :: F)) (hp : F11.J15p lf kb13p n216 mp217_0 mp217_1 xp217_2 xa218 n219 = some r) : F11.Post F ro r (F11.J15 (callW Tryd.prog ora) lf ro kb13 n216 p217 0 a218 xa218.length xa218.length n219 h) := by
  unfold F11.J15
  unfold F11.J15p at hp
  refine st_letJ hp (fun j397p j397 => ∀ (a395 : Option Addr) (xa395 : List Int) (h_940 : Heap), Sat ro h_940 (.own ro a395 1 (xa395.map (Value.int .u8)) :: .own ro (some ⟨p217, 0, none⟩) 1 [.int .i64 mp217_0, .int .i64 mp217_1, .slice ap217_2 xp217_2.length cp217_2] :: .row ap217_2 cp217_2 (xp217_2.map (Value.int .u8)) :: F) → j397p xa395 = some r → F11.Post F ro r (j397 a395 xa395.length xa395.length h_940)) ?_ ?_
  · intro a395 xa395 h_940 hs hp
    have hs_941 := hs.pull 2 rfl
    have hs_942 := hs_941.pull 2 rfl
    exact hkb13 n216 p217 mp217_0 mp217_1 _ _ xp217_2 a395 xa395 (IntKind.i64.wrap (n219 + 1)) _ hs_942 hp
  · intro j397p j397 hj397 hp
    refine st_load (Q := F11.Post F ro r) isO hs agg22 rfl ?_
    refine st_slice (Q := F11.Post F ro r) ?_
    refine st_load (Q := F11.Post F ro r) isO hs agg3 rfl ?_
    refine st_int (Q := F11.Post F ro r) ?_
    refine st_load (Q := F11.Post F ro r) isO hs agg3 rfl ?_
    refine st_int (Q := F11.Post F ro r) ?_
    refine st_load (Q := F11.Post F ro r) isO hs agg3 rfl ?_
    refine st_int (Q := F11.Post F ro r) ?_
    have hs_874 := hs.pull 1 rfl
    obtain ⟨x_875, hx_876, hp⟩ := bindp_some hp
    refine st_subR (Q := F11.Post F ro r) isO hs_874 und22 siz5 rfl (.inr ⟨_, rfl⟩) (.inr ⟨_, rfl⟩) hx_876 fun a_877 c_878 hs_879 => ?_
    refine st_slice (Q := F11.Post F ro r) ?_
    obtain ⟨r_880, hx_881, hp⟩ := bindp_some hp
    obtain ⟨h_882, e_884, hs_883⟩ := F32.ok hora (ro := ro) (F := .row a_877 c_878 (x_875.map (Value.int .u8)) :: .row ap217_2 cp217_2 (xp217_2.map (Value.int .u8)) :: .own ro (some ⟨p217, 0, none⟩) 1 [.int .i64 mp217_0, .int .i64 mp217_1, .slice ap217_2 xp217_2.length cp217_2] :: .own ro a218 1 (xa218.map (Value.int .u8)) :: F) n216 _ hs_879 hx_881
    refine st_ok (Q := F11.Post F ro r) isO e_884 ?_
    refine st_bool (Q := F11.Post F ro r) ?_
    refine st_if (Q := F11.Post F ro r) (fun hc_885 => ?_) (fun hc_885 => ?_)
    · replace hp := ifp_t hc_885 hp
      have hs_886 := hs_883.dup
      obtain ⟨r_887, hx_888, hp⟩ := bindp_some hp
      obtain ⟨h_889, e_891, hs_890⟩ := F33.ok hora (ro := ro) (F := .row a_877 c_878 (x_875.map (Value.int .u8)) :: .row ap217_2 cp217_2 (xp217_2.map (Value.int .u8)) :: .own ro (some ⟨p217, 0, none⟩) 1 [.int .i64 mp217_0, .int .i64 mp217_1, .slice ap217_2 xp217_2.length cp217_2] :: .own ro a218 1 (xa218.map (Value.int .u8)) :: F) a_877 c_878 x_875 n216 _ hs_886 hx_888
      refine st_ok (Q := F11.Post F ro r) isO e_891 ?_
      refine st_str (Q := F11.Post F ro r) ?_
      have hs_897 := hs_890.pull 3 rfl
      obtain ⟨x_892, hx_893, hp⟩ := bindp_some hp
      refine st_appS (Q := F11.Post F ro r) isO hs_897 und22 und9 one5 rfl rfl hx_893 fun a_894 h_895 hs_896 => ?_
      refine st_slice (Q := F11.Post F ro r) ?_
      have hs_898 := hs_896.pull 1 rfl
      have hs_899 := hs_898.tail
      have hs_900 := hs_899.pull 1 rfl
      have hs_901 := hs_900.pull 2 rfl
      have hs_902 := hs_901.pull 2 rfl
      exact hj397 a_894 x_892 _ hs_902 hp
    · replace hp := ifp_f hc_885 hp
      obtain ⟨r_903, hx_904, hp⟩ := bindp_some hp
      obtain ⟨h_905, e_907, hs_906⟩ := F30.ok hora (ro := ro) (F := .row a_877 c_878 (x_875.map (Value.int .u8)) :: .row ap217_2 cp217_2 (xp217_2.map (Value.int .u8)) :: .own ro (some ⟨p217, 0, none⟩) 1 [.int .i64 mp217_0, .int .i64 mp217_1, .slice ap217_2 xp217_2.length cp217_2] :: .own ro a218 1 (xa218.map (Value.int .u8)) :: F) n216 _ hs_883 hx_904
      refine st_ok (Q := F11.Post F ro r) isO e_907 ?_
      refine st_bool (Q := F11.Post F ro r) ?_
      refine st_if (Q := F11.Post F ro r) (fun hc_908 => ?_) (fun hc_908 => ?_)
      · replace hp := ifp_t hc_908 hp
        have hs_914 := hs_906.pull 3 rfl
        obtain ⟨x_909, hx_910, hp⟩ := bindp_some hp
        refine st_appR (Q := F11.Post F ro r) isO hs_914 und22 und22 one5 rfl rfl rfl hx_910 fun a_911 h_912 hs_913 => ?_
        refine st_slice (Q := F11.Post F ro r) ?_
        have hs_915 := hs_913.pull 1 rfl
        have hs_916 := hs_915.tail
        have hs_917 := hs_916.pull 1 rfl
        have hs_918 := hs_917.pull 2 rfl
        have hs_919 := hs_918.pull 2 rfl
        exact hj397 a_911 x_909 _ hs_919 hp
      · replace hp := ifp_f hc_908 hp
        have hs_920 := hs_906.dup
        obtain ⟨r_921, hx_922, hp⟩ := bindp_some hp
        obtain ⟨a_926, h_923, e_925, hs_924⟩ := F34.ok hora (ro := ro) (F := .row a_877 c_878 (x_875.map (Value.int .u8)) :: .row ap217_2 cp217_2 (xp217_2.map (Value.int .u8)) :: .own ro (some ⟨p217, 0, none⟩) 1 [.int .i64 mp217_0, .int .i64 mp217_1, .slice ap217_2 xp217_2.length cp217_2] :: .own ro a218 1 (xa218.map (Value.int .u8)) :: F) a_877 c_878 x_875 _ hs_920 hx_922
        refine st_ok (Q := F11.Post F ro r) isO e_925 ?_
        refine st_slice (Q := F11.Post F ro r) ?_
        have hs_932 := hs_924.pull 4 rfl
        obtain ⟨x_927, hx_928, hp⟩ := bindp_some hp
        refine st_appO (Q := F11.Post F ro r) isO hs_932 (fun _ => rfl) und22 und22 one5 rfl rfl rfl hx_928 fun a_929 h_930 hs_931 => ?_
        refine st_slice (Q := F11.Post F ro r) ?_
        have hs_933 := hs_931.pull 1 rfl
        have hs_934 := hs_933.tail
        have hs_935 := hs_934.pull 1 rfl
        have hs_936 := hs_935.tail
        have hs_937 := hs_936.pull 1 rfl
        have hs_938 := hs_937.pull 2 rfl
        have hs_939 := hs_938.pull 2 rfl
        exact hj397 a_929 x_927 _ hs_939 hp

def F11.L13p (lf : Nat) : Nat → Int → Int → Int → List Int → List Int → Int → Option (List Int × Int)
  | 0, _, _, _, _, _, _ => none
  | n + 1, n205, mp206_0, mp206_1, xp206_2, xa207, n208 =>
  ifp (decide (n208 < mp206_1)) (
    F11.J15p lf (F11.L13p lf n) n205 mp206_0 mp206_1 xp206_2 xa207 n208) (
    some (xa207, 0))

theorem F11.L13_ok {ora : Ora} (hora : HOra ora) {lf ro : Nat} {F : List Ent} {r : (List Int × Int)} : ∀ (n : Nat) (n205 : Int) (p206 : Nat) (mp206_0 : Int) (mp206_1 : Int) (ap206_2 : Option Addr) (cp206_2 : Nat) (xp206_2 : List Int) (a207 : Option Addr) (xa207 : List Int) (n208 : Int) (h : Heap), Sat ro h (.own ro (some ⟨p206, 0, none⟩) 1 [.int .i64 mp206_0, .int .i64 mp206_1, .slice ap206_2 xp206_2.length cp206_2] :: .row ap206_2 cp206_2 (xp206_2.map (Value.int .u8)) :: .own ro a207 1 (xa207.map (Value.int .u8)) :: F) → F11.L13p lf n n205 mp206_0 mp206_1 xp206_2 xa207 n208 = some r → F11.Post F ro r (F11.L13 (callW Tryd.prog ora) lf ro n n205 p206 0 a207 xa207.length xa207.length n208 h) := by
  intro n
  induction n with
  | zero => intro n205 p206 mp206_0 mp206_1 ap206_2 cp206_2 xp206_2 a207 xa207 n208 h hs hp; cases hp
  | succ n ih =>
    intro n205 p206 mp206_0 mp206_1 ap206_2 cp206_2 xp206_2 a207 xa207 n208 h hs hp
    unfold F11.L13
    unfold F11.L13p at hp
    refine st_load (Q := F11.Post F ro r) isO hs agg3 rfl ?_
    refine st_int (Q := F11.Post F ro r) ?_
    refine st_if (Q := F11.Post F ro r) (fun hc_873 => ?_) (fun hc_873 => ?_)
    · replace hp := ifp_t hc_873 hp
      have hs_943 := hs.pull 2 rfl
      have hs_944 := hs_943.pull 2 rfl
      have hs_945 := hs_944.pull 2 rfl
      exact F11.J15_ok hora ih n205 p206 mp206_0 mp206_1 _ _ xp206_2 a207 xa207 n208 _ hs_945 hp
    · replace hp := ifp_f hc_873 hp
      have hs_946 := hs.tail
      have hs_947 := hs_946.tail
      cases hp
      exact ⟨a207, _, rfl, hs_947⟩

def F11.J11p (lf : Nat) (n195 : Int) (mp196_0 : Int) (mp196_1 : Int) (xp196_2 : List Int) (s197 : ByteArray) : Option (List Int × Int) :=
  F11.L13p lf lf n195 mp196_0 mp196_1 xp196_2 (bytp s197) 0

theorem F11.J11_ok {ora : Ora} (hora : HOra ora) {lf ro : Nat} {F : List Ent} {r : (List Int × Int)} (n195 : Int) (p196 : Nat) (mp196_0 : Int) (mp196_1 : Int) (ap196_2 : Option Addr) (cp196_2 : Nat) (xp196_2 : List Int) (s197 : ByteArray) (h : Heap) (hs : Sat ro h (.own ro (some ⟨p196, 0, none⟩) 1 [.int .i64 mp196_0, .int .i64 mp196_1, .slice ap196_2 xp196_2.length cp196_2] :: .row ap196_2 cp196_2 (xp196_2.map (Value.int .u8)) :: F)) (hp : F11.J11p lf n195 mp196_0 mp196_1 xp196_2 s197 = some r) : F11.Post F ro r (F11.J11 (callW Tryd.prog ora) lf ro n195 p196 0 s197 h) := by
  unfold F11.J11
  unfold F11.J11p at hp
  refine st_byt (Q := F11.Post F ro r) isO hs und9 und22 und5 fun a_870 h_871 hs_872 => ?_
  refine st_slice (Q := F11.Post F ro r) ?_
  have hs_948 := hs_872.pull 2 rfl
  have hs_949 := hs_948.pull 2 rfl
  exact F11.L13_ok hora lf n195 p196 mp196_0 mp196_1 _ _ xp196_2 a_870 (bytp s197) 0 _ hs_949 hp

def F11.J8p (lf : Nat) (n117 : Int) (mp118_0 : Int) (mp118_1 : Int) (xp118_2 : List Int) : Option (List Int × Int) :=
  bindp (F31.p lf n117) fun r_833 =>
  bindp (catp (⟨#[80]⟩ : ByteArray) r_833) fun s_839 =>
  bindp (catp s_839 (⟨#[10]⟩ : ByteArray)) fun s_841 =>
  bindp (F31.p lf mp118_0) fun r_843 =>
  bindp (catp s_841 r_843) fun s_849 =>
  bindp (catp s_849 (⟨#[32]⟩ : ByteArray)) fun s_851 =>
  bindp (F31.p lf mp118_1) fun r_853 =>
  bindp (catp s_851 r_853) fun s_858 =>
  bindp (catp s_858 (⟨#[10]⟩ : ByteArray)) fun s_860 =>
  bindp (F30.p lf n117) fun r_862 =>
  ifp r_862 (
    bindp (catp s_860 (⟨#[50, 53, 53, 10]⟩ : ByteArray)) fun s_868 =>
    F11.J11p lf n117 mp118_0 mp118_1 xp118_2 s_868) (
    F11.J11p lf n117 mp118_0 mp118_1 xp118_2 s_860)

theorem F11.J8_ok {ora : Ora} (hora : HOra ora) {lf ro : Nat} {F : List Ent} {r : (List Int × Int)} (n117 : Int) (p118 : Nat) (mp118_0 : Int) (mp118_1 : Int) (ap118_2 : Option Addr) (cp118_2 : Nat) (xp118_2 : List Int) (h : Heap) (hs : Sat ro h (.own ro (some ⟨p118, 0, none⟩) 1 [.int .i64 mp118_0, .int .i64 mp118_1, .slice ap118_2 xp118_2.length cp118_2] :: .row ap118_2 cp118_2 (xp118_2.map (Value.int .u8)) :: F)) (hp : F11.J8p lf n117 mp118_0 mp118_1 xp118_2 = some r) : F11.Post F ro r (F11.J8 (callW Tryd.prog ora) lf ro n117 p118 0 h) := by
  unfold F11.J8
  unfold F11.J8p at hp
  obtain ⟨r_833, hx_834, hp⟩ := bindp_some hp
  obtain ⟨h_835, e_837, hs_836⟩ := F31.ok hora (ro := h.next) (F := .own ro (some ⟨p118, 0, none⟩) 1 [.int .i64 mp118_0, .int .i64 mp118_1, .slice ap118_2 xp118_2.length cp118_2] :: .row ap118_2 cp118_2 (xp118_2.map (Value.int .u8)) :: F) n117 _ (hs.ro' (Nat.le_refl _)) hx_834
  refine st_ok (Q := F11.Post F ro r) isN e_837 ?_
  replace hs_836 := hs_836.ro' (Nat.le_trans hs.low hs_836.low)
  refine st_str (Q := F11.Post F ro r) ?_
  obtain ⟨s_839, hx_840, hp⟩ := bindp_some hp
  refine st_cat (Q := F11.Post F ro r) isN hx_840 ?_
  refine st_str (Q := F11.Post F ro r) ?_
  obtain ⟨s_841, hx_842, hp⟩ := bindp_some hp
  refine st_cat (Q := F11.Post F ro r) isN hx_842 ?_
  refine st_str (Q := F11.Post F ro r) ?_
  refine st_load (Q := F11.Post F ro r) isN hs_836 agg3 rfl ?_
  refine st_int (Q := F11.Post F ro r) ?_
  obtain ⟨r_843, hx_844, hp⟩ := bindp_some hp
  obtain ⟨h_845, e_847, hs_846⟩ := F31.ok hora (ro := h_835.next) (F := .own ro (some ⟨p118, 0, none⟩) 1 [.int .i64 mp118_0, .int .i64 mp118_1, .slice ap118_2 xp118_2.length cp118_2] :: .row ap118_2 cp118_2 (xp118_2.map (Value.int .u8)) :: F) mp118_0 _ (hs_836.ro' (Nat.le_refl _)) hx_844
  refine st_ok (Q := F11.Post F ro r) isN e_847 ?_
  replace hs_846 := hs_846.ro' (Nat.le_trans hs_836.low hs_846.low)
  refine st_str (Q := F11.Post F ro r) ?_
  obtain ⟨s_849, hx_850, hp⟩ := bindp_some hp
  refine st_cat (Q := F11.Post F ro r) isN hx_850 ?_
  refine st_str (Q := F11.Post F ro r) ?_
  obtain ⟨s_851, hx_852, hp⟩ := bindp_some hp
  refine st_cat (Q := F11.Post F ro r) isN hx_852 ?_
  refine st_str (Q := F11.Post F ro r) ?_
  refine st_load (Q := F11.Post F ro r) isN hs_846 agg3 rfl ?_
  refine st_int (Q := F11.Post F ro r) ?_
  obtain ⟨r_853, hx_854, hp⟩ := bindp_some hp
  obtain ⟨h_855, e_857, hs_856⟩ := F31.ok hora (ro := ro) (F := .own ro (some ⟨p118, 0, none⟩) 1 [.int .i64 mp118_0, .int .i64 mp118_1, .slice ap118_2 xp118_2.length cp118_2] :: .row ap118_2 cp118_2 (xp118_2.map (Value.int .u8)) :: F) mp118_1 _ hs_846 hx_854
  refine st_ok (Q := F11.Post F ro r) isN e_857 ?_
  refine st_str (Q := F11.Post F ro r) ?_
  obtain ⟨s_858, hx_859, hp⟩ := bindp_some hp
  refine st_cat (Q := F11.Post F ro r) isO hx_859 ?_
  refine st_str (Q := F11.Post F ro r) ?_
  obtain ⟨s_860, hx_861, hp⟩ := bindp_some hp
  refine st_cat (Q := F11.Post F ro r) isO hx_861 ?_
  refine st_str (Q := F11.Post F ro r) ?_
  obtain ⟨r_862, hx_863, hp⟩ := bindp_some hp
  obtain ⟨h_864, e_866, hs_865⟩ := F30.ok hora (ro := ro) (F := .own ro (some ⟨p118, 0, none⟩) 1 [.int .i64 mp118_0, .int .i64 mp118_1, .slice ap118_2 xp118_2.length cp118_2] :: .row ap118_2 cp118_2 (xp118_2.map (Value.int .u8)) :: F) n117 _ hs_856 hx_863
  refine st_ok (Q := F11.Post F ro r) isO e_866 ?_
  refine st_bool (Q := F11.Post F ro r) ?_
  refine st_if (Q := F11.Post F ro r) (fun hc_867 => ?_) (fun hc_867 => ?_)
  · replace hp := ifp_t hc_867 hp
    obtain ⟨s_868, hx_869, hp⟩ := bindp_some hp
    refine st_cat (Q := F11.Post F ro r) isO hx_869 ?_
    refine st_str (Q := F11.Post F ro r) ?_
    have hs_950 := hs_865.pull 1 rfl
    have hs_951 := hs_950.pull 1 rfl
    exact F11.J11_ok hora n117 p118 mp118_0 mp118_1 _ _ xp118_2 s_868 _ hs_951 hp
  · replace hp := ifp_f hc_867 hp
    have hs_952 := hs_865.pull 1 rfl
    have hs_953 := hs_952.pull 1 rfl
    exact F11.J11_ok hora n117 p118 mp118_0 mp118_1 _ _ xp118_2 s_860 _ hs_953 hp

def F11.L4p (lf : Nat) : Nat → Int → Int → Int → List Int → Int → Option (List Int × Int)
  | 0, _, _, _, _, _ => none
  | n + 1, n27, mp28_0, mp28_1, xp28_2, n29 =>
  letJ (fun (b37 : Bool) => (
    ifp b37 (
      F11.J6p lf (F11.L4p lf n) n27 mp28_0 mp28_1 xp28_2 n29) (
      F11.J8p lf n27 mp28_0 mp28_1 xp28_2) : Option (List Int × Int))) fun j39p =>
  ifp (decide (n29 < (xp28_2.length : Int))) (
    bindp (F30.p lf n27) fun r_801 =>
    j39p (!r_801)) (
    j39p false)

theorem F11.L4_ok {ora : Ora} (hora : HOra ora) {lf ro : Nat} {F : List Ent} {r : (List Int × Int)} : ∀ (n : Nat) (n27 : Int) (p28 : Nat) (mp28_0 : Int) (mp28_1 : Int) (ap28_2 : Option Addr) (cp28_2 : Nat) (xp28_2 : List Int) (n29 : Int) (h : Heap), Sat ro h (.own ro (some ⟨p28, 0, none⟩) 1 [.int .i64 mp28_0, .int .i64 mp28_1, .slice ap28_2 xp28_2.length cp28_2] :: .row ap28_2 cp28_2 (xp28_2.map (Value.int .u8)) :: F) → F11.L4p lf n n27 mp28_0 mp28_1 xp28_2 n29 = some r → F11.Post F ro r (F11.L4 (callW Tryd.prog ora) lf ro n n27 p28 0 n29 h) := by
  intro n
  induction n with
  | zero => intro n27 p28 mp28_0 mp28_1 ap28_2 cp28_2 xp28_2 n29 h hs hp; cases hp
  | succ n ih =>
    intro n27 p28 mp28_0 mp28_1 ap28_2 cp28_2 xp28_2 n29 h hs hp
    unfold F11.L4
    unfold F11.L4p at hp
    refine st_letJ hp (fun j39p j39 => ∀ (b37 : Bool) (h_810 : Heap), Sat ro h_810 (.own ro (some ⟨p28, 0, none⟩) 1 [.int .i64 mp28_0, .int .i64 mp28_1, .slice ap28_2 xp28_2.length cp28_2] :: .row ap28_2 cp28_2 (xp28_2.map (Value.int .u8)) :: F) → j39p b37 = some r → F11.Post F ro r (j39 b37 h_810)) ?_ ?_
    · intro b37 h_810 hs hp
      refine st_if (Q := F11.Post F ro r) (fun hc_811 => ?_) (fun hc_811 => ?_)
      · replace hp := ifp_t hc_811 hp
        have hs_831 := hs.pull 1 rfl
        have hs_832 := hs_831.pull 1 rfl
        exact F11.J6_ok hora ih n27 p28 mp28_0 mp28_1 _ _ xp28_2 n29 _ hs_832 hp
      · replace hp := ifp_f hc_811 hp
        have hs_954 := hs.pull 1 rfl
        have hs_955 := hs_954.pull 1 rfl
        exact F11.J8_ok hora n27 p28 mp28_0 mp28_1 _ _ xp28_2 _ hs_955 hp
    · intro j39p j39 hj39 hp
      refine st_load (Q := F11.Post F ro r) isO hs agg22 rfl ?_
      refine st_slice (Q := F11.Post F ro r) ?_
      refine st_if (Q := F11.Post F ro r) (fun hc_800 => ?_) (fun hc_800 => ?_)
      · replace hp := ifp_t hc_800 hp
        obtain ⟨r_801, hx_802, hp⟩ := bindp_some hp
        obtain ⟨h_803, e_805, hs_804⟩ := F30.ok hora (ro := ro) (F := .own ro (some ⟨p28, 0, none⟩) 1 [.int .i64 mp28_0, .int .i64 mp28_1, .slice ap28_2 xp28_2.length cp28_2] :: .row ap28_2 cp28_2 (xp28_2.map (Value.int .u8)) :: F) n27 _ hs hx_802
        refine st_ok (Q := F11.Post F ro r) isO e_805 ?_
        refine st_bool (Q := F11.Post F ro r) ?_
        have hs_806 := hs_804.pull 1 rfl
        have hs_807 := hs_806.pull 1 rfl
        exact hj39 (!r_801) _ hs_807 hp
      · replace hp := ifp_f hc_800 hp
        have hs_808 := hs.pull 1 rfl
        have hs_809 := hs_808.pull 1 rfl
        exact hj39 false _ hs_809 hp

def F11.J3p (lf : Nat) (n24 : Int) (mp25_0 : Int) (mp25_1 : Int) (xp25_2 : List Int) : Option (List Int × Int) :=
  F11.L4p lf lf n24 mp25_0 mp25_1 xp25_2 0

theorem F11.J3_ok {ora : Ora} (hora : HOra ora) {lf ro : Nat} {F : List Ent} {r : (List Int × Int)} (n24 : Int) (p25 : Nat) (mp25_0 : Int) (mp25_1 : Int) (ap25_2 : Option Addr) (cp25_2 : Nat) (xp25_2 : List Int) (h : Heap) (hs : Sat ro h (.own ro (some ⟨p25, 0, none⟩) 1 [.int .i64 mp25_0, .int .i64 mp25_1, .slice ap25_2 xp25_2.length cp25_2] :: .row ap25_2 cp25_2 (xp25_2.map (Value.int .u8)) :: F)) (hp : F11.J3p lf n24 mp25_0 mp25_1 xp25_2 = some r) : F11.Post F ro r (F11.J3 (callW Tryd.prog ora) lf ro n24 p25 0 h) := by
  unfold F11.J3
  unfold F11.J3p at hp
  have hs_956 := hs.pull 1 rfl
  have hs_957 := hs_956.pull 1 rfl
  exact F11.L4_ok hora lf n24 p25 mp25_0 mp25_1 _ _ xp25_2 0 _ hs_957 hp

def F11.p (lf : Nat) (x0_0 : Int) (x0_1 : Int) (xax0_2 : List Int) (x1 : Int) : Option (List Int × Int) :=
  letJ (fun (b21 : Bool) => (
    ifp b21 (
      some ([], 1)) (
      F11.J3p lf x1 x0_0 x0_1 xax0_2) : Option (List Int × Int))) fun j23p =>
  bindp (F28.p lf x0_0 x0_1 xax0_2) fun r_780 =>
  ifp (r_780 != 0) (
    j23p true) (
    bindp (F29.p lf x1) fun r_787 =>
    j23p (!r_787))

theorem F11.t_ok {ora : Ora} (hora : HOra ora) {lf ro : Nat} {F : List Ent} {r : (List Int × Int)} (x0_0 : Int) (x0_1 : Int) (ax0_2 : Option Addr) (cx0_2 : Nat) (xax0_2 : List Int) (x1 : Int) (h : Heap) (hs : Sat ro h (.row ax0_2 cx0_2 (xax0_2.map (Value.int .u8)) :: F)) (hp : F11.p lf x0_0 x0_1 xax0_2 x1 = some r) : F11.Post F ro r (F11.t (callW Tryd.prog ora) lf ro x0_0 x0_1 ax0_2 xax0_2.length cx0_2 x1 h) := by
  unfold F11.t
  unfold F11.p at hp
  refine st_pushJ (Q := F11.Post F ro r) hs hs.low rfl fun h_776 _ hs_777 => ?_
  refine st_letJ hp (fun j23p j23 => ∀ (b21 : Bool) (h_793 : Heap), Sat ro h_793 (.own ro (some ⟨h.next, 0, none⟩) 1 [.int .i64 x0_0, .int .i64 x0_1, .slice ax0_2 xax0_2.length cx0_2] :: .row ax0_2 cx0_2 (xax0_2.map (Value.int .u8)) :: F) → j23p b21 = some r → F11.Post F ro r (j23 b21 h_793)) ?_ ?_
  · intro b21 h_793 hs hp
    refine st_if (Q := F11.Post F ro r) (fun hc_794 => ?_) (fun hc_794 => ?_)
    · replace hp := ifp_t hc_794 hp
      have hs_795 := hs.nilOwn ro 1
      have hs_796 := hs_795.pull 1 rfl
      have hs_797 := hs_796.tail
      have hs_798 := hs_797.pull 1 rfl
      have hs_799 := hs_798.tail
      cases hp
      exact ⟨none, _, rfl, hs_799⟩
    · replace hp := ifp_f hc_794 hp
      have hs_958 := hs.pull 1 rfl
      have hs_959 := hs_958.pull 1 rfl
      exact F11.J3_ok hora x1 h.next x0_0 x0_1 _ _ xax0_2 _ hs_959 hp
  · intro j23p j23 hj23 hp
    refine st_loadA (Q := F11.Post F ro r) isO hs_777 agg24 siz24 rfl ?_
    refine st_agg (Q := F11.Post F ro r) (l := [.int .i64 x0_0, .int .i64 x0_1, .slice ax0_2 xax0_2.length cx0_2]) ?_
    refine st_cons (Q := F11.Post F ro r) ?_
    refine st_int (Q := F11.Post F ro r) ?_
    refine st_cons (Q := F11.Post F ro r) ?_
    refine st_int (Q := F11.Post F ro r) ?_
    refine st_cons (Q := F11.Post F ro r) ?_
    refine st_slice (Q := F11.Post F ro r) ?_
    refine st_nil (Q := F11.Post F ro r) ?_
    have hs_778 := hs_777.pull 1 rfl
    have hs_779 := hs_778.dup
    obtain ⟨r_780, hx_781, hp⟩ := bindp_some hp
    obtain ⟨h_782, e_784, hs_783⟩ := F28.ok hora (ro := ro) (F := .row ax0_2 cx0_2 (xax0_2.map (Value.int .u8)) :: .own ro (some ⟨h.next, 0, none⟩) 1 [.int .i64 x0_0, .int .i64 x0_1, .slice ax0_2 xax0_2.length cx0_2] :: F) x0_0 x0_1 ax0_2 cx0_2 xax0_2 _ hs_779 hx_781
    refine st_ok (Q := F11.Post F ro r) isO e_784 ?_
    refine st_int (Q := F11.Post F ro r) ?_
    refine st_if (Q := F11.Post F ro r) (fun hc_785 => ?_) (fun hc_785 => ?_)
    · replace hp := ifp_t hc_785 hp
      have hs_786 := hs_783.pull 1 rfl
      exact hj23 true _ hs_786 hp
    · replace hp := ifp_f hc_785 hp
      obtain ⟨r_787, hx_788, hp⟩ := bindp_some hp
      obtain ⟨h_789, e_791, hs_790⟩ := F29.ok hora (ro := ro) (F := .row ax0_2 cx0_2 (xax0_2.map (Value.int .u8)) :: .own ro (some ⟨h.next, 0, none⟩) 1 [.int .i64 x0_0, .int .i64 x0_1, .slice ax0_2 xax0_2.length cx0_2] :: F) x1 _ hs_783 hx_788
      refine st_ok (Q := F11.Post F ro r) isO e_791 ?_
      refine st_bool (Q := F11.Post F ro r) ?_
      have hs_792 := hs_790.pull 1 rfl
      exact hj23 (!r_787) _ hs_792 hp

theorem F11.ok {ora : Ora} (hora : HOra ora) {lf ro : Nat} {F : List Ent} {r : (List Int × Int)} (x0_0 : Int) (x0_1 : Int) (ax0_2 : Option Addr) (cx0_2 : Nat) (xax0_2 : List Int) (x1 : Int) (h : Heap) (hs : Sat ro h (.row ax0_2 cx0_2 (xax0_2.map (Value.int .u8)) :: F)) (hp : F11.p lf x0_0 x0_1 xax0_2 x1 = some r) : F11.Post F ro r (callW Tryd.prog ora ro 11 [.agg #[.int .i64 x0_0, .int .i64 x0_1, .slice ax0_2 xax0_2.length cx0_2], .int .i64 x1] h) := by
  have h1 := F11.t_ok hora x0_0 x0_1 ax0_2 cx0_2 xax0_2 x1 h hs hp
  have h2 : callW Tryd.prog ora ro 11 [.agg #[.int .i64 x0_0, .int .i64 x0_1, .slice ax0_2 xax0_2.length cx0_2], .int .i64 x1] h = _ := callW_body (hora.none _ _ _ _ (by decide)) Tryd.func11 (F11.le (callW Tryd.prog ora) lf ro x0_0 x0_1 ax0_2 xax0_2.length cx0_2 x1 h) (F11.Post.ne h1)
  rw [h2]; exact h1

def F3.Post (F : List Ent) (ro : Nat) (r : Bool) (x : Out) : Prop := ∃ h', x = .ok (.bool r) h' ∧ Sat ro h' (F)
theorem F3.Post.ne {F : List Ent} {ro : Nat} {r : Bool} {x : Out} (hx : F3.Post F ro r x) : x ≠ .fail := by
  obtain ⟨h', rfl, _⟩ := hx
  simp

def F3.J3p (lf : Nat) (n15 : Int) (mp16_0 : Int) (mp16_1 : Int) (xp16_2 : List Int) : Option (Bool) :=
  bindp (F10.p lf mp16_0 mp16_1 xp16_2 n15) fun r_976 =>
  bindp (F11.p lf mp16_0 mp16_1 xp16_2 n15) fun r_985 =>
  letJ (fun (b111 : Bool) => (
    some b111 : Option (Bool))) fun j113p =>
  ifp (r_976.2 == r_985.2) (
    ifp ((strp r_976.1).toList == (strp r_985.1).toList) (
      bindp (F9.p lf) fun r_995 =>
      j113p r_995) (
      j113p false)) (
    j113p false)

theorem F3.J3_ok {ora : Ora} (hora : HOra ora) {lf ro : Nat} {F : List Ent} {r : (Bool)} (n15 : Int) (p16 : Nat) (mp16_0 : Int) (mp16_1 : Int) (ap16_2 : Option Addr) (cp16_2 : Nat) (xp16_2 : List Int) (h : Heap) (hs : Sat ro h (.own ro (some ⟨p16, 0, none⟩) 1 [.int .i64 mp16_0, .int .i64 mp16_1, .slice ap16_2 xp16_2.length cp16_2] :: .row ap16_2 cp16_2 (xp16_2.map (Value.int .u8)) :: .row (some ⟨0, 0, none⟩) 20 (gl0.map (Value.int .u64)) :: F)) (hp : F3.J3p lf n15 mp16_0 mp16_1 xp16_2 = some r) : F3.Post F ro r (F3.J3 (callW Tryd.prog ora) lf ro n15 p16 0 h) := by
  unfold F3.J3
  unfold F3.J3p at hp
  refine st_loadA (Q := F3.Post F ro r) isO hs agg24 siz24 rfl ?_
  refine st_agg (Q := F3.Post F ro r) (l := [.int .i64 mp16_0, .int .i64 mp16_1, .slice ap16_2 xp16_2.length cp16_2]) ?_
  refine st_cons (Q := F3.Post F ro r) ?_
  refine st_int (Q := F3.Post F ro r) ?_
  refine st_cons (Q := F3.Post F ro r) ?_
  refine st_int (Q := F3.Post F ro r) ?_
  refine st_cons (Q := F3.Post F ro r) ?_
  refine st_slice (Q := F3.Post F ro r) ?_
  refine st_nil (Q := F3.Post F ro r) ?_
  have hs_971 := hs.pull 1 rfl
  have hs_972 := hs_971.dup
  have hs_973 := hs_972.pull 3 rfl
  have hs_974 := hs_973.dup
  have hs_975 := hs_974.pull 2 rfl
  obtain ⟨r_976, hx_977, hp⟩ := bindp_some hp
  obtain ⟨a_981, h_978, e_980, hs_979⟩ := F10.ok hora (ro := ro) (F := .row (some ⟨0, 0, none⟩) 20 (gl0.map (Value.int .u64)) :: .row ap16_2 cp16_2 (xp16_2.map (Value.int .u8)) :: .own ro (some ⟨p16, 0, none⟩) 1 [.int .i64 mp16_0, .int .i64 mp16_1, .slice ap16_2 xp16_2.length cp16_2] :: F) mp16_0 mp16_1 ap16_2 cp16_2 xp16_2 n15 _ hs_975 hx_977
  refine st_ok (Q := F3.Post F ro r) isO e_980 ?_
  refine st_tup (Q := F3.Post F ro r) (l := [.slice a_981 (r_976.1).length (r_976.1).length, .int .i64 r_976.2]) ?_
  refine st_cons (Q := F3.Post F ro r) ?_
  refine st_slice (Q := F3.Post F ro r) ?_
  refine st_cons (Q := F3.Post F ro r) ?_
  refine st_int (Q := F3.Post F ro r) ?_
  refine st_nil (Q := F3.Post F ro r) ?_
  have hs_982 := hs_979.pull 3 rfl
  refine st_loadA (Q := F3.Post F ro r) isO hs_982 agg24 siz24 rfl ?_
  refine st_agg (Q := F3.Post F ro r) (l := [.int .i64 mp16_0, .int .i64 mp16_1, .slice ap16_2 xp16_2.length cp16_2]) ?_
  refine st_cons (Q := F3.Post F ro r) ?_
  refine st_int (Q := F3.Post F ro r) ?_
  refine st_cons (Q := F3.Post F ro r) ?_
  refine st_int (Q := F3.Post F ro r) ?_
  refine st_cons (Q := F3.Post F ro r) ?_
  refine st_slice (Q := F3.Post F ro r) ?_
  refine st_nil (Q := F3.Post F ro r) ?_
  have hs_983 := hs_982.pull 3 rfl
  have hs_984 := hs_983.dup
  obtain ⟨r_985, hx_986, hp⟩ := bindp_some hp
  obtain ⟨a_990, h_987, e_989, hs_988⟩ := F11.ok hora (ro := ro) (F := .row ap16_2 cp16_2 (xp16_2.map (Value.int .u8)) :: .own ro (some ⟨p16, 0, none⟩) 1 [.int .i64 mp16_0, .int .i64 mp16_1, .slice ap16_2 xp16_2.length cp16_2] :: .own ro a_981 1 (r_976.1.map (Value.int .u8)) :: .row (some ⟨0, 0, none⟩) 20 (gl0.map (Value.int .u64)) :: F) mp16_0 mp16_1 ap16_2 cp16_2 xp16_2 n15 _ hs_984 hx_986
  refine st_ok (Q := F3.Post F ro r) isO e_989 ?_
  refine st_tup (Q := F3.Post F ro r) (l := [.slice a_990 (r_985.1).length (r_985.1).length, .int .i64 r_985.2]) ?_
  refine st_cons (Q := F3.Post F ro r) ?_
  refine st_slice (Q := F3.Post F ro r) ?_
  refine st_cons (Q := F3.Post F ro r) ?_
  refine st_int (Q := F3.Post F ro r) ?_
  refine st_nil (Q := F3.Post F ro r) ?_
  refine st_letJ hp (fun j113p j113 => ∀ (b111 : Bool) (h_1012 : Heap), Sat ro h_1012 (.row (some ⟨0, 0, none⟩) 20 (gl0.map (Value.int .u64)) :: F) → j113p b111 = some r → F3.Post F ro r (j113 b111 h_1012)) ?_ ?_
  · intro b111 h_1012 hs hp
    have hs_1013 := hs.tail
    cases hp
    exact ⟨_, rfl, hs_1013⟩
  · intro j113p j113 hj113 hp
    refine st_if (Q := F3.Post F ro r) (fun hc_991 => ?_) (fun hc_991 => ?_)
    · replace hp := ifp_t hc_991 hp
      have hs_992 := hs_988.pull 3 rfl
      refine st_strO (Q := F3.Post F ro r) (l := r_976.1) isO hs_992 und22 und9 und5 rfl ?_
      refine st_str (Q := F3.Post F ro r) ?_
      have hs_993 := hs_992.pull 1 rfl
      refine st_strO (Q := F3.Post F ro r) (l := r_985.1) isO hs_993 und22 und9 und5 rfl ?_
      refine st_str (Q := F3.Post F ro r) ?_
      refine st_if (Q := F3.Post F ro r) (fun hc_994 => ?_) (fun hc_994 => ?_)
      · replace hp := ifp_t hc_994 hp
        obtain ⟨r_995, hx_996, hp⟩ := bindp_some hp
        obtain ⟨h_997, e_999, hs_998⟩ := F9.ok hora (ro := ro) (F := .own ro a_990 1 (r_985.1.map (Value.int .u8)) :: .own ro a_981 1 (r_976.1.map (Value.int .u8)) :: .row ap16_2 cp16_2 (xp16_2.map (Value.int .u8)) :: .own ro (some ⟨p16, 0, none⟩) 1 [.int .i64 mp16_0, .int .i64 mp16_1, .slice ap16_2 xp16_2.length cp16_2] :: .row (some ⟨0, 0, none⟩) 20 (gl0.map (Value.int .u64)) :: F)  _ hs_993 hx_996
        refine st_ok (Q := F3.Post F ro r) isO e_999 ?_
        refine st_bool (Q := F3.Post F ro r) ?_
        have hs_1000 := hs_998.tail
        have hs_1001 := hs_1000.tail
        have hs_1002 := hs_1001.tail
        have hs_1003 := hs_1002.tail
        exact hj113 r_995 _ hs_1003 hp
      · replace hp := ifp_f hc_994 hp
        have hs_1004 := hs_993.tail
        have hs_1005 := hs_1004.tail
        have hs_1006 := hs_1005.tail
        have hs_1007 := hs_1006.tail
        exact hj113 false _ hs_1007 hp
    · replace hp := ifp_f hc_991 hp
      have hs_1008 := hs_988.tail
      have hs_1009 := hs_1008.tail
      have hs_1010 := hs_1009.tail
      have hs_1011 := hs_1010.tail
      exact hj113 false _ hs_1011 hp

def F3.p (lf : Nat) (x0_0 : Int) (x0_1 : Int) (xax0_2 : List Int) (x1 : Int) : Option (Bool) :=
  ifp (decide ((xax0_2.length : Int) > 2000)) (
    bindp (F9.p lf) fun r_963 =>
    some r_963) (
    F3.J3p lf x1 x0_0 x0_1 xax0_2)

theorem F3.t_ok {ora : Ora} (hora : HOra ora) {lf ro : Nat} {F : List Ent} {r : (Bool)} (x0_0 : Int) (x0_1 : Int) (ax0_2 : Option Addr) (cx0_2 : Nat) (xax0_2 : List Int) (x1 : Int) (h : Heap) (hs : Sat ro h (.row ax0_2 cx0_2 (xax0_2.map (Value.int .u8)) :: .row (some ⟨0, 0, none⟩) 20 (gl0.map (Value.int .u64)) :: F)) (hp : F3.p lf x0_0 x0_1 xax0_2 x1 = some r) : F3.Post F ro r (F3.t (callW Tryd.prog ora) lf ro x0_0 x0_1 ax0_2 xax0_2.length cx0_2 x1 h) := by
  unfold F3.t
  unfold F3.p at hp
  refine st_pushJ (Q := F3.Post F ro r) hs hs.low rfl fun h_960 _ hs_961 => ?_
  refine st_load (Q := F3.Post F ro r) isO hs_961 agg22 rfl ?_
  refine st_slice (Q := F3.Post F ro r) ?_
  refine st_if (Q := F3.Post F ro r) (fun hc_962 => ?_) (fun hc_962 => ?_)
  · replace hp := ifp_t hc_962 hp
    obtain ⟨r_963, hx_964, hp⟩ := bindp_some hp
    obtain ⟨h_965, e_967, hs_966⟩ := F9.ok hora (ro := ro) (F := .own ro (some ⟨h.next, 0, none⟩) 1 [.int .i64 x0_0, .int .i64 x0_1, .slice ax0_2 xax0_2.length cx0_2] :: .row ax0_2 cx0_2 (xax0_2.map (Value.int .u8)) :: .row (some ⟨0, 0, none⟩) 20 (gl0.map (Value.int .u64)) :: F)  _ hs_961 hx_964
    refine st_ok (Q := F3.Post F ro r) isO e_967 ?_
    refine st_bool (Q := F3.Post F ro r) ?_
    have hs_968 := hs_966.tail
    have hs_969 := hs_968.tail
    have hs_970 := hs_969.tail
    cases hp
    exact ⟨_, rfl, hs_970⟩
  · replace hp := ifp_f hc_962 hp
    have hs_1014 := hs_961.pull 2 rfl
    have hs_1015 := hs_1014.pull 2 rfl
    have hs_1016 := hs_1015.pull 2 rfl
    exact F3.J3_ok hora x1 h.next x0_0 x0_1 _ _ xax0_2 _ hs_1016 hp

theorem F3.ok {ora : Ora} (hora : HOra ora) {lf ro : Nat} {F : List Ent} {r : (Bool)} (x0_0 : Int) (x0_1 : Int) (ax0_2 : Option Addr) (cx0_2 : Nat) (xax0_2 : List Int) (x1 : Int) (h : Heap) (hs : Sat ro h (.row ax0_2 cx0_2 (xax0_2.map (Value.int .u8)) :: .row (some ⟨0, 0, none⟩) 20 (gl0.map (Value.int .u64)) :: F)) (hp : F3.p lf x0_0 x0_1 xax0_2 x1 = some r) : F3.Post F ro r (callW Tryd.prog ora ro 3 [.agg #[.int .i64 x0_0, .int .i64 x0_1, .slice ax0_2 xax0_2.length cx0_2], .int .i64 x1] h) := by
  have h1 := F3.t_ok hora x0_0 x0_1 ax0_2 cx0_2 xax0_2 x1 h hs hp
  have h2 : callW Tryd.prog ora ro 3 [.agg #[.int .i64 x0_0, .int .i64 x0_1, .slice ax0_2 xax0_2.length cx0_2], .int .i64 x1] h = _ := callW_body (hora.none _ _ _ _ (by decide)) Tryd.func3 (F3.le (callW Tryd.prog ora) lf ro x0_0 x0_1 ax0_2 xax0_2.length cx0_2 x1 h) (F3.Post.ne h1)
  rw [h2]; exact h1

end Go.Proofs.YtgpnjdldpehidaaDoor
