/-
  The functions that write as plain functions of numbers and lists, and that they answer as the program does where they answer at all; no statement of the seat is proved in this file.
-/
import Derived.Test.YtgpnjdldpehidaaDoorJoiTextI
open Go Go.Abs Go.Proofs
set_option maxRecDepth 100000
set_option linter.unusedVariables false
namespace Go.Proofs.YtgpnjdldpehidaaDoor
/-- What the proofs ask of the oracle: it leaves the calls to the code, but for functions 9 and 35. -/
structure HOra (ora : Ora) : Prop where
  none : ∀ ro f args h, f ∉ [9, 35] → ora ro f args h = none
/-- It answers for the examples (9), and for 'next' (35) as the guarded run does. -/
structure HOra9 (ora : Ora) : Prop extends HOra ora where
  nine : ∀ ro h, ora ro 9 [] h = some (.ok (.bool true) h)
  next : ∀ ro args h r, r ≠ .fail → (∃ N, guardRun Tryd.prog noOra N ro Tryd.f35 Tryd.f43 (sub (codeOf Tryd.f35) [false]) (sub (codeOf Tryd.f35) [true, true]) (sub (codeOf Tryd.f43) [true]) 4 5 args h = r) → ora ro 35 args h = some r
def gl0 : List Int := [1, 10, 100, 1000, 10000, 100000, 1000000, 10000000, 100000000, 1000000000, 10000000000, 100000000000, 1000000000000, 10000000000000, 100000000000000, 1000000000000000, 10000000000000000, 100000000000000000, 1000000000000000000, 10000000000000000000]
def F9.Post (F : List Ent) (ro : Nat) (r : Bool) (x : Out) : Prop := ∃ h', x = .ok (.bool r) h' ∧ Sat ro h' F
def F9.p (lf : Nat) : Option Bool := some true
theorem F9.ok {ora : Ora} (hora : HOra9 ora) {lf ro : Nat} {F : List Ent} {r : Bool} (h : Heap) (hs : Sat ro h F) (hp : F9.p lf = some r) : F9.Post F ro r (callW Tryd.prog ora ro 9 [] h) := by
  cases hp
  exact ⟨h, callW_ora (hora.nine ro h) (by simp), hs⟩
end Go.Proofs.YtgpnjdldpehidaaDoor

open Go Go.Abs Go.Proofs
set_option maxRecDepth 100000
set_option linter.unusedVariables false
set_option linter.unusedSimpArgs false
namespace Go.Proofs.YtgpnjdldpehidaaDoor

theorem agg22 : isAgg? Tryd.prog 22 = some false := by kernel_rfl
theorem agg24 : isAgg? Tryd.prog 24 = some true := by kernel_rfl
theorem agg3 : isAgg? Tryd.prog 3 = some false := by kernel_rfl
theorem agg5 : isAgg? Tryd.prog 5 = some false := by kernel_rfl
theorem agg74 : isAgg? Tryd.prog 74 = some false := by kernel_rfl
theorem one5 : One Tryd.prog 5 1 := ⟨Tryd.t5, _, by kernel_rfl, rfl, rfl, rfl, rfl⟩
theorem siz24 : sizeOf? Tryd.prog 24 = some 3 := by kernel_rfl
theorem siz5 : sizeOf? Tryd.prog 5 = some 1 := by kernel_rfl
theorem siz74 : sizeOf? Tryd.prog 74 = some 1 := by kernel_rfl
theorem und22 : Tryd.prog.underlying 22 = some (.slice 5) := by kernel_rfl
theorem und86 : Tryd.prog.underlying 86 = some (.array 24 5) := by kernel_rfl
theorem und9 : Tryd.prog.underlying 9 = some (.string) := by kernel_rfl
theorem und95 : Tryd.prog.underlying 95 = some (.array 20 74) := by kernel_rfl

def F21.Post (F : List Ent) (ro : Nat) (r : (Bool)) (x : Out) : Prop := ∃ h', x = .ok (.bool r) h' ∧ Sat ro h' (F)
theorem F21.Post.ne {F : List Ent} {ro : Nat} {r : (Bool)} {x : Out} (hx : F21.Post F ro r x) : x ≠ .fail := by
  obtain ⟨h', rfl, _⟩ := hx
  simp

def F21.p (lf : Nat) (x0 : Int) : Option (Bool) :=
  letJ (fun (b1 : Bool) => (
    some b1 : Option (Bool))) fun j2p =>
  ifp (x0 == 1) (
    j2p true) (
    j2p (x0 == 4))

theorem F21.t_ok {ora : Ora} (hora : HOra ora) {lf ro : Nat} {F : List Ent} {r : (Bool)} (x0 : Int) (h : Heap) (hs : Sat ro h (F)) (hp : F21.p lf x0 = some r) : F21.Post F ro r (F21.t (callW Tryd.prog ora) lf ro x0 h) := by
  unfold F21.t
  unfold F21.p at hp
  refine st_letJ hp (fun j2p j2 => ∀ (b1 : Bool), Sat ro h (F) → j2p b1 = some r → F21.Post F ro r (j2 b1)) ?_ ?_
  · intro b1 hs hp
    cases hp
    exact ⟨_, rfl, hs⟩
  · intro j2p j2 hj2 hp
    refine st_if (Q := F21.Post F ro r) (fun hc_1 => ?_) (fun hc_1 => ?_)
    · replace hp := ifp_t hc_1 hp
      exact hj2 true hs hp
    · replace hp := ifp_f hc_1 hp
      exact hj2 (x0 == 4) hs hp

theorem F21.ok {ora : Ora} (hora : HOra ora) {lf ro : Nat} {F : List Ent} {r : (Bool)} (x0 : Int) (h : Heap) (hs : Sat ro h (F)) (hp : F21.p lf x0 = some r) : F21.Post F ro r (callW Tryd.prog ora ro 21 [.int .i64 x0] h) := by
  have h1 := F21.t_ok hora x0 h hs hp
  have h2 : callW Tryd.prog ora ro 21 [.int .i64 x0] h = _ := callW_body (hora.none _ _ _ _ (by decide)) Tryd.func21 (F21.le (callW Tryd.prog ora) lf ro x0 h) (F21.Post.ne h1)
  rw [h2]; exact h1

def F20.Post (F : List Ent) (ro : Nat) (r : (Bool)) (x : Out) : Prop := ∃ h', x = .ok (.bool r) h' ∧ Sat ro h' (F)
theorem F20.Post.ne {F : List Ent} {ro : Nat} {r : (Bool)} {x : Out} (hx : F20.Post F ro r x) : x ≠ .fail := by
  obtain ⟨h', rfl, _⟩ := hx
  simp

def F20.p (lf : Nat) (x0 : Int) : Option (Bool) :=
  letJ (fun (b4 : Bool) => (
    some b4 : Option (Bool))) fun j6p =>
  bindp (F21.p lf x0) fun r_3 =>
  ifp r_3 (
    j6p true) (
    ifp (x0 == 2) (
      j6p true) (
      j6p (x0 == 5)))

theorem F20.t_ok {ora : Ora} (hora : HOra ora) {lf ro : Nat} {F : List Ent} {r : (Bool)} (x0 : Int) (h : Heap) (hs : Sat ro h (F)) (hp : F20.p lf x0 = some r) : F20.Post F ro r (F20.t (callW Tryd.prog ora) lf ro x0 h) := by
  unfold F20.t
  unfold F20.p at hp
  refine st_letJ hp (fun j6p j6 => ∀ (b4 : Bool) (h_10 : Heap), Sat ro h_10 (F) → j6p b4 = some r → F20.Post F ro r (j6 b4 h_10)) ?_ ?_
  · intro b4 h_10 hs hp
    cases hp
    exact ⟨_, rfl, hs⟩
  · intro j6p j6 hj6 hp
    obtain ⟨r_3, hx_4, hp⟩ := bindp_some hp
    obtain ⟨h_5, e_7, hs_6⟩ := F21.ok hora (ro := ro) (F := F) x0 _ hs hx_4
    refine st_ok (Q := F20.Post F ro r) isO e_7 ?_
    refine st_bool (Q := F20.Post F ro r) ?_
    refine st_if (Q := F20.Post F ro r) (fun hc_8 => ?_) (fun hc_8 => ?_)
    · replace hp := ifp_t hc_8 hp
      exact hj6 true _ hs_6 hp
    · replace hp := ifp_f hc_8 hp
      refine st_if (Q := F20.Post F ro r) (fun hc_9 => ?_) (fun hc_9 => ?_)
      · replace hp := ifp_t hc_9 hp
        exact hj6 true _ hs_6 hp
      · replace hp := ifp_f hc_9 hp
        exact hj6 (x0 == 5) _ hs_6 hp

theorem F20.ok {ora : Ora} (hora : HOra ora) {lf ro : Nat} {F : List Ent} {r : (Bool)} (x0 : Int) (h : Heap) (hs : Sat ro h (F)) (hp : F20.p lf x0 = some r) : F20.Post F ro r (callW Tryd.prog ora ro 20 [.int .i64 x0] h) := by
  have h1 := F20.t_ok hora x0 h hs hp
  have h2 : callW Tryd.prog ora ro 20 [.int .i64 x0] h = _ := callW_body (hora.none _ _ _ _ (by decide)) Tryd.func20 (F20.le (callW Tryd.prog ora) lf ro x0 h) (F20.Post.ne h1)
  rw [h2]; exact h1

def F39.Post (F : List Ent) (ro : Nat) (r : (Bool)) (x : Out) : Prop := ∃ h', x = .ok (.bool r) h' ∧ Sat ro h' (F)
theorem F39.Post.ne {F : List Ent} {ro : Nat} {r : (Bool)} {x : Out} (hx : F39.Post F ro r x) : x ≠ .fail := by
  obtain ⟨h', rfl, _⟩ := hx
  simp

def F39.p (lf : Nat) (x0 : Int) (x1 : Int) : Option (Bool) :=
  letJ (fun (b1 : Bool) => (
    some b1 : Option (Bool))) fun j2p =>
  ifp (decide (x0 ≥ 1)) (
    ifp (decide (x0 ≤ 4096)) (
      ifp (decide (x1 ≥ 1)) (
        ifp (decide (x1 ≤ 4096)) (
          j2p (decide (IntKind.i64.wrap (x0 * x1) ≤ 4194304))) (
          j2p false)) (
        j2p false)) (
      j2p false)) (
    j2p false)

theorem F39.t_ok {ora : Ora} (hora : HOra ora) {lf ro : Nat} {F : List Ent} {r : (Bool)} (x0 : Int) (x1 : Int) (h : Heap) (hs : Sat ro h (F)) (hp : F39.p lf x0 x1 = some r) : F39.Post F ro r (F39.t (callW Tryd.prog ora) lf ro x0 x1 h) := by
  unfold F39.t
  unfold F39.p at hp
  refine st_letJ hp (fun j2p j2 => ∀ (b1 : Bool), Sat ro h (F) → j2p b1 = some r → F39.Post F ro r (j2 b1)) ?_ ?_
  · intro b1 hs hp
    cases hp
    exact ⟨_, rfl, hs⟩
  · intro j2p j2 hj2 hp
    refine st_if (Q := F39.Post F ro r) (fun hc_11 => ?_) (fun hc_11 => ?_)
    · replace hp := ifp_t hc_11 hp
      refine st_if (Q := F39.Post F ro r) (fun hc_12 => ?_) (fun hc_12 => ?_)
      · replace hp := ifp_t hc_12 hp
        refine st_if (Q := F39.Post F ro r) (fun hc_13 => ?_) (fun hc_13 => ?_)
        · replace hp := ifp_t hc_13 hp
          refine st_if (Q := F39.Post F ro r) (fun hc_14 => ?_) (fun hc_14 => ?_)
          · replace hp := ifp_t hc_14 hp
            exact hj2 (decide (IntKind.i64.wrap (x0 * x1) ≤ 4194304)) hs hp
          · replace hp := ifp_f hc_14 hp
            exact hj2 false hs hp
        · replace hp := ifp_f hc_13 hp
          exact hj2 false hs hp
      · replace hp := ifp_f hc_12 hp
        exact hj2 false hs hp
    · replace hp := ifp_f hc_11 hp
      exact hj2 false hs hp

theorem F39.ok {ora : Ora} (hora : HOra ora) {lf ro : Nat} {F : List Ent} {r : (Bool)} (x0 : Int) (x1 : Int) (h : Heap) (hs : Sat ro h (F)) (hp : F39.p lf x0 x1 = some r) : F39.Post F ro r (callW Tryd.prog ora ro 39 [.int .i64 x0, .int .i64 x1] h) := by
  have h1 := F39.t_ok hora x0 x1 h hs hp
  have h2 : callW Tryd.prog ora ro 39 [.int .i64 x0, .int .i64 x1] h = _ := callW_body (hora.none _ _ _ _ (by decide)) Tryd.func39 (F39.le (callW Tryd.prog ora) lf ro x0 x1 h) (F39.Post.ne h1)
  rw [h2]; exact h1

def F19.Post (F : List Ent) (ro : Nat) (r : (Int)) (x : Out) : Prop := ∃ h', x = .ok (.int .i64 r) h' ∧ Sat ro h' (F)
theorem F19.Post.ne {F : List Ent} {ro : Nat} {r : (Int)} {x : Out} (hx : F19.Post F ro r x) : x ≠ .fail := by
  obtain ⟨h', rfl, _⟩ := hx
  simp

def F19.p (lf : Nat) (x0_0 : Int) (x0_1 : Int) (xax0_2 : List Int) : Option (Int) :=
  letJ (fun (b21 : Bool) => (
    ifp b21 (
      some 1) (
      some 0) : Option (Int))) fun j23p =>
  bindp (F39.p lf x0_0 x0_1) fun r_18 =>
  ifp (!r_18) (
    j23p true) (
    j23p ((xax0_2.length : Int) != (IntKind.i64.wrap (x0_0 * x0_1))))

theorem F19.t_ok {ora : Ora} (hora : HOra ora) {lf ro : Nat} {F : List Ent} {r : (Int)} (x0_0 : Int) (x0_1 : Int) (ax0_2 : Option Addr) (cx0_2 : Nat) (xax0_2 : List Int) (h : Heap) (hs : Sat ro h (.row ax0_2 cx0_2 (xax0_2.map (Value.int .u8)) :: F)) (hp : F19.p lf x0_0 x0_1 xax0_2 = some r) : F19.Post F ro r (F19.t (callW Tryd.prog ora) lf ro x0_0 x0_1 ax0_2 xax0_2.length cx0_2 h) := by
  unfold F19.t
  unfold F19.p at hp
  refine st_pushJ (Q := F19.Post F ro r) hs hs.low rfl fun h_16 _ hs_17 => ?_
  refine st_letJ hp (fun j23p j23 => ∀ (b21 : Bool) (h_28 : Heap), Sat ro h_28 (F) → j23p b21 = some r → F19.Post F ro r (j23 b21 h_28)) ?_ ?_
  · intro b21 h_28 hs hp
    refine st_if (Q := F19.Post F ro r) (fun hc_29 => ?_) (fun hc_29 => ?_)
    · replace hp := ifp_t hc_29 hp
      cases hp
      exact ⟨_, rfl, hs⟩
    · replace hp := ifp_f hc_29 hp
      cases hp
      exact ⟨_, rfl, hs⟩
  · intro j23p j23 hj23 hp
    refine st_load (Q := F19.Post F ro r) isO hs_17 agg3 rfl ?_
    refine st_int (Q := F19.Post F ro r) ?_
    refine st_load (Q := F19.Post F ro r) isO hs_17 agg3 rfl ?_
    refine st_int (Q := F19.Post F ro r) ?_
    obtain ⟨r_18, hx_19, hp⟩ := bindp_some hp
    obtain ⟨h_20, e_22, hs_21⟩ := F39.ok hora (ro := ro) (F := .own ro (some ⟨h.next, 0, none⟩) 1 [.int .i64 x0_0, .int .i64 x0_1, .slice ax0_2 xax0_2.length cx0_2] :: .row ax0_2 cx0_2 (xax0_2.map (Value.int .u8)) :: F) x0_0 x0_1 _ hs_17 hx_19
    refine st_ok (Q := F19.Post F ro r) isO e_22 ?_
    refine st_bool (Q := F19.Post F ro r) ?_
    refine st_if (Q := F19.Post F ro r) (fun hc_23 => ?_) (fun hc_23 => ?_)
    · replace hp := ifp_t hc_23 hp
      have hs_24 := hs_21.tail
      have hs_25 := hs_24.tail
      exact hj23 true _ hs_25 hp
    · replace hp := ifp_f hc_23 hp
      refine st_load (Q := F19.Post F ro r) isO hs_21 agg22 rfl ?_
      refine st_slice (Q := F19.Post F ro r) ?_
      refine st_load (Q := F19.Post F ro r) isO hs_21 agg3 rfl ?_
      refine st_int (Q := F19.Post F ro r) ?_
      refine st_load (Q := F19.Post F ro r) isO hs_21 agg3 rfl ?_
      refine st_int (Q := F19.Post F ro r) ?_
      have hs_26 := hs_21.tail
      have hs_27 := hs_26.tail
      exact hj23 ((xax0_2.length : Int) != (IntKind.i64.wrap (x0_0 * x0_1))) _ hs_27 hp

theorem F19.ok {ora : Ora} (hora : HOra ora) {lf ro : Nat} {F : List Ent} {r : (Int)} (x0_0 : Int) (x0_1 : Int) (ax0_2 : Option Addr) (cx0_2 : Nat) (xax0_2 : List Int) (h : Heap) (hs : Sat ro h (.row ax0_2 cx0_2 (xax0_2.map (Value.int .u8)) :: F)) (hp : F19.p lf x0_0 x0_1 xax0_2 = some r) : F19.Post F ro r (callW Tryd.prog ora ro 19 [.agg #[.int .i64 x0_0, .int .i64 x0_1, .slice ax0_2 xax0_2.length cx0_2]] h) := by
  have h1 := F19.t_ok hora x0_0 x0_1 ax0_2 cx0_2 xax0_2 h hs hp
  have h2 : callW Tryd.prog ora ro 19 [.agg #[.int .i64 x0_0, .int .i64 x0_1, .slice ax0_2 xax0_2.length cx0_2]] h = _ := callW_body (hora.none _ _ _ _ (by decide)) Tryd.func19 (F19.le (callW Tryd.prog ora) lf ro x0_0 x0_1 ax0_2 xax0_2.length cx0_2 h) (F19.Post.ne h1)
  rw [h2]; exact h1

def F25.Post (F : List Ent) (ro : Nat) (r : (List Int)) (x : Out) : Prop := ∃ a0 h', x = .ok (.slice a0 r.length r.length) h' ∧ Sat ro h' (.own ro a0 1 (r.map (Value.int .u8)) :: F)
theorem F25.Post.ne {F : List Ent} {ro : Nat} {r : (List Int)} {x : Out} (hx : F25.Post F ro r x) : x ≠ .fail := by
  obtain ⟨a0, h', rfl, _⟩ := hx
  simp

def F25.J7p (lf : Nat) (kb2p : List Int → List Int → List Int → Int → Int → Option (List Int)) (xa23 : List Int) (xa24 : List Int) (n25 : Int) (n26 : Int) (xa27 : List Int) (n28 : Int) (n29 : Int) : Option (List Int) :=
  letJ (fun (xa87 : List Int) => (
    kb2p xa87 xa24 xa27 n28 (IntKind.i64.wrap (n29 + 1)) : Option (List Int))) fun j89p =>
  bindp (appp 1 xa23 [n26]) fun x_37 =>
  letJ (fun (b140 : Bool) => (
    ifp b140 (
      bindp (appp 1 x_37 [10]) fun x_58 =>
      j89p x_58) (
      j89p x_37) : Option (List Int))) fun j141p =>
  ifp ((Int.tmod n25 70) == 69) (
    j141p true) (
    j141p (n25 == (IntKind.i64.wrap ((xa24.length : Int) - 1))))

theorem F25.J7_ok {ora : Ora} (hora : HOra ora) {lf ro : Nat} {F : List Ent} {r : (List Int)} {kb2p : List Int → List Int → List Int → Int → Int → Option (List Int)} {kb2 : (Option Addr) → Nat → Nat → (Option Addr) → Nat → Nat → (Option Addr) → Nat → Nat → Int → Int → Heap → Out} (hkb2 : ∀ (a1 : Option Addr) (xa1 : List Int) (a2 : Option Addr) (c2 : Nat) (xa2 : List Int) (a3 : Option Addr) (c3 : Nat) (xa3 : List Int) (n4 : Int) (n5 : Int) (h : Heap), Sat ro h (.own ro a1 1 (xa1.map (Value.int .u8)) :: .row a2 c2 (xa2.map (Value.int .u8)) :: .row a3 c3 (xa3.map (Value.int .u8)) :: F) → kb2p xa1 xa2 xa3 n4 n5 = some r → F25.Post F ro r (kb2 a1 xa1.length xa1.length a2 xa2.length c2 a3 xa3.length c3 n4 n5 h)) (a23 : Option Addr) (xa23 : List Int) (a24 : Option Addr) (c24 : Nat) (xa24 : List Int) (n25 : Int) (n26 : Int) (a27 : Option Addr) (c27 : Nat) (xa27 : List Int) (n28 : Int) (n29 : Int) (h : Heap) (hs : Sat ro h (.own ro a23 1 (xa23.map (Value.int .u8)) :: .row a24 c24 (xa24.map (Value.int .u8)) :: .row a27 c27 (xa27.map (Value.int .u8)) :: F)) (hp : F25.J7p lf kb2p xa23 xa24 n25 n26 xa27 n28 n29 = some r) : F25.Post F ro r (F25.J7 (callW Tryd.prog ora) lf ro kb2 a23 xa23.length xa23.length a24 xa24.length c24 n25 n26 a27 xa27.length c27 n28 n29 h) := by
  unfold F25.J7
  unfold F25.J7p at hp
  refine st_letJ hp (fun j89p j89 => ∀ (a87 : Option Addr) (xa87 : List Int) (h_72 : Heap), Sat ro h_72 (.own ro a87 1 (xa87.map (Value.int .u8)) :: .row a24 c24 (xa24.map (Value.int .u8)) :: .row a27 c27 (xa27.map (Value.int .u8)) :: F) → j89p xa87 = some r → F25.Post F ro r (j89 a87 xa87.length xa87.length h_72)) ?_ ?_
  · intro a87 xa87 h_72 hs hp
    have hs_73 := hs.pull 2 rfl
    have hs_74 := hs_73.pull 2 rfl
    have hs_75 := hs_74.pull 2 rfl
    exact hkb2 a87 xa87 a24 _ xa24 a27 _ xa27 n28 (IntKind.i64.wrap (n29 + 1)) _ hs_75 hp
  · intro j89p j89 hj89 hp
    refine st_pushJ (Q := F25.Post F ro r) hs hs.low rfl fun h_35 _ hs_36 => ?_
    have hs_42 := hs_36.pull 1 rfl
    obtain ⟨x_37, hx_38, hp⟩ := bindp_some hp
    refine st_appO (Q := F25.Post F ro r) isO (l := xa23) (x := [n26]) (f := (Value.int .u8)) hs_42 (fun _ => rfl) und22 und22 one5 rfl rfl rfl hx_38 fun a_39 h_40 hs_41 => ?_
    refine st_slice (Q := F25.Post F ro r) ?_
    refine st_letJ hp (fun j141p j141 => ∀ (b140 : Bool), Sat ro h_40 (.own ro a_39 1 (x_37.map (Value.int .u8)) :: .row a24 c24 (xa24.map (Value.int .u8)) :: .row a27 c27 (xa27.map (Value.int .u8)) :: F) → j141p b140 = some r → F25.Post F ro r (j141 b140)) ?_ ?_
    · intro b140 hs hp
      refine st_if (Q := F25.Post F ro r) (fun hc_55 => ?_) (fun hc_55 => ?_)
      · replace hp := ifp_t hc_55 hp
        refine st_pushJ (Q := F25.Post F ro r) hs hs.low rfl fun h_56 _ hs_57 => ?_
        have hs_63 := hs_57.pull 1 rfl
        obtain ⟨x_58, hx_59, hp⟩ := bindp_some hp
        refine st_appO (Q := F25.Post F ro r) isO (l := x_37) (x := [10]) (f := (Value.int .u8)) hs_63 (fun _ => rfl) und22 und22 one5 rfl rfl rfl hx_59 fun a_60 h_61 hs_62 => ?_
        refine st_slice (Q := F25.Post F ro r) ?_
        have hs_64 := hs_62.pull 1 rfl
        have hs_65 := hs_64.tail
        have hs_66 := hs_65.pull 2 rfl
        have hs_67 := hs_66.pull 2 rfl
        have hs_68 := hs_67.pull 2 rfl
        exact hj89 a_60 x_58 _ hs_68 hp
      · replace hp := ifp_f hc_55 hp
        have hs_69 := hs.pull 2 rfl
        have hs_70 := hs_69.pull 2 rfl
        have hs_71 := hs_70.pull 2 rfl
        exact hj89 a_39 x_37 _ hs_71 hp
    · intro j141p j141 hj141 hp
      refine st_if (Q := F25.Post F ro r) (fun hc_43 => ?_) (fun hc_43 => ?_)
      · replace hp := ifp_t hc_43 hp
        have hs_44 := hs_41.pull 1 rfl
        have hs_45 := hs_44.tail
        have hs_46 := hs_45.pull 2 rfl
        have hs_47 := hs_46.pull 2 rfl
        have hs_48 := hs_47.pull 2 rfl
        exact hj141 true hs_48 hp
      · replace hp := ifp_f hc_43 hp
        have hs_49 := hs_41.pull 1 rfl
        have hs_50 := hs_49.tail
        have hs_51 := hs_50.pull 2 rfl
        have hs_52 := hs_51.pull 2 rfl
        have hs_53 := hs_52.pull 2 rfl
        exact hj141 (n25 == (IntKind.i64.wrap ((xa24.length : Int) - 1))) hs_53 hp

def F25.J3p (lf : Nat) (kb2p : List Int → List Int → List Int → Int → Int → Option (List Int)) (xa7 : List Int) (xa8 : List Int) (xa9 : List Int) (n10 : Int) (n11 : Int) : Option (List Int) :=
  bindp (idxp xa9 n11) fun x_31 =>
  ifp (x_31 == 0) (
    F25.J7p lf kb2p xa7 xa8 n11 49 xa9 n10 n11) (
    F25.J7p lf kb2p xa7 xa8 n11 48 xa9 n10 n11)

theorem F25.J3_ok {ora : Ora} (hora : HOra ora) {lf ro : Nat} {F : List Ent} {r : (List Int)} {kb2p : List Int → List Int → List Int → Int → Int → Option (List Int)} {kb2 : (Option Addr) → Nat → Nat → (Option Addr) → Nat → Nat → (Option Addr) → Nat → Nat → Int → Int → Heap → Out} (hkb2 : ∀ (a1 : Option Addr) (xa1 : List Int) (a2 : Option Addr) (c2 : Nat) (xa2 : List Int) (a3 : Option Addr) (c3 : Nat) (xa3 : List Int) (n4 : Int) (n5 : Int) (h : Heap), Sat ro h (.own ro a1 1 (xa1.map (Value.int .u8)) :: .row a2 c2 (xa2.map (Value.int .u8)) :: .row a3 c3 (xa3.map (Value.int .u8)) :: F) → kb2p xa1 xa2 xa3 n4 n5 = some r → F25.Post F ro r (kb2 a1 xa1.length xa1.length a2 xa2.length c2 a3 xa3.length c3 n4 n5 h)) (a7 : Option Addr) (xa7 : List Int) (a8 : Option Addr) (c8 : Nat) (xa8 : List Int) (a9 : Option Addr) (c9 : Nat) (xa9 : List Int) (n10 : Int) (n11 : Int) (h : Heap) (hs : Sat ro h (.own ro a7 1 (xa7.map (Value.int .u8)) :: .row a8 c8 (xa8.map (Value.int .u8)) :: .row a9 c9 (xa9.map (Value.int .u8)) :: F)) (hp : F25.J3p lf kb2p xa7 xa8 xa9 n10 n11 = some r) : F25.Post F ro r (F25.J3 (callW Tryd.prog ora) lf ro kb2 a7 xa7.length xa7.length a8 xa8.length c8 a9 xa9.length c9 n10 n11 h) := by
  unfold F25.J3
  unfold F25.J3p at hp
  have hs_33 := hs.pull 2 rfl
  obtain ⟨x_31, hx_32, hp⟩ := bindp_some hp
  refine st_idxR (Q := F25.Post F ro r) (l := xa9) (f := (Value.int .u8)) isO isO hs_33 und22 siz5 agg5 rfl hx_32 ?_
  refine st_int (Q := F25.Post F ro r) ?_
  refine st_if (Q := F25.Post F ro r) (fun hc_34 => ?_) (fun hc_34 => ?_)
  · replace hp := ifp_t hc_34 hp
    have hs_76 := hs_33.pull 2 rfl
    have hs_77 := hs_76.pull 2 rfl
    exact F25.J7_ok hora hkb2 a7 xa7 a8 _ xa8 n11 49 a9 _ xa9 n10 n11 _ hs_77 hp
  · replace hp := ifp_f hc_34 hp
    have hs_78 := hs_33.pull 2 rfl
    have hs_79 := hs_78.pull 2 rfl
    exact F25.J7_ok hora hkb2 a7 xa7 a8 _ xa8 n11 48 a9 _ xa9 n10 n11 _ hs_79 hp

def F25.L2p (lf : Nat) : Nat → List Int → List Int → List Int → Int → Int → Option (List Int)
  | 0, _, _, _, _, _ => none
  | n + 1, xa1, xa2, xa3, n4, n5 =>
  ifp (decide (n5 < n4)) (
    F25.J3p lf (F25.L2p lf n) xa1 xa2 xa3 n4 n5) (
    some xa1)

theorem F25.L2_ok {ora : Ora} (hora : HOra ora) {lf ro : Nat} {F : List Ent} {r : (List Int)} : ∀ (n : Nat) (a1 : Option Addr) (xa1 : List Int) (a2 : Option Addr) (c2 : Nat) (xa2 : List Int) (a3 : Option Addr) (c3 : Nat) (xa3 : List Int) (n4 : Int) (n5 : Int) (h : Heap), Sat ro h (.own ro a1 1 (xa1.map (Value.int .u8)) :: .row a2 c2 (xa2.map (Value.int .u8)) :: .row a3 c3 (xa3.map (Value.int .u8)) :: F) → F25.L2p lf n xa1 xa2 xa3 n4 n5 = some r → F25.Post F ro r (F25.L2 (callW Tryd.prog ora) lf ro n a1 xa1.length xa1.length a2 xa2.length c2 a3 xa3.length c3 n4 n5 h) := by
  intro n
  induction n with
  | zero => intro a1 xa1 a2 c2 xa2 a3 c3 xa3 n4 n5 h hs hp; cases hp
  | succ n ih =>
    intro a1 xa1 a2 c2 xa2 a3 c3 xa3 n4 n5 h hs hp
    unfold F25.L2
    unfold F25.L2p at hp
    refine st_if (Q := F25.Post F ro r) (fun hc_30 => ?_) (fun hc_30 => ?_)
    · replace hp := ifp_t hc_30 hp
      have hs_80 := hs.pull 2 rfl
      have hs_81 := hs_80.pull 2 rfl
      have hs_82 := hs_81.pull 2 rfl
      exact F25.J3_ok hora ih a1 xa1 a2 _ xa2 a3 _ xa3 n4 n5 _ hs_82 hp
    · replace hp := ifp_f hc_30 hp
      have hs_83 := hs.pull 1 rfl
      have hs_84 := hs_83.tail
      have hs_85 := hs_84.pull 1 rfl
      have hs_86 := hs_85.tail
      cases hp
      exact ⟨a1, _, rfl, hs_86⟩

def F25.p (lf : Nat) (xax0 : List Int) (xax1 : List Int) : Option (List Int) :=
  F25.L2p lf lf xax0 xax1 xax1 (xax1.length : Int) 0

theorem F25.t_ok {ora : Ora} (hora : HOra ora) {lf ro : Nat} {F : List Ent} {r : (List Int)} (ax0 : Option Addr) (xax0 : List Int) (ax1 : Option Addr) (cx1 : Nat) (xax1 : List Int) (h : Heap) (hs : Sat ro h (.own ro ax0 1 (xax0.map (Value.int .u8)) :: .row ax1 cx1 (xax1.map (Value.int .u8)) :: F)) (hp : F25.p lf xax0 xax1 = some r) : F25.Post F ro r (F25.t (callW Tryd.prog ora) lf ro ax0 xax0.length xax0.length ax1 xax1.length cx1 h) := by
  unfold F25.t
  unfold F25.p at hp
  have hs_87 := hs.pull 1 rfl
  have hs_88 := hs_87.dup
  have hs_89 := hs_88.pull 1 rfl
  have hs_90 := hs_89.pull 2 rfl
  exact F25.L2_ok hora lf ax0 xax0 ax1 _ xax1 ax1 _ xax1 (xax1.length : Int) 0 _ hs_90 hp

theorem F25.ok {ora : Ora} (hora : HOra ora) {lf ro : Nat} {F : List Ent} {r : (List Int)} (ax0 : Option Addr) (xax0 : List Int) (ax1 : Option Addr) (cx1 : Nat) (xax1 : List Int) (h : Heap) (hs : Sat ro h (.own ro ax0 1 (xax0.map (Value.int .u8)) :: .row ax1 cx1 (xax1.map (Value.int .u8)) :: F)) (hp : F25.p lf xax0 xax1 = some r) : F25.Post F ro r (callW Tryd.prog ora ro 25 [.slice ax0 xax0.length xax0.length, .slice ax1 xax1.length cx1] h) := by
  have h1 := F25.t_ok hora ax0 xax0 ax1 cx1 xax1 h hs hp
  have h2 : callW Tryd.prog ora ro 25 [.slice ax0 xax0.length xax0.length, .slice ax1 xax1.length cx1] h = _ := callW_body (hora.none _ _ _ _ (by decide)) Tryd.func25 (F25.le (callW Tryd.prog ora) lf ro ax0 xax0.length xax0.length ax1 xax1.length cx1 h) (F25.Post.ne h1)
  rw [h2]; exact h1

def F23.Post (F : List Ent) (ro : Nat) (r : (Bool)) (x : Out) : Prop := ∃ h', x = .ok (.bool r) h' ∧ Sat ro h' (F)
theorem F23.Post.ne {F : List Ent} {ro : Nat} {r : (Bool)} {x : Out} (hx : F23.Post F ro r x) : x ≠ .fail := by
  obtain ⟨h', rfl, _⟩ := hx
  simp

def F23.p (lf : Nat) (x0 : Int) : Option (Bool) :=
  letJ (fun (b1 : Bool) => (
    some b1 : Option (Bool))) fun j2p =>
  ifp (x0 != 0) (
    j2p (x0 != 255)) (
    j2p false)

theorem F23.t_ok {ora : Ora} (hora : HOra ora) {lf ro : Nat} {F : List Ent} {r : (Bool)} (x0 : Int) (h : Heap) (hs : Sat ro h (F)) (hp : F23.p lf x0 = some r) : F23.Post F ro r (F23.t (callW Tryd.prog ora) lf ro x0 h) := by
  unfold F23.t
  unfold F23.p at hp
  refine st_letJ hp (fun j2p j2 => ∀ (b1 : Bool), Sat ro h (F) → j2p b1 = some r → F23.Post F ro r (j2 b1)) ?_ ?_
  · intro b1 hs hp
    cases hp
    exact ⟨_, rfl, hs⟩
  · intro j2p j2 hj2 hp
    refine st_if (Q := F23.Post F ro r) (fun hc_91 => ?_) (fun hc_91 => ?_)
    · replace hp := ifp_t hc_91 hp
      exact hj2 (x0 != 255) hs hp
    · replace hp := ifp_f hc_91 hp
      exact hj2 false hs hp

theorem F23.ok {ora : Ora} (hora : HOra ora) {lf ro : Nat} {F : List Ent} {r : (Bool)} (x0 : Int) (h : Heap) (hs : Sat ro h (F)) (hp : F23.p lf x0 = some r) : F23.Post F ro r (callW Tryd.prog ora ro 23 [.int .u8 x0] h) := by
  have h1 := F23.t_ok hora x0 h hs hp
  have h2 : callW Tryd.prog ora ro 23 [.int .u8 x0] h = _ := callW_body (hora.none _ _ _ _ (by decide)) Tryd.func23 (F23.le (callW Tryd.prog ora) lf ro x0 h) (F23.Post.ne h1)
  rw [h2]; exact h1

def F40.Post (F : List Ent) (ro : Nat) (r : (Int)) (x : Out) : Prop := ∃ h', x = .ok (.int .i64 r) h' ∧ Sat ro h' (F)
theorem F40.Post.ne {F : List Ent} {ro : Nat} {r : (Int)} {x : Out} (hx : F40.Post F ro r x) : x ≠ .fail := by
  obtain ⟨h', rfl, _⟩ := hx
  simp

def F40.J3p (lf : Nat) (kb2p : List Int → Int → Int → Option (Int)) (xa5 : List Int) (n6 : Int) (n7 : Int) : Option (Int) :=
  bindp (idxp xa5 n7) fun x_94 =>
  bindp (F23.p lf x_94) fun r_96 =>
  ifp r_96 (
    some n7) (
    kb2p xa5 n6 (IntKind.i64.wrap (n7 + 1)))

theorem F40.J3_ok {ora : Ora} (hora : HOra ora) {lf ro : Nat} {F : List Ent} {r : (Int)} {kb2p : List Int → Int → Int → Option (Int)} {kb2 : (Option Addr) → Nat → Nat → Int → Int → Heap → Out} (hkb2 : ∀ (a1 : Option Addr) (c1 : Nat) (xa1 : List Int) (n2 : Int) (n3 : Int) (h : Heap), Sat ro h (.row a1 c1 (xa1.map (Value.int .u8)) :: F) → kb2p xa1 n2 n3 = some r → F40.Post F ro r (kb2 a1 xa1.length c1 n2 n3 h)) (a5 : Option Addr) (c5 : Nat) (xa5 : List Int) (n6 : Int) (n7 : Int) (h : Heap) (hs : Sat ro h (.row a5 c5 (xa5.map (Value.int .u8)) :: F)) (hp : F40.J3p lf kb2p xa5 n6 n7 = some r) : F40.Post F ro r (F40.J3 (callW Tryd.prog ora) lf ro kb2 a5 xa5.length c5 n6 n7 h) := by
  unfold F40.J3
  unfold F40.J3p at hp
  obtain ⟨x_94, hx_95, hp⟩ := bindp_some hp
  refine st_idxR (Q := F40.Post F ro r) (l := xa5) (f := (Value.int .u8)) isO isO hs und22 siz5 agg5 rfl hx_95 ?_
  refine st_int (Q := F40.Post F ro r) ?_
  obtain ⟨r_96, hx_97, hp⟩ := bindp_some hp
  obtain ⟨h_98, e_100, hs_99⟩ := F23.ok hora (ro := ro) (F := .row a5 c5 (xa5.map (Value.int .u8)) :: F) x_94 _ hs hx_97
  refine st_ok (Q := F40.Post F ro r) isO e_100 ?_
  refine st_bool (Q := F40.Post F ro r) ?_
  refine st_if (Q := F40.Post F ro r) (fun hc_101 => ?_) (fun hc_101 => ?_)
  · replace hp := ifp_t hc_101 hp
    have hs_102 := hs_99.tail
    cases hp
    exact ⟨_, rfl, hs_102⟩
  · replace hp := ifp_f hc_101 hp
    exact hkb2 a5 _ xa5 n6 (IntKind.i64.wrap (n7 + 1)) _ hs_99 hp

def F40.L2p (lf : Nat) : Nat → List Int → Int → Int → Option (Int)
  | 0, _, _, _ => none
  | n + 1, xa1, n2, n3 =>
  ifp (decide (n3 < n2)) (
    F40.J3p lf (F40.L2p lf n) xa1 n2 n3) (
    some (-1))

theorem F40.L2_ok {ora : Ora} (hora : HOra ora) {lf ro : Nat} {F : List Ent} {r : (Int)} : ∀ (n : Nat) (a1 : Option Addr) (c1 : Nat) (xa1 : List Int) (n2 : Int) (n3 : Int) (h : Heap), Sat ro h (.row a1 c1 (xa1.map (Value.int .u8)) :: F) → F40.L2p lf n xa1 n2 n3 = some r → F40.Post F ro r (F40.L2 (callW Tryd.prog ora) lf ro n a1 xa1.length c1 n2 n3 h) := by
  intro n
  induction n with
  | zero => intro a1 c1 xa1 n2 n3 h hs hp; cases hp
  | succ n ih =>
    intro a1 c1 xa1 n2 n3 h hs hp
    unfold F40.L2
    unfold F40.L2p at hp
    refine st_if (Q := F40.Post F ro r) (fun hc_93 => ?_) (fun hc_93 => ?_)
    · replace hp := ifp_t hc_93 hp
      exact F40.J3_ok hora ih a1 _ xa1 n2 n3 _ hs hp
    · replace hp := ifp_f hc_93 hp
      have hs_103 := hs.tail
      cases hp
      exact ⟨_, rfl, hs_103⟩

def F40.p (lf : Nat) (xax0 : List Int) : Option (Int) :=
  F40.L2p lf lf xax0 (xax0.length : Int) 0

theorem F40.t_ok {ora : Ora} (hora : HOra ora) {lf ro : Nat} {F : List Ent} {r : (Int)} (ax0 : Option Addr) (cx0 : Nat) (xax0 : List Int) (h : Heap) (hs : Sat ro h (.row ax0 cx0 (xax0.map (Value.int .u8)) :: F)) (hp : F40.p lf xax0 = some r) : F40.Post F ro r (F40.t (callW Tryd.prog ora) lf ro ax0 xax0.length cx0 h) := by
  unfold F40.t
  unfold F40.p at hp
  exact F40.L2_ok hora lf ax0 _ xax0 (xax0.length : Int) 0 _ hs hp

theorem F40.ok {ora : Ora} (hora : HOra ora) {lf ro : Nat} {F : List Ent} {r : (Int)} (ax0 : Option Addr) (cx0 : Nat) (xax0 : List Int) (h : Heap) (hs : Sat ro h (.row ax0 cx0 (xax0.map (Value.int .u8)) :: F)) (hp : F40.p lf xax0 = some r) : F40.Post F ro r (callW Tryd.prog ora ro 40 [.slice ax0 xax0.length cx0, .func (.func 23) #[] #[]] h) := by
  have h1 := F40.t_ok hora ax0 cx0 xax0 h hs hp
  have h2 : callW Tryd.prog ora ro 40 [.slice ax0 xax0.length cx0, .func (.func 23) #[] #[]] h = _ := callW_body (hora.none _ _ _ _ (by decide)) Tryd.func40 (F40.le (callW Tryd.prog ora) lf ro ax0 xax0.length cx0 h) (F40.Post.ne h1)
  rw [h2]; exact h1

def F22.Post (F : List Ent) (ro : Nat) (r : (Bool)) (x : Out) : Prop := ∃ h', x = .ok (.bool r) h' ∧ Sat ro h' (F)
theorem F22.Post.ne {F : List Ent} {ro : Nat} {r : (Bool)} {x : Out} (hx : F22.Post F ro r x) : x ≠ .fail := by
  obtain ⟨h', rfl, _⟩ := hx
  simp

def F22.p (lf : Nat) (xax0 : List Int) : Option (Bool) :=
  bindp (F40.p lf xax0) fun r_105 =>
  some (decide (r_105 ≥ 0))

theorem F22.t_ok {ora : Ora} (hora : HOra ora) {lf ro : Nat} {F : List Ent} {r : (Bool)} (ax0 : Option Addr) (cx0 : Nat) (xax0 : List Int) (h : Heap) (hs : Sat ro h (.row ax0 cx0 (xax0.map (Value.int .u8)) :: F)) (hp : F22.p lf xax0 = some r) : F22.Post F ro r (F22.t (callW Tryd.prog ora) lf ro ax0 xax0.length cx0 h) := by
  unfold F22.t
  unfold F22.p at hp
  have hs_104 := hs.dup
  obtain ⟨r_105, hx_106, hp⟩ := bindp_some hp
  obtain ⟨h_107, e_109, hs_108⟩ := F40.ok hora (ro := ro) (F := .row ax0 cx0 (xax0.map (Value.int .u8)) :: F) ax0 cx0 xax0 _ hs_104 hx_106
  refine st_ok (Q := F22.Post F ro r) isO e_109 ?_
  refine st_int (Q := F22.Post F ro r) ?_
  have hs_110 := hs_108.tail
  cases hp
  exact ⟨_, rfl, hs_110⟩

theorem F22.ok {ora : Ora} (hora : HOra ora) {lf ro : Nat} {F : List Ent} {r : (Bool)} (ax0 : Option Addr) (cx0 : Nat) (xax0 : List Int) (h : Heap) (hs : Sat ro h (.row ax0 cx0 (xax0.map (Value.int .u8)) :: F)) (hp : F22.p lf xax0 = some r) : F22.Post F ro r (callW Tryd.prog ora ro 22 [.slice ax0 xax0.length cx0, .func (.func 23) #[] #[]] h) := by
  have h1 := F22.t_ok hora ax0 cx0 xax0 h hs hp
  have h2 : callW Tryd.prog ora ro 22 [.slice ax0 xax0.length cx0, .func (.func 23) #[] #[]] h = _ := callW_body (hora.none _ _ _ _ (by decide)) Tryd.func22 (F22.le (callW Tryd.prog ora) lf ro ax0 xax0.length cx0 h) (F22.Post.ne h1)
  rw [h2]; exact h1

def F61.Post (F : List Ent) (ro : Nat) (r : (ByteArray)) (x : Out) : Prop := ∃ h', x = .ok (.string r) h' ∧ Sat ro h' (F)
theorem F61.Post.ne {F : List Ent} {ro : Nat} {r : (ByteArray)} {x : Out} (hx : F61.Post F ro r x) : x ≠ .fail := by
  obtain ⟨h', rfl, _⟩ := hx
  simp

def F61.p (lf : Nat) (x0 : Int) : Option (ByteArray) :=
  ifp (decide (x0 < 10)) (
    bindp (ssubp wlit1 x0 (IntKind.i64.wrap (x0 + 1))) fun s_112 =>
    some s_112) (
    bindp (ssubp wlit2 (IntKind.i64.wrap (x0 * 2)) (IntKind.i64.wrap ((IntKind.i64.wrap (x0 * 2)) + 2))) fun s_114 =>
    some s_114)

theorem F61.t_ok {ora : Ora} (hora : HOra ora) {lf ro : Nat} {F : List Ent} {r : (ByteArray)} (x0 : Int) (h : Heap) (hs : Sat ro h (F)) (hp : F61.p lf x0 = some r) : F61.Post F ro r (F61.t (callW Tryd.prog ora) lf ro x0 h) := by
  unfold F61.t
  unfold F61.p at hp
  refine st_if (Q := F61.Post F ro r) (fun hc_111 => ?_) (fun hc_111 => ?_)
  · replace hp := ifp_t hc_111 hp
    obtain ⟨s_112, hx_113, hp⟩ := bindp_some hp
    refine st_ssub (Q := F61.Post F ro r) isO und9 (.inr ⟨_, rfl⟩) (.inr ⟨_, rfl⟩) hx_113 ?_
    refine st_str (Q := F61.Post F ro r) ?_
    cases hp
    exact ⟨_, rfl, hs⟩
  · replace hp := ifp_f hc_111 hp
    obtain ⟨s_114, hx_115, hp⟩ := bindp_some hp
    refine st_ssub (Q := F61.Post F ro r) isO und9 (.inr ⟨_, rfl⟩) (.inr ⟨_, rfl⟩) hx_115 ?_
    refine st_str (Q := F61.Post F ro r) ?_
    cases hp
    exact ⟨_, rfl, hs⟩

theorem F61.ok {ora : Ora} (hora : HOra ora) {lf ro : Nat} {F : List Ent} {r : (ByteArray)} (x0 : Int) (h : Heap) (hs : Sat ro h (F)) (hp : F61.p lf x0 = some r) : F61.Post F ro r (callW Tryd.prog ora ro 61 [.int .i64 x0] h) := by
  have h1 := F61.t_ok hora x0 h hs hp
  have h2 : callW Tryd.prog ora ro 61 [.int .i64 x0] h = _ := callW_body (hora.none _ _ _ _ (by decide)) Tryd.func61 (F61.le (callW Tryd.prog ora) lf ro x0 h) (F61.Post.ne h1)
  rw [h2]; exact h1

def F70.Post (F : List Ent) (ro : Nat) (r : (Int)) (x : Out) : Prop := ∃ h', x = .ok (.int .i64 r) h' ∧ Sat ro h' (F)
theorem F70.Post.ne {F : List Ent} {ro : Nat} {r : (Int)} {x : Out} (hx : F70.Post F ro r x) : x ≠ .fail := by
  obtain ⟨h', rfl, _⟩ := hx
  simp

def F70.p (lf : Nat) (x0 : Int) : Option (Int) :=
  some (Int.fdiv (IntKind.i64.wrap (x0 * 78913)) 262144)

theorem F70.t_ok {ora : Ora} (hora : HOra ora) {lf ro : Nat} {F : List Ent} {r : (Int)} (x0 : Int) (h : Heap) (hs : Sat ro h (F)) (hp : F70.p lf x0 = some r) : F70.Post F ro r (F70.t (callW Tryd.prog ora) lf ro x0 h) := by
  unfold F70.t
  unfold F70.p at hp
  cases hp
  exact ⟨_, rfl, hs⟩

theorem F70.ok {ora : Ora} (hora : HOra ora) {lf ro : Nat} {F : List Ent} {r : (Int)} (x0 : Int) (h : Heap) (hs : Sat ro h (F)) (hp : F70.p lf x0 = some r) : F70.Post F ro r (callW Tryd.prog ora ro 70 [.int .i64 x0] h) := by
  have h1 := F70.t_ok hora x0 h hs hp
  have h2 : callW Tryd.prog ora ro 70 [.int .i64 x0] h = _ := callW_body (hora.none _ _ _ _ (by decide)) Tryd.func70 (F70.le (callW Tryd.prog ora) lf ro x0 h) (F70.Post.ne h1)
  rw [h2]; exact h1

def F71.Post (F : List Ent) (ro : Nat) (r : (Int)) (x : Out) : Prop := ∃ h', x = .ok (.int .i64 r) h' ∧ Sat ro h' (F)
theorem F71.Post.ne {F : List Ent} {ro : Nat} {r : (Int)} {x : Out} (hx : F71.Post F ro r x) : x ≠ .fail := by
  obtain ⟨h', rfl, _⟩ := hx
  simp

def F71.J7p (lf : Nat) (n4 : Int) (n5 : Int) : Option (Int) :=
  letJ (fun (n7 : Int) (n8 : Int) => (
    bindp (sidxp wlit3 (IntKind.u8.wrap n7)) fun x_120 =>
    some (IntKind.i64.wrap (n8 + (IntKind.i64.wrap x_120))) : Option (Int))) fun j9p =>
  ifp (decide (n4 ≥ 256)) (
    j9p (Int.fdiv n4 256) (IntKind.i64.wrap (n5 + 8))) (
    j9p n4 n5)

theorem F71.J7_ok {ora : Ora} (hora : HOra ora) {lf ro : Nat} {F : List Ent} {r : (Int)} (n4 : Int) (n5 : Int) (h : Heap) (hs : Sat ro h (F)) (hp : F71.J7p lf n4 n5 = some r) : F71.Post F ro r (F71.J7 (callW Tryd.prog ora) lf ro n4 n5 h) := by
  unfold F71.J7
  unfold F71.J7p at hp
  refine st_letJ hp (fun j9p j9 => ∀ (n7 : Int) (n8 : Int), Sat ro h (F) → j9p n7 n8 = some r → F71.Post F ro r (j9 n7 n8)) ?_ ?_
  · intro n7 n8 hs hp
    obtain ⟨x_120, hx_121, hp⟩ := bindp_some hp
    refine st_sidx (Q := F71.Post F ro r) isO und9 hx_121 ?_
    refine st_int (Q := F71.Post F ro r) ?_
    cases hp
    exact ⟨_, rfl, hs⟩
  · intro j9p j9 hj9 hp
    refine st_if (Q := F71.Post F ro r) (fun hc_118 => ?_) (fun hc_118 => ?_)
    · replace hp := ifp_t hc_118 hp
      exact hj9 (Int.fdiv n4 256) (IntKind.i64.wrap (n5 + 8)) hs hp
    · replace hp := ifp_f hc_118 hp
      exact hj9 n4 n5 hs hp

def F71.J4p (lf : Nat) (n1 : Int) (n2 : Int) : Option (Int) :=
  ifp (decide (n1 ≥ 65536)) (
    F71.J7p lf (Int.fdiv n1 65536) (IntKind.i64.wrap (n2 + 16))) (
    F71.J7p lf n1 n2)

theorem F71.J4_ok {ora : Ora} (hora : HOra ora) {lf ro : Nat} {F : List Ent} {r : (Int)} (n1 : Int) (n2 : Int) (h : Heap) (hs : Sat ro h (F)) (hp : F71.J4p lf n1 n2 = some r) : F71.Post F ro r (F71.J4 (callW Tryd.prog ora) lf ro n1 n2 h) := by
  unfold F71.J4
  unfold F71.J4p at hp
  refine st_if (Q := F71.Post F ro r) (fun hc_117 => ?_) (fun hc_117 => ?_)
  · replace hp := ifp_t hc_117 hp
    exact F71.J7_ok hora (Int.fdiv n1 65536) (IntKind.i64.wrap (n2 + 16)) _ hs hp
  · replace hp := ifp_f hc_117 hp
    exact F71.J7_ok hora n1 n2 _ hs hp

def F71.p (lf : Nat) (x0 : Int) : Option (Int) :=
  ifp (decide (x0 ≥ 4294967296)) (
    F71.J4p lf (Int.fdiv x0 4294967296) 32) (
    F71.J4p lf x0 0)

theorem F71.t_ok {ora : Ora} (hora : HOra ora) {lf ro : Nat} {F : List Ent} {r : (Int)} (x0 : Int) (h : Heap) (hs : Sat ro h (F)) (hp : F71.p lf x0 = some r) : F71.Post F ro r (F71.t (callW Tryd.prog ora) lf ro x0 h) := by
  unfold F71.t
  unfold F71.p at hp
  refine st_if (Q := F71.Post F ro r) (fun hc_116 => ?_) (fun hc_116 => ?_)
  · replace hp := ifp_t hc_116 hp
    exact F71.J4_ok hora (Int.fdiv x0 4294967296) 32 _ hs hp
  · replace hp := ifp_f hc_116 hp
    exact F71.J4_ok hora x0 0 _ hs hp

theorem F71.ok {ora : Ora} (hora : HOra ora) {lf ro : Nat} {F : List Ent} {r : (Int)} (x0 : Int) (h : Heap) (hs : Sat ro h (F)) (hp : F71.p lf x0 = some r) : F71.Post F ro r (callW Tryd.prog ora ro 71 [.int .u64 x0] h) := by
  have h1 := F71.t_ok hora x0 h hs hp
  have h2 : callW Tryd.prog ora ro 71 [.int .u64 x0] h = _ := callW_body (hora.none _ _ _ _ (by decide)) Tryd.func71 (F71.le (callW Tryd.prog ora) lf ro x0 h) (F71.Post.ne h1)
  rw [h2]; exact h1

def F72.Post (F : List Ent) (ro : Nat) (r : (Int)) (x : Out) : Prop := ∃ h', x = .ok (.int .i64 r) h' ∧ Sat ro h' (F)
theorem F72.Post.ne {F : List Ent} {ro : Nat} {r : (Int)} {x : Out} (hx : F72.Post F ro r x) : x ≠ .fail := by
  obtain ⟨h', rfl, _⟩ := hx
  simp

def F72.p (lf : Nat) (x0 : Bool) : Option (Int) :=
  ifp x0 (
    some 1) (
    some 0)

theorem F72.t_ok {ora : Ora} (hora : HOra ora) {lf ro : Nat} {F : List Ent} {r : (Int)} (x0 : Bool) (h : Heap) (hs : Sat ro h (F)) (hp : F72.p lf x0 = some r) : F72.Post F ro r (F72.t (callW Tryd.prog ora) lf ro x0 h) := by
  unfold F72.t
  unfold F72.p at hp
  refine st_if (Q := F72.Post F ro r) (fun hc_122 => ?_) (fun hc_122 => ?_)
  · replace hp := ifp_t hc_122 hp
    cases hp
    exact ⟨_, rfl, hs⟩
  · replace hp := ifp_f hc_122 hp
    cases hp
    exact ⟨_, rfl, hs⟩

theorem F72.ok {ora : Ora} (hora : HOra ora) {lf ro : Nat} {F : List Ent} {r : (Int)} (x0 : Bool) (h : Heap) (hs : Sat ro h (F)) (hp : F72.p lf x0 = some r) : F72.Post F ro r (callW Tryd.prog ora ro 72 [.bool x0] h) := by
  have h1 := F72.t_ok hora x0 h hs hp
  have h2 : callW Tryd.prog ora ro 72 [.bool x0] h = _ := callW_body (hora.none _ _ _ _ (by decide)) Tryd.func72 (F72.le (callW Tryd.prog ora) lf ro x0 h) (F72.Post.ne h1)
  rw [h2]; exact h1

def F62.Post (F : List Ent) (ro : Nat) (r : (Int)) (x : Out) : Prop := ∃ h', x = .ok (.int .i64 r) h' ∧ Sat ro h' (F)
theorem F62.Post.ne {F : List Ent} {ro : Nat} {r : (Int)} {x : Out} (hx : F62.Post F ro r x) : x ≠ .fail := by
  obtain ⟨h', rfl, _⟩ := hx
  simp

def F62.p (lf : Nat) (x0 : Int) : Option (Int) :=
  bindp (F71.p lf x0) fun r_123 =>
  bindp (F70.p lf r_123) fun r_128 =>
  bindp (idxp gl0 r_128) fun x_133 =>
  bindp (F72.p lf (decide (x0 ≥ x_133))) fun r_135 =>
  some (IntKind.i64.wrap (r_128 + r_135))

theorem F62.t_ok {ora : Ora} (hora : HOra ora) {lf ro : Nat} {F : List Ent} {r : (Int)} (x0 : Int) (h : Heap) (hs : Sat ro h (.row (some ⟨0, 0, none⟩) 20 (gl0.map (Value.int .u64)) :: F)) (hp : F62.p lf x0 = some r) : F62.Post F ro r (F62.t (callW Tryd.prog ora) lf ro x0 h) := by
  unfold F62.t
  unfold F62.p at hp
  obtain ⟨r_123, hx_124, hp⟩ := bindp_some hp
  obtain ⟨h_125, e_127, hs_126⟩ := F71.ok hora (ro := ro) (F := .row (some ⟨0, 0, none⟩) 20 (gl0.map (Value.int .u64)) :: F) x0 _ hs hx_124
  refine st_ok (Q := F62.Post F ro r) isO e_127 ?_
  refine st_int (Q := F62.Post F ro r) ?_
  obtain ⟨r_128, hx_129, hp⟩ := bindp_some hp
  obtain ⟨h_130, e_132, hs_131⟩ := F70.ok hora (ro := ro) (F := .row (some ⟨0, 0, none⟩) 20 (gl0.map (Value.int .u64)) :: F) r_123 _ hs_126 hx_129
  refine st_ok (Q := F62.Post F ro r) isO e_132 ?_
  refine st_int (Q := F62.Post F ro r) ?_
  obtain ⟨x_133, hx_134, hp⟩ := bindp_some hp
  refine st_idxT (Q := F62.Post F ro r) isO isO hs_131 und95 siz74 agg74 (by decide) hx_134 ?_
  refine st_int (Q := F62.Post F ro r) ?_
  obtain ⟨r_135, hx_136, hp⟩ := bindp_some hp
  obtain ⟨h_137, e_139, hs_138⟩ := F72.ok hora (ro := ro) (F := .row (some ⟨0, 0, none⟩) 20 (gl0.map (Value.int .u64)) :: F) (decide (x0 ≥ x_133)) _ hs_131 hx_136
  refine st_ok (Q := F62.Post F ro r) isO e_139 ?_
  refine st_int (Q := F62.Post F ro r) ?_
  have hs_140 := hs_138.tail
  cases hp
  exact ⟨_, rfl, hs_140⟩

theorem F62.ok {ora : Ora} (hora : HOra ora) {lf ro : Nat} {F : List Ent} {r : (Int)} (x0 : Int) (h : Heap) (hs : Sat ro h (.row (some ⟨0, 0, none⟩) 20 (gl0.map (Value.int .u64)) :: F)) (hp : F62.p lf x0 = some r) : F62.Post F ro r (callW Tryd.prog ora ro 62 [.int .u64 x0] h) := by
  have h1 := F62.t_ok hora x0 h hs hp
  have h2 : callW Tryd.prog ora ro 62 [.int .u64 x0] h = _ := callW_body (hora.none _ _ _ _ (by decide)) Tryd.func62 (F62.le (callW Tryd.prog ora) lf ro x0 h) (F62.Post.ne h1)
  rw [h2]; exact h1

def F63.Post (ax0 : Option Addr) (F : List Ent) (ro : Nat) (r : (List Int)) (x : Out) : Prop := ∃ h', x = .ok (.tuple #[]) h' ∧ Sat ro h' (.own ro ax0 1 (r.map (Value.int .u8)) :: F)
theorem F63.Post.ne {ax0 : Option Addr} {F : List Ent} {ro : Nat} {r : (List Int)} {x : Out} (hx : F63.Post ax0 F ro r x) : x ≠ .fail := by
  obtain ⟨h', rfl, _⟩ := hx
  simp

def F63.J25p (lf : Nat) (l97 : Nat) (xa97 : List Int) (n98 : Int) (n99 : Int) : Option (List Int) :=
  ifp (decide (n98 > 0)) (
    bindp (vsetp l97 xa97 0 (IntKind.u8.wrap (IntKind.u32.wrap (48 + n99)))) fun x_250 =>
    some x_250) (
    some xa97)

theorem F63.J25_ok {ora : Ora} (hora : HOra ora) {lf ro : Nat} {F : List Ent} {r : (List Int)} {ax0 : Option Addr} (l97 : Nat) (c97 : Nat) (xa97 : List Int) (n98 : Int) (n99 : Int) (h : Heap) (hs : Sat ro h (.own ro ax0 1 (xa97.map (Value.int .u8)) :: F)) (hp : F63.J25p lf l97 xa97 n98 n99 = some r) : F63.Post ax0 F ro r (F63.J25 (callW Tryd.prog ora) lf ro ax0 l97 c97 n98 n99 h) := by
  unfold F63.J25
  unfold F63.J25p at hp
  refine st_if (Q := F63.Post ax0 F ro r) (fun hc_249 => ?_) (fun hc_249 => ?_)
  · replace hp := ifp_t hc_249 hp
    obtain ⟨x_250, hx_251, hp⟩ := bindp_some hp
    refine st_idxSV (Q := F63.Post ax0 F ro r) (l := xa97) (f := (Value.int .u8)) isO isO hs und22 siz5 siz5 (fun _ => rfl) hx_251 fun h_252 hs_253 => ?_
    have hl_254 := vsetp_len hx_251
    try simp only [hl_254] at hs_253 hp ⊢
    cases hp
    exact ⟨_, rfl, hs_253⟩
  · replace hp := ifp_f hc_249 hp
    cases hp
    exact ⟨_, rfl, hs⟩

def F63.J20p (lf : Nat) (l65 : Nat) (xa65 : List Int) (n66 : Int) (n67 : Int) : Option (List Int) :=
  ifp (decide (n66 ≥ 2)) (
    bindp (sidxp wlit2 (IntKind.u32.wrap ((IntKind.u32.wrap ((Int.tmod n67 100) * 2)) + 1))) fun x_234 =>
    bindp (sidxp wlit2 (IntKind.u32.wrap ((Int.tmod n67 100) * 2))) fun x_236 =>
    bindp (vsetp l65 xa65 (IntKind.i64.wrap (n66 - 1)) x_234) fun x_238 =>
    bindp (vsetp l65 x_238 (IntKind.i64.wrap (n66 - 2)) x_236) fun x_244 =>
    F63.J25p lf l65 x_244 (IntKind.i64.wrap (n66 - 2)) (IntKind.u32.wrap (Int.tdiv n67 100))) (
    F63.J25p lf l65 xa65 n66 n67)

theorem F63.J20_ok {ora : Ora} (hora : HOra ora) {lf ro : Nat} {F : List Ent} {r : (List Int)} {ax0 : Option Addr} (l65 : Nat) (c65 : Nat) (xa65 : List Int) (n66 : Int) (n67 : Int) (h : Heap) (hs : Sat ro h (.own ro ax0 1 (xa65.map (Value.int .u8)) :: F)) (hp : F63.J20p lf l65 xa65 n66 n67 = some r) : F63.Post ax0 F ro r (F63.J20 (callW Tryd.prog ora) lf ro ax0 l65 c65 n66 n67 h) := by
  unfold F63.J20
  unfold F63.J20p at hp
  refine st_if (Q := F63.Post ax0 F ro r) (fun hc_233 => ?_) (fun hc_233 => ?_)
  · replace hp := ifp_t hc_233 hp
    obtain ⟨x_234, hx_235, hp⟩ := bindp_some hp
    refine st_sidx (Q := F63.Post ax0 F ro r) isN und9 hx_235 ?_
    refine st_int (Q := F63.Post ax0 F ro r) ?_
    obtain ⟨x_236, hx_237, hp⟩ := bindp_some hp
    refine st_sidx (Q := F63.Post ax0 F ro r) isN und9 hx_237 ?_
    refine st_int (Q := F63.Post ax0 F ro r) ?_
    have hap_240 := (List.pairwise_cons.1 hs.apart).1
    obtain ⟨x_238, hx_239, hp⟩ := bindp_some hp
    refine st_idxSV (Q := F63.Post ax0 F ro r) (l := xa65) (f := (Value.int .u8)) isN isN hs und22 siz5 siz5 (fun _ => rfl) hx_239 fun h_241 hs_242 => ?_
    have hl_243 := vsetp_len hx_239
    try simp only [hl_243] at hs_242 hp ⊢
    obtain ⟨x_244, hx_245, hp⟩ := bindp_some hp
    refine st_idxSV (Q := F63.Post ax0 F ro r) (l := x_238) (f := (Value.int .u8)) isO isO hs_242 und22 siz5 siz5 (fun _ => rfl) hx_245 fun h_246 hs_247 => ?_
    have hl_248 := vsetp_len hx_245
    try simp only [hl_248] at hs_247 hp ⊢
    exact F63.J25_ok hora l65 c65 x_244 (IntKind.i64.wrap (n66 - 2)) (IntKind.u32.wrap (Int.tdiv n67 100)) _ hs_247 hp
  · replace hp := ifp_f hc_233 hp
    exact F63.J25_ok hora l65 c65 xa65 n66 n67 _ hs hp

def F63.J12p (lf : Nat) (l5 : Nat) (xa5 : List Int) (n6 : Int) (n7 : Int) : Option (List Int) :=
  ifp (decide (n7 ≥ 4)) (
    bindp (sidxp wlit2 (IntKind.u32.wrap ((IntKind.u32.wrap ((Int.tmod (Int.tmod (IntKind.u32.wrap n6) 10000) 100) * 2)) + 1))) fun x_203 =>
    bindp (sidxp wlit2 (IntKind.u32.wrap ((Int.tmod (Int.tmod (IntKind.u32.wrap n6) 10000) 100) * 2))) fun x_205 =>
    bindp (vsetp l5 xa5 (IntKind.i64.wrap (n7 - 1)) x_203) fun x_207 =>
    bindp (vsetp l5 x_207 (IntKind.i64.wrap (n7 - 2)) x_205) fun x_213 =>
    bindp (sidxp wlit2 (IntKind.u32.wrap ((IntKind.u32.wrap ((IntKind.u32.wrap (Int.tdiv (Int.tmod (IntKind.u32.wrap n6) 10000) 100)) * 2)) + 1))) fun x_218 =>
    bindp (sidxp wlit2 (IntKind.u32.wrap ((IntKind.u32.wrap (Int.tdiv (Int.tmod (IntKind.u32.wrap n6) 10000) 100)) * 2))) fun x_220 =>
    bindp (vsetp l5 x_213 (IntKind.i64.wrap (n7 - 3)) x_218) fun x_222 =>
    bindp (vsetp l5 x_222 (IntKind.i64.wrap (n7 - 4)) x_220) fun x_228 =>
    F63.J20p lf l5 x_228 (IntKind.i64.wrap (n7 - 4)) (IntKind.u32.wrap (Int.tdiv (IntKind.u32.wrap n6) 10000))) (
    F63.J20p lf l5 xa5 n7 (IntKind.u32.wrap n6))

theorem F63.J12_ok {ora : Ora} (hora : HOra ora) {lf ro : Nat} {F : List Ent} {r : (List Int)} {ax0 : Option Addr} (l5 : Nat) (c5 : Nat) (xa5 : List Int) (n6 : Int) (n7 : Int) (h : Heap) (hs : Sat ro h (.own ro ax0 1 (xa5.map (Value.int .u8)) :: F)) (hp : F63.J12p lf l5 xa5 n6 n7 = some r) : F63.Post ax0 F ro r (F63.J12 (callW Tryd.prog ora) lf ro ax0 l5 c5 n6 n7 h) := by
  unfold F63.J12
  unfold F63.J12p at hp
  refine st_if (Q := F63.Post ax0 F ro r) (fun hc_202 => ?_) (fun hc_202 => ?_)
  · replace hp := ifp_t hc_202 hp
    obtain ⟨x_203, hx_204, hp⟩ := bindp_some hp
    refine st_sidx (Q := F63.Post ax0 F ro r) isN und9 hx_204 ?_
    refine st_int (Q := F63.Post ax0 F ro r) ?_
    obtain ⟨x_205, hx_206, hp⟩ := bindp_some hp
    refine st_sidx (Q := F63.Post ax0 F ro r) isN und9 hx_206 ?_
    refine st_int (Q := F63.Post ax0 F ro r) ?_
    have hap_209 := (List.pairwise_cons.1 hs.apart).1
    obtain ⟨x_207, hx_208, hp⟩ := bindp_some hp
    refine st_idxSV (Q := F63.Post ax0 F ro r) (l := xa5) (f := (Value.int .u8)) isN isN hs und22 siz5 siz5 (fun _ => rfl) hx_208 fun h_210 hs_211 => ?_
    have hl_212 := vsetp_len hx_208
    try simp only [hl_212] at hs_211 hp ⊢
    obtain ⟨x_213, hx_214, hp⟩ := bindp_some hp
    refine st_idxSV (Q := F63.Post ax0 F ro r) (l := x_207) (f := (Value.int .u8)) isO isO hs_211 und22 siz5 siz5 (fun _ => rfl) hx_214 fun h_215 hs_216 => ?_
    have hl_217 := vsetp_len hx_214
    try simp only [hl_217] at hs_216 hp ⊢
    obtain ⟨x_218, hx_219, hp⟩ := bindp_some hp
    refine st_sidx (Q := F63.Post ax0 F ro r) isN und9 hx_219 ?_
    refine st_int (Q := F63.Post ax0 F ro r) ?_
    obtain ⟨x_220, hx_221, hp⟩ := bindp_some hp
    refine st_sidx (Q := F63.Post ax0 F ro r) isN und9 hx_221 ?_
    refine st_int (Q := F63.Post ax0 F ro r) ?_
    have hap_224 := (List.pairwise_cons.1 hs_216.apart).1
    obtain ⟨x_222, hx_223, hp⟩ := bindp_some hp
    refine st_idxSV (Q := F63.Post ax0 F ro r) (l := x_213) (f := (Value.int .u8)) isN isN hs_216 und22 siz5 siz5 (fun _ => rfl) hx_223 fun h_225 hs_226 => ?_
    have hl_227 := vsetp_len hx_223
    try simp only [hl_227] at hs_226 hp ⊢
    obtain ⟨x_228, hx_229, hp⟩ := bindp_some hp
    refine st_idxSV (Q := F63.Post ax0 F ro r) (l := x_222) (f := (Value.int .u8)) isO isO hs_226 und22 siz5 siz5 (fun _ => rfl) hx_229 fun h_230 hs_231 => ?_
    have hl_232 := vsetp_len hx_229
    try simp only [hl_232] at hs_231 hp ⊢
    exact F63.J20_ok hora l5 c5 x_228 (IntKind.i64.wrap (n7 - 4)) (IntKind.u32.wrap (Int.tdiv (IntKind.u32.wrap n6) 10000)) _ hs_231 hp
  · replace hp := ifp_f hc_202 hp
    exact F63.J20_ok hora l5 c5 xa5 n7 (IntKind.u32.wrap n6) _ hs hp

def F63.L1p (lf : Nat) : Nat → Nat → List Int → Int → Int → Option (List Int)
  | 0, _, _, _, _ => none
  | n + 1, l1, xa1, n2, n3 =>
  ifp (decide (n3 ≥ 8)) (
    bindp (sidxp wlit2 (IntKind.u32.wrap ((IntKind.u32.wrap ((Int.tmod (Int.tmod (IntKind.u32.wrap (Int.tmod n2 100000000)) 10000) 100) * 2)) + 1))) fun x_142 =>
    bindp (sidxp wlit2 (IntKind.u32.wrap ((Int.tmod (Int.tmod (IntKind.u32.wrap (Int.tmod n2 100000000)) 10000) 100) * 2))) fun x_144 =>
    bindp (vsetp l1 xa1 (IntKind.i64.wrap (n3 - 1)) x_142) fun x_146 =>
    bindp (vsetp l1 x_146 (IntKind.i64.wrap (n3 - 2)) x_144) fun x_152 =>
    bindp (sidxp wlit2 (IntKind.u32.wrap ((IntKind.u32.wrap ((IntKind.u32.wrap (Int.tdiv (Int.tmod (IntKind.u32.wrap (Int.tmod n2 100000000)) 10000) 100)) * 2)) + 1))) fun x_157 =>
    bindp (sidxp wlit2 (IntKind.u32.wrap ((IntKind.u32.wrap (Int.tdiv (Int.tmod (IntKind.u32.wrap (Int.tmod n2 100000000)) 10000) 100)) * 2))) fun x_159 =>
    bindp (vsetp l1 x_152 (IntKind.i64.wrap (n3 - 3)) x_157) fun x_161 =>
    bindp (vsetp l1 x_161 (IntKind.i64.wrap (n3 - 4)) x_159) fun x_167 =>
    bindp (sidxp wlit2 (IntKind.u32.wrap ((IntKind.u32.wrap ((Int.tmod (IntKind.u32.wrap (Int.tdiv (IntKind.u32.wrap (Int.tmod n2 100000000)) 10000)) 100) * 2)) + 1))) fun x_172 =>
    bindp (sidxp wlit2 (IntKind.u32.wrap ((Int.tmod (IntKind.u32.wrap (Int.tdiv (IntKind.u32.wrap (Int.tmod n2 100000000)) 10000)) 100) * 2))) fun x_174 =>
    bindp (vsetp l1 x_167 (IntKind.i64.wrap (n3 - 5)) x_172) fun x_176 =>
    bindp (vsetp l1 x_176 (IntKind.i64.wrap (n3 - 6)) x_174) fun x_182 =>
    bindp (sidxp wlit2 (IntKind.u32.wrap ((IntKind.u32.wrap ((IntKind.u32.wrap (Int.tdiv (IntKind.u32.wrap (Int.tdiv (IntKind.u32.wrap (Int.tmod n2 100000000)) 10000)) 100)) * 2)) + 1))) fun x_187 =>
    bindp (sidxp wlit2 (IntKind.u32.wrap ((IntKind.u32.wrap (Int.tdiv (IntKind.u32.wrap (Int.tdiv (IntKind.u32.wrap (Int.tmod n2 100000000)) 10000)) 100)) * 2))) fun x_189 =>
    bindp (vsetp l1 x_182 (IntKind.i64.wrap (n3 - 7)) x_187) fun x_191 =>
    bindp (vsetp l1 x_191 (IntKind.i64.wrap (n3 - 8)) x_189) fun x_197 =>
    F63.L1p lf n l1 x_197 (IntKind.u64.wrap (Int.tdiv n2 100000000)) (IntKind.i64.wrap (n3 - 8))) (
    F63.J12p lf l1 xa1 n2 n3)

theorem F63.L1_ok {ora : Ora} (hora : HOra ora) {lf ro : Nat} {F : List Ent} {r : (List Int)} {ax0 : Option Addr} : ∀ (n : Nat) (l1 : Nat) (c1 : Nat) (xa1 : List Int) (n2 : Int) (n3 : Int) (h : Heap), Sat ro h (.own ro ax0 1 (xa1.map (Value.int .u8)) :: F) → F63.L1p lf n l1 xa1 n2 n3 = some r → F63.Post ax0 F ro r (F63.L1 (callW Tryd.prog ora) lf ro n ax0 l1 c1 n2 n3 h) := by
  intro n
  induction n with
  | zero => intro l1 c1 xa1 n2 n3 h hs hp; cases hp
  | succ n ih =>
    intro l1 c1 xa1 n2 n3 h hs hp
    unfold F63.L1
    unfold F63.L1p at hp
    refine st_if (Q := F63.Post ax0 F ro r) (fun hc_141 => ?_) (fun hc_141 => ?_)
    · replace hp := ifp_t hc_141 hp
      obtain ⟨x_142, hx_143, hp⟩ := bindp_some hp
      refine st_sidx (Q := F63.Post ax0 F ro r) isN und9 hx_143 ?_
      refine st_int (Q := F63.Post ax0 F ro r) ?_
      obtain ⟨x_144, hx_145, hp⟩ := bindp_some hp
      refine st_sidx (Q := F63.Post ax0 F ro r) isN und9 hx_145 ?_
      refine st_int (Q := F63.Post ax0 F ro r) ?_
      have hap_148 := (List.pairwise_cons.1 hs.apart).1
      obtain ⟨x_146, hx_147, hp⟩ := bindp_some hp
      refine st_idxSV (Q := F63.Post ax0 F ro r) (l := xa1) (f := (Value.int .u8)) isN isN hs und22 siz5 siz5 (fun _ => rfl) hx_147 fun h_149 hs_150 => ?_
      have hl_151 := vsetp_len hx_147
      try simp only [hl_151] at hs_150 hp ⊢
      obtain ⟨x_152, hx_153, hp⟩ := bindp_some hp
      refine st_idxSV (Q := F63.Post ax0 F ro r) (l := x_146) (f := (Value.int .u8)) isO isO hs_150 und22 siz5 siz5 (fun _ => rfl) hx_153 fun h_154 hs_155 => ?_
      have hl_156 := vsetp_len hx_153
      try simp only [hl_156] at hs_155 hp ⊢
      obtain ⟨x_157, hx_158, hp⟩ := bindp_some hp
      refine st_sidx (Q := F63.Post ax0 F ro r) isN und9 hx_158 ?_
      refine st_int (Q := F63.Post ax0 F ro r) ?_
      obtain ⟨x_159, hx_160, hp⟩ := bindp_some hp
      refine st_sidx (Q := F63.Post ax0 F ro r) isN und9 hx_160 ?_
      refine st_int (Q := F63.Post ax0 F ro r) ?_
      have hap_163 := (List.pairwise_cons.1 hs_155.apart).1
      obtain ⟨x_161, hx_162, hp⟩ := bindp_some hp
      refine st_idxSV (Q := F63.Post ax0 F ro r) (l := x_152) (f := (Value.int .u8)) isN isN hs_155 und22 siz5 siz5 (fun _ => rfl) hx_162 fun h_164 hs_165 => ?_
      have hl_166 := vsetp_len hx_162
      try simp only [hl_166] at hs_165 hp ⊢
      obtain ⟨x_167, hx_168, hp⟩ := bindp_some hp
      refine st_idxSV (Q := F63.Post ax0 F ro r) (l := x_161) (f := (Value.int .u8)) isO isO hs_165 und22 siz5 siz5 (fun _ => rfl) hx_168 fun h_169 hs_170 => ?_
      have hl_171 := vsetp_len hx_168
      try simp only [hl_171] at hs_170 hp ⊢
      obtain ⟨x_172, hx_173, hp⟩ := bindp_some hp
      refine st_sidx (Q := F63.Post ax0 F ro r) isN und9 hx_173 ?_
      refine st_int (Q := F63.Post ax0 F ro r) ?_
      obtain ⟨x_174, hx_175, hp⟩ := bindp_some hp
      refine st_sidx (Q := F63.Post ax0 F ro r) isN und9 hx_175 ?_
      refine st_int (Q := F63.Post ax0 F ro r) ?_
      have hap_178 := (List.pairwise_cons.1 hs_170.apart).1
      obtain ⟨x_176, hx_177, hp⟩ := bindp_some hp
      refine st_idxSV (Q := F63.Post ax0 F ro r) (l := x_167) (f := (Value.int .u8)) isN isN hs_170 und22 siz5 siz5 (fun _ => rfl) hx_177 fun h_179 hs_180 => ?_
      have hl_181 := vsetp_len hx_177
      try simp only [hl_181] at hs_180 hp ⊢
      obtain ⟨x_182, hx_183, hp⟩ := bindp_some hp
      refine st_idxSV (Q := F63.Post ax0 F ro r) (l := x_176) (f := (Value.int .u8)) isO isO hs_180 und22 siz5 siz5 (fun _ => rfl) hx_183 fun h_184 hs_185 => ?_
      have hl_186 := vsetp_len hx_183
      try simp only [hl_186] at hs_185 hp ⊢
      obtain ⟨x_187, hx_188, hp⟩ := bindp_some hp
      refine st_sidx (Q := F63.Post ax0 F ro r) isN und9 hx_188 ?_
      refine st_int (Q := F63.Post ax0 F ro r) ?_
      obtain ⟨x_189, hx_190, hp⟩ := bindp_some hp
      refine st_sidx (Q := F63.Post ax0 F ro r) isN und9 hx_190 ?_
      refine st_int (Q := F63.Post ax0 F ro r) ?_
      have hap_193 := (List.pairwise_cons.1 hs_185.apart).1
      obtain ⟨x_191, hx_192, hp⟩ := bindp_some hp
      refine st_idxSV (Q := F63.Post ax0 F ro r) (l := x_182) (f := (Value.int .u8)) isN isN hs_185 und22 siz5 siz5 (fun _ => rfl) hx_192 fun h_194 hs_195 => ?_
      have hl_196 := vsetp_len hx_192
      try simp only [hl_196] at hs_195 hp ⊢
      obtain ⟨x_197, hx_198, hp⟩ := bindp_some hp
      refine st_idxSV (Q := F63.Post ax0 F ro r) (l := x_191) (f := (Value.int .u8)) isO isO hs_195 und22 siz5 siz5 (fun _ => rfl) hx_198 fun h_199 hs_200 => ?_
      have hl_201 := vsetp_len hx_198
      try simp only [hl_201] at hs_200 hp ⊢
      exact ih l1 c1 x_197 (IntKind.u64.wrap (Int.tdiv n2 100000000)) (IntKind.i64.wrap (n3 - 8)) _ hs_200 hp
    · replace hp := ifp_f hc_141 hp
      exact F63.J12_ok hora l1 c1 xa1 n2 n3 _ hs hp

def F63.p (lf : Nat) (lx0 : Nat) (xax0 : List Int) (x1 : Int) : Option (List Int) :=
  F63.L1p lf lf lx0 xax0 x1 (lx0 : Int)

theorem F63.t_ok {ora : Ora} (hora : HOra ora) {lf ro : Nat} {F : List Ent} {r : (List Int)} {ax0 : Option Addr} (lx0 : Nat) (cx0 : Nat) (xax0 : List Int) (x1 : Int) (h : Heap) (hs : Sat ro h (.own ro ax0 1 (xax0.map (Value.int .u8)) :: F)) (hp : F63.p lf lx0 xax0 x1 = some r) : F63.Post ax0 F ro r (F63.t (callW Tryd.prog ora) lf ro ax0 lx0 cx0 x1 h) := by
  unfold F63.t
  unfold F63.p at hp
  exact F63.L1_ok hora lf lx0 cx0 xax0 x1 (lx0 : Int) _ hs hp

theorem F63.ok {ora : Ora} (hora : HOra ora) {lf ro : Nat} {F : List Ent} {r : (List Int)} {ax0 : Option Addr} (lx0 : Nat) (cx0 : Nat) (xax0 : List Int) (x1 : Int) (h : Heap) (hs : Sat ro h (.own ro ax0 1 (xax0.map (Value.int .u8)) :: F)) (hp : F63.p lf lx0 xax0 x1 = some r) : F63.Post ax0 F ro r (callW Tryd.prog ora ro 63 [.slice ax0 lx0 cx0, .int .u64 x1] h) := by
  have h1 := F63.t_ok hora lx0 cx0 xax0 x1 h hs hp
  have h2 : callW Tryd.prog ora ro 63 [.slice ax0 lx0 cx0, .int .u64 x1] h = _ := callW_body (hora.none _ _ _ _ (by decide)) Tryd.func63 (F63.le (callW Tryd.prog ora) lf ro ax0 lx0 cx0 x1 h) (F63.Post.ne h1)
  rw [h2]; exact h1

def F49.Post (F : List Ent) (ro : Nat) (r : (List Int)) (x : Out) : Prop := ∃ a0 h', x = .ok (.slice a0 r.length r.length) h' ∧ Sat ro h' (.own ro a0 1 (r.map (Value.int .u8)) :: F)
theorem F49.Post.ne {F : List Ent} {ro : Nat} {r : (List Int)} {x : Out} (hx : F49.Post F ro r x) : x ≠ .fail := by
  obtain ⟨a0, h', rfl, _⟩ := hx
  simp

def F49.p (lf : Nat) (xax0 : List Int) (x1 : Int) (x2 : Int) : Option (List Int) :=
  ifp (x2 == 10) (
    ifp (decide (x1 < 100)) (
      bindp (F61.p lf (IntKind.i64.wrap x1)) fun r_257 =>
      bindp (appp 1 xax0 (bytp r_257)) fun x_262 =>
      some x_262) (
      bindp (F62.p lf x1) fun r_273 =>
      bindp (arrp 24 [0, 0, 0, 0, 0, 0, 0, 0, 0, 0, 0, 0, 0, 0, 0, 0, 0, 0, 0, 0, 0, 0, 0, 0] r_273) fun n_279 =>
      bindp (F63.p lf n_279 [0, 0, 0, 0, 0, 0, 0, 0, 0, 0, 0, 0, 0, 0, 0, 0, 0, 0, 0, 0, 0, 0, 0, 0] x1) fun r_281 =>
      bindp (arrp 24 r_281 r_273) fun n_286 =>
      bindp (vtakep n_286 r_281) fun x_294 =>
      bindp (appp 1 xax0 x_294) fun x_288 =>
      some x_288)) (
    none)

theorem F49.t_ok {ora : Ora} (hora : HOra ora) {lf ro : Nat} {F : List Ent} {r : (List Int)} (ax0 : Option Addr) (xax0 : List Int) (x1 : Int) (x2 : Int) (h : Heap) (hs : Sat ro h (.own ro ax0 1 (xax0.map (Value.int .u8)) :: .row (some ⟨0, 0, none⟩) 20 (gl0.map (Value.int .u64)) :: F)) (hp : F49.p lf xax0 x1 x2 = some r) : F49.Post F ro r (F49.t (callW Tryd.prog ora) lf ro ax0 xax0.length xax0.length x1 x2 h) := by
  unfold F49.t
  unfold F49.p at hp
  refine st_if (Q := F49.Post F ro r) (fun hc_255 => ?_) (fun hc_255 => ?_)
  · replace hp := ifp_t hc_255 hp
    refine st_if (Q := F49.Post F ro r) (fun hc_256 => ?_) (fun hc_256 => ?_)
    · replace hp := ifp_t hc_256 hp
      obtain ⟨r_257, hx_258, hp⟩ := bindp_some hp
      obtain ⟨h_259, e_261, hs_260⟩ := F61.ok hora (ro := ro) (F := .own ro ax0 1 (xax0.map (Value.int .u8)) :: .row (some ⟨0, 0, none⟩) 20 (gl0.map (Value.int .u64)) :: F) (IntKind.i64.wrap x1) _ hs hx_258
      refine st_ok (Q := F49.Post F ro r) isO e_261 ?_
      refine st_str (Q := F49.Post F ro r) ?_
      obtain ⟨x_262, hx_263, hp⟩ := bindp_some hp
      refine st_appS (Q := F49.Post F ro r) (l := xax0) isO hs_260 und22 und9 one5 rfl rfl hx_263 fun a_264 h_265 hs_266 => ?_
      refine st_slice (Q := F49.Post F ro r) ?_
      have hs_267 := hs_266.pull 1 rfl
      have hs_268 := hs_267.tail
      cases hp
      exact ⟨a_264, _, rfl, hs_268⟩
    · replace hp := ifp_f hc_256 hp
      refine st_pushJ (Q := F49.Post F ro r) hs hs.low rfl fun h_269 _ hs_270 => ?_
      have hs_271 := hs_270.pull 2 rfl
      have hs_272 := hs_271.dup
      obtain ⟨r_273, hx_274, hp⟩ := bindp_some hp
      obtain ⟨h_275, e_277, hs_276⟩ := F62.ok hora (ro := ro) (F := .row (some ⟨0, 0, none⟩) 20 (gl0.map (Value.int .u64)) :: .own ro (some ⟨h.next, 0, none⟩) 1 [.int .u8 0, .int .u8 0, .int .u8 0, .int .u8 0, .int .u8 0, .int .u8 0, .int .u8 0, .int .u8 0, .int .u8 0, .int .u8 0, .int .u8 0, .int .u8 0, .int .u8 0, .int .u8 0, .int .u8 0, .int .u8 0, .int .u8 0, .int .u8 0, .int .u8 0, .int .u8 0, .int .u8 0, .int .u8 0, .int .u8 0, .int .u8 0] :: .own ro ax0 1 (xax0.map (Value.int .u8)) :: F) x1 _ hs_272 hx_274
      refine st_ok (Q := F49.Post F ro r) isO e_277 ?_
      refine st_int (Q := F49.Post F ro r) ?_
      have hs_278 := hs_276.pull 1 rfl
      obtain ⟨n_279, hx_280, hp⟩ := bindp_some hp
      refine st_arr (Q := F49.Post F ro r) isO (l := [0, 0, 0, 0, 0, 0, 0, 0, 0, 0, 0, 0, 0, 0, 0, 0, 0, 0, 0, 0, 0, 0, 0, 0]) (f := (Value.int .u8)) hs_278 und86 siz5 (by decide) hx_280 ?_
      refine st_slice (Q := F49.Post F ro r) ?_
      obtain ⟨r_281, hx_282, hp⟩ := bindp_some hp
      obtain ⟨h_283, e_285, hs_284⟩ := F63.ok hora (ro := ro) (ax0 := some ⟨h.next, 0, none⟩) (F := .row (some ⟨0, 0, none⟩) 20 (gl0.map (Value.int .u64)) :: .own ro ax0 1 (xax0.map (Value.int .u8)) :: F) n_279 24 [0, 0, 0, 0, 0, 0, 0, 0, 0, 0, 0, 0, 0, 0, 0, 0, 0, 0, 0, 0, 0, 0, 0, 0] x1 _ hs_278 hx_282
      refine st_ok (Q := F49.Post F ro r) isO e_285 ?_
      refine st_tup (Q := F49.Post F ro r) (l := []) ?_
      refine st_nil (Q := F49.Post F ro r) ?_
      obtain ⟨n_286, hx_287, hp⟩ := bindp_some hp
      refine st_arr (Q := F49.Post F ro r) isO hs_284 und86 siz5 (by decide) hx_287 ?_
      refine st_slice (Q := F49.Post F ro r) ?_
      have hs_293 := hs_284.pull 2 rfl
      obtain ⟨x_294, hx_295, hp⟩ := bindp_some hp
      obtain ⟨x_288, hx_289, hp⟩ := bindp_some hp
      refine st_appV (Q := F49.Post F ro r) (l := xax0) (x := r_281) (f := (Value.int .u8)) isO hs_293 (fun _ => rfl) und22 und22 one5 rfl rfl hx_295 hx_289 fun a_290 h_291 hs_292 => ?_
      refine st_slice (Q := F49.Post F ro r) ?_
      have hs_296 := hs_292.pull 1 rfl
      have hs_297 := hs_296.tail
      have hs_298 := hs_297.pull 1 rfl
      have hs_299 := hs_298.tail
      cases hp
      exact ⟨a_290, _, rfl, hs_299⟩
  · replace hp := ifp_f hc_255 hp
    cases hp

theorem F49.ok {ora : Ora} (hora : HOra ora) {lf ro : Nat} {F : List Ent} {r : (List Int)} (ax0 : Option Addr) (xax0 : List Int) (x1 : Int) (x2 : Int) (h : Heap) (hs : Sat ro h (.own ro ax0 1 (xax0.map (Value.int .u8)) :: .row (some ⟨0, 0, none⟩) 20 (gl0.map (Value.int .u64)) :: F)) (hp : F49.p lf xax0 x1 x2 = some r) : F49.Post F ro r (callW Tryd.prog ora ro 49 [.slice ax0 xax0.length xax0.length, .int .u64 x1, .int .i64 x2] h) := by
  have h1 := F49.t_ok hora ax0 xax0 x1 x2 h hs hp
  have h2 : callW Tryd.prog ora ro 49 [.slice ax0 xax0.length xax0.length, .int .u64 x1, .int .i64 x2] h = _ := callW_body (hora.none _ _ _ _ (by decide)) Tryd.func49 (F49.le (callW Tryd.prog ora) lf ro ax0 xax0.length xax0.length x1 x2 h) (F49.Post.ne h1)
  rw [h2]; exact h1

def F41.Post (F : List Ent) (ro : Nat) (r : (List Int)) (x : Out) : Prop := ∃ a0 h', x = .ok (.slice a0 r.length r.length) h' ∧ Sat ro h' (.own ro a0 1 (r.map (Value.int .u8)) :: F)
theorem F41.Post.ne {F : List Ent} {ro : Nat} {r : (List Int)} {x : Out} (hx : F41.Post F ro r x) : x ≠ .fail := by
  obtain ⟨a0, h', rfl, _⟩ := hx
  simp

def F41.p (lf : Nat) (xax0 : List Int) (x1 : Int) (x2 : Int) : Option (List Int) :=
  letJ (fun (xa9 : List Int) (n10 : Int) (n11 : Int) => (
    bindp (F49.p lf xa9 n11 n10) fun r_319 =>
    some r_319 : Option (List Int))) fun j13p =>
  ifp (decide (x1 < 0)) (
    bindp (appp 1 xax0 [45]) fun x_303 =>
    j13p x_303 x2 (IntKind.u64.wrap (0 - (IntKind.u64.wrap x1)))) (
    j13p xax0 x2 (IntKind.u64.wrap x1))

theorem F41.t_ok {ora : Ora} (hora : HOra ora) {lf ro : Nat} {F : List Ent} {r : (List Int)} (ax0 : Option Addr) (xax0 : List Int) (x1 : Int) (x2 : Int) (h : Heap) (hs : Sat ro h (.own ro ax0 1 (xax0.map (Value.int .u8)) :: .row (some ⟨0, 0, none⟩) 20 (gl0.map (Value.int .u64)) :: F)) (hp : F41.p lf xax0 x1 x2 = some r) : F41.Post F ro r (F41.t (callW Tryd.prog ora) lf ro ax0 xax0.length xax0.length x1 x2 h) := by
  unfold F41.t
  unfold F41.p at hp
  refine st_letJ hp (fun j13p j13 => ∀ (a9 : Option Addr) (xa9 : List Int) (n10 : Int) (n11 : Int) (h_315 : Heap), Sat ro h_315 (.own ro a9 1 (xa9.map (Value.int .u8)) :: .row (some ⟨0, 0, none⟩) 20 (gl0.map (Value.int .u64)) :: F) → j13p xa9 n10 n11 = some r → F41.Post F ro r (j13 a9 xa9.length xa9.length n10 n11 h_315)) ?_ ?_
  · intro a9 xa9 n10 n11 h_315 hs hp
    have hs_316 := hs.pull 1 rfl
    have hs_317 := hs_316.dup
    have hs_318 := hs_317.pull 2 rfl
    obtain ⟨r_319, hx_320, hp⟩ := bindp_some hp
    obtain ⟨a_324, h_321, e_323, hs_322⟩ := F49.ok hora (ro := ro) (F := .row (some ⟨0, 0, none⟩) 20 (gl0.map (Value.int .u64)) :: F) a9 xa9 n11 n10 _ hs_318 hx_320
    refine st_ok (Q := F41.Post F ro r) isO e_323 ?_
    refine st_slice (Q := F41.Post F ro r) ?_
    have hs_325 := hs_322.pull 1 rfl
    have hs_326 := hs_325.tail
    cases hp
    exact ⟨a_324, _, rfl, hs_326⟩
  · intro j13p j13 hj13 hp
    refine st_if (Q := F41.Post F ro r) (fun hc_300 => ?_) (fun hc_300 => ?_)
    · replace hp := ifp_t hc_300 hp
      refine st_pushJ (Q := F41.Post F ro r) hs hs.low rfl fun h_301 _ hs_302 => ?_
      have hs_308 := hs_302.pull 1 rfl
      obtain ⟨x_303, hx_304, hp⟩ := bindp_some hp
      refine st_appO (Q := F41.Post F ro r) isO (l := xax0) (x := [45]) (f := (Value.int .u8)) hs_308 (fun _ => rfl) und22 und22 one5 rfl rfl rfl hx_304 fun a_305 h_306 hs_307 => ?_
      refine st_slice (Q := F41.Post F ro r) ?_
      have hs_309 := hs_307.pull 1 rfl
      have hs_310 := hs_309.tail
      have hs_311 := hs_310.pull 1 rfl
      have hs_312 := hs_311.pull 1 rfl
      exact hj13 a_305 x_303 x2 (IntKind.u64.wrap (0 - (IntKind.u64.wrap x1))) _ hs_312 hp
    · replace hp := ifp_f hc_300 hp
      have hs_313 := hs.pull 1 rfl
      have hs_314 := hs_313.pull 1 rfl
      exact hj13 ax0 xax0 x2 (IntKind.u64.wrap x1) _ hs_314 hp

theorem F41.ok {ora : Ora} (hora : HOra ora) {lf ro : Nat} {F : List Ent} {r : (List Int)} (ax0 : Option Addr) (xax0 : List Int) (x1 : Int) (x2 : Int) (h : Heap) (hs : Sat ro h (.own ro ax0 1 (xax0.map (Value.int .u8)) :: .row (some ⟨0, 0, none⟩) 20 (gl0.map (Value.int .u64)) :: F)) (hp : F41.p lf xax0 x1 x2 = some r) : F41.Post F ro r (callW Tryd.prog ora ro 41 [.slice ax0 xax0.length xax0.length, .int .i64 x1, .int .i64 x2] h) := by
  have h1 := F41.t_ok hora ax0 xax0 x1 x2 h hs hp
  have h2 : callW Tryd.prog ora ro 41 [.slice ax0 xax0.length xax0.length, .int .i64 x1, .int .i64 x2] h = _ := callW_body (hora.none _ _ _ _ (by decide)) Tryd.func41 (F41.le (callW Tryd.prog ora) lf ro ax0 xax0.length xax0.length x1 x2 h) (F41.Post.ne h1)
  rw [h2]; exact h1

def F24.Post (F : List Ent) (ro : Nat) (r : (List Int)) (x : Out) : Prop := ∃ a0 h', x = .ok (.slice a0 r.length r.length) h' ∧ Sat ro h' (.own ro a0 1 (r.map (Value.int .u8)) :: F)
theorem F24.Post.ne {F : List Ent} {ro : Nat} {r : (List Int)} {x : Out} (hx : F24.Post F ro r x) : x ≠ .fail := by
  obtain ⟨a0, h', rfl, _⟩ := hx
  simp

def F24.p (lf : Nat) (xax0 : List Int) (x1 : Int) (x2 : Int) : Option (List Int) :=
  bindp (F41.p lf xax0 x1 x2) fun r_330 =>
  some r_330

theorem F24.t_ok {ora : Ora} (hora : HOra ora) {lf ro : Nat} {F : List Ent} {r : (List Int)} (ax0 : Option Addr) (xax0 : List Int) (x1 : Int) (x2 : Int) (h : Heap) (hs : Sat ro h (.own ro ax0 1 (xax0.map (Value.int .u8)) :: .row (some ⟨0, 0, none⟩) 20 (gl0.map (Value.int .u64)) :: F)) (hp : F24.p lf xax0 x1 x2 = some r) : F24.Post F ro r (F24.t (callW Tryd.prog ora) lf ro ax0 xax0.length xax0.length x1 x2 h) := by
  unfold F24.t
  unfold F24.p at hp
  have hs_327 := hs.pull 1 rfl
  have hs_328 := hs_327.dup
  have hs_329 := hs_328.pull 2 rfl
  obtain ⟨r_330, hx_331, hp⟩ := bindp_some hp
  obtain ⟨a_335, h_332, e_334, hs_333⟩ := F41.ok hora (ro := ro) (F := .row (some ⟨0, 0, none⟩) 20 (gl0.map (Value.int .u64)) :: F) ax0 xax0 x1 x2 _ hs_329 hx_331
  refine st_ok (Q := F24.Post F ro r) isO e_334 ?_
  refine st_slice (Q := F24.Post F ro r) ?_
  have hs_336 := hs_333.pull 1 rfl
  have hs_337 := hs_336.tail
  cases hp
  exact ⟨a_335, _, rfl, hs_337⟩

theorem F24.ok {ora : Ora} (hora : HOra ora) {lf ro : Nat} {F : List Ent} {r : (List Int)} (ax0 : Option Addr) (xax0 : List Int) (x1 : Int) (x2 : Int) (h : Heap) (hs : Sat ro h (.own ro ax0 1 (xax0.map (Value.int .u8)) :: .row (some ⟨0, 0, none⟩) 20 (gl0.map (Value.int .u64)) :: F)) (hp : F24.p lf xax0 x1 x2 = some r) : F24.Post F ro r (callW Tryd.prog ora ro 24 [.slice ax0 xax0.length xax0.length, .int .i64 x1, .int .i64 x2] h) := by
  have h1 := F24.t_ok hora ax0 xax0 x1 x2 h hs hp
  have h2 : callW Tryd.prog ora ro 24 [.slice ax0 xax0.length xax0.length, .int .i64 x1, .int .i64 x2] h = _ := callW_body (hora.none _ _ _ _ (by decide)) Tryd.func24 (F24.le (callW Tryd.prog ora) lf ro ax0 xax0.length xax0.length x1 x2 h) (F24.Post.ne h1)
  rw [h2]; exact h1

def F26.Post (F : List Ent) (ro : Nat) (r : (List Int)) (x : Out) : Prop := ∃ a0 h', x = .ok (.slice a0 r.length r.length) h' ∧ Sat ro h' (.own ro a0 1 (r.map (Value.int .u8)) :: F)
theorem F26.Post.ne {F : List Ent} {ro : Nat} {r : (List Int)} {x : Out} (hx : F26.Post F ro r x) : x ≠ .fail := by
  obtain ⟨a0, h', rfl, _⟩ := hx
  simp

def F26.J6p (lf : Nat) (kb2p : List Int → List Int → List Int → Int → Int → Option (List Int)) (xa29 : List Int) (xa30 : List Int) (xa31 : List Int) (n32 : Int) (n33 : Int) (b34 : Bool) : Option (List Int) :=
  letJ (fun (xa68 : List Int) => (
    kb2p xa68 xa30 xa31 n32 (IntKind.i64.wrap (n33 + 1)) : Option (List Int))) fun j70p =>
  ifp b34 (
    bindp (appp 1 xa29 [10]) fun x_355 =>
    j70p x_355) (
    bindp (appp 1 xa29 [32]) fun x_369 =>
    j70p x_369)

theorem F26.J6_ok {ora : Ora} (hora : HOra ora) {lf ro : Nat} {F : List Ent} {r : (List Int)} {kb2p : List Int → List Int → List Int → Int → Int → Option (List Int)} {kb2 : (Option Addr) → Nat → Nat → (Option Addr) → Nat → Nat → (Option Addr) → Nat → Nat → Int → Int → Heap → Out} (hkb2 : ∀ (a1 : Option Addr) (xa1 : List Int) (a2 : Option Addr) (c2 : Nat) (xa2 : List Int) (a3 : Option Addr) (c3 : Nat) (xa3 : List Int) (n4 : Int) (n5 : Int) (h : Heap), Sat ro h (.own ro a1 1 (xa1.map (Value.int .u8)) :: .row a2 c2 (xa2.map (Value.int .u8)) :: .row a3 c3 (xa3.map (Value.int .u8)) :: .row (some ⟨0, 0, none⟩) 20 (gl0.map (Value.int .u64)) :: F) → kb2p xa1 xa2 xa3 n4 n5 = some r → F26.Post F ro r (kb2 a1 xa1.length xa1.length a2 xa2.length c2 a3 xa3.length c3 n4 n5 h)) (a29 : Option Addr) (xa29 : List Int) (a30 : Option Addr) (c30 : Nat) (xa30 : List Int) (a31 : Option Addr) (c31 : Nat) (xa31 : List Int) (n32 : Int) (n33 : Int) (b34 : Bool) (h : Heap) (hs : Sat ro h (.own ro a29 1 (xa29.map (Value.int .u8)) :: .row a30 c30 (xa30.map (Value.int .u8)) :: .row a31 c31 (xa31.map (Value.int .u8)) :: .row (some ⟨0, 0, none⟩) 20 (gl0.map (Value.int .u64)) :: F)) (hp : F26.J6p lf kb2p xa29 xa30 xa31 n32 n33 b34 = some r) : F26.Post F ro r (F26.J6 (callW Tryd.prog ora) lf ro kb2 a29 xa29.length xa29.length a30 xa30.length c30 a31 xa31.length c31 n32 n33 b34 h) := by
  unfold F26.J6
  unfold F26.J6p at hp
  refine st_letJ hp (fun j70p j70 => ∀ (a68 : Option Addr) (xa68 : List Int) (h_381 : Heap), Sat ro h_381 (.own ro a68 1 (xa68.map (Value.int .u8)) :: .row a30 c30 (xa30.map (Value.int .u8)) :: .row a31 c31 (xa31.map (Value.int .u8)) :: .row (some ⟨0, 0, none⟩) 20 (gl0.map (Value.int .u64)) :: F) → j70p xa68 = some r → F26.Post F ro r (j70 a68 xa68.length xa68.length h_381)) ?_ ?_
  · intro a68 xa68 h_381 hs hp
    have hs_382 := hs.pull 3 rfl
    have hs_383 := hs_382.pull 3 rfl
    have hs_384 := hs_383.pull 3 rfl
    have hs_385 := hs_384.pull 3 rfl
    exact hkb2 a68 xa68 a30 _ xa30 a31 _ xa31 n32 (IntKind.i64.wrap (n33 + 1)) _ hs_385 hp
  · intro j70p j70 hj70 hp
    refine st_if (Q := F26.Post F ro r) (fun hc_352 => ?_) (fun hc_352 => ?_)
    · replace hp := ifp_t hc_352 hp
      refine st_pushJ (Q := F26.Post F ro r) hs hs.low rfl fun h_353 _ hs_354 => ?_
      have hs_360 := hs_354.pull 1 rfl
      obtain ⟨x_355, hx_356, hp⟩ := bindp_some hp
      refine st_appO (Q := F26.Post F ro r) isO (l := xa29) (x := [10]) (f := (Value.int .u8)) hs_360 (fun _ => rfl) und22 und22 one5 rfl rfl rfl hx_356 fun a_357 h_358 hs_359 => ?_
      refine st_slice (Q := F26.Post F ro r) ?_
      have hs_361 := hs_359.pull 1 rfl
      have hs_362 := hs_361.tail
      have hs_363 := hs_362.pull 3 rfl
      have hs_364 := hs_363.pull 3 rfl
      have hs_365 := hs_364.pull 3 rfl
      have hs_366 := hs_365.pull 3 rfl
      exact hj70 a_357 x_355 _ hs_366 hp
    · replace hp := ifp_f hc_352 hp
      refine st_pushJ (Q := F26.Post F ro r) hs hs.low rfl fun h_367 _ hs_368 => ?_
      have hs_374 := hs_368.pull 1 rfl
      obtain ⟨x_369, hx_370, hp⟩ := bindp_some hp
      refine st_appO (Q := F26.Post F ro r) isO (l := xa29) (x := [32]) (f := (Value.int .u8)) hs_374 (fun _ => rfl) und22 und22 one5 rfl rfl rfl hx_370 fun a_371 h_372 hs_373 => ?_
      refine st_slice (Q := F26.Post F ro r) ?_
      have hs_375 := hs_373.pull 1 rfl
      have hs_376 := hs_375.tail
      have hs_377 := hs_376.pull 3 rfl
      have hs_378 := hs_377.pull 3 rfl
      have hs_379 := hs_378.pull 3 rfl
      have hs_380 := hs_379.pull 3 rfl
      exact hj70 a_371 x_369 _ hs_380 hp

def F26.J3p (lf : Nat) (kb2p : List Int → List Int → List Int → Int → Int → Option (List Int)) (xa7 : List Int) (xa8 : List Int) (xa9 : List Int) (n10 : Int) (n11 : Int) : Option (List Int) :=
  bindp (idxp xa9 n11) fun x_339 =>
  bindp (F24.p lf xa7 (IntKind.i64.wrap x_339) 10) fun r_345 =>
  ifp ((Int.tmod n11 17) == 16) (
    F26.J6p lf kb2p r_345 xa8 xa9 n10 n11 true) (
    F26.J6p lf kb2p r_345 xa8 xa9 n10 n11 (n11 == (IntKind.i64.wrap ((xa8.length : Int) - 1))))

theorem F26.J3_ok {ora : Ora} (hora : HOra ora) {lf ro : Nat} {F : List Ent} {r : (List Int)} {kb2p : List Int → List Int → List Int → Int → Int → Option (List Int)} {kb2 : (Option Addr) → Nat → Nat → (Option Addr) → Nat → Nat → (Option Addr) → Nat → Nat → Int → Int → Heap → Out} (hkb2 : ∀ (a1 : Option Addr) (xa1 : List Int) (a2 : Option Addr) (c2 : Nat) (xa2 : List Int) (a3 : Option Addr) (c3 : Nat) (xa3 : List Int) (n4 : Int) (n5 : Int) (h : Heap), Sat ro h (.own ro a1 1 (xa1.map (Value.int .u8)) :: .row a2 c2 (xa2.map (Value.int .u8)) :: .row a3 c3 (xa3.map (Value.int .u8)) :: .row (some ⟨0, 0, none⟩) 20 (gl0.map (Value.int .u64)) :: F) → kb2p xa1 xa2 xa3 n4 n5 = some r → F26.Post F ro r (kb2 a1 xa1.length xa1.length a2 xa2.length c2 a3 xa3.length c3 n4 n5 h)) (a7 : Option Addr) (xa7 : List Int) (a8 : Option Addr) (c8 : Nat) (xa8 : List Int) (a9 : Option Addr) (c9 : Nat) (xa9 : List Int) (n10 : Int) (n11 : Int) (h : Heap) (hs : Sat ro h (.own ro a7 1 (xa7.map (Value.int .u8)) :: .row a8 c8 (xa8.map (Value.int .u8)) :: .row a9 c9 (xa9.map (Value.int .u8)) :: .row (some ⟨0, 0, none⟩) 20 (gl0.map (Value.int .u64)) :: F)) (hp : F26.J3p lf kb2p xa7 xa8 xa9 n10 n11 = some r) : F26.Post F ro r (F26.J3 (callW Tryd.prog ora) lf ro kb2 a7 xa7.length xa7.length a8 xa8.length c8 a9 xa9.length c9 n10 n11 h) := by
  unfold F26.J3
  unfold F26.J3p at hp
  have hs_341 := hs.pull 2 rfl
  obtain ⟨x_339, hx_340, hp⟩ := bindp_some hp
  refine st_idxR (Q := F26.Post F ro r) (l := xa9) (f := (Value.int .u8)) isO isO hs_341 und22 siz5 agg5 rfl hx_340 ?_
  refine st_int (Q := F26.Post F ro r) ?_
  have hs_342 := hs_341.pull 3 rfl
  have hs_343 := hs_342.dup
  have hs_344 := hs_343.pull 3 rfl
  obtain ⟨r_345, hx_346, hp⟩ := bindp_some hp
  obtain ⟨a_350, h_347, e_349, hs_348⟩ := F24.ok hora (ro := ro) (F := .row (some ⟨0, 0, none⟩) 20 (gl0.map (Value.int .u64)) :: .row a9 c9 (xa9.map (Value.int .u8)) :: .row a8 c8 (xa8.map (Value.int .u8)) :: F) a7 xa7 (IntKind.i64.wrap x_339) 10 _ hs_344 hx_346
  refine st_ok (Q := F26.Post F ro r) isO e_349 ?_
  refine st_slice (Q := F26.Post F ro r) ?_
  refine st_if (Q := F26.Post F ro r) (fun hc_351 => ?_) (fun hc_351 => ?_)
  · replace hp := ifp_t hc_351 hp
    have hs_386 := hs_348.pull 1 rfl
    have hs_387 := hs_386.pull 2 rfl
    have hs_388 := hs_387.pull 3 rfl
    have hs_389 := hs_388.pull 3 rfl
    exact F26.J6_ok hora hkb2 a_350 r_345 a8 _ xa8 a9 _ xa9 n10 n11 true _ hs_389 hp
  · replace hp := ifp_f hc_351 hp
    have hs_390 := hs_348.pull 1 rfl
    have hs_391 := hs_390.pull 2 rfl
    have hs_392 := hs_391.pull 3 rfl
    have hs_393 := hs_392.pull 3 rfl
    exact F26.J6_ok hora hkb2 a_350 r_345 a8 _ xa8 a9 _ xa9 n10 n11 (n11 == (IntKind.i64.wrap ((xa8.length : Int) - 1))) _ hs_393 hp

def F26.L2p (lf : Nat) : Nat → List Int → List Int → List Int → Int → Int → Option (List Int)
  | 0, _, _, _, _, _ => none
  | n + 1, xa1, xa2, xa3, n4, n5 =>
  ifp (decide (n5 < n4)) (
    F26.J3p lf (F26.L2p lf n) xa1 xa2 xa3 n4 n5) (
    some xa1)

theorem F26.L2_ok {ora : Ora} (hora : HOra ora) {lf ro : Nat} {F : List Ent} {r : (List Int)} : ∀ (n : Nat) (a1 : Option Addr) (xa1 : List Int) (a2 : Option Addr) (c2 : Nat) (xa2 : List Int) (a3 : Option Addr) (c3 : Nat) (xa3 : List Int) (n4 : Int) (n5 : Int) (h : Heap), Sat ro h (.own ro a1 1 (xa1.map (Value.int .u8)) :: .row a2 c2 (xa2.map (Value.int .u8)) :: .row a3 c3 (xa3.map (Value.int .u8)) :: .row (some ⟨0, 0, none⟩) 20 (gl0.map (Value.int .u64)) :: F) → F26.L2p lf n xa1 xa2 xa3 n4 n5 = some r → F26.Post F ro r (F26.L2 (callW Tryd.prog ora) lf ro n a1 xa1.length xa1.length a2 xa2.length c2 a3 xa3.length c3 n4 n5 h) := by
  intro n
  induction n with
  | zero => intro a1 xa1 a2 c2 xa2 a3 c3 xa3 n4 n5 h hs hp; cases hp
  | succ n ih =>
    intro a1 xa1 a2 c2 xa2 a3 c3 xa3 n4 n5 h hs hp
    unfold F26.L2
    unfold F26.L2p at hp
    refine st_if (Q := F26.Post F ro r) (fun hc_338 => ?_) (fun hc_338 => ?_)
    · replace hp := ifp_t hc_338 hp
      have hs_394 := hs.pull 3 rfl
      have hs_395 := hs_394.pull 3 rfl
      have hs_396 := hs_395.pull 3 rfl
      have hs_397 := hs_396.pull 3 rfl
      exact F26.J3_ok hora ih a1 xa1 a2 _ xa2 a3 _ xa3 n4 n5 _ hs_397 hp
    · replace hp := ifp_f hc_338 hp
      have hs_398 := hs.pull 1 rfl
      have hs_399 := hs_398.tail
      have hs_400 := hs_399.pull 1 rfl
      have hs_401 := hs_400.tail
      have hs_402 := hs_401.pull 1 rfl
      have hs_403 := hs_402.tail
      cases hp
      exact ⟨a1, _, rfl, hs_403⟩

def F26.p (lf : Nat) (xax0 : List Int) (xax1 : List Int) : Option (List Int) :=
  F26.L2p lf lf xax0 xax1 xax1 (xax1.length : Int) 0

theorem F26.t_ok {ora : Ora} (hora : HOra ora) {lf ro : Nat} {F : List Ent} {r : (List Int)} (ax0 : Option Addr) (xax0 : List Int) (ax1 : Option Addr) (cx1 : Nat) (xax1 : List Int) (h : Heap) (hs : Sat ro h (.own ro ax0 1 (xax0.map (Value.int .u8)) :: .row ax1 cx1 (xax1.map (Value.int .u8)) :: .row (some ⟨0, 0, none⟩) 20 (gl0.map (Value.int .u64)) :: F)) (hp : F26.p lf xax0 xax1 = some r) : F26.Post F ro r (F26.t (callW Tryd.prog ora) lf ro ax0 xax0.length xax0.length ax1 xax1.length cx1 h) := by
  unfold F26.t
  unfold F26.p at hp
  have hs_404 := hs.pull 1 rfl
  have hs_405 := hs_404.dup
  have hs_406 := hs_405.pull 3 rfl
  have hs_407 := hs_406.pull 1 rfl
  have hs_408 := hs_407.pull 2 rfl
  have hs_409 := hs_408.pull 3 rfl
  exact F26.L2_ok hora lf ax0 xax0 ax1 _ xax1 ax1 _ xax1 (xax1.length : Int) 0 _ hs_409 hp

theorem F26.ok {ora : Ora} (hora : HOra ora) {lf ro : Nat} {F : List Ent} {r : (List Int)} (ax0 : Option Addr) (xax0 : List Int) (ax1 : Option Addr) (cx1 : Nat) (xax1 : List Int) (h : Heap) (hs : Sat ro h (.own ro ax0 1 (xax0.map (Value.int .u8)) :: .row ax1 cx1 (xax1.map (Value.int .u8)) :: .row (some ⟨0, 0, none⟩) 20 (gl0.map (Value.int .u64)) :: F)) (hp : F26.p lf xax0 xax1 = some r) : F26.Post F ro r (callW Tryd.prog ora ro 26 [.slice ax0 xax0.length xax0.length, .slice ax1 xax1.length cx1] h) := by
  have h1 := F26.t_ok hora ax0 xax0 ax1 cx1 xax1 h hs hp
  have h2 : callW Tryd.prog ora ro 26 [.slice ax0 xax0.length xax0.length, .slice ax1 xax1.length cx1] h = _ := callW_body (hora.none _ _ _ _ (by decide)) Tryd.func26 (F26.le (callW Tryd.prog ora) lf ro ax0 xax0.length xax0.length ax1 xax1.length cx1 h) (F26.Post.ne h1)
  rw [h2]; exact h1

def F27.Post (F : List Ent) (ro : Nat) (r : (List Int)) (x : Out) : Prop := ∃ a0 h', x = .ok (.slice a0 r.length r.length) h' ∧ Sat ro h' (.own ro a0 1 (r.map (Value.int .u8)) :: F)
theorem F27.Post.ne {F : List Ent} {ro : Nat} {r : (List Int)} {x : Out} (hx : F27.Post F ro r x) : x ≠ .fail := by
  obtain ⟨a0, h', rfl, _⟩ := hx
  simp

def F27.J7p (lf : Nat) (kb2p : List Int → List Int → Int → Option (List Int)) (kb6p : List Int → List Int → Int → Int → Int → Option (List Int)) (xa15 : List Int) (xa16 : List Int) (n17 : Int) (n18 : Int) (n19 : Int) : Option (List Int) :=
  letJ (fun (n237 : Int) => (
    kb6p xa15 xa16 n17 n237 (IntKind.i64.wrap (n19 + 1)) : Option (List Int))) fun j239p =>
  letJ (fun (b245 : Bool) => (
    ifp b245 (
      j239p (bOr .u8 (IntKind.u8.wrap (n18 * 2)) 1)) (
      j239p (IntKind.u8.wrap (n18 * 2))) : Option (List Int))) fun j247p =>
  ifp (decide (IntKind.i64.wrap (n17 + n19) < (xa16.length : Int))) (
    bindp (idxp xa16 (IntKind.i64.wrap (n17 + n19))) fun x_413 =>
    j247p (x_413 == 0)) (
    j247p false)

theorem F27.J7_ok {ora : Ora} (hora : HOra ora) {lf ro : Nat} {F : List Ent} {r : (List Int)} {kb2p : List Int → List Int → Int → Option (List Int)} {kb2 : (Option Addr) → Nat → Nat → (Option Addr) → Nat → Nat → Int → Heap → Out} (hkb2 : ∀ (a1 : Option Addr) (xa1 : List Int) (a2 : Option Addr) (c2 : Nat) (xa2 : List Int) (n3 : Int) (h : Heap), Sat ro h (.own ro a1 1 (xa1.map (Value.int .u8)) :: .row a2 c2 (xa2.map (Value.int .u8)) :: F) → kb2p xa1 xa2 n3 = some r → F27.Post F ro r (kb2 a1 xa1.length xa1.length a2 xa2.length c2 n3 h)) {kb6p : List Int → List Int → Int → Int → Int → Option (List Int)} {kb6 : (Option Addr) → Nat → Nat → (Option Addr) → Nat → Nat → Int → Int → Int → Heap → Out} (hkb6 : ∀ (a9 : Option Addr) (xa9 : List Int) (a10 : Option Addr) (c10 : Nat) (xa10 : List Int) (n11 : Int) (n12 : Int) (n13 : Int) (h : Heap), Sat ro h (.own ro a9 1 (xa9.map (Value.int .u8)) :: .row a10 c10 (xa10.map (Value.int .u8)) :: F) → kb6p xa9 xa10 n11 n12 n13 = some r → F27.Post F ro r (kb6 a9 xa9.length xa9.length a10 xa10.length c10 n11 n12 n13 h)) (a15 : Option Addr) (xa15 : List Int) (a16 : Option Addr) (c16 : Nat) (xa16 : List Int) (n17 : Int) (n18 : Int) (n19 : Int) (h : Heap) (hs : Sat ro h (.own ro a15 1 (xa15.map (Value.int .u8)) :: .row a16 c16 (xa16.map (Value.int .u8)) :: F)) (hp : F27.J7p lf kb2p kb6p xa15 xa16 n17 n18 n19 = some r) : F27.Post F ro r (F27.J7 (callW Tryd.prog ora) lf ro kb2 kb6 a15 xa15.length xa15.length a16 xa16.length c16 n17 n18 n19 h) := by
  unfold F27.J7
  unfold F27.J7p at hp
  refine st_letJ hp (fun j239p j239 => ∀ (n237 : Int) (h_425 : Heap), Sat ro h_425 (.own ro a15 1 (xa15.map (Value.int .u8)) :: .row a16 c16 (xa16.map (Value.int .u8)) :: F) → j239p n237 = some r → F27.Post F ro r (j239 n237 h_425)) ?_ ?_
  · intro n237 h_425 hs hp
    have hs_426 := hs.pull 1 rfl
    have hs_427 := hs_426.pull 1 rfl
    exact hkb6 a15 xa15 a16 _ xa16 n17 n237 (IntKind.i64.wrap (n19 + 1)) _ hs_427 hp
  · intro j239p j239 hj239 hp
    refine st_letJ hp (fun j247p j247 => ∀ (b245 : Bool) (h_419 : Heap), Sat ro h_419 (.own ro a15 1 (xa15.map (Value.int .u8)) :: .row a16 c16 (xa16.map (Value.int .u8)) :: F) → j247p b245 = some r → F27.Post F ro r (j247 b245 h_419)) ?_ ?_
    · intro b245 h_419 hs hp
      refine st_if (Q := F27.Post F ro r) (fun hc_420 => ?_) (fun hc_420 => ?_)
      · replace hp := ifp_t hc_420 hp
        have hs_421 := hs.pull 1 rfl
        have hs_422 := hs_421.pull 1 rfl
        exact hj239 (bOr .u8 (IntKind.u8.wrap (n18 * 2)) 1) _ hs_422 hp
      · replace hp := ifp_f hc_420 hp
        have hs_423 := hs.pull 1 rfl
        have hs_424 := hs_423.pull 1 rfl
        exact hj239 (IntKind.u8.wrap (n18 * 2)) _ hs_424 hp
    · intro j247p j247 hj247 hp
      refine st_if (Q := F27.Post F ro r) (fun hc_412 => ?_) (fun hc_412 => ?_)
      · replace hp := ifp_t hc_412 hp
        have hs_415 := hs.pull 1 rfl
        obtain ⟨x_413, hx_414, hp⟩ := bindp_some hp
        refine st_idxR (Q := F27.Post F ro r) (l := xa16) (f := (Value.int .u8)) isO isO hs_415 und22 siz5 agg5 rfl hx_414 ?_
        refine st_int (Q := F27.Post F ro r) ?_
        have hs_416 := hs_415.pull 1 rfl
        exact hj247 (x_413 == 0) _ hs_416 hp
      · replace hp := ifp_f hc_412 hp
        have hs_417 := hs.pull 1 rfl
        have hs_418 := hs_417.pull 1 rfl
        exact hj247 false _ hs_418 hp

def F27.L6p (lf : Nat) (kb2p : List Int → List Int → Int → Option (List Int)) : Nat → List Int → List Int → Int → Int → Int → Option (List Int)
  | 0, _, _, _, _, _ => none
  | n + 1, xa9, xa10, n11, n12, n13 =>
  ifp (decide (n13 < 8)) (
    F27.J7p lf kb2p (F27.L6p lf kb2p n) xa9 xa10 n11 n12 n13) (
    bindp (appp 1 xa9 [n12]) fun x_432 =>
    kb2p x_432 xa10 (IntKind.i64.wrap (n11 + 8)))

theorem F27.L6_ok {ora : Ora} (hora : HOra ora) {lf ro : Nat} {F : List Ent} {r : (List Int)} {kb2p : List Int → List Int → Int → Option (List Int)} {kb2 : (Option Addr) → Nat → Nat → (Option Addr) → Nat → Nat → Int → Heap → Out} (hkb2 : ∀ (a1 : Option Addr) (xa1 : List Int) (a2 : Option Addr) (c2 : Nat) (xa2 : List Int) (n3 : Int) (h : Heap), Sat ro h (.own ro a1 1 (xa1.map (Value.int .u8)) :: .row a2 c2 (xa2.map (Value.int .u8)) :: F) → kb2p xa1 xa2 n3 = some r → F27.Post F ro r (kb2 a1 xa1.length xa1.length a2 xa2.length c2 n3 h)) : ∀ (n : Nat) (a9 : Option Addr) (xa9 : List Int) (a10 : Option Addr) (c10 : Nat) (xa10 : List Int) (n11 : Int) (n12 : Int) (n13 : Int) (h : Heap), Sat ro h (.own ro a9 1 (xa9.map (Value.int .u8)) :: .row a10 c10 (xa10.map (Value.int .u8)) :: F) → F27.L6p lf kb2p n xa9 xa10 n11 n12 n13 = some r → F27.Post F ro r (F27.L6 (callW Tryd.prog ora) lf ro kb2 n a9 xa9.length xa9.length a10 xa10.length c10 n11 n12 n13 h) := by
  intro n
  induction n with
  | zero => intro a9 xa9 a10 c10 xa10 n11 n12 n13 h hs hp; cases hp
  | succ n ih =>
    intro a9 xa9 a10 c10 xa10 n11 n12 n13 h hs hp
    unfold F27.L6
    unfold F27.L6p at hp
    refine st_if (Q := F27.Post F ro r) (fun hc_411 => ?_) (fun hc_411 => ?_)
    · replace hp := ifp_t hc_411 hp
      have hs_428 := hs.pull 1 rfl
      have hs_429 := hs_428.pull 1 rfl
      exact F27.J7_ok hora hkb2 ih a9 xa9 a10 _ xa10 n11 n12 n13 _ hs_429 hp
    · replace hp := ifp_f hc_411 hp
      refine st_pushJ (Q := F27.Post F ro r) hs hs.low rfl fun h_430 _ hs_431 => ?_
      have hs_437 := hs_431.pull 1 rfl
      obtain ⟨x_432, hx_433, hp⟩ := bindp_some hp
      refine st_appO (Q := F27.Post F ro r) isO (l := xa9) (x := [n12]) (f := (Value.int .u8)) hs_437 (fun _ => rfl) und22 und22 one5 rfl rfl rfl hx_433 fun a_434 h_435 hs_436 => ?_
      refine st_slice (Q := F27.Post F ro r) ?_
      have hs_438 := hs_436.pull 1 rfl
      have hs_439 := hs_438.tail
      have hs_440 := hs_439.pull 1 rfl
      have hs_441 := hs_440.pull 1 rfl
      exact hkb2 a_434 x_432 a10 _ xa10 (IntKind.i64.wrap (n11 + 8)) _ hs_441 hp

def F27.J4p (lf : Nat) (kb2p : List Int → List Int → Int → Option (List Int)) (xa5 : List Int) (xa6 : List Int) (n7 : Int) : Option (List Int) :=
  F27.L6p lf kb2p lf xa5 xa6 n7 0 0

theorem F27.J4_ok {ora : Ora} (hora : HOra ora) {lf ro : Nat} {F : List Ent} {r : (List Int)} {kb2p : List Int → List Int → Int → Option (List Int)} {kb2 : (Option Addr) → Nat → Nat → (Option Addr) → Nat → Nat → Int → Heap → Out} (hkb2 : ∀ (a1 : Option Addr) (xa1 : List Int) (a2 : Option Addr) (c2 : Nat) (xa2 : List Int) (n3 : Int) (h : Heap), Sat ro h (.own ro a1 1 (xa1.map (Value.int .u8)) :: .row a2 c2 (xa2.map (Value.int .u8)) :: F) → kb2p xa1 xa2 n3 = some r → F27.Post F ro r (kb2 a1 xa1.length xa1.length a2 xa2.length c2 n3 h)) (a5 : Option Addr) (xa5 : List Int) (a6 : Option Addr) (c6 : Nat) (xa6 : List Int) (n7 : Int) (h : Heap) (hs : Sat ro h (.own ro a5 1 (xa5.map (Value.int .u8)) :: .row a6 c6 (xa6.map (Value.int .u8)) :: F)) (hp : F27.J4p lf kb2p xa5 xa6 n7 = some r) : F27.Post F ro r (F27.J4 (callW Tryd.prog ora) lf ro kb2 a5 xa5.length xa5.length a6 xa6.length c6 n7 h) := by
  unfold F27.J4
  unfold F27.J4p at hp
  have hs_442 := hs.pull 1 rfl
  have hs_443 := hs_442.pull 1 rfl
  exact F27.L6_ok hora hkb2 lf a5 xa5 a6 _ xa6 n7 0 0 _ hs_443 hp

def F27.L2p (lf : Nat) : Nat → List Int → List Int → Int → Option (List Int)
  | 0, _, _, _ => none
  | n + 1, xa1, xa2, n3 =>
  ifp (decide (n3 < (xa2.length : Int))) (
    F27.J4p lf (F27.L2p lf n) xa1 xa2 n3) (
    some xa1)

theorem F27.L2_ok {ora : Ora} (hora : HOra ora) {lf ro : Nat} {F : List Ent} {r : (List Int)} : ∀ (n : Nat) (a1 : Option Addr) (xa1 : List Int) (a2 : Option Addr) (c2 : Nat) (xa2 : List Int) (n3 : Int) (h : Heap), Sat ro h (.own ro a1 1 (xa1.map (Value.int .u8)) :: .row a2 c2 (xa2.map (Value.int .u8)) :: F) → F27.L2p lf n xa1 xa2 n3 = some r → F27.Post F ro r (F27.L2 (callW Tryd.prog ora) lf ro n a1 xa1.length xa1.length a2 xa2.length c2 n3 h) := by
  intro n
  induction n with
  | zero => intro a1 xa1 a2 c2 xa2 n3 h hs hp; cases hp
  | succ n ih =>
    intro a1 xa1 a2 c2 xa2 n3 h hs hp
    unfold F27.L2
    unfold F27.L2p at hp
    refine st_if (Q := F27.Post F ro r) (fun hc_410 => ?_) (fun hc_410 => ?_)
    · replace hp := ifp_t hc_410 hp
      have hs_444 := hs.pull 1 rfl
      have hs_445 := hs_444.pull 1 rfl
      exact F27.J4_ok hora ih a1 xa1 a2 _ xa2 n3 _ hs_445 hp
    · replace hp := ifp_f hc_410 hp
      have hs_446 := hs.pull 1 rfl
      have hs_447 := hs_446.tail
      cases hp
      exact ⟨a1, _, rfl, hs_447⟩

def F27.p (lf : Nat) (xax0 : List Int) (xax1 : List Int) : Option (List Int) :=
  F27.L2p lf lf xax0 xax1 0

theorem F27.t_ok {ora : Ora} (hora : HOra ora) {lf ro : Nat} {F : List Ent} {r : (List Int)} (ax0 : Option Addr) (xax0 : List Int) (ax1 : Option Addr) (cx1 : Nat) (xax1 : List Int) (h : Heap) (hs : Sat ro h (.own ro ax0 1 (xax0.map (Value.int .u8)) :: .row ax1 cx1 (xax1.map (Value.int .u8)) :: F)) (hp : F27.p lf xax0 xax1 = some r) : F27.Post F ro r (F27.t (callW Tryd.prog ora) lf ro ax0 xax0.length xax0.length ax1 xax1.length cx1 h) := by
  unfold F27.t
  unfold F27.p at hp
  have hs_448 := hs.pull 1 rfl
  have hs_449 := hs_448.pull 1 rfl
  exact F27.L2_ok hora lf ax0 xax0 ax1 _ xax1 0 _ hs_449 hp

theorem F27.ok {ora : Ora} (hora : HOra ora) {lf ro : Nat} {F : List Ent} {r : (List Int)} (ax0 : Option Addr) (xax0 : List Int) (ax1 : Option Addr) (cx1 : Nat) (xax1 : List Int) (h : Heap) (hs : Sat ro h (.own ro ax0 1 (xax0.map (Value.int .u8)) :: .row ax1 cx1 (xax1.map (Value.int .u8)) :: F)) (hp : F27.p lf xax0 xax1 = some r) : F27.Post F ro r (callW Tryd.prog ora ro 27 [.slice ax0 xax0.length xax0.length, .slice ax1 xax1.length cx1] h) := by
  have h1 := F27.t_ok hora ax0 xax0 ax1 cx1 xax1 h hs hp
  have h2 : callW Tryd.prog ora ro 27 [.slice ax0 xax0.length xax0.length, .slice ax1 xax1.length cx1] h = _ := callW_body (hora.none _ _ _ _ (by decide)) Tryd.func27 (F27.le (callW Tryd.prog ora) lf ro ax0 xax0.length xax0.length ax1 xax1.length cx1 h) (F27.Post.ne h1)
  rw [h2]; exact h1

def F10.Post (F : List Ent) (ro : Nat) (r : (List Int × Int)) (x : Out) : Prop := ∃ a0 h', x = .ok (.tuple #[.slice a0 r.1.length r.1.length, .int .i64 r.2]) h' ∧ Sat ro h' (.own ro a0 1 (r.1.map (Value.int .u8)) :: F)
theorem F10.Post.ne {F : List Ent} {ro : Nat} {r : (List Int × Int)} {x : Out} (hx : F10.Post F ro r x) : x ≠ .fail := by
  obtain ⟨a0, h', rfl, _⟩ := hx
  simp

def F10.J13p (lf : Nat) (kb12p : Int → Int → Int → List Int → List Int → Int → Int → Option (List Int × Int)) (n109 : Int) (mp110_0 : Int) (mp110_1 : Int) (xp110_2 : List Int) (xa111 : List Int) (n112 : Int) (n113 : Int) : Option (List Int × Int) :=
  letJ (fun (xa226 : List Int) => (
    kb12p n109 mp110_0 mp110_1 xp110_2 xa226 n112 (IntKind.i64.wrap (n113 + 1)) : Option (List Int × Int))) fun j228p =>
  bindp (subp xp110_2 (IntKind.i64.wrap (n113 * mp110_0)) (IntKind.i64.wrap ((IntKind.i64.wrap (n113 + 1)) * mp110_0))) fun x_561 =>
  ifp (n109 == 1) (
    bindp (F25.p lf xa111 x_561) fun r_569 =>
    j228p r_569) (
    ifp (n109 == 2) (
      bindp (F26.p lf xa111 x_561) fun r_587 =>
      j228p r_587) (
      ifp (n109 == 4) (
        bindp (F27.p lf xa111 x_561) fun r_602 =>
        j228p r_602) (
        bindp (appp 1 xa111 x_561) fun x_614 =>
        j228p x_614)))

theorem F10.J13_ok {ora : Ora} (hora : HOra ora) {lf ro : Nat} {F : List Ent} {r : (List Int × Int)} {kb12p : Int → Int → Int → List Int → List Int → Int → Int → Option (List Int × Int)} {kb12 : Int → Nat → Nat → (Option Addr) → Nat → Nat → Int → Int → Heap → Out} (hkb12 : ∀ (n103 : Int) (p104 : Nat) (mp104_0 : Int) (mp104_1 : Int) (ap104_2 : Option Addr) (cp104_2 : Nat) (xp104_2 : List Int) (a105 : Option Addr) (xa105 : List Int) (n106 : Int) (n107 : Int) (h : Heap), Sat ro h (.own ro (some ⟨p104, 0, none⟩) 1 [.int .i64 mp104_0, .int .i64 mp104_1, .slice ap104_2 xp104_2.length cp104_2] :: .row ap104_2 cp104_2 (xp104_2.map (Value.int .u8)) :: .own ro a105 1 (xa105.map (Value.int .u8)) :: .row (some ⟨0, 0, none⟩) 20 (gl0.map (Value.int .u64)) :: F) → kb12p n103 mp104_0 mp104_1 xp104_2 xa105 n106 n107 = some r → F10.Post F ro r (kb12 n103 p104 0 a105 xa105.length xa105.length n106 n107 h)) (n109 : Int) (p110 : Nat) (mp110_0 : Int) (mp110_1 : Int) (ap110_2 : Option Addr) (cp110_2 : Nat) (xp110_2 : List Int) (a111 : Option Addr) (xa111 : List Int) (n112 : Int) (n113 : Int) (h : Heap) (hs : Sat ro h (.own ro (some ⟨p110, 0, none⟩) 1 [.int .i64 mp110_0, .int .i64 mp110_1, .slice ap110_2 xp110_2.length cp110_2] :: .row ap110_2 cp110_2 (xp110_2.map (Value.int .u8)) :: .own ro a111 1 (xa111.map (Value.int .u8)) :: .row (some ⟨0, 0, none⟩) 20 (gl0.map (Value.int .u64)) :: F)) (hp : F10.J13p lf kb12p n109 mp110_0 mp110_1 xp110_2 xa111 n112 n113 = some r) : F10.Post F ro r (F10.J13 (callW Tryd.prog ora) lf ro kb12 n109 p110 0 a111 xa111.length xa111.length n112 n113 h) := by
  unfold F10.J13
  unfold F10.J13p at hp
  refine st_letJ hp (fun j228p j228 => ∀ (a226 : Option Addr) (xa226 : List Int) (h_626 : Heap), Sat ro h_626 (.own ro a226 1 (xa226.map (Value.int .u8)) :: .own ro (some ⟨p110, 0, none⟩) 1 [.int .i64 mp110_0, .int .i64 mp110_1, .slice ap110_2 xp110_2.length cp110_2] :: .row ap110_2 cp110_2 (xp110_2.map (Value.int .u8)) :: .row (some ⟨0, 0, none⟩) 20 (gl0.map (Value.int .u64)) :: F) → j228p xa226 = some r → F10.Post F ro r (j228 a226 xa226.length xa226.length h_626)) ?_ ?_
  · intro a226 xa226 h_626 hs hp
    have hs_627 := hs.pull 3 rfl
    have hs_628 := hs_627.pull 1 rfl
    have hs_629 := hs_628.pull 3 rfl
    have hs_630 := hs_629.pull 3 rfl
    exact hkb12 n109 p110 mp110_0 mp110_1 ap110_2 _ xp110_2 a226 xa226 n112 (IntKind.i64.wrap (n113 + 1)) _ hs_630 hp
  · intro j228p j228 hj228 hp
    refine st_load (Q := F10.Post F ro r) isO hs agg22 rfl ?_
    refine st_slice (Q := F10.Post F ro r) ?_
    refine st_load (Q := F10.Post F ro r) isO hs agg3 rfl ?_
    refine st_int (Q := F10.Post F ro r) ?_
    refine st_load (Q := F10.Post F ro r) isO hs agg3 rfl ?_
    refine st_int (Q := F10.Post F ro r) ?_
    have hs_560 := hs.pull 1 rfl
    obtain ⟨x_561, hx_562, hp⟩ := bindp_some hp
    refine st_subR (Q := F10.Post F ro r) (l := xp110_2) (f := (Value.int .u8)) isO hs_560 und22 siz5 rfl (.inr ⟨_, rfl⟩) (.inr ⟨_, rfl⟩) hx_562 fun a_563 c_564 hs_565 => ?_
    refine st_slice (Q := F10.Post F ro r) ?_
    refine st_if (Q := F10.Post F ro r) (fun hc_566 => ?_) (fun hc_566 => ?_)
    · replace hp := ifp_t hc_566 hp
      have hs_567 := hs_565.dup
      have hs_568 := hs_567.pull 4 rfl
      obtain ⟨r_569, hx_570, hp⟩ := bindp_some hp
      obtain ⟨a_574, h_571, e_573, hs_572⟩ := F25.ok hora (ro := ro) (F := .row a_563 c_564 (x_561.map (Value.int .u8)) :: .row ap110_2 cp110_2 (xp110_2.map (Value.int .u8)) :: .own ro (some ⟨p110, 0, none⟩) 1 [.int .i64 mp110_0, .int .i64 mp110_1, .slice ap110_2 xp110_2.length cp110_2] :: .row (some ⟨0, 0, none⟩) 20 (gl0.map (Value.int .u64)) :: F) a111 xa111 a_563 c_564 x_561 _ hs_568 hx_570
      refine st_ok (Q := F10.Post F ro r) isO e_573 ?_
      refine st_slice (Q := F10.Post F ro r) ?_
      have hs_575 := hs_572.pull 1 rfl
      have hs_576 := hs_575.tail
      have hs_577 := hs_576.pull 3 rfl
      have hs_578 := hs_577.pull 2 rfl
      have hs_579 := hs_578.pull 3 rfl
      have hs_580 := hs_579.pull 3 rfl
      exact hj228 a_574 r_569 _ hs_580 hp
    · replace hp := ifp_f hc_566 hp
      refine st_if (Q := F10.Post F ro r) (fun hc_581 => ?_) (fun hc_581 => ?_)
      · replace hp := ifp_t hc_581 hp
        have hs_582 := hs_565.dup
        have hs_583 := hs_582.pull 5 rfl
        have hs_584 := hs_583.dup
        have hs_585 := hs_584.pull 2 rfl
        have hs_586 := hs_585.pull 6 rfl
        obtain ⟨r_587, hx_588, hp⟩ := bindp_some hp
        obtain ⟨a_592, h_589, e_591, hs_590⟩ := F26.ok hora (ro := ro) (F := .row (some ⟨0, 0, none⟩) 20 (gl0.map (Value.int .u64)) :: .row a_563 c_564 (x_561.map (Value.int .u8)) :: .row ap110_2 cp110_2 (xp110_2.map (Value.int .u8)) :: .own ro (some ⟨p110, 0, none⟩) 1 [.int .i64 mp110_0, .int .i64 mp110_1, .slice ap110_2 xp110_2.length cp110_2] :: F) a111 xa111 a_563 c_564 x_561 _ hs_586 hx_588
        refine st_ok (Q := F10.Post F ro r) isO e_591 ?_
        refine st_slice (Q := F10.Post F ro r) ?_
        have hs_593 := hs_590.pull 2 rfl
        have hs_594 := hs_593.tail
        have hs_595 := hs_594.pull 1 rfl
        have hs_596 := hs_595.pull 2 rfl
        have hs_597 := hs_596.pull 3 rfl
        have hs_598 := hs_597.pull 3 rfl
        exact hj228 a_592 r_587 _ hs_598 hp
      · replace hp := ifp_f hc_581 hp
        refine st_if (Q := F10.Post F ro r) (fun hc_599 => ?_) (fun hc_599 => ?_)
        · replace hp := ifp_t hc_599 hp
          have hs_600 := hs_565.dup
          have hs_601 := hs_600.pull 4 rfl
          obtain ⟨r_602, hx_603, hp⟩ := bindp_some hp
          obtain ⟨a_607, h_604, e_606, hs_605⟩ := F27.ok hora (ro := ro) (F := .row a_563 c_564 (x_561.map (Value.int .u8)) :: .row ap110_2 cp110_2 (xp110_2.map (Value.int .u8)) :: .own ro (some ⟨p110, 0, none⟩) 1 [.int .i64 mp110_0, .int .i64 mp110_1, .slice ap110_2 xp110_2.length cp110_2] :: .row (some ⟨0, 0, none⟩) 20 (gl0.map (Value.int .u64)) :: F) a111 xa111 a_563 c_564 x_561 _ hs_601 hx_603
          refine st_ok (Q := F10.Post F ro r) isO e_606 ?_
          refine st_slice (Q := F10.Post F ro r) ?_
          have hs_608 := hs_605.pull 1 rfl
          have hs_609 := hs_608.tail
          have hs_610 := hs_609.pull 3 rfl
          have hs_611 := hs_610.pull 2 rfl
          have hs_612 := hs_611.pull 3 rfl
          have hs_613 := hs_612.pull 3 rfl
          exact hj228 a_607 r_602 _ hs_613 hp
        · replace hp := ifp_f hc_599 hp
          have hs_619 := hs_565.pull 3 rfl
          obtain ⟨x_614, hx_615, hp⟩ := bindp_some hp
          refine st_appR (Q := F10.Post F ro r) isO (l := xa111) (x := x_561) (f := (Value.int .u8)) hs_619 und22 und22 one5 rfl rfl rfl hx_615 fun a_616 h_617 hs_618 => ?_
          refine st_slice (Q := F10.Post F ro r) ?_
          have hs_620 := hs_618.pull 1 rfl
          have hs_621 := hs_620.tail
          have hs_622 := hs_621.pull 3 rfl
          have hs_623 := hs_622.pull 2 rfl
          have hs_624 := hs_623.pull 3 rfl
          have hs_625 := hs_624.pull 3 rfl
          exact hj228 a_616 x_614 _ hs_625 hp

def F10.L12p (lf : Nat) : Nat → Int → Int → Int → List Int → List Int → Int → Int → Option (List Int × Int)
  | 0, _, _, _, _, _, _, _ => none
  | n + 1, n103, mp104_0, mp104_1, xp104_2, xa105, n106, n107 =>
  ifp (decide (n107 < n106)) (
    F10.J13p lf (F10.L12p lf n) n103 mp104_0 mp104_1 xp104_2 xa105 n106 n107) (
    some (xa105, 0))

theorem F10.L12_ok {ora : Ora} (hora : HOra ora) {lf ro : Nat} {F : List Ent} {r : (List Int × Int)} : ∀ (n : Nat) (n103 : Int) (p104 : Nat) (mp104_0 : Int) (mp104_1 : Int) (ap104_2 : Option Addr) (cp104_2 : Nat) (xp104_2 : List Int) (a105 : Option Addr) (xa105 : List Int) (n106 : Int) (n107 : Int) (h : Heap), Sat ro h (.own ro (some ⟨p104, 0, none⟩) 1 [.int .i64 mp104_0, .int .i64 mp104_1, .slice ap104_2 xp104_2.length cp104_2] :: .row ap104_2 cp104_2 (xp104_2.map (Value.int .u8)) :: .own ro a105 1 (xa105.map (Value.int .u8)) :: .row (some ⟨0, 0, none⟩) 20 (gl0.map (Value.int .u64)) :: F) → F10.L12p lf n n103 mp104_0 mp104_1 xp104_2 xa105 n106 n107 = some r → F10.Post F ro r (F10.L12 (callW Tryd.prog ora) lf ro n n103 p104 0 a105 xa105.length xa105.length n106 n107 h) := by
  intro n
  induction n with
  | zero => intro n103 p104 mp104_0 mp104_1 ap104_2 cp104_2 xp104_2 a105 xa105 n106 n107 h hs hp; cases hp
  | succ n ih =>
    intro n103 p104 mp104_0 mp104_1 ap104_2 cp104_2 xp104_2 a105 xa105 n106 n107 h hs hp
    unfold F10.L12
    unfold F10.L12p at hp
    refine st_if (Q := F10.Post F ro r) (fun hc_559 => ?_) (fun hc_559 => ?_)
    · replace hp := ifp_t hc_559 hp
      have hs_631 := hs.pull 3 rfl
      have hs_632 := hs_631.pull 3 rfl
      have hs_633 := hs_632.pull 3 rfl
      have hs_634 := hs_633.pull 3 rfl
      exact F10.J13_ok hora ih n103 p104 mp104_0 mp104_1 ap104_2 _ xp104_2 a105 xa105 n106 n107 _ hs_634 hp
    · replace hp := ifp_f hc_559 hp
      have hs_635 := hs.tail
      have hs_636 := hs_635.tail
      have hs_637 := hs_636.pull 1 rfl
      have hs_638 := hs_637.tail
      cases hp
      exact ⟨a105, _, rfl, hs_638⟩

def F10.J11p (lf : Nat) (n93 : Int) (mp94_0 : Int) (mp94_1 : Int) (xp94_2 : List Int) (xa95 : List Int) : Option (List Int × Int) :=
  F10.L12p lf lf n93 mp94_0 mp94_1 xp94_2 xa95 mp94_1 0

theorem F10.J11_ok {ora : Ora} (hora : HOra ora) {lf ro : Nat} {F : List Ent} {r : (List Int × Int)} (n93 : Int) (p94 : Nat) (mp94_0 : Int) (mp94_1 : Int) (ap94_2 : Option Addr) (cp94_2 : Nat) (xp94_2 : List Int) (a95 : Option Addr) (xa95 : List Int) (h : Heap) (hs : Sat ro h (.own ro (some ⟨p94, 0, none⟩) 1 [.int .i64 mp94_0, .int .i64 mp94_1, .slice ap94_2 xp94_2.length cp94_2] :: .row ap94_2 cp94_2 (xp94_2.map (Value.int .u8)) :: .own ro a95 1 (xa95.map (Value.int .u8)) :: .row (some ⟨0, 0, none⟩) 20 (gl0.map (Value.int .u64)) :: F)) (hp : F10.J11p lf n93 mp94_0 mp94_1 xp94_2 xa95 = some r) : F10.Post F ro r (F10.J11 (callW Tryd.prog ora) lf ro n93 p94 0 a95 xa95.length xa95.length h) := by
  unfold F10.J11
  unfold F10.J11p at hp
  refine st_load (Q := F10.Post F ro r) isO hs agg3 rfl ?_
  refine st_int (Q := F10.Post F ro r) ?_
  have hs_639 := hs.pull 3 rfl
  have hs_640 := hs_639.pull 3 rfl
  have hs_641 := hs_640.pull 3 rfl
  have hs_642 := hs_641.pull 3 rfl
  exact F10.L12_ok hora lf n93 p94 mp94_0 mp94_1 ap94_2 _ xp94_2 a95 xa95 mp94_1 0 _ hs_642 hp

def F10.J5p (lf : Nat) (n39 : Int) (mp40_0 : Int) (mp40_1 : Int) (xp40_2 : List Int) : Option (List Int × Int) :=
  bindp (F24.p lf [80, IntKind.u8.wrap (48 + (IntKind.u8.wrap n39)), 10] mp40_0 10) fun r_514 =>
  bindp (appp 1 r_514 [32]) fun x_522 =>
  bindp (F24.p lf x_522 mp40_1 10) fun r_534 =>
  bindp (appp 1 r_534 [10]) fun x_542 =>
  bindp (F21.p lf n39) fun r_548 =>
  ifp (!r_548) (
    bindp (appp 1 x_542 (bytp (⟨#[50, 53, 53, 10]⟩ : ByteArray))) fun x_554 =>
    F10.J11p lf n39 mp40_0 mp40_1 xp40_2 x_554) (
    F10.J11p lf n39 mp40_0 mp40_1 xp40_2 x_542)

theorem F10.J5_ok {ora : Ora} (hora : HOra ora) {lf ro : Nat} {F : List Ent} {r : (List Int × Int)} (n39 : Int) (p40 : Nat) (mp40_0 : Int) (mp40_1 : Int) (ap40_2 : Option Addr) (cp40_2 : Nat) (xp40_2 : List Int) (h : Heap) (hs : Sat ro h (.own ro (some ⟨p40, 0, none⟩) 1 [.int .i64 mp40_0, .int .i64 mp40_1, .slice ap40_2 xp40_2.length cp40_2] :: .row ap40_2 cp40_2 (xp40_2.map (Value.int .u8)) :: .row (some ⟨0, 0, none⟩) 20 (gl0.map (Value.int .u64)) :: F)) (hp : F10.J5p lf n39 mp40_0 mp40_1 xp40_2 = some r) : F10.Post F ro r (F10.J5 (callW Tryd.prog ora) lf ro n39 p40 0 h) := by
  unfold F10.J5
  unfold F10.J5p at hp
  refine st_pushJ (Q := F10.Post F ro r) hs hs.low rfl fun h_508 _ hs_509 => ?_
  have hs_510 := hs_509.pull 1 rfl
  refine st_load (Q := F10.Post F ro r) isO hs_510 agg3 rfl ?_
  refine st_int (Q := F10.Post F ro r) ?_
  have hs_511 := hs_510.pull 3 rfl
  have hs_512 := hs_511.dup
  have hs_513 := hs_512.pull 3 rfl
  obtain ⟨r_514, hx_515, hp⟩ := bindp_some hp
  obtain ⟨a_519, h_516, e_518, hs_517⟩ := F24.ok hora (ro := ro) (F := .row (some ⟨0, 0, none⟩) 20 (gl0.map (Value.int .u64)) :: .own ro (some ⟨p40, 0, none⟩) 1 [.int .i64 mp40_0, .int .i64 mp40_1, .slice ap40_2 xp40_2.length cp40_2] :: .row ap40_2 cp40_2 (xp40_2.map (Value.int .u8)) :: F) (some ⟨h.next, 0, none⟩) [80, IntKind.u8.wrap (48 + (IntKind.u8.wrap n39)), 10] mp40_0 10 _ hs_513 hx_515
  refine st_ok (Q := F10.Post F ro r) isO e_518 ?_
  refine st_slice (Q := F10.Post F ro r) ?_
  refine st_pushJ (Q := F10.Post F ro r) hs_517 hs_517.low rfl fun h_520 _ hs_521 => ?_
  have hs_527 := hs_521.pull 1 rfl
  have hap_528 := (List.pairwise_cons.1 hs_527.apart).1
  obtain ⟨x_522, hx_523, hp⟩ := bindp_some hp
  refine st_appO (Q := F10.Post F ro r) isN (l := r_514) (x := [32]) (f := (Value.int .u8)) hs_527 (fun _ => rfl) und22 und22 one5 rfl rfl rfl hx_523 fun a_524 h_525 hs_526 => ?_
  refine st_slice (Q := F10.Post F ro r) ?_
  have hs_529 := hs_526.pull 3 rfl
  refine st_load (Q := F10.Post F ro r) isN hs_529 agg3 rfl ?_
  refine st_int (Q := F10.Post F ro r) ?_
  have ha_530 : apartB (touch (some (.slice a_519 r_514.length r_514.length))) (touch (some (.pointer (some ⟨p40, 1, none⟩)))) = true := apartB_of (by first | rfl | exact touch_slice _ _ _) (by first | rfl | exact touch_slice _ _ _) (hap_528 _ (.tail _ (.tail _ (.head _))) rfl)
  refine st_if (Q := F10.Post F ro r) (fun _ => ?_) (fun hf => absurd hf (by simp [ha_530]))
  have hs_531 := hs_529.pull 3 rfl
  have hs_532 := hs_531.dup
  have hs_533 := hs_532.pull 3 rfl
  obtain ⟨r_534, hx_535, hp⟩ := bindp_some hp
  obtain ⟨a_539, h_536, e_538, hs_537⟩ := F24.ok hora (ro := ro) (F := .row (some ⟨0, 0, none⟩) 20 (gl0.map (Value.int .u64)) :: .own ro (some ⟨p40, 0, none⟩) 1 [.int .i64 mp40_0, .int .i64 mp40_1, .slice ap40_2 xp40_2.length cp40_2] :: .own ro (some ⟨h_516.next, 0, none⟩) 1 ([32].map (Value.int .u8)) :: .row ap40_2 cp40_2 (xp40_2.map (Value.int .u8)) :: F) a_524 x_522 mp40_1 10 _ hs_533 hx_535
  refine st_ok (Q := F10.Post F ro r) isO e_538 ?_
  refine st_slice (Q := F10.Post F ro r) ?_
  refine st_pushJ (Q := F10.Post F ro r) hs_537 hs_537.low rfl fun h_540 _ hs_541 => ?_
  have hs_547 := hs_541.pull 1 rfl
  obtain ⟨x_542, hx_543, hp⟩ := bindp_some hp
  refine st_appO (Q := F10.Post F ro r) isO (l := r_534) (x := [10]) (f := (Value.int .u8)) hs_547 (fun _ => rfl) und22 und22 one5 rfl rfl rfl hx_543 fun a_544 h_545 hs_546 => ?_
  refine st_slice (Q := F10.Post F ro r) ?_
  obtain ⟨r_548, hx_549, hp⟩ := bindp_some hp
  obtain ⟨h_550, e_552, hs_551⟩ := F21.ok hora (ro := ro) (F := .own ro a_544 1 (x_542.map (Value.int .u8)) :: .own ro (some ⟨h_536.next, 0, none⟩) 1 ([10].map (Value.int .u8)) :: .row (some ⟨0, 0, none⟩) 20 (gl0.map (Value.int .u64)) :: .own ro (some ⟨p40, 0, none⟩) 1 [.int .i64 mp40_0, .int .i64 mp40_1, .slice ap40_2 xp40_2.length cp40_2] :: .own ro (some ⟨h_516.next, 0, none⟩) 1 ([32].map (Value.int .u8)) :: .row ap40_2 cp40_2 (xp40_2.map (Value.int .u8)) :: F) n39 _ hs_546 hx_549
  refine st_ok (Q := F10.Post F ro r) isO e_552 ?_
  refine st_bool (Q := F10.Post F ro r) ?_
  refine st_if (Q := F10.Post F ro r) (fun hc_553 => ?_) (fun hc_553 => ?_)
  · replace hp := ifp_t hc_553 hp
    obtain ⟨x_554, hx_555, hp⟩ := bindp_some hp
    refine st_appS (Q := F10.Post F ro r) (l := x_542) isO hs_551 und22 und9 one5 rfl rfl hx_555 fun a_556 h_557 hs_558 => ?_
    refine st_slice (Q := F10.Post F ro r) ?_
    have hs_643 := hs_558.pull 1 rfl
    have hs_644 := hs_643.tail
    have hs_645 := hs_644.pull 3 rfl
    have hs_646 := hs_645.tail
    have hs_647 := hs_646.pull 1 rfl
    have hs_648 := hs_647.pull 1 rfl
    have hs_649 := hs_648.pull 3 rfl
    have hs_650 := hs_649.pull 3 rfl
    exact F10.J11_ok hora n39 p40 mp40_0 mp40_1 ap40_2 _ xp40_2 a_556 x_554 _ hs_650 hp
  · replace hp := ifp_f hc_553 hp
    have hs_651 := hs_551.pull 1 rfl
    have hs_652 := hs_651.tail
    have hs_653 := hs_652.pull 3 rfl
    have hs_654 := hs_653.tail
    have hs_655 := hs_654.pull 1 rfl
    have hs_656 := hs_655.pull 1 rfl
    have hs_657 := hs_656.pull 3 rfl
    have hs_658 := hs_657.pull 3 rfl
    exact F10.J11_ok hora n39 p40 mp40_0 mp40_1 ap40_2 _ xp40_2 a_544 x_542 _ hs_658 hp

def F10.J3p (lf : Nat) (n24 : Int) (mp25_0 : Int) (mp25_1 : Int) (xp25_2 : List Int) : Option (List Int × Int) :=
  letJ (fun (b36 : Bool) => (
    ifp b36 (
      some ([], 3)) (
      F10.J5p lf n24 mp25_0 mp25_1 xp25_2) : Option (List Int × Int))) fun j38p =>
  bindp (F21.p lf n24) fun r_480 =>
  ifp r_480 (
    bindp (F22.p lf xp25_2) fun r_488 =>
    j38p r_488) (
    j38p false)

theorem F10.J3_ok {ora : Ora} (hora : HOra ora) {lf ro : Nat} {F : List Ent} {r : (List Int × Int)} (n24 : Int) (p25 : Nat) (mp25_0 : Int) (mp25_1 : Int) (ap25_2 : Option Addr) (cp25_2 : Nat) (xp25_2 : List Int) (h : Heap) (hs : Sat ro h (.own ro (some ⟨p25, 0, none⟩) 1 [.int .i64 mp25_0, .int .i64 mp25_1, .slice ap25_2 xp25_2.length cp25_2] :: .row ap25_2 cp25_2 (xp25_2.map (Value.int .u8)) :: .row (some ⟨0, 0, none⟩) 20 (gl0.map (Value.int .u64)) :: F)) (hp : F10.J3p lf n24 mp25_0 mp25_1 xp25_2 = some r) : F10.Post F ro r (F10.J3 (callW Tryd.prog ora) lf ro n24 p25 0 h) := by
  unfold F10.J3
  unfold F10.J3p at hp
  refine st_letJ hp (fun j38p j38 => ∀ (b36 : Bool) (h_499 : Heap), Sat ro h_499 (.own ro (some ⟨p25, 0, none⟩) 1 [.int .i64 mp25_0, .int .i64 mp25_1, .slice ap25_2 xp25_2.length cp25_2] :: .row ap25_2 cp25_2 (xp25_2.map (Value.int .u8)) :: .row (some ⟨0, 0, none⟩) 20 (gl0.map (Value.int .u64)) :: F) → j38p b36 = some r → F10.Post F ro r (j38 b36 h_499)) ?_ ?_
  · intro b36 h_499 hs hp
    refine st_if (Q := F10.Post F ro r) (fun hc_500 => ?_) (fun hc_500 => ?_)
    · replace hp := ifp_t hc_500 hp
      have hs_501 := hs.nilOwn ro 1
      have hs_502 := hs_501.pull 1 rfl
      have hs_503 := hs_502.tail
      have hs_504 := hs_503.pull 1 rfl
      have hs_505 := hs_504.tail
      have hs_506 := hs_505.pull 1 rfl
      have hs_507 := hs_506.tail
      cases hp
      exact ⟨none, _, rfl, hs_507⟩
    · replace hp := ifp_f hc_500 hp
      have hs_659 := hs.pull 2 rfl
      have hs_660 := hs_659.pull 2 rfl
      have hs_661 := hs_660.pull 2 rfl
      exact F10.J5_ok hora n24 p25 mp25_0 mp25_1 ap25_2 _ xp25_2 _ hs_661 hp
  · intro j38p j38 hj38 hp
    obtain ⟨r_480, hx_481, hp⟩ := bindp_some hp
    obtain ⟨h_482, e_484, hs_483⟩ := F21.ok hora (ro := ro) (F := .own ro (some ⟨p25, 0, none⟩) 1 [.int .i64 mp25_0, .int .i64 mp25_1, .slice ap25_2 xp25_2.length cp25_2] :: .row ap25_2 cp25_2 (xp25_2.map (Value.int .u8)) :: .row (some ⟨0, 0, none⟩) 20 (gl0.map (Value.int .u64)) :: F) n24 _ hs hx_481
    refine st_ok (Q := F10.Post F ro r) isO e_484 ?_
    refine st_bool (Q := F10.Post F ro r) ?_
    refine st_if (Q := F10.Post F ro r) (fun hc_485 => ?_) (fun hc_485 => ?_)
    · replace hp := ifp_t hc_485 hp
      refine st_load (Q := F10.Post F ro r) isO hs_483 agg22 rfl ?_
      refine st_slice (Q := F10.Post F ro r) ?_
      have hs_486 := hs_483.pull 1 rfl
      have hs_487 := hs_486.dup
      obtain ⟨r_488, hx_489, hp⟩ := bindp_some hp
      obtain ⟨h_490, e_492, hs_491⟩ := F22.ok hora (ro := ro) (F := .row ap25_2 cp25_2 (xp25_2.map (Value.int .u8)) :: .own ro (some ⟨p25, 0, none⟩) 1 [.int .i64 mp25_0, .int .i64 mp25_1, .slice ap25_2 xp25_2.length cp25_2] :: .row (some ⟨0, 0, none⟩) 20 (gl0.map (Value.int .u64)) :: F) ap25_2 cp25_2 xp25_2 _ hs_487 hx_489
      refine st_ok (Q := F10.Post F ro r) isO e_492 ?_
      refine st_bool (Q := F10.Post F ro r) ?_
      have hs_493 := hs_491.pull 2 rfl
      have hs_494 := hs_493.pull 1 rfl
      have hs_495 := hs_494.pull 2 rfl
      exact hj38 r_488 _ hs_495 hp
    · replace hp := ifp_f hc_485 hp
      have hs_496 := hs_483.pull 2 rfl
      have hs_497 := hs_496.pull 2 rfl
      have hs_498 := hs_497.pull 2 rfl
      exact hj38 false _ hs_498 hp

def F10.p (lf : Nat) (x0_0 : Int) (x0_1 : Int) (xax0_2 : List Int) (x1 : Int) : Option (List Int × Int) :=
  letJ (fun (b21 : Bool) => (
    ifp b21 (
      some ([], 1)) (
      F10.J3p lf x1 x0_0 x0_1 xax0_2) : Option (List Int × Int))) fun j23p =>
  bindp (F19.p lf x0_0 x0_1 xax0_2) fun r_454 =>
  ifp (r_454 != 0) (
    j23p true) (
    bindp (F20.p lf x1) fun r_463 =>
    j23p (!r_463))

theorem F10.t_ok {ora : Ora} (hora : HOra ora) {lf ro : Nat} {F : List Ent} {r : (List Int × Int)} (x0_0 : Int) (x0_1 : Int) (ax0_2 : Option Addr) (cx0_2 : Nat) (xax0_2 : List Int) (x1 : Int) (h : Heap) (hs : Sat ro h (.row ax0_2 cx0_2 (xax0_2.map (Value.int .u8)) :: .row (some ⟨0, 0, none⟩) 20 (gl0.map (Value.int .u64)) :: F)) (hp : F10.p lf x0_0 x0_1 xax0_2 x1 = some r) : F10.Post F ro r (F10.t (callW Tryd.prog ora) lf ro x0_0 x0_1 ax0_2 xax0_2.length cx0_2 x1 h) := by
  unfold F10.t
  unfold F10.p at hp
  refine st_pushJ (Q := F10.Post F ro r) hs hs.low rfl fun h_450 _ hs_451 => ?_
  refine st_letJ hp (fun j23p j23 => ∀ (b21 : Bool) (h_471 : Heap), Sat ro h_471 (.own ro (some ⟨h.next, 0, none⟩) 1 [.int .i64 x0_0, .int .i64 x0_1, .slice ax0_2 xax0_2.length cx0_2] :: .row ax0_2 cx0_2 (xax0_2.map (Value.int .u8)) :: .row (some ⟨0, 0, none⟩) 20 (gl0.map (Value.int .u64)) :: F) → j23p b21 = some r → F10.Post F ro r (j23 b21 h_471)) ?_ ?_
  · intro b21 h_471 hs hp
    refine st_if (Q := F10.Post F ro r) (fun hc_472 => ?_) (fun hc_472 => ?_)
    · replace hp := ifp_t hc_472 hp
      have hs_473 := hs.nilOwn ro 1
      have hs_474 := hs_473.pull 1 rfl
      have hs_475 := hs_474.tail
      have hs_476 := hs_475.pull 1 rfl
      have hs_477 := hs_476.tail
      have hs_478 := hs_477.pull 1 rfl
      have hs_479 := hs_478.tail
      cases hp
      exact ⟨none, _, rfl, hs_479⟩
    · replace hp := ifp_f hc_472 hp
      have hs_662 := hs.pull 2 rfl
      have hs_663 := hs_662.pull 2 rfl
      have hs_664 := hs_663.pull 2 rfl
      exact F10.J3_ok hora x1 h.next x0_0 x0_1 ax0_2 _ xax0_2 _ hs_664 hp
  · intro j23p j23 hj23 hp
    refine st_loadA (Q := F10.Post F ro r) isO hs_451 agg24 siz24 rfl ?_
    refine st_agg (Q := F10.Post F ro r) (l := [.int .i64 x0_0, .int .i64 x0_1, .slice ax0_2 xax0_2.length cx0_2]) ?_
    refine st_cons (Q := F10.Post F ro r) ?_
    refine st_int (Q := F10.Post F ro r) ?_
    refine st_cons (Q := F10.Post F ro r) ?_
    refine st_int (Q := F10.Post F ro r) ?_
    refine st_cons (Q := F10.Post F ro r) ?_
    refine st_slice (Q := F10.Post F ro r) ?_
    refine st_nil (Q := F10.Post F ro r) ?_
    have hs_452 := hs_451.pull 1 rfl
    have hs_453 := hs_452.dup
    obtain ⟨r_454, hx_455, hp⟩ := bindp_some hp
    obtain ⟨h_456, e_458, hs_457⟩ := F19.ok hora (ro := ro) (F := .row ax0_2 cx0_2 (xax0_2.map (Value.int .u8)) :: .own ro (some ⟨h.next, 0, none⟩) 1 [.int .i64 x0_0, .int .i64 x0_1, .slice ax0_2 xax0_2.length cx0_2] :: .row (some ⟨0, 0, none⟩) 20 (gl0.map (Value.int .u64)) :: F) x0_0 x0_1 ax0_2 cx0_2 xax0_2 _ hs_453 hx_455
    refine st_ok (Q := F10.Post F ro r) isO e_458 ?_
    refine st_int (Q := F10.Post F ro r) ?_
    refine st_if (Q := F10.Post F ro r) (fun hc_459 => ?_) (fun hc_459 => ?_)
    · replace hp := ifp_t hc_459 hp
      have hs_460 := hs_457.pull 2 rfl
      have hs_461 := hs_460.pull 1 rfl
      have hs_462 := hs_461.pull 2 rfl
      exact hj23 true _ hs_462 hp
    · replace hp := ifp_f hc_459 hp
      obtain ⟨r_463, hx_464, hp⟩ := bindp_some hp
      obtain ⟨h_465, e_467, hs_466⟩ := F20.ok hora (ro := ro) (F := .row ax0_2 cx0_2 (xax0_2.map (Value.int .u8)) :: .own ro (some ⟨h.next, 0, none⟩) 1 [.int .i64 x0_0, .int .i64 x0_1, .slice ax0_2 xax0_2.length cx0_2] :: .row (some ⟨0, 0, none⟩) 20 (gl0.map (Value.int .u64)) :: F) x1 _ hs_457 hx_464
      refine st_ok (Q := F10.Post F ro r) isO e_467 ?_
      refine st_bool (Q := F10.Post F ro r) ?_
      have hs_468 := hs_466.pull 2 rfl
      have hs_469 := hs_468.pull 1 rfl
      have hs_470 := hs_469.pull 2 rfl
      exact hj23 (!r_463) _ hs_470 hp

theorem F10.ok {ora : Ora} (hora : HOra ora) {lf ro : Nat} {F : List Ent} {r : (List Int × Int)} (x0_0 : Int) (x0_1 : Int) (ax0_2 : Option Addr) (cx0_2 : Nat) (xax0_2 : List Int) (x1 : Int) (h : Heap) (hs : Sat ro h (.row ax0_2 cx0_2 (xax0_2.map (Value.int .u8)) :: .row (some ⟨0, 0, none⟩) 20 (gl0.map (Value.int .u64)) :: F)) (hp : F10.p lf x0_0 x0_1 xax0_2 x1 = some r) : F10.Post F ro r (callW Tryd.prog ora ro 10 [.agg #[.int .i64 x0_0, .int .i64 x0_1, .slice ax0_2 xax0_2.length cx0_2], .int .i64 x1] h) := by
  have h1 := F10.t_ok hora x0_0 x0_1 ax0_2 cx0_2 xax0_2 x1 h hs hp
  have h2 : callW Tryd.prog ora ro 10 [.agg #[.int .i64 x0_0, .int .i64 x0_1, .slice ax0_2 xax0_2.length cx0_2], .int .i64 x1] h = _ := callW_body (hora.none _ _ _ _ (by decide)) Tryd.func10 (F10.le (callW Tryd.prog ora) lf ro x0_0 x0_1 ax0_2 xax0_2.length cx0_2 x1 h) (F10.Post.ne h1)
  rw [h2]; exact h1

end Go.Proofs.YtgpnjdldpehidaaDoor
