/-
  Stuff, Unstuff and the law as plain functions of numbers and lists, and that they answer as the program does where they answer at all; no statement of the seat is proved in this file.
-/
import Derived.Test.YtfadfpcelhdfbaaDoorStfTextS
open Go Go.Abs Go.Proofs
set_option maxRecDepth 100000
set_option linter.unusedVariables false
namespace Go.Proofs.YtfadfpcelhdfbaaDoor
/-- What the proofs ask of the oracle: it leaves the calls to the code, but for the examples (function 11), which hold. -/
structure HOra (ora : Ora) : Prop where
  none : ∀ ro f args h, f ∉ [11] → ora ro f args h = none
  ex : ∀ ro h, ora ro 11 [] h = some (.ok (.bool true) h)
def F11.Post (F : List Ent) (ro : Nat) (r : Bool) (x : Out) : Prop := ∃ h', x = .ok (.bool r) h' ∧ Sat ro h' F
def F11.p (lf : Nat) : Option Bool := some true
theorem F11.ok {ora : Ora} (hora : HOra ora) {lf ro : Nat} {F : List Ent} {r : Bool} (h : Heap) (hs : Sat ro h F) (hp : F11.p lf = some r) : F11.Post F ro r (callW Tryd.prog ora ro 11 [] h) := by
  cases hp
  exact ⟨h, callW_ora (hora.ex ro h) (by simp), hs⟩
end Go.Proofs.YtfadfpcelhdfbaaDoor

open Go Go.Abs Go.Proofs
set_option maxRecDepth 100000
set_option linter.unusedVariables false
set_option linter.unusedSimpArgs false
namespace Go.Proofs.YtfadfpcelhdfbaaDoor

theorem agg24 : isAgg? Tryd.prog 24 = some false := by kernel_rfl
theorem agg3 : isAgg? Tryd.prog 3 = some false := by kernel_rfl
theorem agg4 : isAgg? Tryd.prog 4 = some false := by kernel_rfl
theorem one3 : One Tryd.prog 3 8 := ⟨Tryd.t3, _, by kernel_rfl, rfl, rfl, rfl, rfl⟩
theorem one4 : One Tryd.prog 4 1 := ⟨Tryd.t4, _, by kernel_rfl, rfl, rfl, rfl, rfl⟩
theorem siz3 : sizeOf? Tryd.prog 3 = some 1 := by kernel_rfl
theorem siz4 : sizeOf? Tryd.prog 4 = some 1 := by kernel_rfl
theorem und24 : Tryd.prog.underlying 24 = some (.slice 4) := by kernel_rfl
theorem und35 : Tryd.prog.underlying 35 = some (.slice 3) := by kernel_rfl

def F22.Post (F : List Ent) (ro : Nat) (r : (Bool)) (x : Out) : Prop := ∃ h', x = .ok (.bool r) h' ∧ Sat ro h' (F)
theorem F22.Post.ne {F : List Ent} {ro : Nat} {r : (Bool)} {x : Out} (hx : F22.Post F ro r x) : x ≠ .fail := by
  obtain ⟨h', rfl, _⟩ := hx
  simp

def F22.J6p (lf : Nat) (kb4p : List Int → List Int → Int → Option (Bool)) (xa8 : List Int) (xa9 : List Int) (n10 : Int) : Option (Bool) :=
  bindp (idxp xa8 n10) fun x_5 =>
  bindp (idxp xa9 n10) fun x_7 =>
  ifp (x_5 != x_7) (
    some false) (
    kb4p xa8 xa9 (IntKind.i64.wrap (n10 + 1)))

theorem F22.J6_ok {ora : Ora} (hora : HOra ora) {lf ro : Nat} {F : List Ent} {r : (Bool)} {kb4p : List Int → List Int → Int → Option (Bool)} {kb4 : (Option Addr) → Nat → Nat → (Option Addr) → Nat → Nat → Int → Heap → Out} (hkb4 : ∀ (a4 : Option Addr) (c4 : Nat) (xa4 : List Int) (a5 : Option Addr) (c5 : Nat) (xa5 : List Int) (n6 : Int) (h : Heap), Sat ro h (.row a4 c4 (xa4.map (Value.int .i64)) :: .row a5 c5 (xa5.map (Value.int .i64)) :: F) → kb4p xa4 xa5 n6 = some r → F22.Post F ro r (kb4 a4 xa4.length c4 a5 xa5.length c5 n6 h)) (a8 : Option Addr) (c8 : Nat) (xa8 : List Int) (a9 : Option Addr) (c9 : Nat) (xa9 : List Int) (n10 : Int) (h : Heap) (hs : Sat ro h (.row a8 c8 (xa8.map (Value.int .i64)) :: .row a9 c9 (xa9.map (Value.int .i64)) :: F)) (hp : F22.J6p lf kb4p xa8 xa9 n10 = some r) : F22.Post F ro r (F22.J6 (callW Tryd.prog ora) lf ro kb4 a8 xa8.length c8 a9 xa9.length c9 n10 h) := by
  unfold F22.J6
  unfold F22.J6p at hp
  obtain ⟨x_5, hx_6, hp⟩ := bindp_some hp
  refine st_idxR (Q := F22.Post F ro r) (l := xa8) (f := (Value.int .i64)) isN isN hs und35 siz3 agg3 rfl hx_6 ?_
  refine st_int (Q := F22.Post F ro r) ?_
  have hs_9 := hs.pull 1 rfl
  obtain ⟨x_7, hx_8, hp⟩ := bindp_some hp
  refine st_idxR (Q := F22.Post F ro r) (l := xa9) (f := (Value.int .i64)) isN isN hs_9 und35 siz3 agg3 rfl hx_8 ?_
  refine st_int (Q := F22.Post F ro r) ?_
  refine st_if (Q := F22.Post F ro r) (fun hc_10 => ?_) (fun hc_10 => ?_)
  · replace hp := ifp_t hc_10 hp
    have hs_11 := hs_9.tail
    have hs_12 := hs_11.tail
    cases hp
    exact ⟨_, rfl, hs_12⟩
  · replace hp := ifp_f hc_10 hp
    have hs_13 := hs_9.pull 1 rfl
    exact hkb4 a8 _ xa8 a9 _ xa9 (IntKind.i64.wrap (n10 + 1)) _ hs_13 hp

def F22.L4p (lf : Nat) : Nat → List Int → List Int → Int → Option (Bool)
  | 0, _, _, _ => none
  | n + 1, xa4, xa5, n6 =>
  ifp (decide (n6 < (xa4.length : Int))) (
    F22.J6p lf (F22.L4p lf n) xa4 xa5 n6) (
    some true)

theorem F22.L4_ok {ora : Ora} (hora : HOra ora) {lf ro : Nat} {F : List Ent} {r : (Bool)} : ∀ (n : Nat) (a4 : Option Addr) (c4 : Nat) (xa4 : List Int) (a5 : Option Addr) (c5 : Nat) (xa5 : List Int) (n6 : Int) (h : Heap), Sat ro h (.row a4 c4 (xa4.map (Value.int .i64)) :: .row a5 c5 (xa5.map (Value.int .i64)) :: F) → F22.L4p lf n xa4 xa5 n6 = some r → F22.Post F ro r (F22.L4 (callW Tryd.prog ora) lf ro n a4 xa4.length c4 a5 xa5.length c5 n6 h) := by
  intro n
  induction n with
  | zero => intro a4 c4 xa4 a5 c5 xa5 n6 h hs hp; cases hp
  | succ n ih =>
    intro a4 c4 xa4 a5 c5 xa5 n6 h hs hp
    unfold F22.L4
    unfold F22.L4p at hp
    refine st_if (Q := F22.Post F ro r) (fun hc_4 => ?_) (fun hc_4 => ?_)
    · replace hp := ifp_t hc_4 hp
      have hs_14 := hs.pull 1 rfl
      have hs_15 := hs_14.pull 1 rfl
      exact F22.J6_ok hora ih a4 _ xa4 a5 _ xa5 n6 _ hs_15 hp
    · replace hp := ifp_f hc_4 hp
      have hs_16 := hs.tail
      have hs_17 := hs_16.tail
      cases hp
      exact ⟨_, rfl, hs_17⟩

def F22.J3p (lf : Nat) (xa1 : List Int) (xa2 : List Int) : Option (Bool) :=
  F22.L4p lf lf xa1 xa2 0

theorem F22.J3_ok {ora : Ora} (hora : HOra ora) {lf ro : Nat} {F : List Ent} {r : (Bool)} (a1 : Option Addr) (c1 : Nat) (xa1 : List Int) (a2 : Option Addr) (c2 : Nat) (xa2 : List Int) (h : Heap) (hs : Sat ro h (.row a1 c1 (xa1.map (Value.int .i64)) :: .row a2 c2 (xa2.map (Value.int .i64)) :: F)) (hp : F22.J3p lf xa1 xa2 = some r) : F22.Post F ro r (F22.J3 (callW Tryd.prog ora) lf ro a1 xa1.length c1 a2 xa2.length c2 h) := by
  unfold F22.J3
  unfold F22.J3p at hp
  have hs_18 := hs.pull 1 rfl
  have hs_19 := hs_18.pull 1 rfl
  exact F22.L4_ok hora lf a1 _ xa1 a2 _ xa2 0 _ hs_19 hp

def F22.p (lf : Nat) (xax0 : List Int) (xax1 : List Int) : Option (Bool) :=
  ifp ((xax0.length : Int) != (xax1.length : Int)) (
    some false) (
    F22.J3p lf xax0 xax1)

theorem F22.t_ok {ora : Ora} (hora : HOra ora) {lf ro : Nat} {F : List Ent} {r : (Bool)} (ax0 : Option Addr) (cx0 : Nat) (xax0 : List Int) (ax1 : Option Addr) (cx1 : Nat) (xax1 : List Int) (h : Heap) (hs : Sat ro h (.row ax0 cx0 (xax0.map (Value.int .i64)) :: .row ax1 cx1 (xax1.map (Value.int .i64)) :: F)) (hp : F22.p lf xax0 xax1 = some r) : F22.Post F ro r (F22.t (callW Tryd.prog ora) lf ro ax0 xax0.length cx0 ax1 xax1.length cx1 h) := by
  unfold F22.t
  unfold F22.p at hp
  refine st_if (Q := F22.Post F ro r) (fun hc_1 => ?_) (fun hc_1 => ?_)
  · replace hp := ifp_t hc_1 hp
    have hs_2 := hs.tail
    have hs_3 := hs_2.tail
    cases hp
    exact ⟨_, rfl, hs_3⟩
  · replace hp := ifp_f hc_1 hp
    have hs_20 := hs.pull 1 rfl
    have hs_21 := hs_20.pull 1 rfl
    exact F22.J3_ok hora ax0 _ xax0 ax1 _ xax1 _ hs_21 hp

theorem F22.ok {ora : Ora} (hora : HOra ora) {lf ro : Nat} {F : List Ent} {r : (Bool)} (ax0 : Option Addr) (cx0 : Nat) (xax0 : List Int) (ax1 : Option Addr) (cx1 : Nat) (xax1 : List Int) (h : Heap) (hs : Sat ro h (.row ax0 cx0 (xax0.map (Value.int .i64)) :: .row ax1 cx1 (xax1.map (Value.int .i64)) :: F)) (hp : F22.p lf xax0 xax1 = some r) : F22.Post F ro r (callW Tryd.prog ora ro 22 [.slice ax0 xax0.length cx0, .slice ax1 xax1.length cx1] h) := by
  have h1 := F22.t_ok hora ax0 cx0 xax0 ax1 cx1 xax1 h hs hp
  have h2 : callW Tryd.prog ora ro 22 [.slice ax0 xax0.length cx0, .slice ax1 xax1.length cx1] h = _ := callW_body (hora.none _ _ _ _ (by decide)) Tryd.func22 (F22.le (callW Tryd.prog ora) lf ro ax0 xax0.length cx0 ax1 xax1.length cx1 h) (F22.Post.ne h1)
  rw [h2]; exact h1

def F15.Post (F : List Ent) (ro : Nat) (r : (Bool)) (x : Out) : Prop := ∃ h', x = .ok (.bool r) h' ∧ Sat ro h' (F)
theorem F15.Post.ne {F : List Ent} {ro : Nat} {r : (Bool)} {x : Out} (hx : F15.Post F ro r x) : x ≠ .fail := by
  obtain ⟨h', rfl, _⟩ := hx
  simp

def F15.J6p (lf : Nat) (kb4p : List Bool → List Bool → Int → Option (Bool)) (xa8 : List Bool) (xa9 : List Bool) (n10 : Int) : Option (Bool) :=
  bindp (idxp xa8 n10) fun x_26 =>
  bindp (idxp xa9 n10) fun x_28 =>
  ifp (!(x_26 == x_28)) (
    some false) (
    kb4p xa8 xa9 (IntKind.i64.wrap (n10 + 1)))

theorem F15.J6_ok {ora : Ora} (hora : HOra ora) {lf ro : Nat} {F : List Ent} {r : (Bool)} {kb4p : List Bool → List Bool → Int → Option (Bool)} {kb4 : (Option Addr) → Nat → Nat → (Option Addr) → Nat → Nat → Int → Heap → Out} (hkb4 : ∀ (a4 : Option Addr) (c4 : Nat) (xa4 : List Bool) (a5 : Option Addr) (c5 : Nat) (xa5 : List Bool) (n6 : Int) (h : Heap), Sat ro h (.row a4 c4 (xa4.map Value.bool) :: .row a5 c5 (xa5.map Value.bool) :: F) → kb4p xa4 xa5 n6 = some r → F15.Post F ro r (kb4 a4 xa4.length c4 a5 xa5.length c5 n6 h)) (a8 : Option Addr) (c8 : Nat) (xa8 : List Bool) (a9 : Option Addr) (c9 : Nat) (xa9 : List Bool) (n10 : Int) (h : Heap) (hs : Sat ro h (.row a8 c8 (xa8.map Value.bool) :: .row a9 c9 (xa9.map Value.bool) :: F)) (hp : F15.J6p lf kb4p xa8 xa9 n10 = some r) : F15.Post F ro r (F15.J6 (callW Tryd.prog ora) lf ro kb4 a8 xa8.length c8 a9 xa9.length c9 n10 h) := by
  unfold F15.J6
  unfold F15.J6p at hp
  obtain ⟨x_26, hx_27, hp⟩ := bindp_some hp
  refine st_idxR (Q := F15.Post F ro r) (l := xa8) (f := Value.bool) isN isN hs und24 siz4 agg4 rfl hx_27 ?_
  refine st_bool (Q := F15.Post F ro r) ?_
  have hs_30 := hs.pull 1 rfl
  obtain ⟨x_28, hx_29, hp⟩ := bindp_some hp
  refine st_idxR (Q := F15.Post F ro r) (l := xa9) (f := Value.bool) isN isN hs_30 und24 siz4 agg4 rfl hx_29 ?_
  refine st_bool (Q := F15.Post F ro r) ?_
  refine st_if (Q := F15.Post F ro r) (fun hc_31 => ?_) (fun hc_31 => ?_)
  · replace hp := ifp_t hc_31 hp
    have hs_32 := hs_30.tail
    have hs_33 := hs_32.tail
    cases hp
    exact ⟨_, rfl, hs_33⟩
  · replace hp := ifp_f hc_31 hp
    have hs_34 := hs_30.pull 1 rfl
    exact hkb4 a8 _ xa8 a9 _ xa9 (IntKind.i64.wrap (n10 + 1)) _ hs_34 hp

def F15.L4p (lf : Nat) : Nat → List Bool → List Bool → Int → Option (Bool)
  | 0, _, _, _ => none
  | n + 1, xa4, xa5, n6 =>
  ifp (decide (n6 < (xa4.length : Int))) (
    F15.J6p lf (F15.L4p lf n) xa4 xa5 n6) (
    some true)

theorem F15.L4_ok {ora : Ora} (hora : HOra ora) {lf ro : Nat} {F : List Ent} {r : (Bool)} : ∀ (n : Nat) (a4 : Option Addr) (c4 : Nat) (xa4 : List Bool) (a5 : Option Addr) (c5 : Nat) (xa5 : List Bool) (n6 : Int) (h : Heap), Sat ro h (.row a4 c4 (xa4.map Value.bool) :: .row a5 c5 (xa5.map Value.bool) :: F) → F15.L4p lf n xa4 xa5 n6 = some r → F15.Post F ro r (F15.L4 (callW Tryd.prog ora) lf ro n a4 xa4.length c4 a5 xa5.length c5 n6 h) := by
  intro n
  induction n with
  | zero => intro a4 c4 xa4 a5 c5 xa5 n6 h hs hp; cases hp
  | succ n ih =>
    intro a4 c4 xa4 a5 c5 xa5 n6 h hs hp
    unfold F15.L4
    unfold F15.L4p at hp
    refine st_if (Q := F15.Post F ro r) (fun hc_25 => ?_) (fun hc_25 => ?_)
    · replace hp := ifp_t hc_25 hp
      have hs_35 := hs.pull 1 rfl
      have hs_36 := hs_35.pull 1 rfl
      exact F15.J6_ok hora ih a4 _ xa4 a5 _ xa5 n6 _ hs_36 hp
    · replace hp := ifp_f hc_25 hp
      have hs_37 := hs.tail
      have hs_38 := hs_37.tail
      cases hp
      exact ⟨_, rfl, hs_38⟩

def F15.J3p (lf : Nat) (xa1 : List Bool) (xa2 : List Bool) : Option (Bool) :=
  F15.L4p lf lf xa1 xa2 0

theorem F15.J3_ok {ora : Ora} (hora : HOra ora) {lf ro : Nat} {F : List Ent} {r : (Bool)} (a1 : Option Addr) (c1 : Nat) (xa1 : List Bool) (a2 : Option Addr) (c2 : Nat) (xa2 : List Bool) (h : Heap) (hs : Sat ro h (.row a1 c1 (xa1.map Value.bool) :: .row a2 c2 (xa2.map Value.bool) :: F)) (hp : F15.J3p lf xa1 xa2 = some r) : F15.Post F ro r (F15.J3 (callW Tryd.prog ora) lf ro a1 xa1.length c1 a2 xa2.length c2 h) := by
  unfold F15.J3
  unfold F15.J3p at hp
  have hs_39 := hs.pull 1 rfl
  have hs_40 := hs_39.pull 1 rfl
  exact F15.L4_ok hora lf a1 _ xa1 a2 _ xa2 0 _ hs_40 hp

def F15.p (lf : Nat) (xax0 : List Bool) (xax1 : List Bool) : Option (Bool) :=
  ifp ((xax0.length : Int) != (xax1.length : Int)) (
    some false) (
    F15.J3p lf xax0 xax1)

theorem F15.t_ok {ora : Ora} (hora : HOra ora) {lf ro : Nat} {F : List Ent} {r : (Bool)} (ax0 : Option Addr) (cx0 : Nat) (xax0 : List Bool) (ax1 : Option Addr) (cx1 : Nat) (xax1 : List Bool) (h : Heap) (hs : Sat ro h (.row ax0 cx0 (xax0.map Value.bool) :: .row ax1 cx1 (xax1.map Value.bool) :: F)) (hp : F15.p lf xax0 xax1 = some r) : F15.Post F ro r (F15.t (callW Tryd.prog ora) lf ro ax0 xax0.length cx0 ax1 xax1.length cx1 h) := by
  unfold F15.t
  unfold F15.p at hp
  refine st_if (Q := F15.Post F ro r) (fun hc_22 => ?_) (fun hc_22 => ?_)
  · replace hp := ifp_t hc_22 hp
    have hs_23 := hs.tail
    have hs_24 := hs_23.tail
    cases hp
    exact ⟨_, rfl, hs_24⟩
  · replace hp := ifp_f hc_22 hp
    have hs_41 := hs.pull 1 rfl
    have hs_42 := hs_41.pull 1 rfl
    exact F15.J3_ok hora ax0 _ xax0 ax1 _ xax1 _ hs_42 hp

theorem F15.ok {ora : Ora} (hora : HOra ora) {lf ro : Nat} {F : List Ent} {r : (Bool)} (ax0 : Option Addr) (cx0 : Nat) (xax0 : List Bool) (ax1 : Option Addr) (cx1 : Nat) (xax1 : List Bool) (h : Heap) (hs : Sat ro h (.row ax0 cx0 (xax0.map Value.bool) :: .row ax1 cx1 (xax1.map Value.bool) :: F)) (hp : F15.p lf xax0 xax1 = some r) : F15.Post F ro r (callW Tryd.prog ora ro 15 [.slice ax0 xax0.length cx0, .slice ax1 xax1.length cx1] h) := by
  have h1 := F15.t_ok hora ax0 cx0 xax0 ax1 cx1 xax1 h hs hp
  have h2 : callW Tryd.prog ora ro 15 [.slice ax0 xax0.length cx0, .slice ax1 xax1.length cx1] h = _ := callW_body (hora.none _ _ _ _ (by decide)) Tryd.func15 (F15.le (callW Tryd.prog ora) lf ro ax0 xax0.length cx0 ax1 xax1.length cx1 h) (F15.Post.ne h1)
  rw [h2]; exact h1

def F44.Post (py0 : Nat) (apy0_0 : Option Addr) (cpy0_0 : Nat) (xpy0_0 : List Bool) (F : List Ent) (ro : Nat) (r : (Int)) (x : Out) : Prop := ∃ h', x = .ok (.int .i64 r) h' ∧ Sat ro h' (.own ro (some ⟨py0, 0, none⟩) 1 [.slice apy0_0 xpy0_0.length cpy0_0] :: F)
theorem F44.Post.ne {py0 : Nat} {apy0_0 : Option Addr} {cpy0_0 : Nat} {xpy0_0 : List Bool} {F : List Ent} {ro : Nat} {r : (Int)} {x : Out} (hx : F44.Post py0 apy0_0 cpy0_0 xpy0_0 F ro r x) : x ≠ .fail := by
  obtain ⟨h', rfl, _⟩ := hx
  simp

def F44.p (lf : Nat) (x0 : Int) (xpy0_0 : List Bool) : Option (Int) :=
  letJ (fun (b12 : Bool) => (
    ifp b12 (
      some 1) (
      some 0) : Option (Int))) fun j14p =>
  ifp (decide (x0 ≥ (xpy0_0.length : Int))) (
    j14p true) (
    bindp (idxp xpy0_0 x0) fun x_46 =>
    j14p x_46)

theorem F44.t_ok {ora : Ora} (hora : HOra ora) {lf ro : Nat} {F : List Ent} {r : (Int)} {py0 : Nat} {apy0_0 : Option Addr} {cpy0_0 : Nat} {xpy0_0 : List Bool} (x0 : Int) (h : Heap) (hs : Sat ro h (.own ro (some ⟨py0, 0, none⟩) 1 [.slice apy0_0 xpy0_0.length cpy0_0] :: .row apy0_0 cpy0_0 (xpy0_0.map Value.bool) :: F)) (hp : F44.p lf x0 xpy0_0 = some r) : F44.Post py0 apy0_0 cpy0_0 xpy0_0 F ro r (F44.t (callW Tryd.prog ora) lf ro x0 py0 0 h) := by
  unfold F44.t
  unfold F44.p at hp
  refine st_letJ hp (fun j14p j14 => ∀ (b12 : Bool) (h_50 : Heap), Sat ro h_50 (.own ro (some ⟨py0, 0, none⟩) 1 [.slice apy0_0 xpy0_0.length cpy0_0] :: .row apy0_0 cpy0_0 (xpy0_0.map Value.bool) :: F) → j14p b12 = some r → F44.Post py0 apy0_0 cpy0_0 xpy0_0 F ro r (j14 b12 h_50)) ?_ ?_
  · intro b12 h_50 hs hp
    refine st_if (Q := F44.Post py0 apy0_0 cpy0_0 xpy0_0 F ro r) (fun hc_51 => ?_) (fun hc_51 => ?_)
    · replace hp := ifp_t hc_51 hp
      have hs_52 := hs.pull 1 rfl
      have hs_53 := hs_52.tail
      cases hp
      exact ⟨_, rfl, hs_53⟩
    · replace hp := ifp_f hc_51 hp
      have hs_54 := hs.pull 1 rfl
      have hs_55 := hs_54.tail
      cases hp
      exact ⟨_, rfl, hs_55⟩
  · intro j14p j14 hj14 hp
    refine st_load (Q := F44.Post py0 apy0_0 cpy0_0 xpy0_0 F ro r) isO hs agg24 rfl ?_
    refine st_slice (Q := F44.Post py0 apy0_0 cpy0_0 xpy0_0 F ro r) ?_
    refine st_if (Q := F44.Post py0 apy0_0 cpy0_0 xpy0_0 F ro r) (fun hc_43 => ?_) (fun hc_43 => ?_)
    · replace hp := ifp_t hc_43 hp
      have hs_44 := hs.pull 1 rfl
      have hs_45 := hs_44.pull 1 rfl
      exact hj14 true _ hs_45 hp
    · replace hp := ifp_f hc_43 hp
      refine st_load (Q := F44.Post py0 apy0_0 cpy0_0 xpy0_0 F ro r) isO hs agg24 rfl ?_
      refine st_slice (Q := F44.Post py0 apy0_0 cpy0_0 xpy0_0 F ro r) ?_
      have hs_48 := hs.pull 1 rfl
      obtain ⟨x_46, hx_47, hp⟩ := bindp_some hp
      refine st_idxR (Q := F44.Post py0 apy0_0 cpy0_0 xpy0_0 F ro r) (l := xpy0_0) (f := Value.bool) isO isO hs_48 und24 siz4 agg4 rfl hx_47 ?_
      refine st_bool (Q := F44.Post py0 apy0_0 cpy0_0 xpy0_0 F ro r) ?_
      have hs_49 := hs_48.pull 1 rfl
      exact hj14 x_46 _ hs_49 hp

theorem F44.ok {ora : Ora} (hora : HOra ora) {lf ro : Nat} {F : List Ent} {r : (Int)} {py0 : Nat} {apy0_0 : Option Addr} {cpy0_0 : Nat} {xpy0_0 : List Bool} (x0 : Int) (h : Heap) (hs : Sat ro h (.own ro (some ⟨py0, 0, none⟩) 1 [.slice apy0_0 xpy0_0.length cpy0_0] :: .row apy0_0 cpy0_0 (xpy0_0.map Value.bool) :: F)) (hp : F44.p lf x0 xpy0_0 = some r) : F44.Post py0 apy0_0 cpy0_0 xpy0_0 F ro r (callW Tryd.prog ora ro 44 [.int .i64 x0, .pointer (some ⟨py0, 0, none⟩)] h) := by
  have h1 := F44.t_ok hora x0 h hs hp
  have h2 : callW Tryd.prog ora ro 44 [.int .i64 x0, .pointer (some ⟨py0, 0, none⟩)] h = _ := callW_body (hora.none _ _ _ _ (by decide)) Tryd.func44 (F44.le (callW Tryd.prog ora) lf ro x0 py0 0 h) (F44.Post.ne h1)
  rw [h2]; exact h1

def F18.Post (F : List Ent) (ro : Nat) (r : (List Int × Int)) (x : Out) : Prop := ∃ a0 h', x = .ok (.tuple #[.slice a0 r.1.length r.1.length, .int .i64 r.2]) h' ∧ Sat ro h' (.own ro a0 1 (r.1.map (Value.int .i64)) :: F)
theorem F18.Post.ne {F : List Ent} {ro : Nat} {r : (List Int × Int)} {x : Out} (hx : F18.Post F ro r x) : x ≠ .fail := by
  obtain ⟨a0, h', rfl, _⟩ := hx
  simp

def F18.J15p (lf : Nat) (kb8p : Int → List Bool → List Int → Int → Option (List Int × Int)) (n43 : Int) (xp44_0 : List Bool) (xa46 : List Int) (n47 : Int) (n48 : Int) : Option (List Int × Int) :=
  letJ (fun (n94 : Int) (n95 : Int) => (
    bindp (appp 8 xa46 [n95]) fun x_108 =>
    kb8p n43 xp44_0 x_108 n94 : Option (List Int × Int))) fun j97p =>
  ifp (n48 == 0) (
    j97p (IntKind.i64.wrap (n47 + (IntKind.i64.wrap (n43 - 1)))) 1) (
    bindp (shlp .i64 1 (IntKind.i64.wrap (n43 - 1))) fun n_88 =>
    ifp (n48 == (IntKind.i64.wrap (n_88 - 1))) (
      j97p (IntKind.i64.wrap (n47 + (IntKind.i64.wrap (n43 - 1)))) (IntKind.i64.wrap (n48 * 2))) (
      bindp (F44.p lf (IntKind.i64.wrap (n47 + (IntKind.i64.wrap (n43 - 1)))) xp44_0) fun r_97 =>
      j97p (IntKind.i64.wrap ((IntKind.i64.wrap (n47 + (IntKind.i64.wrap (n43 - 1)))) + 1)) (IntKind.i64.wrap ((IntKind.i64.wrap (2 * n48)) + r_97))))

theorem F18.J15_ok {ora : Ora} (hora : HOra ora) {lf ro : Nat} {F : List Ent} {r : (List Int × Int)} {kb8p : Int → List Bool → List Int → Int → Option (List Int × Int)} {kb8 : Int → Nat → Nat → Nat → Nat → (Option Addr) → Nat → Nat → Int → Heap → Out} (hkb8 : ∀ (n16 : Int) (p17 : Nat) (ap17_0 : Option Addr) (cp17_0 : Nat) (xp17_0 : List Bool) (a19 : Option Addr) (xa19 : List Int) (n20 : Int) (h : Heap), Sat ro h (.own ro (some ⟨p17, 0, none⟩) 1 [.slice ap17_0 xp17_0.length cp17_0] :: .row ap17_0 cp17_0 (xp17_0.map Value.bool) :: .own ro a19 1 (xa19.map (Value.int .i64)) :: F) → kb8p n16 xp17_0 xa19 n20 = some r → F18.Post F ro r (kb8 n16 p17 0 p17 0 a19 xa19.length xa19.length n20 h)) (n43 : Int) (p44 : Nat) (ap44_0 : Option Addr) (cp44_0 : Nat) (xp44_0 : List Bool) (a46 : Option Addr) (xa46 : List Int) (n47 : Int) (n48 : Int) (h : Heap) (hs : Sat ro h (.own ro (some ⟨p44, 0, none⟩) 1 [.slice ap44_0 xp44_0.length cp44_0] :: .row ap44_0 cp44_0 (xp44_0.map Value.bool) :: .own ro a46 1 (xa46.map (Value.int .i64)) :: F)) (hp : F18.J15p lf kb8p n43 xp44_0 xa46 n47 n48 = some r) : F18.Post F ro r (F18.J15 (callW Tryd.prog ora) lf ro kb8 n43 p44 0 p44 0 a46 xa46.length xa46.length n47 n48 h) := by
  unfold F18.J15
  unfold F18.J15p at hp
  refine st_letJ hp (fun j97p j97 => ∀ (n94 : Int) (n95 : Int) (h_105 : Heap), Sat ro h_105 (.own ro (some ⟨p44, 0, none⟩) 1 [.slice ap44_0 xp44_0.length cp44_0] :: .row ap44_0 cp44_0 (xp44_0.map Value.bool) :: .own ro a46 1 (xa46.map (Value.int .i64)) :: F) → j97p n94 n95 = some r → F18.Post F ro r (j97 n94 n95 h_105)) ?_ ?_
  · intro n94 n95 h_105 hs hp
    refine st_pushJ (Q := F18.Post F ro r) hs hs.low rfl fun h_106 _ hs_107 => ?_
    have hs_113 := hs_107.pull 3 rfl
    obtain ⟨x_108, hx_109, hp⟩ := bindp_some hp
    refine st_appO (Q := F18.Post F ro r) isO (l := xa46) (x := [n95]) (f := (Value.int .i64)) hs_113 (fun _ => rfl) und35 und35 one3 rfl rfl rfl hx_109 fun a_110 h_111 hs_112 => ?_
    refine st_slice (Q := F18.Post F ro r) ?_
    have hs_114 := hs_112.pull 1 rfl
    have hs_115 := hs_114.tail
    have hs_116 := hs_115.pull 2 rfl
    have hs_117 := hs_116.pull 2 rfl
    exact hkb8 n43 p44 ap44_0 _ xp44_0 a_110 x_108 n94 _ hs_117 hp
  · intro j97p j97 hj97 hp
    refine st_if (Q := F18.Post F ro r) (fun hc_84 => ?_) (fun hc_84 => ?_)
    · replace hp := ifp_t hc_84 hp
      have hs_85 := hs.pull 2 rfl
      have hs_86 := hs_85.pull 2 rfl
      have hs_87 := hs_86.pull 2 rfl
      exact hj97 (IntKind.i64.wrap (n47 + (IntKind.i64.wrap (n43 - 1)))) 1 _ hs_87 hp
    · replace hp := ifp_f hc_84 hp
      obtain ⟨n_88, hx_89, hp⟩ := bindp_some hp
      refine st_shl (Q := F18.Post F ro r) isO hx_89 ?_
      refine st_int (Q := F18.Post F ro r) ?_
      refine st_if (Q := F18.Post F ro r) (fun hc_90 => ?_) (fun hc_90 => ?_)
      · replace hp := ifp_t hc_90 hp
        have hs_91 := hs.pull 2 rfl
        have hs_92 := hs_91.pull 2 rfl
        have hs_93 := hs_92.pull 2 rfl
        exact hj97 (IntKind.i64.wrap (n47 + (IntKind.i64.wrap (n43 - 1)))) (IntKind.i64.wrap (n48 * 2)) _ hs_93 hp
      · replace hp := ifp_f hc_90 hp
        have hs_94 := hs.pull 1 rfl
        have hs_95 := hs_94.dup
        have hs_96 := hs_95.pull 2 rfl
        obtain ⟨r_97, hx_98, hp⟩ := bindp_some hp
        obtain ⟨h_99, e_101, hs_100⟩ := F44.ok hora (ro := ro) (py0 := p44) (apy0_0 := ap44_0) (cpy0_0 := cp44_0) (xpy0_0 := xp44_0) (F := .row ap44_0 cp44_0 (xp44_0.map Value.bool) :: .own ro a46 1 (xa46.map (Value.int .i64)) :: F) (IntKind.i64.wrap (n47 + (IntKind.i64.wrap (n43 - 1)))) _ hs_96 hx_98
        refine st_ok (Q := F18.Post F ro r) isO e_101 ?_
        refine st_int (Q := F18.Post F ro r) ?_
        have hs_102 := hs_100.pull 2 rfl
        have hs_103 := hs_102.pull 2 rfl
        have hs_104 := hs_103.pull 2 rfl
        exact hj97 (IntKind.i64.wrap ((IntKind.i64.wrap (n47 + (IntKind.i64.wrap (n43 - 1)))) + 1)) (IntKind.i64.wrap ((IntKind.i64.wrap (2 * n48)) + r_97)) _ hs_104 hp

def F18.L11p (lf : Nat) (kb8p : Int → List Bool → List Int → Int → Option (List Int × Int)) : Nat → Int → List Bool → List Int → Int → Int → Int → Int → Option (List Int × Int)
  | 0, _, _, _, _, _, _, _ => none
  | n + 1, n34, xp35_0, xa37, n38, n39, n40, n41 =>
  ifp (decide (n41 < n40)) (
    bindp (F44.p lf (IntKind.i64.wrap (n38 + n41)) xp35_0) fun r_76 =>
    F18.L11p lf kb8p n n34 xp35_0 xa37 n38 (IntKind.i64.wrap ((IntKind.i64.wrap (2 * n39)) + r_76)) n40 (IntKind.i64.wrap (n41 + 1))) (
    F18.J15p lf kb8p n34 xp35_0 xa37 n38 n39)

theorem F18.L11_ok {ora : Ora} (hora : HOra ora) {lf ro : Nat} {F : List Ent} {r : (List Int × Int)} {kb8p : Int → List Bool → List Int → Int → Option (List Int × Int)} {kb8 : Int → Nat → Nat → Nat → Nat → (Option Addr) → Nat → Nat → Int → Heap → Out} (hkb8 : ∀ (n16 : Int) (p17 : Nat) (ap17_0 : Option Addr) (cp17_0 : Nat) (xp17_0 : List Bool) (a19 : Option Addr) (xa19 : List Int) (n20 : Int) (h : Heap), Sat ro h (.own ro (some ⟨p17, 0, none⟩) 1 [.slice ap17_0 xp17_0.length cp17_0] :: .row ap17_0 cp17_0 (xp17_0.map Value.bool) :: .own ro a19 1 (xa19.map (Value.int .i64)) :: F) → kb8p n16 xp17_0 xa19 n20 = some r → F18.Post F ro r (kb8 n16 p17 0 p17 0 a19 xa19.length xa19.length n20 h)) : ∀ (n : Nat) (n34 : Int) (p35 : Nat) (ap35_0 : Option Addr) (cp35_0 : Nat) (xp35_0 : List Bool) (a37 : Option Addr) (xa37 : List Int) (n38 : Int) (n39 : Int) (n40 : Int) (n41 : Int) (h : Heap), Sat ro h (.own ro (some ⟨p35, 0, none⟩) 1 [.slice ap35_0 xp35_0.length cp35_0] :: .row ap35_0 cp35_0 (xp35_0.map Value.bool) :: .own ro a37 1 (xa37.map (Value.int .i64)) :: F) → F18.L11p lf kb8p n n34 xp35_0 xa37 n38 n39 n40 n41 = some r → F18.Post F ro r (F18.L11 (callW Tryd.prog ora) lf ro kb8 n n34 p35 0 p35 0 a37 xa37.length xa37.length n38 n39 n40 n41 h) := by
  intro n
  induction n with
  | zero => intro n34 p35 ap35_0 cp35_0 xp35_0 a37 xa37 n38 n39 n40 n41 h hs hp; cases hp
  | succ n ih =>
    intro n34 p35 ap35_0 cp35_0 xp35_0 a37 xa37 n38 n39 n40 n41 h hs hp
    unfold F18.L11
    unfold F18.L11p at hp
    refine st_if (Q := F18.Post F ro r) (fun hc_72 => ?_) (fun hc_72 => ?_)
    · replace hp := ifp_t hc_72 hp
      have hs_73 := hs.pull 1 rfl
      have hs_74 := hs_73.dup
      have hs_75 := hs_74.pull 2 rfl
      obtain ⟨r_76, hx_77, hp⟩ := bindp_some hp
      obtain ⟨h_78, e_80, hs_79⟩ := F44.ok hora (ro := ro) (py0 := p35) (apy0_0 := ap35_0) (cpy0_0 := cp35_0) (xpy0_0 := xp35_0) (F := .row ap35_0 cp35_0 (xp35_0.map Value.bool) :: .own ro a37 1 (xa37.map (Value.int .i64)) :: F) (IntKind.i64.wrap (n38 + n41)) _ hs_75 hx_77
      refine st_ok (Q := F18.Post F ro r) isO e_80 ?_
      refine st_int (Q := F18.Post F ro r) ?_
      have hs_81 := hs_79.pull 2 rfl
      have hs_82 := hs_81.pull 2 rfl
      have hs_83 := hs_82.pull 2 rfl
      exact ih n34 p35 ap35_0 _ xp35_0 a37 xa37 n38 (IntKind.i64.wrap ((IntKind.i64.wrap (2 * n39)) + r_76)) n40 (IntKind.i64.wrap (n41 + 1)) _ hs_83 hp
    · replace hp := ifp_f hc_72 hp
      have hs_118 := hs.pull 2 rfl
      have hs_119 := hs_118.pull 2 rfl
      have hs_120 := hs_119.pull 2 rfl
      exact F18.J15_ok hora hkb8 n34 p35 ap35_0 _ xp35_0 a37 xa37 n38 n39 _ hs_120 hp

def F18.J9p (lf : Nat) (kb8p : Int → List Bool → List Int → Int → Option (List Int × Int)) (n28 : Int) (xp29_0 : List Bool) (xa31 : List Int) (n32 : Int) : Option (List Int × Int) :=
  F18.L11p lf kb8p lf n28 xp29_0 xa31 n32 0 (IntKind.i64.wrap (n28 - 1)) 0

theorem F18.J9_ok {ora : Ora} (hora : HOra ora) {lf ro : Nat} {F : List Ent} {r : (List Int × Int)} {kb8p : Int → List Bool → List Int → Int → Option (List Int × Int)} {kb8 : Int → Nat → Nat → Nat → Nat → (Option Addr) → Nat → Nat → Int → Heap → Out} (hkb8 : ∀ (n16 : Int) (p17 : Nat) (ap17_0 : Option Addr) (cp17_0 : Nat) (xp17_0 : List Bool) (a19 : Option Addr) (xa19 : List Int) (n20 : Int) (h : Heap), Sat ro h (.own ro (some ⟨p17, 0, none⟩) 1 [.slice ap17_0 xp17_0.length cp17_0] :: .row ap17_0 cp17_0 (xp17_0.map Value.bool) :: .own ro a19 1 (xa19.map (Value.int .i64)) :: F) → kb8p n16 xp17_0 xa19 n20 = some r → F18.Post F ro r (kb8 n16 p17 0 p17 0 a19 xa19.length xa19.length n20 h)) (n28 : Int) (p29 : Nat) (ap29_0 : Option Addr) (cp29_0 : Nat) (xp29_0 : List Bool) (a31 : Option Addr) (xa31 : List Int) (n32 : Int) (h : Heap) (hs : Sat ro h (.own ro (some ⟨p29, 0, none⟩) 1 [.slice ap29_0 xp29_0.length cp29_0] :: .row ap29_0 cp29_0 (xp29_0.map Value.bool) :: .own ro a31 1 (xa31.map (Value.int .i64)) :: F)) (hp : F18.J9p lf kb8p n28 xp29_0 xa31 n32 = some r) : F18.Post F ro r (F18.J9 (callW Tryd.prog ora) lf ro kb8 n28 p29 0 p29 0 a31 xa31.length xa31.length n32 h) := by
  unfold F18.J9
  unfold F18.J9p at hp
  have hs_121 := hs.pull 2 rfl
  have hs_122 := hs_121.pull 2 rfl
  have hs_123 := hs_122.pull 2 rfl
  exact F18.L11_ok hora hkb8 lf n28 p29 ap29_0 _ xp29_0 a31 xa31 n32 0 (IntKind.i64.wrap (n28 - 1)) 0 _ hs_123 hp

def F18.L8p (lf : Nat) : Nat → Int → List Bool → List Int → Int → Option (List Int × Int)
  | 0, _, _, _, _ => none
  | n + 1, n16, xp17_0, xa19, n20 =>
  ifp (decide (n20 < (xp17_0.length : Int))) (
    F18.J9p lf (F18.L8p lf n) n16 xp17_0 xa19 n20) (
    some (xa19, 0))

theorem F18.L8_ok {ora : Ora} (hora : HOra ora) {lf ro : Nat} {F : List Ent} {r : (List Int × Int)} : ∀ (n : Nat) (n16 : Int) (p17 : Nat) (ap17_0 : Option Addr) (cp17_0 : Nat) (xp17_0 : List Bool) (a19 : Option Addr) (xa19 : List Int) (n20 : Int) (h : Heap), Sat ro h (.own ro (some ⟨p17, 0, none⟩) 1 [.slice ap17_0 xp17_0.length cp17_0] :: .row ap17_0 cp17_0 (xp17_0.map Value.bool) :: .own ro a19 1 (xa19.map (Value.int .i64)) :: F) → F18.L8p lf n n16 xp17_0 xa19 n20 = some r → F18.Post F ro r (F18.L8 (callW Tryd.prog ora) lf ro n n16 p17 0 p17 0 a19 xa19.length xa19.length n20 h) := by
  intro n
  induction n with
  | zero => intro n16 p17 ap17_0 cp17_0 xp17_0 a19 xa19 n20 h hs hp; cases hp
  | succ n ih =>
    intro n16 p17 ap17_0 cp17_0 xp17_0 a19 xa19 n20 h hs hp
    unfold F18.L8
    unfold F18.L8p at hp
    refine st_load (Q := F18.Post F ro r) isO hs agg24 rfl ?_
    refine st_slice (Q := F18.Post F ro r) ?_
    refine st_if (Q := F18.Post F ro r) (fun hc_71 => ?_) (fun hc_71 => ?_)
    · replace hp := ifp_t hc_71 hp
      have hs_124 := hs.pull 2 rfl
      have hs_125 := hs_124.pull 2 rfl
      have hs_126 := hs_125.pull 2 rfl
      exact F18.J9_ok hora ih n16 p17 ap17_0 _ xp17_0 a19 xa19 n20 _ hs_126 hp
    · replace hp := ifp_f hc_71 hp
      have hs_127 := hs.tail
      have hs_128 := hs_127.tail
      cases hp
      exact ⟨a19, _, rfl, hs_128⟩

def F18.J5p (lf : Nat) (n13 : Int) (xp14_0 : List Bool) : Option (List Int × Int) :=
  F18.L8p lf lf n13 xp14_0 [] 0

theorem F18.J5_ok {ora : Ora} (hora : HOra ora) {lf ro : Nat} {F : List Ent} {r : (List Int × Int)} (n13 : Int) (p14 : Nat) (ap14_0 : Option Addr) (cp14_0 : Nat) (xp14_0 : List Bool) (h : Heap) (hs : Sat ro h (.own ro (some ⟨p14, 0, none⟩) 1 [.slice ap14_0 xp14_0.length cp14_0] :: .row ap14_0 cp14_0 (xp14_0.map Value.bool) :: F)) (hp : F18.J5p lf n13 xp14_0 = some r) : F18.Post F ro r (F18.J5 (callW Tryd.prog ora) lf ro n13 p14 0 h) := by
  unfold F18.J5
  unfold F18.J5p at hp
  have hs_129 := hs.nilOwn ro 1
  have hs_130 := hs_129.pull 2 rfl
  have hs_131 := hs_130.pull 2 rfl
  exact F18.L8_ok hora lf n13 p14 ap14_0 _ xp14_0 none [] 0 _ hs_131 hp

def F18.J2p (lf : Nat) (n3 : Int) (xp4_0 : List Bool) (b5 : Bool) : Option (List Int × Int) :=
  ifp b5 (
    some ([], 3)) (
    ifp (decide ((xp4_0.length : Int) > 1048576)) (
      some ([], 4)) (
      F18.J5p lf n3 xp4_0))

theorem F18.J2_ok {ora : Ora} (hora : HOra ora) {lf ro : Nat} {F : List Ent} {r : (List Int × Int)} (n3 : Int) (p4 : Nat) (ap4_0 : Option Addr) (cp4_0 : Nat) (xp4_0 : List Bool) (b5 : Bool) (h : Heap) (hs : Sat ro h (.own ro (some ⟨p4, 0, none⟩) 1 [.slice ap4_0 xp4_0.length cp4_0] :: .row ap4_0 cp4_0 (xp4_0.map Value.bool) :: F)) (hp : F18.J2p lf n3 xp4_0 b5 = some r) : F18.Post F ro r (F18.J2 (callW Tryd.prog ora) lf ro n3 p4 0 b5 h) := by
  unfold F18.J2
  unfold F18.J2p at hp
  refine st_if (Q := F18.Post F ro r) (fun hc_59 => ?_) (fun hc_59 => ?_)
  · replace hp := ifp_t hc_59 hp
    have hs_60 := hs.nilOwn ro 1
    have hs_61 := hs_60.pull 1 rfl
    have hs_62 := hs_61.tail
    have hs_63 := hs_62.pull 1 rfl
    have hs_64 := hs_63.tail
    cases hp
    exact ⟨none, _, rfl, hs_64⟩
  · replace hp := ifp_f hc_59 hp
    refine st_load (Q := F18.Post F ro r) isO hs agg24 rfl ?_
    refine st_slice (Q := F18.Post F ro r) ?_
    refine st_if (Q := F18.Post F ro r) (fun hc_65 => ?_) (fun hc_65 => ?_)
    · replace hp := ifp_t hc_65 hp
      have hs_66 := hs.nilOwn ro 1
      have hs_67 := hs_66.pull 1 rfl
      have hs_68 := hs_67.tail
      have hs_69 := hs_68.pull 1 rfl
      have hs_70 := hs_69.tail
      cases hp
      exact ⟨none, _, rfl, hs_70⟩
    · replace hp := ifp_f hc_65 hp
      have hs_132 := hs.pull 1 rfl
      have hs_133 := hs_132.pull 1 rfl
      exact F18.J5_ok hora n3 p4 ap4_0 _ xp4_0 _ hs_133 hp

def F18.p (lf : Nat) (xax0 : List Bool) (x1 : Int) : Option (List Int × Int) :=
  ifp (decide (x1 < 2)) (
    F18.J2p lf x1 xax0 true) (
    F18.J2p lf x1 xax0 (decide (x1 > 12)))

theorem F18.t_ok {ora : Ora} (hora : HOra ora) {lf ro : Nat} {F : List Ent} {r : (List Int × Int)} (ax0 : Option Addr) (cx0 : Nat) (xax0 : List Bool) (x1 : Int) (h : Heap) (hs : Sat ro h (.row ax0 cx0 (xax0.map Value.bool) :: F)) (hp : F18.p lf xax0 x1 = some r) : F18.Post F ro r (F18.t (callW Tryd.prog ora) lf ro ax0 xax0.length cx0 x1 h) := by
  unfold F18.t
  unfold F18.p at hp
  refine st_pushJ (Q := F18.Post F ro r) hs hs.low rfl fun h_56 _ hs_57 => ?_
  refine st_if (Q := F18.Post F ro r) (fun hc_58 => ?_) (fun hc_58 => ?_)
  · replace hp := ifp_t hc_58 hp
    have hs_134 := hs_57.pull 1 rfl
    have hs_135 := hs_134.pull 1 rfl
    exact F18.J2_ok hora x1 h.next ax0 _ xax0 true _ hs_135 hp
  · replace hp := ifp_f hc_58 hp
    have hs_136 := hs_57.pull 1 rfl
    have hs_137 := hs_136.pull 1 rfl
    exact F18.J2_ok hora x1 h.next ax0 _ xax0 (decide (x1 > 12)) _ hs_137 hp

theorem F18.ok {ora : Ora} (hora : HOra ora) {lf ro : Nat} {F : List Ent} {r : (List Int × Int)} (ax0 : Option Addr) (cx0 : Nat) (xax0 : List Bool) (x1 : Int) (h : Heap) (hs : Sat ro h (.row ax0 cx0 (xax0.map Value.bool) :: F)) (hp : F18.p lf xax0 x1 = some r) : F18.Post F ro r (callW Tryd.prog ora ro 18 [.slice ax0 xax0.length cx0, .int .i64 x1] h) := by
  have h1 := F18.t_ok hora ax0 cx0 xax0 x1 h hs hp
  have h2 : callW Tryd.prog ora ro 18 [.slice ax0 xax0.length cx0, .int .i64 x1] h = _ := callW_body (hora.none _ _ _ _ (by decide)) Tryd.func18 (F18.le (callW Tryd.prog ora) lf ro ax0 xax0.length cx0 x1 h) (F18.Post.ne h1)
  rw [h2]; exact h1

def F46.Post (py0 : Nat) (F : List Ent) (ro : Nat) (r : (Bool × Int)) (x : Out) : Prop := ∃ h', x = .ok (.bool r.1) h' ∧ Sat ro h' (.own ro (some ⟨py0, 0, none⟩) 1 [.int .i64 r.2] :: F)
theorem F46.Post.ne {py0 : Nat} {F : List Ent} {ro : Nat} {r : (Bool × Int)} {x : Out} (hx : F46.Post py0 F ro r x) : x ≠ .fail := by
  obtain ⟨h', rfl, _⟩ := hx
  simp

def F46.p (lf : Nat) (x0 : Int) (mpy0_0 : Int) : Option (Bool × Int) :=
  letJ (fun (b7 : Bool) => (
    some (b7, mpy0_0) : Option (Bool × Int))) fun j9p =>
  ifp (decide (x0 < 0)) (
    j9p true) (
    bindp (shlp .i64 1 mpy0_0) fun n_139 =>
    j9p (decide (x0 ≥ n_139)))

theorem F46.t_ok {ora : Ora} (hora : HOra ora) {lf ro : Nat} {F : List Ent} {r : (Bool × Int)} {py0 : Nat} (x0 : Int) (mpy0_0 : Int) (h : Heap) (hs : Sat ro h (.own ro (some ⟨py0, 0, none⟩) 1 [.int .i64 mpy0_0] :: F)) (hp : F46.p lf x0 mpy0_0 = some r) : F46.Post py0 F ro r (F46.t (callW Tryd.prog ora) lf ro x0 py0 0 h) := by
  unfold F46.t
  unfold F46.p at hp
  refine st_letJ hp (fun j9p j9 => ∀ (b7 : Bool) (h_141 : Heap), Sat ro h_141 (.own ro (some ⟨py0, 0, none⟩) 1 [.int .i64 mpy0_0] :: F) → j9p b7 = some r → F46.Post py0 F ro r (j9 b7 h_141)) ?_ ?_
  · intro b7 h_141 hs hp
    cases hp
    exact ⟨_, rfl, hs⟩
  · intro j9p j9 hj9 hp
    refine st_if (Q := F46.Post py0 F ro r) (fun hc_138 => ?_) (fun hc_138 => ?_)
    · replace hp := ifp_t hc_138 hp
      exact hj9 true _ hs hp
    · replace hp := ifp_f hc_138 hp
      refine st_load (Q := F46.Post py0 F ro r) isO hs agg3 rfl ?_
      refine st_int (Q := F46.Post py0 F ro r) ?_
      obtain ⟨n_139, hx_140, hp⟩ := bindp_some hp
      refine st_shl (Q := F46.Post py0 F ro r) isO hx_140 ?_
      refine st_int (Q := F46.Post py0 F ro r) ?_
      exact hj9 (decide (x0 ≥ n_139)) _ hs hp

theorem F46.ok {ora : Ora} (hora : HOra ora) {lf ro : Nat} {F : List Ent} {r : (Bool × Int)} {py0 : Nat} (x0 : Int) (mpy0_0 : Int) (h : Heap) (hs : Sat ro h (.own ro (some ⟨py0, 0, none⟩) 1 [.int .i64 mpy0_0] :: F)) (hp : F46.p lf x0 mpy0_0 = some r) : F46.Post py0 F ro r (callW Tryd.prog ora ro 46 [.int .i64 x0, .pointer (some ⟨py0, 0, none⟩)] h) := by
  have h1 := F46.t_ok hora x0 mpy0_0 h hs hp
  have h2 : callW Tryd.prog ora ro 46 [.int .i64 x0, .pointer (some ⟨py0, 0, none⟩)] h = _ := callW_body (hora.none _ _ _ _ (by decide)) Tryd.func46 (F46.le (callW Tryd.prog ora) lf ro x0 py0 0 h) (F46.Post.ne h1)
  rw [h2]; exact h1

def F69.Post (px1_0 : Nat) (F : List Ent) (ro : Nat) (r : (Int × Int)) (x : Out) : Prop := ∃ h', x = .ok (.int .i64 r.1) h' ∧ Sat ro h' (.own ro (some ⟨px1_0, 0, none⟩) 1 [.int .i64 r.2] :: F)
theorem F69.Post.ne {px1_0 : Nat} {F : List Ent} {ro : Nat} {r : (Int × Int)} {x : Out} (hx : F69.Post px1_0 F ro r x) : x ≠ .fail := by
  obtain ⟨h', rfl, _⟩ := hx
  simp

def F69.J3p (lf : Nat) (kb2p : List Int → Int → Int → Int → Option (Int × Int)) (xa6 : List Int) (mpx1_0_0 : Int) (n8 : Int) (n9 : Int) : Option (Int × Int) :=
  bindp (idxp xa6 n9) fun x_143 =>
  bindp (F46.p lf x_143 mpx1_0_0) fun r_146 =>
  ifp r_146.1 (
    some (n9, r_146.2)) (
    kb2p xa6 r_146.2 n8 (IntKind.i64.wrap (n9 + 1)))

theorem F69.J3_ok {ora : Ora} (hora : HOra ora) {lf ro : Nat} {F : List Ent} {r : (Int × Int)} {px1_0 : Nat} {kb2p : List Int → Int → Int → Int → Option (Int × Int)} {kb2 : (Option Addr) → Nat → Nat → Nat → Nat → Int → Int → Heap → Out} (hkb2 : ∀ (a1 : Option Addr) (c1 : Nat) (xa1 : List Int) (mpx1_0_0 : Int) (n3 : Int) (n4 : Int) (h : Heap), Sat ro h (.row a1 c1 (xa1.map (Value.int .i64)) :: .own ro (some ⟨px1_0, 0, none⟩) 1 [.int .i64 mpx1_0_0] :: F) → kb2p xa1 mpx1_0_0 n3 n4 = some r → F69.Post px1_0 F ro r (kb2 a1 xa1.length c1 px1_0 0 n3 n4 h)) (a6 : Option Addr) (c6 : Nat) (xa6 : List Int) (mpx1_0_0 : Int) (n8 : Int) (n9 : Int) (h : Heap) (hs : Sat ro h (.row a6 c6 (xa6.map (Value.int .i64)) :: .own ro (some ⟨px1_0, 0, none⟩) 1 [.int .i64 mpx1_0_0] :: F)) (hp : F69.J3p lf kb2p xa6 mpx1_0_0 n8 n9 = some r) : F69.Post px1_0 F ro r (F69.J3 (callW Tryd.prog ora) lf ro kb2 a6 xa6.length c6 px1_0 0 n8 n9 h) := by
  unfold F69.J3
  unfold F69.J3p at hp
  obtain ⟨x_143, hx_144, hp⟩ := bindp_some hp
  refine st_idxR (Q := F69.Post px1_0 F ro r) (l := xa6) (f := (Value.int .i64)) isO isO hs und35 siz3 agg3 rfl hx_144 ?_
  refine st_int (Q := F69.Post px1_0 F ro r) ?_
  have hs_145 := hs.pull 1 rfl
  obtain ⟨r_146, hx_147, hp⟩ := bindp_some hp
  obtain ⟨h_148, e_150, hs_149⟩ := F46.ok hora (ro := ro) (py0 := px1_0) (F := .row a6 c6 (xa6.map (Value.int .i64)) :: F) x_143 mpx1_0_0 _ hs_145 hx_147
  refine st_ok (Q := F69.Post px1_0 F ro r) isO e_150 ?_
  refine st_bool (Q := F69.Post px1_0 F ro r) ?_
  refine st_if (Q := F69.Post px1_0 F ro r) (fun hc_151 => ?_) (fun hc_151 => ?_)
  · replace hp := ifp_t hc_151 hp
    have hs_152 := hs_149.pull 1 rfl
    have hs_153 := hs_152.tail
    cases hp
    exact ⟨_, rfl, hs_153⟩
  · replace hp := ifp_f hc_151 hp
    have hs_154 := hs_149.pull 1 rfl
    exact hkb2 a6 _ xa6 r_146.2 n8 (IntKind.i64.wrap (n9 + 1)) _ hs_154 hp

def F69.L2p (lf : Nat) : Nat → List Int → Int → Int → Int → Option (Int × Int)
  | 0, _, _, _, _ => none
  | n + 1, xa1, mpx1_0_0, n3, n4 =>
  ifp (decide (n4 < n3)) (
    F69.J3p lf (F69.L2p lf n) xa1 mpx1_0_0 n3 n4) (
    some (-1, mpx1_0_0))

theorem F69.L2_ok {ora : Ora} (hora : HOra ora) {lf ro : Nat} {F : List Ent} {r : (Int × Int)} {px1_0 : Nat} : ∀ (n : Nat) (a1 : Option Addr) (c1 : Nat) (xa1 : List Int) (mpx1_0_0 : Int) (n3 : Int) (n4 : Int) (h : Heap), Sat ro h (.row a1 c1 (xa1.map (Value.int .i64)) :: .own ro (some ⟨px1_0, 0, none⟩) 1 [.int .i64 mpx1_0_0] :: F) → F69.L2p lf n xa1 mpx1_0_0 n3 n4 = some r → F69.Post px1_0 F ro r (F69.L2 (callW Tryd.prog ora) lf ro n a1 xa1.length c1 px1_0 0 n3 n4 h) := by
  intro n
  induction n with
  | zero => intro a1 c1 xa1 mpx1_0_0 n3 n4 h hs hp; cases hp
  | succ n ih =>
    intro a1 c1 xa1 mpx1_0_0 n3 n4 h hs hp
    unfold F69.L2
    unfold F69.L2p at hp
    refine st_if (Q := F69.Post px1_0 F ro r) (fun hc_142 => ?_) (fun hc_142 => ?_)
    · replace hp := ifp_t hc_142 hp
      have hs_155 := hs.pull 1 rfl
      have hs_156 := hs_155.pull 1 rfl
      exact F69.J3_ok hora ih a1 _ xa1 mpx1_0_0 n3 n4 _ hs_156 hp
    · replace hp := ifp_f hc_142 hp
      have hs_157 := hs.tail
      cases hp
      exact ⟨_, rfl, hs_157⟩

def F69.p (lf : Nat) (xax0 : List Int) (mpx1_0_0 : Int) : Option (Int × Int) :=
  F69.L2p lf lf xax0 mpx1_0_0 (xax0.length : Int) 0

theorem F69.t_ok {ora : Ora} (hora : HOra ora) {lf ro : Nat} {F : List Ent} {r : (Int × Int)} {px1_0 : Nat} (ax0 : Option Addr) (cx0 : Nat) (xax0 : List Int) (mpx1_0_0 : Int) (h : Heap) (hs : Sat ro h (.row ax0 cx0 (xax0.map (Value.int .i64)) :: .own ro (some ⟨px1_0, 0, none⟩) 1 [.int .i64 mpx1_0_0] :: F)) (hp : F69.p lf xax0 mpx1_0_0 = some r) : F69.Post px1_0 F ro r (F69.t (callW Tryd.prog ora) lf ro ax0 xax0.length cx0 px1_0 0 h) := by
  unfold F69.t
  unfold F69.p at hp
  have hs_158 := hs.pull 1 rfl
  have hs_159 := hs_158.pull 1 rfl
  exact F69.L2_ok hora lf ax0 _ xax0 mpx1_0_0 (xax0.length : Int) 0 _ hs_159 hp

theorem F69.ok {ora : Ora} (hora : HOra ora) {lf ro : Nat} {F : List Ent} {r : (Int × Int)} {px1_0 : Nat} (ax0 : Option Addr) (cx0 : Nat) (xax0 : List Int) (mpx1_0_0 : Int) (h : Heap) (hs : Sat ro h (.row ax0 cx0 (xax0.map (Value.int .i64)) :: .own ro (some ⟨px1_0, 0, none⟩) 1 [.int .i64 mpx1_0_0] :: F)) (hp : F69.p lf xax0 mpx1_0_0 = some r) : F69.Post px1_0 F ro r (callW Tryd.prog ora ro 69 [.slice ax0 xax0.length cx0, .func (.func 46) #[] #[.pointer (some ⟨px1_0, 0, none⟩)]] h) := by
  have h1 := F69.t_ok hora ax0 cx0 xax0 mpx1_0_0 h hs hp
  have h2 : callW Tryd.prog ora ro 69 [.slice ax0 xax0.length cx0, .func (.func 46) #[] #[.pointer (some ⟨px1_0, 0, none⟩)]] h = _ := callW_body (hora.none _ _ _ _ (by decide)) Tryd.func69 (F69.le (callW Tryd.prog ora) lf ro ax0 xax0.length cx0 px1_0 0 h) (F69.Post.ne h1)
  rw [h2]; exact h1

def F45.Post (px1_0 : Nat) (F : List Ent) (ro : Nat) (r : (Bool × Int)) (x : Out) : Prop := ∃ h', x = .ok (.bool r.1) h' ∧ Sat ro h' (.own ro (some ⟨px1_0, 0, none⟩) 1 [.int .i64 r.2] :: F)
theorem F45.Post.ne {px1_0 : Nat} {F : List Ent} {ro : Nat} {r : (Bool × Int)} {x : Out} (hx : F45.Post px1_0 F ro r x) : x ≠ .fail := by
  obtain ⟨h', rfl, _⟩ := hx
  simp

def F45.p (lf : Nat) (xax0 : List Int) (mpx1_0_0 : Int) : Option (Bool × Int) :=
  bindp (F69.p lf xax0 mpx1_0_0) fun r_163 =>
  some (decide (r_163.1 ≥ 0), r_163.2)

theorem F45.t_ok {ora : Ora} (hora : HOra ora) {lf ro : Nat} {F : List Ent} {r : (Bool × Int)} {px1_0 : Nat} (ax0 : Option Addr) (cx0 : Nat) (xax0 : List Int) (mpx1_0_0 : Int) (h : Heap) (hs : Sat ro h (.row ax0 cx0 (xax0.map (Value.int .i64)) :: .own ro (some ⟨px1_0, 0, none⟩) 1 [.int .i64 mpx1_0_0] :: F)) (hp : F45.p lf xax0 mpx1_0_0 = some r) : F45.Post px1_0 F ro r (F45.t (callW Tryd.prog ora) lf ro ax0 xax0.length cx0 px1_0 0 h) := by
  unfold F45.t
  unfold F45.p at hp
  have hs_160 := hs.dup
  have hs_161 := hs_160.pull 2 rfl
  have hs_162 := hs_161.pull 1 rfl
  obtain ⟨r_163, hx_164, hp⟩ := bindp_some hp
  obtain ⟨h_165, e_167, hs_166⟩ := F69.ok hora (ro := ro) (px1_0 := px1_0) (F := .row ax0 cx0 (xax0.map (Value.int .i64)) :: F) ax0 cx0 xax0 mpx1_0_0 _ hs_162 hx_164
  refine st_ok (Q := F45.Post px1_0 F ro r) isO e_167 ?_
  refine st_int (Q := F45.Post px1_0 F ro r) ?_
  have hs_168 := hs_166.pull 1 rfl
  have hs_169 := hs_168.tail
  cases hp
  exact ⟨_, rfl, hs_169⟩

theorem F45.ok {ora : Ora} (hora : HOra ora) {lf ro : Nat} {F : List Ent} {r : (Bool × Int)} {px1_0 : Nat} (ax0 : Option Addr) (cx0 : Nat) (xax0 : List Int) (mpx1_0_0 : Int) (h : Heap) (hs : Sat ro h (.row ax0 cx0 (xax0.map (Value.int .i64)) :: .own ro (some ⟨px1_0, 0, none⟩) 1 [.int .i64 mpx1_0_0] :: F)) (hp : F45.p lf xax0 mpx1_0_0 = some r) : F45.Post px1_0 F ro r (callW Tryd.prog ora ro 45 [.slice ax0 xax0.length cx0, .func (.func 46) #[] #[.pointer (some ⟨px1_0, 0, none⟩)]] h) := by
  have h1 := F45.t_ok hora ax0 cx0 xax0 mpx1_0_0 h hs hp
  have h2 : callW Tryd.prog ora ro 45 [.slice ax0 xax0.length cx0, .func (.func 46) #[] #[.pointer (some ⟨px1_0, 0, none⟩)]] h = _ := callW_body (hora.none _ _ _ _ (by decide)) Tryd.func45 (F45.le (callW Tryd.prog ora) lf ro ax0 xax0.length cx0 px1_0 0 h) (F45.Post.ne h1)
  rw [h2]; exact h1

def F20.Post (F : List Ent) (ro : Nat) (r : (List Bool × Int)) (x : Out) : Prop := ∃ a0 h', x = .ok (.tuple #[.slice a0 r.1.length r.1.length, .int .i64 r.2]) h' ∧ Sat ro h' (.own ro a0 1 (r.1.map Value.bool) :: F)
theorem F20.Post.ne {F : List Ent} {ro : Nat} {r : (List Bool × Int)} {x : Out} (hx : F20.Post F ro r x) : x ≠ .fail := by
  obtain ⟨a0, h', rfl, _⟩ := hx
  simp

def F20.L15p (lf : Nat) (kb7p : Int → List Bool → List Int → Int → Int → Option (List Bool × Int)) : Nat → Int → List Bool → Int → Int → Int → List Int → Int → Int → Option (List Bool × Int)
  | 0, _, _, _, _, _, _, _, _ => none
  | n + 1, mp94_0, xa95, n96, n97, n98, xa99, n100, n101 =>
  letJ ((
    kb7p mp94_0 xa95 xa99 n100 (IntKind.i64.wrap (n101 + 1)) : Option (List Bool × Int))) fun j253p =>
  ifp (decide (n98 ≥ n97)) (
    bindp (shrp .i64 n96 n98) fun n_240 =>
    bindp (appp 1 xa95 [(bAnd .i64 n_240 1) == 1]) fun x_244 =>
    F20.L15p lf kb7p n mp94_0 x_244 n96 n97 (IntKind.i64.wrap (n98 - 1)) xa99 n100 n101) (
    j253p)

theorem F20.L15_ok {ora : Ora} (hora : HOra ora) {lf ro : Nat} {F : List Ent} {r : (List Bool × Int)} {kb7p : Int → List Bool → List Int → Int → Int → Option (List Bool × Int)} {kb7 : Nat → Nat → (Option Addr) → Nat → Nat → (Option Addr) → Nat → Nat → Int → Int → Heap → Out} (hkb7 : ∀ (p33 : Nat) (mp33_0 : Int) (a34 : Option Addr) (xa34 : List Bool) (a35 : Option Addr) (c35 : Nat) (xa35 : List Int) (n36 : Int) (n37 : Int) (h : Heap), Sat ro h (.own ro (some ⟨p33, 0, none⟩) 1 [.int .i64 mp33_0] :: .own ro a34 1 (xa34.map Value.bool) :: .row a35 c35 (xa35.map (Value.int .i64)) :: F) → kb7p mp33_0 xa34 xa35 n36 n37 = some r → F20.Post F ro r (kb7 p33 0 a34 xa34.length xa34.length a35 xa35.length c35 n36 n37 h)) : ∀ (n : Nat) (p94 : Nat) (mp94_0 : Int) (a95 : Option Addr) (xa95 : List Bool) (n96 : Int) (n97 : Int) (n98 : Int) (a99 : Option Addr) (c99 : Nat) (xa99 : List Int) (n100 : Int) (n101 : Int) (h : Heap), Sat ro h (.own ro (some ⟨p94, 0, none⟩) 1 [.int .i64 mp94_0] :: .own ro a95 1 (xa95.map Value.bool) :: .row a99 c99 (xa99.map (Value.int .i64)) :: F) → F20.L15p lf kb7p n mp94_0 xa95 n96 n97 n98 xa99 n100 n101 = some r → F20.Post F ro r (F20.L15 (callW Tryd.prog ora) lf ro kb7 n p94 0 a95 xa95.length xa95.length n96 n97 n98 a99 xa99.length c99 n100 n101 h) := by
  intro n
  induction n with
  | zero => intro p94 mp94_0 a95 xa95 n96 n97 n98 a99 c99 xa99 n100 n101 h hs hp; cases hp
  | succ n ih =>
    intro p94 mp94_0 a95 xa95 n96 n97 n98 a99 c99 xa99 n100 n101 h hs hp
    unfold F20.L15
    unfold F20.L15p at hp
    refine st_letJ hp (fun j253p j253 => Sat ro h (.own ro (some ⟨p94, 0, none⟩) 1 [.int .i64 mp94_0] :: .own ro a95 1 (xa95.map Value.bool) :: .row a99 c99 (xa99.map (Value.int .i64)) :: F) → j253p = some r → F20.Post F ro r (j253)) ?_ ?_
    · intro  hs hp
      have hs_259 := hs.pull 2 rfl
      have hs_260 := hs_259.pull 2 rfl
      have hs_261 := hs_260.pull 2 rfl
      exact hkb7 p94 mp94_0 a95 xa95 a99 _ xa99 n100 (IntKind.i64.wrap (n101 + 1)) _ hs_261 hp
    · intro j253p j253 hj253 hp
      refine st_if (Q := F20.Post F ro r) (fun hc_239 => ?_) (fun hc_239 => ?_)
      · replace hp := ifp_t hc_239 hp
        obtain ⟨n_240, hx_241, hp⟩ := bindp_some hp
        refine st_shr (Q := F20.Post F ro r) isO hx_241 ?_
        refine st_int (Q := F20.Post F ro r) ?_
        refine st_pushJ (Q := F20.Post F ro r) hs hs.low rfl fun h_242 _ hs_243 => ?_
        have hs_249 := hs_243.pull 2 rfl
        obtain ⟨x_244, hx_245, hp⟩ := bindp_some hp
        refine st_appO (Q := F20.Post F ro r) isO (l := xa95) (x := [(bAnd .i64 n_240 1) == 1]) (f := Value.bool) hs_249 (fun _ => rfl) und24 und24 one4 rfl rfl rfl hx_245 fun a_246 h_247 hs_248 => ?_
        refine st_slice (Q := F20.Post F ro r) ?_
        have hs_250 := hs_248.pull 1 rfl
        have hs_251 := hs_250.tail
        have hs_252 := hs_251.pull 2 rfl
        have hs_253 := hs_252.pull 1 rfl
        have hs_254 := hs_253.pull 2 rfl
        exact ih p94 mp94_0 a_246 x_244 n96 n97 (IntKind.i64.wrap (n98 - 1)) a99 _ xa99 n100 n101 _ hs_254 hp
      · replace hp := ifp_f hc_239 hp
        have hs_255 := hs.pull 2 rfl
        have hs_256 := hs_255.pull 2 rfl
        have hs_257 := hs_256.pull 2 rfl
        exact hj253 hs_257 hp

def F20.J14p (lf : Nat) (kb7p : Int → List Bool → List Int → Int → Int → Option (List Bool × Int)) (mp80_0 : Int) (xa81 : List Bool) (n82 : Int) (n83 : Int) (xa84 : List Int) (n85 : Int) (n86 : Int) : Option (List Bool × Int) :=
  F20.L15p lf kb7p lf mp80_0 xa81 n82 n83 (IntKind.i64.wrap (mp80_0 - 1)) xa84 n85 n86

theorem F20.J14_ok {ora : Ora} (hora : HOra ora) {lf ro : Nat} {F : List Ent} {r : (List Bool × Int)} {kb7p : Int → List Bool → List Int → Int → Int → Option (List Bool × Int)} {kb7 : Nat → Nat → (Option Addr) → Nat → Nat → (Option Addr) → Nat → Nat → Int → Int → Heap → Out} (hkb7 : ∀ (p33 : Nat) (mp33_0 : Int) (a34 : Option Addr) (xa34 : List Bool) (a35 : Option Addr) (c35 : Nat) (xa35 : List Int) (n36 : Int) (n37 : Int) (h : Heap), Sat ro h (.own ro (some ⟨p33, 0, none⟩) 1 [.int .i64 mp33_0] :: .own ro a34 1 (xa34.map Value.bool) :: .row a35 c35 (xa35.map (Value.int .i64)) :: F) → kb7p mp33_0 xa34 xa35 n36 n37 = some r → F20.Post F ro r (kb7 p33 0 a34 xa34.length xa34.length a35 xa35.length c35 n36 n37 h)) (p80 : Nat) (mp80_0 : Int) (a81 : Option Addr) (xa81 : List Bool) (n82 : Int) (n83 : Int) (a84 : Option Addr) (c84 : Nat) (xa84 : List Int) (n85 : Int) (n86 : Int) (h : Heap) (hs : Sat ro h (.own ro (some ⟨p80, 0, none⟩) 1 [.int .i64 mp80_0] :: .own ro a81 1 (xa81.map Value.bool) :: .row a84 c84 (xa84.map (Value.int .i64)) :: F)) (hp : F20.J14p lf kb7p mp80_0 xa81 n82 n83 xa84 n85 n86 = some r) : F20.Post F ro r (F20.J14 (callW Tryd.prog ora) lf ro kb7 p80 0 a81 xa81.length xa81.length n82 n83 a84 xa84.length c84 n85 n86 h) := by
  unfold F20.J14
  unfold F20.J14p at hp
  refine st_load (Q := F20.Post F ro r) isO hs agg3 rfl ?_
  refine st_int (Q := F20.Post F ro r) ?_
  have hs_262 := hs.pull 2 rfl
  have hs_263 := hs_262.pull 2 rfl
  have hs_264 := hs_263.pull 2 rfl
  exact F20.L15_ok hora hkb7 lf p80 mp80_0 a81 xa81 n82 n83 (IntKind.i64.wrap (mp80_0 - 1)) a84 _ xa84 n85 n86 _ hs_264 hp

def F20.J11p (lf : Nat) (kb7p : Int → List Bool → List Int → Int → Int → Option (List Bool × Int)) (mp64_0 : Int) (xa65 : List Bool) (n66 : Int) (xa67 : List Int) (n68 : Int) (n69 : Int) : Option (List Bool × Int) :=
  letJ (fun (b434 : Bool) => (
    ifp b434 (
      F20.J14p lf kb7p mp64_0 xa65 n66 1 xa67 n68 n69) (
      F20.J14p lf kb7p mp64_0 xa65 n66 0 xa67 n68 n69) : Option (List Bool × Int))) fun j436p =>
  ifp (n66 == 1) (
    j436p true) (
    bindp (shlp .i64 1 mp64_0) fun n_232 =>
    j436p (n66 == (IntKind.i64.wrap (n_232 - 2))))

theorem F20.J11_ok {ora : Ora} (hora : HOra ora) {lf ro : Nat} {F : List Ent} {r : (List Bool × Int)} {kb7p : Int → List Bool → List Int → Int → Int → Option (List Bool × Int)} {kb7 : Nat → Nat → (Option Addr) → Nat → Nat → (Option Addr) → Nat → Nat → Int → Int → Heap → Out} (hkb7 : ∀ (p33 : Nat) (mp33_0 : Int) (a34 : Option Addr) (xa34 : List Bool) (a35 : Option Addr) (c35 : Nat) (xa35 : List Int) (n36 : Int) (n37 : Int) (h : Heap), Sat ro h (.own ro (some ⟨p33, 0, none⟩) 1 [.int .i64 mp33_0] :: .own ro a34 1 (xa34.map Value.bool) :: .row a35 c35 (xa35.map (Value.int .i64)) :: F) → kb7p mp33_0 xa34 xa35 n36 n37 = some r → F20.Post F ro r (kb7 p33 0 a34 xa34.length xa34.length a35 xa35.length c35 n36 n37 h)) (p64 : Nat) (mp64_0 : Int) (a65 : Option Addr) (xa65 : List Bool) (n66 : Int) (a67 : Option Addr) (c67 : Nat) (xa67 : List Int) (n68 : Int) (n69 : Int) (h : Heap) (hs : Sat ro h (.own ro (some ⟨p64, 0, none⟩) 1 [.int .i64 mp64_0] :: .own ro a65 1 (xa65.map Value.bool) :: .row a67 c67 (xa67.map (Value.int .i64)) :: F)) (hp : F20.J11p lf kb7p mp64_0 xa65 n66 xa67 n68 n69 = some r) : F20.Post F ro r (F20.J11 (callW Tryd.prog ora) lf ro kb7 p64 0 a65 xa65.length xa65.length n66 a67 xa67.length c67 n68 n69 h) := by
  unfold F20.J11
  unfold F20.J11p at hp
  refine st_letJ hp (fun j436p j436 => ∀ (b434 : Bool) (h_237 : Heap), Sat ro h_237 (.own ro (some ⟨p64, 0, none⟩) 1 [.int .i64 mp64_0] :: .own ro a65 1 (xa65.map Value.bool) :: .row a67 c67 (xa67.map (Value.int .i64)) :: F) → j436p b434 = some r → F20.Post F ro r (j436 b434 h_237)) ?_ ?_
  · intro b434 h_237 hs hp
    refine st_if (Q := F20.Post F ro r) (fun hc_238 => ?_) (fun hc_238 => ?_)
    · replace hp := ifp_t hc_238 hp
      have hs_265 := hs.pull 2 rfl
      have hs_266 := hs_265.pull 2 rfl
      have hs_267 := hs_266.pull 2 rfl
      exact F20.J14_ok hora hkb7 p64 mp64_0 a65 xa65 n66 1 a67 _ xa67 n68 n69 _ hs_267 hp
    · replace hp := ifp_f hc_238 hp
      have hs_268 := hs.pull 2 rfl
      have hs_269 := hs_268.pull 2 rfl
      have hs_270 := hs_269.pull 2 rfl
      exact F20.J14_ok hora hkb7 p64 mp64_0 a65 xa65 n66 0 a67 _ xa67 n68 n69 _ hs_270 hp
  · intro j436p j436 hj436 hp
    refine st_if (Q := F20.Post F ro r) (fun hc_228 => ?_) (fun hc_228 => ?_)
    · replace hp := ifp_t hc_228 hp
      have hs_229 := hs.pull 2 rfl
      have hs_230 := hs_229.pull 2 rfl
      have hs_231 := hs_230.pull 2 rfl
      exact hj436 true _ hs_231 hp
    · replace hp := ifp_f hc_228 hp
      refine st_load (Q := F20.Post F ro r) isO hs agg3 rfl ?_
      refine st_int (Q := F20.Post F ro r) ?_
      obtain ⟨n_232, hx_233, hp⟩ := bindp_some hp
      refine st_shl (Q := F20.Post F ro r) isO hx_233 ?_
      refine st_int (Q := F20.Post F ro r) ?_
      have hs_234 := hs.pull 2 rfl
      have hs_235 := hs_234.pull 2 rfl
      have hs_236 := hs_235.pull 2 rfl
      exact hj436 (n66 == (IntKind.i64.wrap (n_232 - 2))) _ hs_236 hp

def F20.J8p (lf : Nat) (kb7p : Int → List Bool → List Int → Int → Int → Option (List Bool × Int)) (mp39_0 : Int) (xa40 : List Bool) (xa41 : List Int) (n42 : Int) (n43 : Int) : Option (List Bool × Int) :=
  bindp (idxp xa41 n43) fun x_206 =>
  letJ (fun (b521 : Bool) => (
    ifp b521 (
      some ([], 22)) (
      F20.J11p lf kb7p mp39_0 xa40 x_206 xa41 n42 n43) : Option (List Bool × Int))) fun j523p =>
  ifp (x_206 == 0) (
    j523p true) (
    bindp (shlp .i64 1 mp39_0) fun n_214 =>
    j523p (x_206 == (IntKind.i64.wrap (n_214 - 1))))

theorem F20.J8_ok {ora : Ora} (hora : HOra ora) {lf ro : Nat} {F : List Ent} {r : (List Bool × Int)} {kb7p : Int → List Bool → List Int → Int → Int → Option (List Bool × Int)} {kb7 : Nat → Nat → (Option Addr) → Nat → Nat → (Option Addr) → Nat → Nat → Int → Int → Heap → Out} (hkb7 : ∀ (p33 : Nat) (mp33_0 : Int) (a34 : Option Addr) (xa34 : List Bool) (a35 : Option Addr) (c35 : Nat) (xa35 : List Int) (n36 : Int) (n37 : Int) (h : Heap), Sat ro h (.own ro (some ⟨p33, 0, none⟩) 1 [.int .i64 mp33_0] :: .own ro a34 1 (xa34.map Value.bool) :: .row a35 c35 (xa35.map (Value.int .i64)) :: F) → kb7p mp33_0 xa34 xa35 n36 n37 = some r → F20.Post F ro r (kb7 p33 0 a34 xa34.length xa34.length a35 xa35.length c35 n36 n37 h)) (p39 : Nat) (mp39_0 : Int) (a40 : Option Addr) (xa40 : List Bool) (a41 : Option Addr) (c41 : Nat) (xa41 : List Int) (n42 : Int) (n43 : Int) (h : Heap) (hs : Sat ro h (.own ro (some ⟨p39, 0, none⟩) 1 [.int .i64 mp39_0] :: .own ro a40 1 (xa40.map Value.bool) :: .row a41 c41 (xa41.map (Value.int .i64)) :: F)) (hp : F20.J8p lf kb7p mp39_0 xa40 xa41 n42 n43 = some r) : F20.Post F ro r (F20.J8 (callW Tryd.prog ora) lf ro kb7 p39 0 a40 xa40.length xa40.length a41 xa41.length c41 n42 n43 h) := by
  unfold F20.J8
  unfold F20.J8p at hp
  have hs_208 := hs.pull 2 rfl
  obtain ⟨x_206, hx_207, hp⟩ := bindp_some hp
  refine st_idxR (Q := F20.Post F ro r) (l := xa41) (f := (Value.int .i64)) isO isO hs_208 und35 siz3 agg3 rfl hx_207 ?_
  refine st_int (Q := F20.Post F ro r) ?_
  refine st_letJ hp (fun j523p j523 => ∀ (b521 : Bool) (h_219 : Heap), Sat ro h_219 (.row a41 c41 (xa41.map (Value.int .i64)) :: .own ro (some ⟨p39, 0, none⟩) 1 [.int .i64 mp39_0] :: .own ro a40 1 (xa40.map Value.bool) :: F) → j523p b521 = some r → F20.Post F ro r (j523 b521 h_219)) ?_ ?_
  · intro b521 h_219 hs hp
    refine st_if (Q := F20.Post F ro r) (fun hc_220 => ?_) (fun hc_220 => ?_)
    · replace hp := ifp_t hc_220 hp
      have hs_221 := hs.nilOwn ro 1
      have hs_222 := hs_221.pull 1 rfl
      have hs_223 := hs_222.tail
      have hs_224 := hs_223.pull 1 rfl
      have hs_225 := hs_224.tail
      have hs_226 := hs_225.pull 1 rfl
      have hs_227 := hs_226.tail
      cases hp
      exact ⟨none, _, rfl, hs_227⟩
    · replace hp := ifp_f hc_220 hp
      have hs_271 := hs.pull 2 rfl
      have hs_272 := hs_271.pull 2 rfl
      exact F20.J11_ok hora hkb7 p39 mp39_0 a40 xa40 x_206 a41 _ xa41 n42 n43 _ hs_272 hp
  · intro j523p j523 hj523 hp
    refine st_if (Q := F20.Post F ro r) (fun hc_209 => ?_) (fun hc_209 => ?_)
    · replace hp := ifp_t hc_209 hp
      have hs_210 := hs_208.pull 2 rfl
      have hs_211 := hs_210.pull 2 rfl
      have hs_212 := hs_211.pull 2 rfl
      exact hj523 true _ hs_212 hp
    · replace hp := ifp_f hc_209 hp
      have hs_213 := hs_208.pull 1 rfl
      refine st_load (Q := F20.Post F ro r) isO hs_213 agg3 rfl ?_
      refine st_int (Q := F20.Post F ro r) ?_
      obtain ⟨n_214, hx_215, hp⟩ := bindp_some hp
      refine st_shl (Q := F20.Post F ro r) isO hx_215 ?_
      refine st_int (Q := F20.Post F ro r) ?_
      have hs_216 := hs_213.pull 2 rfl
      have hs_217 := hs_216.pull 1 rfl
      have hs_218 := hs_217.pull 2 rfl
      exact hj523 (x_206 == (IntKind.i64.wrap (n_214 - 1))) _ hs_218 hp

def F20.L7p (lf : Nat) : Nat → Int → List Bool → List Int → Int → Int → Option (List Bool × Int)
  | 0, _, _, _, _, _ => none
  | n + 1, mp33_0, xa34, xa35, n36, n37 =>
  ifp (decide (n37 < n36)) (
    F20.J8p lf (F20.L7p lf n) mp33_0 xa34 xa35 n36 n37) (
    some (xa34, 0))

theorem F20.L7_ok {ora : Ora} (hora : HOra ora) {lf ro : Nat} {F : List Ent} {r : (List Bool × Int)} : ∀ (n : Nat) (p33 : Nat) (mp33_0 : Int) (a34 : Option Addr) (xa34 : List Bool) (a35 : Option Addr) (c35 : Nat) (xa35 : List Int) (n36 : Int) (n37 : Int) (h : Heap), Sat ro h (.own ro (some ⟨p33, 0, none⟩) 1 [.int .i64 mp33_0] :: .own ro a34 1 (xa34.map Value.bool) :: .row a35 c35 (xa35.map (Value.int .i64)) :: F) → F20.L7p lf n mp33_0 xa34 xa35 n36 n37 = some r → F20.Post F ro r (F20.L7 (callW Tryd.prog ora) lf ro n p33 0 a34 xa34.length xa34.length a35 xa35.length c35 n36 n37 h) := by
  intro n
  induction n with
  | zero => intro p33 mp33_0 a34 xa34 a35 c35 xa35 n36 n37 h hs hp; cases hp
  | succ n ih =>
    intro p33 mp33_0 a34 xa34 a35 c35 xa35 n36 n37 h hs hp
    unfold F20.L7
    unfold F20.L7p at hp
    refine st_if (Q := F20.Post F ro r) (fun hc_205 => ?_) (fun hc_205 => ?_)
    · replace hp := ifp_t hc_205 hp
      have hs_273 := hs.pull 2 rfl
      have hs_274 := hs_273.pull 2 rfl
      have hs_275 := hs_274.pull 2 rfl
      exact F20.J8_ok hora ih p33 mp33_0 a34 xa34 a35 _ xa35 n36 n37 _ hs_275 hp
    · replace hp := ifp_f hc_205 hp
      have hs_276 := hs.tail
      have hs_277 := hs_276.pull 1 rfl
      have hs_278 := hs_277.tail
      cases hp
      exact ⟨a34, _, rfl, hs_278⟩

def F20.J5p (lf : Nat) (xa30 : List Int) (mp31_0 : Int) : Option (List Bool × Int) :=
  F20.L7p lf lf mp31_0 [] xa30 (xa30.length : Int) 0

theorem F20.J5_ok {ora : Ora} (hora : HOra ora) {lf ro : Nat} {F : List Ent} {r : (List Bool × Int)} (a30 : Option Addr) (c30 : Nat) (xa30 : List Int) (p31 : Nat) (mp31_0 : Int) (h : Heap) (hs : Sat ro h (.row a30 c30 (xa30.map (Value.int .i64)) :: .own ro (some ⟨p31, 0, none⟩) 1 [.int .i64 mp31_0] :: F)) (hp : F20.J5p lf xa30 mp31_0 = some r) : F20.Post F ro r (F20.J5 (callW Tryd.prog ora) lf ro a30 xa30.length c30 p31 0 h) := by
  unfold F20.J5
  unfold F20.J5p at hp
  have hs_279 := hs.nilOwn ro 1
  have hs_280 := hs_279.pull 1 rfl
  have hs_281 := hs_280.pull 1 rfl
  have hs_282 := hs_281.pull 2 rfl
  exact F20.L7_ok hora lf p31 mp31_0 none [] a30 _ xa30 (xa30.length : Int) 0 _ hs_282 hp

def F20.J3p (lf : Nat) (xa15 : List Int) (mp16_0 : Int) : Option (List Bool × Int) :=
  bindp (quop .i64 1048576 mp16_0) fun n_197 =>
  ifp (decide ((xa15.length : Int) > n_197)) (
    some ([], 4)) (
    F20.J5p lf xa15 mp16_0)

theorem F20.J3_ok {ora : Ora} (hora : HOra ora) {lf ro : Nat} {F : List Ent} {r : (List Bool × Int)} (a15 : Option Addr) (c15 : Nat) (xa15 : List Int) (p16 : Nat) (mp16_0 : Int) (h : Heap) (hs : Sat ro h (.row a15 c15 (xa15.map (Value.int .i64)) :: .own ro (some ⟨p16, 0, none⟩) 1 [.int .i64 mp16_0] :: F)) (hp : F20.J3p lf xa15 mp16_0 = some r) : F20.Post F ro r (F20.J3 (callW Tryd.prog ora) lf ro a15 xa15.length c15 p16 0 h) := by
  unfold F20.J3
  unfold F20.J3p at hp
  have hs_196 := hs.pull 1 rfl
  refine st_load (Q := F20.Post F ro r) isO hs_196 agg3 rfl ?_
  refine st_int (Q := F20.Post F ro r) ?_
  obtain ⟨n_197, hx_198, hp⟩ := bindp_some hp
  refine st_quo (Q := F20.Post F ro r) isO hx_198 ?_
  refine st_int (Q := F20.Post F ro r) ?_
  refine st_if (Q := F20.Post F ro r) (fun hc_199 => ?_) (fun hc_199 => ?_)
  · replace hp := ifp_t hc_199 hp
    have hs_200 := hs_196.nilOwn ro 1
    have hs_201 := hs_200.pull 1 rfl
    have hs_202 := hs_201.tail
    have hs_203 := hs_202.pull 1 rfl
    have hs_204 := hs_203.tail
    cases hp
    exact ⟨none, _, rfl, hs_204⟩
  · replace hp := ifp_f hc_199 hp
    have hs_283 := hs_196.pull 1 rfl
    exact F20.J5_ok hora a15 _ xa15 p16 mp16_0 _ hs_283 hp

def F20.p (lf : Nat) (xax0 : List Int) (x1 : Int) : Option (List Bool × Int) :=
  letJ (fun (b12 : Bool) (mj14_0_0 : Int) => (
    ifp b12 (
      some ([], 3)) (
      F20.J3p lf xax0 mj14_0_0) : Option (List Bool × Int))) fun j14p =>
  ifp (decide (x1 < 2)) (
    j14p true x1) (
    ifp (decide (x1 > 12)) (
      j14p true x1) (
      bindp (F45.p lf xax0 x1) fun r_182 =>
      j14p r_182.1 r_182.2))

theorem F20.t_ok {ora : Ora} (hora : HOra ora) {lf ro : Nat} {F : List Ent} {r : (List Bool × Int)} (ax0 : Option Addr) (cx0 : Nat) (xax0 : List Int) (x1 : Int) (h : Heap) (hs : Sat ro h (.row ax0 cx0 (xax0.map (Value.int .i64)) :: F)) (hp : F20.p lf xax0 x1 = some r) : F20.Post F ro r (F20.t (callW Tryd.prog ora) lf ro ax0 xax0.length cx0 x1 h) := by
  unfold F20.t
  unfold F20.p at hp
  refine st_pushJ (Q := F20.Post F ro r) hs hs.low rfl fun h_170 _ hs_171 => ?_
  refine st_letJ hp (fun j14p j14 => ∀ (b12 : Bool) (mj14_0_0 : Int) (h_189 : Heap), Sat ro h_189 (.own ro (some ⟨h.next, 0, none⟩) 1 [.int .i64 mj14_0_0] :: .row ax0 cx0 (xax0.map (Value.int .i64)) :: F) → j14p b12 mj14_0_0 = some r → F20.Post F ro r (j14 b12 h_189)) ?_ ?_
  · intro b12 mj14_0_0 h_189 hs hp
    refine st_if (Q := F20.Post F ro r) (fun hc_190 => ?_) (fun hc_190 => ?_)
    · replace hp := ifp_t hc_190 hp
      have hs_191 := hs.nilOwn ro 1
      have hs_192 := hs_191.pull 1 rfl
      have hs_193 := hs_192.tail
      have hs_194 := hs_193.pull 1 rfl
      have hs_195 := hs_194.tail
      cases hp
      exact ⟨none, _, rfl, hs_195⟩
    · replace hp := ifp_f hc_190 hp
      have hs_284 := hs.pull 1 rfl
      exact F20.J3_ok hora ax0 _ xax0 h.next mj14_0_0 _ hs_284 hp
  · intro j14p j14 hj14 hp
    refine st_load (Q := F20.Post F ro r) isO hs_171 agg3 rfl ?_
    refine st_int (Q := F20.Post F ro r) ?_
    refine st_if (Q := F20.Post F ro r) (fun hc_172 => ?_) (fun hc_172 => ?_)
    · replace hp := ifp_t hc_172 hp
      have hs_173 := hs_171.pull 1 rfl
      have hs_174 := hs_173.pull 1 rfl
      exact hj14 true x1 _ hs_174 hp
    · replace hp := ifp_f hc_172 hp
      refine st_load (Q := F20.Post F ro r) isO hs_171 agg3 rfl ?_
      refine st_int (Q := F20.Post F ro r) ?_
      refine st_if (Q := F20.Post F ro r) (fun hc_175 => ?_) (fun hc_175 => ?_)
      · replace hp := ifp_t hc_175 hp
        have hs_176 := hs_171.pull 1 rfl
        have hs_177 := hs_176.pull 1 rfl
        exact hj14 true x1 _ hs_177 hp
      · replace hp := ifp_f hc_175 hp
        have hs_178 := hs_171.pull 1 rfl
        have hs_179 := hs_178.dup
        have hs_180 := hs_179.pull 2 rfl
        have hs_181 := hs_180.pull 1 rfl
        obtain ⟨r_182, hx_183, hp⟩ := bindp_some hp
        obtain ⟨h_184, e_186, hs_185⟩ := F45.ok hora (ro := ro) (px1_0 := h.next) (F := .row ax0 cx0 (xax0.map (Value.int .i64)) :: F) ax0 cx0 xax0 x1 _ hs_181 hx_183
        refine st_ok (Q := F20.Post F ro r) isO e_186 ?_
        refine st_bool (Q := F20.Post F ro r) ?_
        have hs_187 := hs_185.pull 1 rfl
        have hs_188 := hs_187.pull 1 rfl
        exact hj14 r_182.1 r_182.2 _ hs_188 hp

theorem F20.ok {ora : Ora} (hora : HOra ora) {lf ro : Nat} {F : List Ent} {r : (List Bool × Int)} (ax0 : Option Addr) (cx0 : Nat) (xax0 : List Int) (x1 : Int) (h : Heap) (hs : Sat ro h (.row ax0 cx0 (xax0.map (Value.int .i64)) :: F)) (hp : F20.p lf xax0 x1 = some r) : F20.Post F ro r (callW Tryd.prog ora ro 20 [.slice ax0 xax0.length cx0, .int .i64 x1] h) := by
  have h1 := F20.t_ok hora ax0 cx0 xax0 x1 h hs hp
  have h2 : callW Tryd.prog ora ro 20 [.slice ax0 xax0.length cx0, .int .i64 x1] h = _ := callW_body (hora.none _ _ _ _ (by decide)) Tryd.func20 (F20.le (callW Tryd.prog ora) lf ro ax0 xax0.length cx0 x1 h) (F20.Post.ne h1)
  rw [h2]; exact h1

def F7.Post (F : List Ent) (ro : Nat) (r : (Bool)) (x : Out) : Prop := ∃ h', x = .ok (.bool r) h' ∧ Sat ro h' (F)
theorem F7.Post.ne {F : List Ent} {ro : Nat} {r : (Bool)} {x : Out} (hx : F7.Post F ro r x) : x ≠ .fail := by
  obtain ⟨h', rfl, _⟩ := hx
  simp

def F7.J8p (lf : Nat) (kb7p : List Bool → Int → List Int → Int → Int → Option (Bool)) (xa53 : List Bool) (n54 : Int) (xa55 : List Int) (n56 : Int) (n57 : Int) : Option (Bool) :=
  letJ (fun (b101 : Bool) => (
    ifp b101 (
      some false) (
      kb7p xa53 n54 xa55 n56 (IntKind.i64.wrap (n57 + 1))) : Option (Bool))) fun j103p =>
  bindp (idxp xa55 n57) fun x_326 =>
  ifp (decide (x_326 < 1)) (
    j103p true) (
    bindp (idxp xa55 n57) fun x_331 =>
    bindp (shlp .i64 1 (IntKind.u64.wrap n54)) fun n_333 =>
    j103p (decide (x_331 ≥ IntKind.i64.wrap (n_333 - 1))))

theorem F7.J8_ok {ora : Ora} (hora : HOra ora) {lf ro : Nat} {F : List Ent} {r : (Bool)} {kb7p : List Bool → Int → List Int → Int → Int → Option (Bool)} {kb7 : (Option Addr) → Nat → Nat → Int → (Option Addr) → Nat → Nat → Int → Int → Heap → Out} (hkb7 : ∀ (a47 : Option Addr) (c47 : Nat) (xa47 : List Bool) (n48 : Int) (a49 : Option Addr) (xa49 : List Int) (n50 : Int) (n51 : Int) (h : Heap), Sat ro h (.row a47 c47 (xa47.map Value.bool) :: .own ro a49 1 (xa49.map (Value.int .i64)) :: F) → kb7p xa47 n48 xa49 n50 n51 = some r → F7.Post F ro r (kb7 a47 xa47.length c47 n48 a49 xa49.length xa49.length n50 n51 h)) (a53 : Option Addr) (c53 : Nat) (xa53 : List Bool) (n54 : Int) (a55 : Option Addr) (xa55 : List Int) (n56 : Int) (n57 : Int) (h : Heap) (hs : Sat ro h (.row a53 c53 (xa53.map Value.bool) :: .own ro a55 1 (xa55.map (Value.int .i64)) :: F)) (hp : F7.J8p lf kb7p xa53 n54 xa55 n56 n57 = some r) : F7.Post F ro r (F7.J8 (callW Tryd.prog ora) lf ro kb7 a53 xa53.length c53 n54 a55 xa55.length xa55.length n56 n57 h) := by
  unfold F7.J8
  unfold F7.J8p at hp
  refine st_letJ hp (fun j103p j103 => ∀ (b101 : Bool) (h_336 : Heap), Sat ro h_336 (.row a53 c53 (xa53.map Value.bool) :: .own ro a55 1 (xa55.map (Value.int .i64)) :: F) → j103p b101 = some r → F7.Post F ro r (j103 b101 h_336)) ?_ ?_
  · intro b101 h_336 hs hp
    refine st_if (Q := F7.Post F ro r) (fun hc_337 => ?_) (fun hc_337 => ?_)
    · replace hp := ifp_t hc_337 hp
      have hs_338 := hs.tail
      have hs_339 := hs_338.tail
      cases hp
      exact ⟨_, rfl, hs_339⟩
    · replace hp := ifp_f hc_337 hp
      have hs_340 := hs.pull 1 rfl
      have hs_341 := hs_340.pull 1 rfl
      exact hkb7 a53 _ xa53 n54 a55 xa55 n56 (IntKind.i64.wrap (n57 + 1)) _ hs_341 hp
  · intro j103p j103 hj103 hp
    have hs_328 := hs.pull 1 rfl
    obtain ⟨x_326, hx_327, hp⟩ := bindp_some hp
    refine st_idxO (Q := F7.Post F ro r) (l := xa55) (f := (Value.int .i64)) isO isO hs_328 und35 siz3 agg3 rfl hx_327 ?_
    refine st_int (Q := F7.Post F ro r) ?_
    refine st_if (Q := F7.Post F ro r) (fun hc_329 => ?_) (fun hc_329 => ?_)
    · replace hp := ifp_t hc_329 hp
      have hs_330 := hs_328.pull 1 rfl
      exact hj103 true _ hs_330 hp
    · replace hp := ifp_f hc_329 hp
      obtain ⟨x_331, hx_332, hp⟩ := bindp_some hp
      refine st_idxO (Q := F7.Post F ro r) (l := xa55) (f := (Value.int .i64)) isO isO hs_328 und35 siz3 agg3 rfl hx_332 ?_
      refine st_int (Q := F7.Post F ro r) ?_
      obtain ⟨n_333, hx_334, hp⟩ := bindp_some hp
      refine st_shl (Q := F7.Post F ro r) isO hx_334 ?_
      refine st_int (Q := F7.Post F ro r) ?_
      have hs_335 := hs_328.pull 1 rfl
      exact hj103 (decide (x_331 ≥ IntKind.i64.wrap (n_333 - 1))) _ hs_335 hp

def F7.J18p (lf : Nat) (kb16p : List Bool → Int → List Int → List Bool → Int → Option (Bool)) (xa164 : List Bool) (n165 : Int) (xa166 : List Int) (xa167 : List Bool) (n168 : Int) : Option (Bool) :=
  bindp (idxp xa167 n168) fun x_417 =>
  ifp (!x_417) (
    some false) (
    kb16p xa164 n165 xa166 xa167 (IntKind.i64.wrap (n168 + 1)))

theorem F7.J18_ok {ora : Ora} (hora : HOra ora) {lf ro : Nat} {F : List Ent} {r : (Bool)} {kb16p : List Bool → Int → List Int → List Bool → Int → Option (Bool)} {kb16 : (Option Addr) → Nat → Nat → Int → (Option Addr) → Nat → Nat → (Option Addr) → Nat → Nat → Int → Heap → Out} (hkb16 : ∀ (a158 : Option Addr) (c158 : Nat) (xa158 : List Bool) (n159 : Int) (a160 : Option Addr) (c160 : Nat) (xa160 : List Int) (a161 : Option Addr) (c161 : Nat) (xa161 : List Bool) (n162 : Int) (h : Heap), Sat ro h (.row a158 c158 (xa158.map Value.bool) :: .row a160 c160 (xa160.map (Value.int .i64)) :: .row a161 c161 (xa161.map Value.bool) :: F) → kb16p xa158 n159 xa160 xa161 n162 = some r → F7.Post F ro r (kb16 a158 xa158.length c158 n159 a160 xa160.length c160 a161 xa161.length c161 n162 h)) (a164 : Option Addr) (c164 : Nat) (xa164 : List Bool) (n165 : Int) (a166 : Option Addr) (c166 : Nat) (xa166 : List Int) (a167 : Option Addr) (c167 : Nat) (xa167 : List Bool) (n168 : Int) (h : Heap) (hs : Sat ro h (.row a164 c164 (xa164.map Value.bool) :: .row a166 c166 (xa166.map (Value.int .i64)) :: .row a167 c167 (xa167.map Value.bool) :: F)) (hp : F7.J18p lf kb16p xa164 n165 xa166 xa167 n168 = some r) : F7.Post F ro r (F7.J18 (callW Tryd.prog ora) lf ro kb16 a164 xa164.length c164 n165 a166 xa166.length c166 a167 xa167.length c167 n168 h) := by
  unfold F7.J18
  unfold F7.J18p at hp
  have hs_419 := hs.pull 2 rfl
  obtain ⟨x_417, hx_418, hp⟩ := bindp_some hp
  refine st_idxR (Q := F7.Post F ro r) (l := xa167) (f := Value.bool) isO isO hs_419 und24 siz4 agg4 rfl hx_418 ?_
  refine st_bool (Q := F7.Post F ro r) ?_
  refine st_if (Q := F7.Post F ro r) (fun hc_420 => ?_) (fun hc_420 => ?_)
  · replace hp := ifp_t hc_420 hp
    have hs_421 := hs_419.tail
    have hs_422 := hs_421.tail
    have hs_423 := hs_422.tail
    cases hp
    exact ⟨_, rfl, hs_423⟩
  · replace hp := ifp_f hc_420 hp
    have hs_424 := hs_419.pull 2 rfl
    have hs_425 := hs_424.pull 2 rfl
    exact hkb16 a164 _ xa164 n165 a166 _ xa166 a167 _ xa167 (IntKind.i64.wrap (n168 + 1)) _ hs_425 hp

def F7.J20p (lf : Nat) (xa195 : List Bool) (n196 : Int) (xa197 : List Int) : Option (Bool) :=
  letJ (fun (b202 : Bool) => (
    some b202 : Option (Bool))) fun j204p =>
  ifp (decide (IntKind.i64.wrap ((xa197.length : Int) * n196) ≥ (xa195.length : Int))) (
    ifp (decide (IntKind.i64.wrap ((xa197.length : Int) * (IntKind.i64.wrap (n196 - 1))) ≤ IntKind.i64.wrap ((IntKind.i64.wrap ((xa195.length : Int) + n196)) - 2))) (
      bindp (F11.p lf) fun r_431 =>
      j204p r_431) (
      j204p false)) (
    j204p false)

theorem F7.J20_ok {ora : Ora} (hora : HOra ora) {lf ro : Nat} {F : List Ent} {r : (Bool)} (a195 : Option Addr) (c195 : Nat) (xa195 : List Bool) (n196 : Int) (a197 : Option Addr) (c197 : Nat) (xa197 : List Int) (h : Heap) (hs : Sat ro h (.row a195 c195 (xa195.map Value.bool) :: .row a197 c197 (xa197.map (Value.int .i64)) :: F)) (hp : F7.J20p lf xa195 n196 xa197 = some r) : F7.Post F ro r (F7.J20 (callW Tryd.prog ora) lf ro a195 xa195.length c195 n196 a197 xa197.length c197 h) := by
  unfold F7.J20
  unfold F7.J20p at hp
  refine st_letJ hp (fun j204p j204 => ∀ (b202 : Bool) (h_442 : Heap), Sat ro h_442 (F) → j204p b202 = some r → F7.Post F ro r (j204 b202 h_442)) ?_ ?_
  · intro b202 h_442 hs hp
    cases hp
    exact ⟨_, rfl, hs⟩
  · intro j204p j204 hj204 hp
    refine st_if (Q := F7.Post F ro r) (fun hc_429 => ?_) (fun hc_429 => ?_)
    · replace hp := ifp_t hc_429 hp
      refine st_if (Q := F7.Post F ro r) (fun hc_430 => ?_) (fun hc_430 => ?_)
      · replace hp := ifp_t hc_430 hp
        obtain ⟨r_431, hx_432, hp⟩ := bindp_some hp
        obtain ⟨h_433, e_435, hs_434⟩ := F11.ok hora (ro := ro) (F := .row a195 c195 (xa195.map Value.bool) :: .row a197 c197 (xa197.map (Value.int .i64)) :: F)  _ hs hx_432
        refine st_ok (Q := F7.Post F ro r) isO e_435 ?_
        refine st_bool (Q := F7.Post F ro r) ?_
        have hs_436 := hs_434.tail
        have hs_437 := hs_436.tail
        exact hj204 r_431 _ hs_437 hp
      · replace hp := ifp_f hc_430 hp
        have hs_438 := hs.tail
        have hs_439 := hs_438.tail
        exact hj204 false _ hs_439 hp
    · replace hp := ifp_f hc_429 hp
      have hs_440 := hs.tail
      have hs_441 := hs_440.tail
      exact hj204 false _ hs_441 hp

def F7.L16p (lf : Nat) : Nat → List Bool → Int → List Int → List Bool → Int → Option (Bool)
  | 0, _, _, _, _, _ => none
  | n + 1, xa158, n159, xa160, xa161, n162 =>
  ifp (decide (n162 < (xa161.length : Int))) (
    F7.J18p lf (F7.L16p lf n) xa158 n159 xa160 xa161 n162) (
    F7.J20p lf xa158 n159 xa160)

theorem F7.L16_ok {ora : Ora} (hora : HOra ora) {lf ro : Nat} {F : List Ent} {r : (Bool)} : ∀ (n : Nat) (a158 : Option Addr) (c158 : Nat) (xa158 : List Bool) (n159 : Int) (a160 : Option Addr) (c160 : Nat) (xa160 : List Int) (a161 : Option Addr) (c161 : Nat) (xa161 : List Bool) (n162 : Int) (h : Heap), Sat ro h (.row a158 c158 (xa158.map Value.bool) :: .row a160 c160 (xa160.map (Value.int .i64)) :: .row a161 c161 (xa161.map Value.bool) :: F) → F7.L16p lf n xa158 n159 xa160 xa161 n162 = some r → F7.Post F ro r (F7.L16 (callW Tryd.prog ora) lf ro n a158 xa158.length c158 n159 a160 xa160.length c160 a161 xa161.length c161 n162 h) := by
  intro n
  induction n with
  | zero => intro a158 c158 xa158 n159 a160 c160 xa160 a161 c161 xa161 n162 h hs hp; cases hp
  | succ n ih =>
    intro a158 c158 xa158 n159 a160 c160 xa160 a161 c161 xa161 n162 h hs hp
    unfold F7.L16
    unfold F7.L16p at hp
    refine st_if (Q := F7.Post F ro r) (fun hc_416 => ?_) (fun hc_416 => ?_)
    · replace hp := ifp_t hc_416 hp
      have hs_426 := hs.pull 2 rfl
      have hs_427 := hs_426.pull 2 rfl
      have hs_428 := hs_427.pull 2 rfl
      exact F7.J18_ok hora ih a158 _ xa158 n159 a160 _ xa160 a161 _ xa161 n162 _ hs_428 hp
    · replace hp := ifp_f hc_416 hp
      have hs_443 := hs.pull 2 rfl
      have hs_444 := hs_443.tail
      have hs_445 := hs_444.pull 1 rfl
      have hs_446 := hs_445.pull 1 rfl
      exact F7.J20_ok hora a158 _ xa158 n159 a160 _ xa160 _ hs_446 hp

def F7.J15p (lf : Nat) (xa153 : List Bool) (n154 : Int) (xa155 : List Int) (xa156 : List Bool) : Option (Bool) :=
  F7.L16p lf lf xa153 n154 xa155 xa156 (xa153.length : Int)

theorem F7.J15_ok {ora : Ora} (hora : HOra ora) {lf ro : Nat} {F : List Ent} {r : (Bool)} (a153 : Option Addr) (c153 : Nat) (xa153 : List Bool) (n154 : Int) (a155 : Option Addr) (c155 : Nat) (xa155 : List Int) (a156 : Option Addr) (c156 : Nat) (xa156 : List Bool) (h : Heap) (hs : Sat ro h (.row a153 c153 (xa153.map Value.bool) :: .row a155 c155 (xa155.map (Value.int .i64)) :: .row a156 c156 (xa156.map Value.bool) :: F)) (hp : F7.J15p lf xa153 n154 xa155 xa156 = some r) : F7.Post F ro r (F7.J15 (callW Tryd.prog ora) lf ro a153 xa153.length c153 n154 a155 xa155.length c155 a156 xa156.length c156 h) := by
  unfold F7.J15
  unfold F7.J15p at hp
  have hs_447 := hs.pull 2 rfl
  have hs_448 := hs_447.pull 2 rfl
  have hs_449 := hs_448.pull 2 rfl
  exact F7.L16_ok hora lf a153 _ xa153 n154 a155 _ xa155 a156 _ xa156 (xa153.length : Int) _ hs_449 hp

def F7.J12p (lf : Nat) (xa122 : List Bool) (n123 : Int) (xa124 : List Int) : Option (Bool) :=
  bindp (F20.p lf xa124 n123) fun r_347 =>
  letJ (fun (b150 : Bool) => (
    ifp b150 (
      some false) (
      F7.J15p lf xa122 n123 xa124 r_347.1) : Option (Bool))) fun j152p =>
  ifp (r_347.2 != 0) (
    j152p true) (
    ifp (decide (((r_347.1).length : Int) < (xa122.length : Int))) (
      j152p true) (
      ifp (decide (((r_347.1).length : Int) ≥ IntKind.i64.wrap ((xa122.length : Int) + n123))) (
        j152p true) (
        bindp (subp r_347.1 0 (xa122.length : Int)) fun x_393 =>
        bindp (F15.p lf x_393 xa122) fun r_402 =>
        j152p (!r_402))))

theorem F7.J12_ok {ora : Ora} (hora : HOra ora) {lf ro : Nat} {F : List Ent} {r : (Bool)} (a122 : Option Addr) (c122 : Nat) (xa122 : List Bool) (n123 : Int) (a124 : Option Addr) (xa124 : List Int) (h : Heap) (hs : Sat ro h (.row a122 c122 (xa122.map Value.bool) :: .own ro a124 1 (xa124.map (Value.int .i64)) :: F)) (hp : F7.J12p lf xa122 n123 xa124 = some r) : F7.Post F ro r (F7.J12 (callW Tryd.prog ora) lf ro a122 xa122.length c122 n123 a124 xa124.length xa124.length h) := by
  unfold F7.J12
  unfold F7.J12p at hp
  have hs_344 := hs.pull 1 rfl
  have hs_345 := Sat.weakM (x := xa124) (f := (Value.int .i64)) hs_344
  have hs_346 := hs_345.dup
  obtain ⟨r_347, hx_348, hp⟩ := bindp_some hp
  obtain ⟨a_352, h_349, e_351, hs_350⟩ := F20.ok hora (ro := ro) (F := .row a124 xa124.length (xa124.map (Value.int .i64)) :: .row a122 c122 (xa122.map Value.bool) :: F) a124 xa124.length xa124 n123 _ hs_346 hx_348
  refine st_ok (Q := F7.Post F ro r) isO e_351 ?_
  refine st_tup (Q := F7.Post F ro r) (l := [.slice a_352 (r_347.1).length (r_347.1).length, .int .i64 r_347.2]) ?_
  refine st_cons (Q := F7.Post F ro r) ?_
  refine st_slice (Q := F7.Post F ro r) ?_
  refine st_cons (Q := F7.Post F ro r) ?_
  refine st_int (Q := F7.Post F ro r) ?_
  refine st_nil (Q := F7.Post F ro r) ?_
  have hs_380 := Sat.weakM (x := r_347.1) (f := Value.bool) hs_350
  refine st_letJ hp (fun j152p j152 => ∀ (b150 : Bool) (h_411 : Heap), Sat ro h_411 (.row a_352 r_347.1.length (r_347.1.map Value.bool) :: .row a124 xa124.length (xa124.map (Value.int .i64)) :: .row a122 c122 (xa122.map Value.bool) :: F) → j152p b150 = some r → F7.Post F ro r (j152 b150 h_411)) ?_ ?_
  · intro b150 h_411 hs hp
    refine st_if (Q := F7.Post F ro r) (fun hc_412 => ?_) (fun hc_412 => ?_)
    · replace hp := ifp_t hc_412 hp
      have hs_413 := hs.tail
      have hs_414 := hs_413.tail
      have hs_415 := hs_414.tail
      cases hp
      exact ⟨_, rfl, hs_415⟩
    · replace hp := ifp_f hc_412 hp
      have hs_450 := hs.pull 1 rfl
      have hs_451 := hs_450.pull 2 rfl
      exact F7.J15_ok hora a122 _ xa122 n123 a124 _ xa124 a_352 _ r_347.1 _ hs_451 hp
  · intro j152p j152 hj152 hp
    refine st_if (Q := F7.Post F ro r) (fun hc_381 => ?_) (fun hc_381 => ?_)
    · replace hp := ifp_t hc_381 hp
      have hs_382 := hs_380.pull 2 rfl
      have hs_383 := hs_382.pull 2 rfl
      have hs_384 := hs_383.pull 2 rfl
      exact hj152 true _ hs_384 hp
    · replace hp := ifp_f hc_381 hp
      refine st_if (Q := F7.Post F ro r) (fun hc_385 => ?_) (fun hc_385 => ?_)
      · replace hp := ifp_t hc_385 hp
        have hs_386 := hs_380.pull 2 rfl
        have hs_387 := hs_386.pull 2 rfl
        have hs_388 := hs_387.pull 2 rfl
        exact hj152 true _ hs_388 hp
      · replace hp := ifp_f hc_385 hp
        refine st_if (Q := F7.Post F ro r) (fun hc_389 => ?_) (fun hc_389 => ?_)
        · replace hp := ifp_t hc_389 hp
          have hs_390 := hs_380.pull 2 rfl
          have hs_391 := hs_390.pull 2 rfl
          have hs_392 := hs_391.pull 2 rfl
          exact hj152 true _ hs_392 hp
        · replace hp := ifp_f hc_389 hp
          obtain ⟨x_393, hx_394, hp⟩ := bindp_some hp
          refine st_subR (Q := F7.Post F ro r) (l := r_347.1) (f := Value.bool) isO hs_380 und24 siz4 rfl (.inl ⟨rfl, rfl⟩) (.inr ⟨_, rfl⟩) hx_394 fun a_395 c_396 hs_397 => ?_
          refine st_slice (Q := F7.Post F ro r) ?_
          have hs_398 := hs_397.dup
          have hs_399 := hs_398.pull 4 rfl
          have hs_400 := hs_399.dup
          have hs_401 := hs_400.pull 2 rfl
          obtain ⟨r_402, hx_403, hp⟩ := bindp_some hp
          obtain ⟨h_404, e_406, hs_405⟩ := F15.ok hora (ro := ro) (F := .row a122 c122 (xa122.map Value.bool) :: .row a_395 c_396 (x_393.map Value.bool) :: .row a_352 r_347.1.length (r_347.1.map Value.bool) :: .row a124 xa124.length (xa124.map (Value.int .i64)) :: F) a_395 c_396 x_393 a122 c122 xa122 _ hs_401 hx_403
          refine st_ok (Q := F7.Post F ro r) isO e_406 ?_
          refine st_bool (Q := F7.Post F ro r) ?_
          have hs_407 := hs_405.pull 1 rfl
          have hs_408 := hs_407.tail
          have hs_409 := hs_408.pull 2 rfl
          have hs_410 := hs_409.pull 2 rfl
          exact hj152 (!r_402) _ hs_410 hp

def F7.L7p (lf : Nat) : Nat → List Bool → Int → List Int → Int → Int → Option (Bool)
  | 0, _, _, _, _, _ => none
  | n + 1, xa47, n48, xa49, n50, n51 =>
  ifp (decide (n51 < n50)) (
    F7.J8p lf (F7.L7p lf n) xa47 n48 xa49 n50 n51) (
    F7.J12p lf xa47 n48 xa49)

theorem F7.L7_ok {ora : Ora} (hora : HOra ora) {lf ro : Nat} {F : List Ent} {r : (Bool)} : ∀ (n : Nat) (a47 : Option Addr) (c47 : Nat) (xa47 : List Bool) (n48 : Int) (a49 : Option Addr) (xa49 : List Int) (n50 : Int) (n51 : Int) (h : Heap), Sat ro h (.row a47 c47 (xa47.map Value.bool) :: .own ro a49 1 (xa49.map (Value.int .i64)) :: F) → F7.L7p lf n xa47 n48 xa49 n50 n51 = some r → F7.Post F ro r (F7.L7 (callW Tryd.prog ora) lf ro n a47 xa47.length c47 n48 a49 xa49.length xa49.length n50 n51 h) := by
  intro n
  induction n with
  | zero => intro a47 c47 xa47 n48 a49 xa49 n50 n51 h hs hp; cases hp
  | succ n ih =>
    intro a47 c47 xa47 n48 a49 xa49 n50 n51 h hs hp
    unfold F7.L7
    unfold F7.L7p at hp
    refine st_if (Q := F7.Post F ro r) (fun hc_325 => ?_) (fun hc_325 => ?_)
    · replace hp := ifp_t hc_325 hp
      have hs_342 := hs.pull 1 rfl
      have hs_343 := hs_342.pull 1 rfl
      exact F7.J8_ok hora ih a47 _ xa47 n48 a49 xa49 n50 n51 _ hs_343 hp
    · replace hp := ifp_f hc_325 hp
      have hs_452 := hs.pull 1 rfl
      have hs_453 := hs_452.pull 1 rfl
      exact F7.J12_ok hora a47 _ xa47 n48 a49 xa49 _ hs_453 hp

def F7.J6p (lf : Nat) (xa43 : List Bool) (n44 : Int) (xa45 : List Int) : Option (Bool) :=
  F7.L7p lf lf xa43 n44 xa45 (xa45.length : Int) 0

theorem F7.J6_ok {ora : Ora} (hora : HOra ora) {lf ro : Nat} {F : List Ent} {r : (Bool)} (a43 : Option Addr) (c43 : Nat) (xa43 : List Bool) (n44 : Int) (a45 : Option Addr) (xa45 : List Int) (h : Heap) (hs : Sat ro h (.row a43 c43 (xa43.map Value.bool) :: .own ro a45 1 (xa45.map (Value.int .i64)) :: F)) (hp : F7.J6p lf xa43 n44 xa45 = some r) : F7.Post F ro r (F7.J6 (callW Tryd.prog ora) lf ro a43 xa43.length c43 n44 a45 xa45.length xa45.length h) := by
  unfold F7.J6
  unfold F7.J6p at hp
  have hs_454 := hs.pull 1 rfl
  have hs_455 := hs_454.pull 1 rfl
  exact F7.L7_ok hora lf a43 _ xa43 n44 a45 xa45 (xa45.length : Int) 0 _ hs_455 hp

def F7.J3p (lf : Nat) (xa7 : List Bool) (n8 : Int) : Option (Bool) :=
  bindp (F18.p lf xa7 n8) fun r_293 =>
  ifp (r_293.2 != 0) (
    letJ (fun (b34 : Bool) => (
      some b34 : Option (Bool))) fun j36p =>
    ifp (decide (n8 < 2)) (
      ifp (((r_293.1).length : Int) == 0) (
        bindp (F11.p lf) fun r_302 =>
        j36p r_302) (
        j36p false)) (
      ifp (decide (n8 > 12)) (
        ifp (((r_293.1).length : Int) == 0) (
          bindp (F11.p lf) fun r_313 =>
          j36p r_313) (
          j36p false)) (
        j36p false))) (
    F7.J6p lf xa7 n8 r_293.1)

theorem F7.J3_ok {ora : Ora} (hora : HOra ora) {lf ro : Nat} {F : List Ent} {r : (Bool)} (a7 : Option Addr) (c7 : Nat) (xa7 : List Bool) (n8 : Int) (h : Heap) (hs : Sat ro h (.row a7 c7 (xa7.map Value.bool) :: F)) (hp : F7.J3p lf xa7 n8 = some r) : F7.Post F ro r (F7.J3 (callW Tryd.prog ora) lf ro a7 xa7.length c7 n8 h) := by
  unfold F7.J3
  unfold F7.J3p at hp
  have hs_292 := hs.dup
  obtain ⟨r_293, hx_294, hp⟩ := bindp_some hp
  obtain ⟨a_298, h_295, e_297, hs_296⟩ := F18.ok hora (ro := ro) (F := .row a7 c7 (xa7.map Value.bool) :: F) a7 c7 xa7 n8 _ hs_292 hx_294
  refine st_ok (Q := F7.Post F ro r) isO e_297 ?_
  refine st_tup (Q := F7.Post F ro r) (l := [.slice a_298 (r_293.1).length (r_293.1).length, .int .i64 r_293.2]) ?_
  refine st_cons (Q := F7.Post F ro r) ?_
  refine st_slice (Q := F7.Post F ro r) ?_
  refine st_cons (Q := F7.Post F ro r) ?_
  refine st_int (Q := F7.Post F ro r) ?_
  refine st_nil (Q := F7.Post F ro r) ?_
  refine st_if (Q := F7.Post F ro r) (fun hc_299 => ?_) (fun hc_299 => ?_)
  · replace hp := ifp_t hc_299 hp
    refine st_letJ hp (fun j36p j36 => ∀ (b34 : Bool) (h_324 : Heap), Sat ro h_324 (F) → j36p b34 = some r → F7.Post F ro r (j36 b34 h_324)) ?_ ?_
    · intro b34 h_324 hs hp
      cases hp
      exact ⟨_, rfl, hs⟩
    · intro j36p j36 hj36 hp
      refine st_if (Q := F7.Post F ro r) (fun hc_300 => ?_) (fun hc_300 => ?_)
      · replace hp := ifp_t hc_300 hp
        refine st_if (Q := F7.Post F ro r) (fun hc_301 => ?_) (fun hc_301 => ?_)
        · replace hp := ifp_t hc_301 hp
          obtain ⟨r_302, hx_303, hp⟩ := bindp_some hp
          obtain ⟨h_304, e_306, hs_305⟩ := F11.ok hora (ro := ro) (F := .own ro a_298 1 (r_293.1.map (Value.int .i64)) :: .row a7 c7 (xa7.map Value.bool) :: F)  _ hs_296 hx_303
          refine st_ok (Q := F7.Post F ro r) isO e_306 ?_
          refine st_bool (Q := F7.Post F ro r) ?_
          have hs_307 := hs_305.tail
          have hs_308 := hs_307.tail
          exact hj36 r_302 _ hs_308 hp
        · replace hp := ifp_f hc_301 hp
          have hs_309 := hs_296.tail
          have hs_310 := hs_309.tail
          exact hj36 false _ hs_310 hp
      · replace hp := ifp_f hc_300 hp
        refine st_if (Q := F7.Post F ro r) (fun hc_311 => ?_) (fun hc_311 => ?_)
        · replace hp := ifp_t hc_311 hp
          refine st_if (Q := F7.Post F ro r) (fun hc_312 => ?_) (fun hc_312 => ?_)
          · replace hp := ifp_t hc_312 hp
            obtain ⟨r_313, hx_314, hp⟩ := bindp_some hp
            obtain ⟨h_315, e_317, hs_316⟩ := F11.ok hora (ro := ro) (F := .own ro a_298 1 (r_293.1.map (Value.int .i64)) :: .row a7 c7 (xa7.map Value.bool) :: F)  _ hs_296 hx_314
            refine st_ok (Q := F7.Post F ro r) isO e_317 ?_
            refine st_bool (Q := F7.Post F ro r) ?_
            have hs_318 := hs_316.tail
            have hs_319 := hs_318.tail
            exact hj36 r_313 _ hs_319 hp
          · replace hp := ifp_f hc_312 hp
            have hs_320 := hs_296.tail
            have hs_321 := hs_320.tail
            exact hj36 false _ hs_321 hp
        · replace hp := ifp_f hc_311 hp
          have hs_322 := hs_296.tail
          have hs_323 := hs_322.tail
          exact hj36 false _ hs_323 hp
  · replace hp := ifp_f hc_299 hp
    have hs_456 := hs_296.pull 1 rfl
    exact F7.J6_ok hora a7 _ xa7 n8 a_298 r_293.1 _ hs_456 hp

def F7.p (lf : Nat) (xax0 : List Bool) (x1 : Int) : Option (Bool) :=
  ifp (decide ((xax0.length : Int) > 2000)) (
    bindp (F11.p lf) fun r_286 =>
    some r_286) (
    F7.J3p lf xax0 x1)

theorem F7.t_ok {ora : Ora} (hora : HOra ora) {lf ro : Nat} {F : List Ent} {r : (Bool)} (ax0 : Option Addr) (cx0 : Nat) (xax0 : List Bool) (x1 : Int) (h : Heap) (hs : Sat ro h (.row ax0 cx0 (xax0.map Value.bool) :: F)) (hp : F7.p lf xax0 x1 = some r) : F7.Post F ro r (F7.t (callW Tryd.prog ora) lf ro ax0 xax0.length cx0 x1 h) := by
  unfold F7.t
  unfold F7.p at hp
  refine st_if (Q := F7.Post F ro r) (fun hc_285 => ?_) (fun hc_285 => ?_)
  · replace hp := ifp_t hc_285 hp
    obtain ⟨r_286, hx_287, hp⟩ := bindp_some hp
    obtain ⟨h_288, e_290, hs_289⟩ := F11.ok hora (ro := ro) (F := .row ax0 cx0 (xax0.map Value.bool) :: F)  _ hs hx_287
    refine st_ok (Q := F7.Post F ro r) isO e_290 ?_
    refine st_bool (Q := F7.Post F ro r) ?_
    have hs_291 := hs_289.tail
    cases hp
    exact ⟨_, rfl, hs_291⟩
  · replace hp := ifp_f hc_285 hp
    exact F7.J3_ok hora ax0 _ xax0 x1 _ hs hp

theorem F7.ok {ora : Ora} (hora : HOra ora) {lf ro : Nat} {F : List Ent} {r : (Bool)} (ax0 : Option Addr) (cx0 : Nat) (xax0 : List Bool) (x1 : Int) (h : Heap) (hs : Sat ro h (.row ax0 cx0 (xax0.map Value.bool) :: F)) (hp : F7.p lf xax0 x1 = some r) : F7.Post F ro r (callW Tryd.prog ora ro 7 [.slice ax0 xax0.length cx0, .int .i64 x1] h) := by
  have h1 := F7.t_ok hora ax0 cx0 xax0 x1 h hs hp
  have h2 : callW Tryd.prog ora ro 7 [.slice ax0 xax0.length cx0, .int .i64 x1] h = _ := callW_body (hora.none _ _ _ _ (by decide)) Tryd.func7 (F7.le (callW Tryd.prog ora) lf ro ax0 xax0.length cx0 x1 h) (F7.Post.ne h1)
  rw [h2]; exact h1

end Go.Proofs.YtfadfpcelhdfbaaDoor
