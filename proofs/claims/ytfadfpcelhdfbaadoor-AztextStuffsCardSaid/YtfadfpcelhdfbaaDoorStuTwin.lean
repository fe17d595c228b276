/-
  Stuff and Unstuff as plain functions of numbers and lists, and that they answer as the program does where they answer at all; no statement of the seat is proved in this file.
-/
import Derived.Test.YtfadfpcelhdfbaaDoorStuTextS
open Go Go.Abs Go.Proofs
set_option maxRecDepth 100000
set_option linter.unusedVariables false
namespace Go.Proofs.YtfadfpcelhdfbaaDoor
/-- What the proofs ask of the oracle: it leaves the calls to the code, but for the examples (function 11), which hold. -/
structure HOra (ora : Ora) : Prop where
  none : ∀ ro f args h, f ∉ [11] → ora ro f args h = none
  ex : ∀ ro h, ora ro 11 [] h = some (.ok (.bool true) h)
def F11.Post (F : List Ent) (ro : Nat) (r : Bool) (x : Out) : Prop := ∃ h', x = .ok (.bool r) h' ∧ Sat ro h' F
def F11.p (lf : Nat) : Option Bool := some true
theorem F11.ok {ora : Ora} (hora : HOra ora) {lf ro : Nat} {F : List Ent} {r : Bool} (h : Heap) (hs : Sat ro h F) (hp : F11.p lf = some r) : F11.Post F ro r (callW Tryd.prog ora ro 11 [] h) := by
  cases hp
  exact ⟨h, callW_ora (hora.ex ro h) (by simp), hs⟩
end Go.Proofs.YtfadfpcelhdfbaaDoor

open Go Go.Abs Go.Proofs
set_option maxRecDepth 100000
set_option linter.unusedVariables false
set_option linter.unusedSimpArgs false
namespace Go.Proofs.YtfadfpcelhdfbaaDoor

theorem agg24 : isAgg? Tryd.prog 24 = some false := by kernel_rfl
theorem agg3 : isAgg? Tryd.prog 3 = some false := by kernel_rfl
theorem agg4 : isAgg? Tryd.prog 4 = some false := by kernel_rfl
theorem one3 : One Tryd.prog 3 8 := ⟨Tryd.t3, _, by kernel_rfl, rfl, rfl, rfl, rfl⟩
theorem one4 : One Tryd.prog 4 1 := ⟨Tryd.t4, _, by kernel_rfl, rfl, rfl, rfl, rfl⟩
theorem siz3 : sizeOf? Tryd.prog 3 = some 1 := by kernel_rfl
theorem siz4 : sizeOf? Tryd.prog 4 = some 1 := by kernel_rfl
theorem und24 : Tryd.prog.underlying 24 = some (.slice 4) := by kernel_rfl
theorem und35 : Tryd.prog.underlying 35 = some (.slice 3) := by kernel_rfl

def F39.Post (F : List Ent) (ro : Nat) (r : (List Bool × Int)) (x : Out) : Prop := ∃ a0 h', x = .ok (.tuple #[.slice a0 r.1.length r.1.length, .int .i64 r.2]) h' ∧ Sat ro h' (.own ro a0 1 (r.1.map Value.bool) :: F)
theorem F39.Post.ne {F : List Ent} {ro : Nat} {r : (List Bool × Int)} {x : Out} (hx : F39.Post F ro r x) : x ≠ .fail := by
  obtain ⟨a0, h', rfl, _⟩ := hx
  simp

def F39.L8p (lf : Nat) : Nat → Int → List Bool → Int → Option (List Bool × Int)
  | 0, _, _, _ => none
  | n + 1, n19, xa20, n21 =>
  letJ ((
    some (xa20, 0) : Option (List Bool × Int))) fun j44p =>
  ifp (decide (n21 ≥ 0)) (
    bindp (shrp .i64 n19 (IntKind.u64.wrap n21)) fun n_20 =>
    bindp (appp 1 xa20 [(bAnd .i64 n_20 1) == 1]) fun x_24 =>
    F39.L8p lf n n19 x_24 (IntKind.i64.wrap (n21 - 1))) (
    j44p)

theorem F39.L8_ok {ora : Ora} (hora : HOra ora) {lf ro : Nat} {F : List Ent} {r : (List Bool × Int)} : ∀ (n : Nat) (n19 : Int) (a20 : Option Addr) (xa20 : List Bool) (n21 : Int) (h : Heap), Sat ro h (.own ro a20 1 (xa20.map Value.bool) :: F) → F39.L8p lf n n19 xa20 n21 = some r → F39.Post F ro r (F39.L8 (callW Tryd.prog ora) lf ro n n19 a20 xa20.length xa20.length n21 h) := by
  intro n
  induction n with
  | zero => intro n19 a20 xa20 n21 h hs hp; cases hp
  | succ n ih =>
    intro n19 a20 xa20 n21 h hs hp
    unfold F39.L8
    unfold F39.L8p at hp
    refine st_letJ hp (fun j44p j44 => Sat ro h (.own ro a20 1 (xa20.map Value.bool) :: F) → j44p = some r → F39.Post F ro r (j44)) ?_ ?_
    · intro  hs hp
      cases hp
      exact ⟨a20, _, rfl, hs⟩
    · intro j44p j44 hj44 hp
      refine st_if (Q := F39.Post F ro r) (fun hc_19 => ?_) (fun hc_19 => ?_)
      · replace hp := ifp_t hc_19 hp
        obtain ⟨n_20, hx_21, hp⟩ := bindp_some hp
        refine st_shr (Q := F39.Post F ro r) isO hx_21 ?_
        refine st_int (Q := F39.Post F ro r) ?_
        refine st_pushJ (Q := F39.Post F ro r) hs hs.low rfl fun h_22 _ hs_23 => ?_
        have hs_29 := hs_23.pull 1 rfl
        obtain ⟨x_24, hx_25, hp⟩ := bindp_some hp
        refine st_appO (Q := F39.Post F ro r) isO (l := xa20) (x := [(bAnd .i64 n_20 1) == 1]) (f := Value.bool) hs_29 (fun _ => rfl) und24 und24 one4 rfl rfl rfl hx_25 fun a_26 h_27 hs_28 => ?_
        refine st_slice (Q := F39.Post F ro r) ?_
        have hs_30 := hs_28.pull 1 rfl
        have hs_31 := hs_30.tail
        exact ih n19 a_26 x_24 (IntKind.i64.wrap (n21 - 1)) _ hs_31 hp
      · replace hp := ifp_f hc_19 hp
        exact hj44 hs hp

def F39.J5p (lf : Nat) (xa9 : List Bool) (n10 : Int) (n11 : Int) : Option (List Bool × Int) :=
  bindp (appp 1 [] xa9) fun x_12 =>
  F39.L8p lf lf n10 x_12 (IntKind.i64.wrap (n11 - 1))

theorem F39.J5_ok {ora : Ora} (hora : HOra ora) {lf ro : Nat} {F : List Ent} {r : (List Bool × Int)} (a9 : Option Addr) (c9 : Nat) (xa9 : List Bool) (n10 : Int) (n11 : Int) (h : Heap) (hs : Sat ro h (.row a9 c9 (xa9.map Value.bool) :: F)) (hp : F39.J5p lf xa9 n10 n11 = some r) : F39.Post F ro r (F39.J5 (callW Tryd.prog ora) lf ro a9 xa9.length c9 n10 n11 h) := by
  unfold F39.J5
  unfold F39.J5p at hp
  have hs_11 := hs.nilOwn ro 1
  have hs_17 := hs_11.pull 1 rfl
  have hs_18 := hs_17.pull 1 rfl
  obtain ⟨x_12, hx_13, hp⟩ := bindp_some hp
  refine st_appR (Q := F39.Post F ro r) isO (l := []) (x := xa9) (f := Value.bool) hs_18 und24 und24 one4 rfl rfl rfl hx_13 fun a_14 h_15 hs_16 => ?_
  refine st_slice (Q := F39.Post F ro r) ?_
  have hs_33 := hs_16.pull 1 rfl
  have hs_34 := hs_33.tail
  exact F39.L8_ok hora lf n10 a_14 x_12 (IntKind.i64.wrap (n11 - 1)) _ hs_34 hp

def F39.J3p (lf : Nat) (xa5 : List Bool) (n6 : Int) (n7 : Int) : Option (List Bool × Int) :=
  ifp (decide ((xa5.length : Int) > IntKind.i64.wrap (1048576 - n7))) (
    some ([], 4)) (
    F39.J5p lf xa5 n6 n7)

theorem F39.J3_ok {ora : Ora} (hora : HOra ora) {lf ro : Nat} {F : List Ent} {r : (List Bool × Int)} (a5 : Option Addr) (c5 : Nat) (xa5 : List Bool) (n6 : Int) (n7 : Int) (h : Heap) (hs : Sat ro h (.row a5 c5 (xa5.map Value.bool) :: F)) (hp : F39.J3p lf xa5 n6 n7 = some r) : F39.Post F ro r (F39.J3 (callW Tryd.prog ora) lf ro a5 xa5.length c5 n6 n7 h) := by
  unfold F39.J3
  unfold F39.J3p at hp
  refine st_if (Q := F39.Post F ro r) (fun hc_7 => ?_) (fun hc_7 => ?_)
  · replace hp := ifp_t hc_7 hp
    have hs_8 := hs.nilOwn ro 1
    have hs_9 := hs_8.pull 1 rfl
    have hs_10 := hs_9.tail
    cases hp
    exact ⟨none, _, rfl, hs_10⟩
  · replace hp := ifp_f hc_7 hp
    exact F39.J5_ok hora a5 _ xa5 n6 n7 _ hs hp

def F39.p (lf : Nat) (xax0 : List Bool) (x1 : Int) (x2 : Int) : Option (List Bool × Int) :=
  letJ (fun (n1 : Int) (n2 : Int) (b3 : Bool) => (
    ifp b3 (
      some ([], 3)) (
      F39.J3p lf xax0 n1 n2) : Option (List Bool × Int))) fun j4p =>
  ifp (decide (x2 < 0)) (
    j4p x1 x2 true) (
    j4p x1 x2 (decide (x2 > 62)))

theorem F39.t_ok {ora : Ora} (hora : HOra ora) {lf ro : Nat} {F : List Ent} {r : (List Bool × Int)} (ax0 : Option Addr) (cx0 : Nat) (xax0 : List Bool) (x1 : Int) (x2 : Int) (h : Heap) (hs : Sat ro h (.row ax0 cx0 (xax0.map Value.bool) :: F)) (hp : F39.p lf xax0 x1 x2 = some r) : F39.Post F ro r (F39.t (callW Tryd.prog ora) lf ro ax0 xax0.length cx0 x1 x2 h) := by
  unfold F39.t
  unfold F39.p at hp
  refine st_letJ hp (fun j4p j4 => ∀ (n1 : Int) (n2 : Int) (b3 : Bool), Sat ro h (.row ax0 cx0 (xax0.map Value.bool) :: F) → j4p n1 n2 b3 = some r → F39.Post F ro r (j4 n1 n2 b3)) ?_ ?_
  · intro n1 n2 b3 hs hp
    refine st_if (Q := F39.Post F ro r) (fun hc_3 => ?_) (fun hc_3 => ?_)
    · replace hp := ifp_t hc_3 hp
      have hs_4 := hs.nilOwn ro 1
      have hs_5 := hs_4.pull 1 rfl
      have hs_6 := hs_5.tail
      cases hp
      exact ⟨none, _, rfl, hs_6⟩
    · replace hp := ifp_f hc_3 hp
      exact F39.J3_ok hora ax0 _ xax0 n1 n2 _ hs hp
  · intro j4p j4 hj4 hp
    refine st_if (Q := F39.Post F ro r) (fun hc_1 => ?_) (fun hc_1 => ?_)
    · replace hp := ifp_t hc_1 hp
      exact hj4 x1 x2 true hs hp
    · replace hp := ifp_f hc_1 hp
      exact hj4 x1 x2 (decide (x2 > 62)) hs hp

theorem F39.ok {ora : Ora} (hora : HOra ora) {lf ro : Nat} {F : List Ent} {r : (List Bool × Int)} (ax0 : Option Addr) (cx0 : Nat) (xax0 : List Bool) (x1 : Int) (x2 : Int) (h : Heap) (hs : Sat ro h (.row ax0 cx0 (xax0.map Value.bool) :: F)) (hp : F39.p lf xax0 x1 x2 = some r) : F39.Post F ro r (callW Tryd.prog ora ro 39 [.slice ax0 xax0.length cx0, .int .i64 x1, .int .i64 x2] h) := by
  have h1 := F39.t_ok hora ax0 cx0 xax0 x1 x2 h hs hp
  have h2 : callW Tryd.prog ora ro 39 [.slice ax0 xax0.length cx0, .int .i64 x1, .int .i64 x2] h = _ := callW_body (hora.none _ _ _ _ (by decide)) Tryd.func39 (F39.le (callW Tryd.prog ora) lf ro ax0 xax0.length cx0 x1 x2 h) (F39.Post.ne h1)
  rw [h2]; exact h1

def F22.Post (F : List Ent) (ro : Nat) (r : (Bool)) (x : Out) : Prop := ∃ h', x = .ok (.bool r) h' ∧ Sat ro h' (F)
theorem F22.Post.ne {F : List Ent} {ro : Nat} {r : (Bool)} {x : Out} (hx : F22.Post F ro r x) : x ≠ .fail := by
  obtain ⟨h', rfl, _⟩ := hx
  simp

def F22.J6p (lf : Nat) (kb4p : List Int → List Int → Int → Option (Bool)) (xa8 : List Int) (xa9 : List Int) (n10 : Int) : Option (Bool) :=
  bindp (idxp xa8 n10) fun x_39 =>
  bindp (idxp xa9 n10) fun x_41 =>
  ifp (x_39 != x_41) (
    some false) (
    kb4p xa8 xa9 (IntKind.i64.wrap (n10 + 1)))

theorem F22.J6_ok {ora : Ora} (hora : HOra ora) {lf ro : Nat} {F : List Ent} {r : (Bool)} {kb4p : List Int → List Int → Int → Option (Bool)} {kb4 : (Option Addr) → Nat → Nat → (Option Addr) → Nat → Nat → Int → Heap → Out} (hkb4 : ∀ (a4 : Option Addr) (c4 : Nat) (xa4 : List Int) (a5 : Option Addr) (c5 : Nat) (xa5 : List Int) (n6 : Int) (h : Heap), Sat ro h (.row a4 c4 (xa4.map (Value.int .i64)) :: .row a5 c5 (xa5.map (Value.int .i64)) :: F) → kb4p xa4 xa5 n6 = some r → F22.Post F ro r (kb4 a4 xa4.length c4 a5 xa5.length c5 n6 h)) (a8 : Option Addr) (c8 : Nat) (xa8 : List Int) (a9 : Option Addr) (c9 : Nat) (xa9 : List Int) (n10 : Int) (h : Heap) (hs : Sat ro h (.row a8 c8 (xa8.map (Value.int .i64)) :: .row a9 c9 (xa9.map (Value.int .i64)) :: F)) (hp : F22.J6p lf kb4p xa8 xa9 n10 = some r) : F22.Post F ro r (F22.J6 (callW Tryd.prog ora) lf ro kb4 a8 xa8.length c8 a9 xa9.length c9 n10 h) := by
  unfold F22.J6
  unfold F22.J6p at hp
  obtain ⟨x_39, hx_40, hp⟩ := bindp_some hp
  refine st_idxR (Q := F22.Post F ro r) (l := xa8) (f := (Value.int .i64)) isN isN hs und35 siz3 agg3 rfl hx_40 ?_
  refine st_int (Q := F22.Post F ro r) ?_
  have hs_43 := hs.pull 1 rfl
  obtain ⟨x_41, hx_42, hp⟩ := bindp_some hp
  refine st_idxR (Q := F22.Post F ro r) (l := xa9) (f := (Value.int .i64)) isN isN hs_43 und35 siz3 agg3 rfl hx_42 ?_
  refine st_int (Q := F22.Post F ro r) ?_
  refine st_if (Q := F22.Post F ro r) (fun hc_44 => ?_) (fun hc_44 => ?_)
  · replace hp := ifp_t hc_44 hp
    have hs_45 := hs_43.tail
    have hs_46 := hs_45.tail
    cases hp
    exact ⟨_, rfl, hs_46⟩
  · replace hp := ifp_f hc_44 hp
    have hs_47 := hs_43.pull 1 rfl
    exact hkb4 a8 _ xa8 a9 _ xa9 (IntKind.i64.wrap (n10 + 1)) _ hs_47 hp

def F22.L4p (lf : Nat) : Nat → List Int → List Int → Int → Option (Bool)
  | 0, _, _, _ => none
  | n + 1, xa4, xa5, n6 =>
  ifp (decide (n6 < (xa4.length : Int))) (
    F22.J6p lf (F22.L4p lf n) xa4 xa5 n6) (
    some true)

theorem F22.L4_ok {ora : Ora} (hora : HOra ora) {lf ro : Nat} {F : List Ent} {r : (Bool)} : ∀ (n : Nat) (a4 : Option Addr) (c4 : Nat) (xa4 : List Int) (a5 : Option Addr) (c5 : Nat) (xa5 : List Int) (n6 : Int) (h : Heap), Sat ro h (.row a4 c4 (xa4.map (Value.int .i64)) :: .row a5 c5 (xa5.map (Value.int .i64)) :: F) → F22.L4p lf n xa4 xa5 n6 = some r → F22.Post F ro r (F22.L4 (callW Tryd.prog ora) lf ro n a4 xa4.length c4 a5 xa5.length c5 n6 h) := by
  intro n
  induction n with
  | zero => intro a4 c4 xa4 a5 c5 xa5 n6 h hs hp; cases hp
  | succ n ih =>
    intro a4 c4 xa4 a5 c5 xa5 n6 h hs hp
    unfold F22.L4
    unfold F22.L4p at hp
    refine st_if (Q := F22.Post F ro r) (fun hc_38 => ?_) (fun hc_38 => ?_)
    · replace hp := ifp_t hc_38 hp
      have hs_48 := hs.pull 1 rfl
      have hs_49 := hs_48.pull 1 rfl
      exact F22.J6_ok hora ih a4 _ xa4 a5 _ xa5 n6 _ hs_49 hp
    · replace hp := ifp_f hc_38 hp
      have hs_50 := hs.tail
      have hs_51 := hs_50.tail
      cases hp
      exact ⟨_, rfl, hs_51⟩

def F22.J3p (lf : Nat) (xa1 : List Int) (xa2 : List Int) : Option (Bool) :=
  F22.L4p lf lf xa1 xa2 0

theorem F22.J3_ok {ora : Ora} (hora : HOra ora) {lf ro : Nat} {F : List Ent} {r : (Bool)} (a1 : Option Addr) (c1 : Nat) (xa1 : List Int) (a2 : Option Addr) (c2 : Nat) (xa2 : List Int) (h : Heap) (hs : Sat ro h (.row a1 c1 (xa1.map (Value.int .i64)) :: .row a2 c2 (xa2.map (Value.int .i64)) :: F)) (hp : F22.J3p lf xa1 xa2 = some r) : F22.Post F ro r (F22.J3 (callW Tryd.prog ora) lf ro a1 xa1.length c1 a2 xa2.length c2 h) := by
  unfold F22.J3
  unfold F22.J3p at hp
  have hs_52 := hs.pull 1 rfl
  have hs_53 := hs_52.pull 1 rfl
  exact F22.L4_ok hora lf a1 _ xa1 a2 _ xa2 0 _ hs_53 hp

def F22.p (lf : Nat) (xax0 : List Int) (xax1 : List Int) : Option (Bool) :=
  ifp ((xax0.length : Int) != (xax1.length : Int)) (
    some false) (
    F22.J3p lf xax0 xax1)

theorem F22.t_ok {ora : Ora} (hora : HOra ora) {lf ro : Nat} {F : List Ent} {r : (Bool)} (ax0 : Option Addr) (cx0 : Nat) (xax0 : List Int) (ax1 : Option Addr) (cx1 : Nat) (xax1 : List Int) (h : Heap) (hs : Sat ro h (.row ax0 cx0 (xax0.map (Value.int .i64)) :: .row ax1 cx1 (xax1.map (Value.int .i64)) :: F)) (hp : F22.p lf xax0 xax1 = some r) : F22.Post F ro r (F22.t (callW Tryd.prog ora) lf ro ax0 xax0.length cx0 ax1 xax1.length cx1 h) := by
  unfold F22.t
  unfold F22.p at hp
  refine st_if (Q := F22.Post F ro r) (fun hc_35 => ?_) (fun hc_35 => ?_)
  · replace hp := ifp_t hc_35 hp
    have hs_36 := hs.tail
    have hs_37 := hs_36.tail
    cases hp
    exact ⟨_, rfl, hs_37⟩
  · replace hp := ifp_f hc_35 hp
    have hs_54 := hs.pull 1 rfl
    have hs_55 := hs_54.pull 1 rfl
    exact F22.J3_ok hora ax0 _ xax0 ax1 _ xax1 _ hs_55 hp

theorem F22.ok {ora : Ora} (hora : HOra ora) {lf ro : Nat} {F : List Ent} {r : (Bool)} (ax0 : Option Addr) (cx0 : Nat) (xax0 : List Int) (ax1 : Option Addr) (cx1 : Nat) (xax1 : List Int) (h : Heap) (hs : Sat ro h (.row ax0 cx0 (xax0.map (Value.int .i64)) :: .row ax1 cx1 (xax1.map (Value.int .i64)) :: F)) (hp : F22.p lf xax0 xax1 = some r) : F22.Post F ro r (callW Tryd.prog ora ro 22 [.slice ax0 xax0.length cx0, .slice ax1 xax1.length cx1] h) := by
  have h1 := F22.t_ok hora ax0 cx0 xax0 ax1 cx1 xax1 h hs hp
  have h2 : callW Tryd.prog ora ro 22 [.slice ax0 xax0.length cx0, .slice ax1 xax1.length cx1] h = _ := callW_body (hora.none _ _ _ _ (by decide)) Tryd.func22 (F22.le (callW Tryd.prog ora) lf ro ax0 xax0.length cx0 ax1 xax1.length cx1 h) (F22.Post.ne h1)
  rw [h2]; exact h1

def F15.Post (F : List Ent) (ro : Nat) (r : (Bool)) (x : Out) : Prop := ∃ h', x = .ok (.bool r) h' ∧ Sat ro h' (F)
theorem F15.Post.ne {F : List Ent} {ro : Nat} {r : (Bool)} {x : Out} (hx : F15.Post F ro r x) : x ≠ .fail := by
  obtain ⟨h', rfl, _⟩ := hx
  simp

def F15.J6p (lf : Nat) (kb4p : List Bool → List Bool → Int → Option (Bool)) (xa8 : List Bool) (xa9 : List Bool) (n10 : Int) : Option (Bool) :=
  bindp (idxp xa8 n10) fun x_60 =>
  bindp (idxp xa9 n10) fun x_62 =>
  ifp (!(x_60 == x_62)) (
    some false) (
    kb4p xa8 xa9 (IntKind.i64.wrap (n10 + 1)))

theorem F15.J6_ok {ora : Ora} (hora : HOra ora) {lf ro : Nat} {F : List Ent} {r : (Bool)} {kb4p : List Bool → List Bool → Int → Option (Bool)} {kb4 : (Option Addr) → Nat → Nat → (Option Addr) → Nat → Nat → Int → Heap → Out} (hkb4 : ∀ (a4 : Option Addr) (c4 : Nat) (xa4 : List Bool) (a5 : Option Addr) (c5 : Nat) (xa5 : List Bool) (n6 : Int) (h : Heap), Sat ro h (.row a4 c4 (xa4.map Value.bool) :: .row a5 c5 (xa5.map Value.bool) :: F) → kb4p xa4 xa5 n6 = some r → F15.Post F ro r (kb4 a4 xa4.length c4 a5 xa5.length c5 n6 h)) (a8 : Option Addr) (c8 : Nat) (xa8 : List Bool) (a9 : Option Addr) (c9 : Nat) (xa9 : List Bool) (n10 : Int) (h : Heap) (hs : Sat ro h (.row a8 c8 (xa8.map Value.bool) :: .row a9 c9 (xa9.map Value.bool) :: F)) (hp : F15.J6p lf kb4p xa8 xa9 n10 = some r) : F15.Post F ro r (F15.J6 (callW Tryd.prog ora) lf ro kb4 a8 xa8.length c8 a9 xa9.length c9 n10 h) := by
  unfold F15.J6
  unfold F15.J6p at hp
  obtain ⟨x_60, hx_61, hp⟩ := bindp_some hp
  refine st_idxR (Q := F15.Post F ro r) (l := xa8) (f := Value.bool) isN isN hs und24 siz4 agg4 rfl hx_61 ?_
  refine st_bool (Q := F15.Post F ro r) ?_
  have hs_64 := hs.pull 1 rfl
  obtain ⟨x_62, hx_63, hp⟩ := bindp_some hp
  refine st_idxR (Q := F15.Post F ro r) (l := xa9) (f := Value.bool) isN isN hs_64 und24 siz4 agg4 rfl hx_63 ?_
  refine st_bool (Q := F15.Post F ro r) ?_
  refine st_if (Q := F15.Post F ro r) (fun hc_65 => ?_) (fun hc_65 => ?_)
  · replace hp := ifp_t hc_65 hp
    have hs_66 := hs_64.tail
    have hs_67 := hs_66.tail
    cases hp
    exact ⟨_, rfl, hs_67⟩
  · replace hp := ifp_f hc_65 hp
    have hs_68 := hs_64.pull 1 rfl
    exact hkb4 a8 _ xa8 a9 _ xa9 (IntKind.i64.wrap (n10 + 1)) _ hs_68 hp

def F15.L4p (lf : Nat) : Nat → List Bool → List Bool → Int → Option (Bool)
  | 0, _, _, _ => none
  | n + 1, xa4, xa5, n6 =>
  ifp (decide (n6 < (xa4.length : Int))) (
    F15.J6p lf (F15.L4p lf n) xa4 xa5 n6) (
    some true)

theorem F15.L4_ok {ora : Ora} (hora : HOra ora) {lf ro : Nat} {F : List Ent} {r : (Bool)} : ∀ (n : Nat) (a4 : Option Addr) (c4 : Nat) (xa4 : List Bool) (a5 : Option Addr) (c5 : Nat) (xa5 : List Bool) (n6 : Int) (h : Heap), Sat ro h (.row a4 c4 (xa4.map Value.bool) :: .row a5 c5 (xa5.map Value.bool) :: F) → F15.L4p lf n xa4 xa5 n6 = some r → F15.Post F ro r (F15.L4 (callW Tryd.prog ora) lf ro n a4 xa4.length c4 a5 xa5.length c5 n6 h) := by
  intro n
  induction n with
  | zero => intro a4 c4 xa4 a5 c5 xa5 n6 h hs hp; cases hp
  | succ n ih =>
    intro a4 c4 xa4 a5 c5 xa5 n6 h hs hp
    unfold F15.L4
    unfold F15.L4p at hp
    refine st_if (Q := F15.Post F ro r) (fun hc_59 => ?_) (fun hc_59 => ?_)
    · replace hp := ifp_t hc_59 hp
      have hs_69 := hs.pull 1 rfl
      have hs_70 := hs_69.pull 1 rfl
      exact F15.J6_ok hora ih a4 _ xa4 a5 _ xa5 n6 _ hs_70 hp
    · replace hp := ifp_f hc_59 hp
      have hs_71 := hs.tail
      have hs_72 := hs_71.tail
      cases hp
      exact ⟨_, rfl, hs_72⟩

def F15.J3p (lf : Nat) (xa1 : List Bool) (xa2 : List Bool) : Option (Bool) :=
  F15.L4p lf lf xa1 xa2 0

theorem F15.J3_ok {ora : Ora} (hora : HOra ora) {lf ro : Nat} {F : List Ent} {r : (Bool)} (a1 : Option Addr) (c1 : Nat) (xa1 : List Bool) (a2 : Option Addr) (c2 : Nat) (xa2 : List Bool) (h : Heap) (hs : Sat ro h (.row a1 c1 (xa1.map Value.bool) :: .row a2 c2 (xa2.map Value.bool) :: F)) (hp : F15.J3p lf xa1 xa2 = some r) : F15.Post F ro r (F15.J3 (callW Tryd.prog ora) lf ro a1 xa1.length c1 a2 xa2.length c2 h) := by
  unfold F15.J3
  unfold F15.J3p at hp
  have hs_73 := hs.pull 1 rfl
  have hs_74 := hs_73.pull 1 rfl
  exact F15.L4_ok hora lf a1 _ xa1 a2 _ xa2 0 _ hs_74 hp

def F15.p (lf : Nat) (xax0 : List Bool) (xax1 : List Bool) : Option (Bool) :=
  ifp ((xax0.length : Int) != (xax1.length : Int)) (
    some false) (
    F15.J3p lf xax0 xax1)

theorem F15.t_ok {ora : Ora} (hora : HOra ora) {lf ro : Nat} {F : List Ent} {r : (Bool)} (ax0 : Option Addr) (cx0 : Nat) (xax0 : List Bool) (ax1 : Option Addr) (cx1 : Nat) (xax1 : List Bool) (h : Heap) (hs : Sat ro h (.row ax0 cx0 (xax0.map Value.bool) :: .row ax1 cx1 (xax1.map Value.bool) :: F)) (hp : F15.p lf xax0 xax1 = some r) : F15.Post F ro r (F15.t (callW Tryd.prog ora) lf ro ax0 xax0.length cx0 ax1 xax1.length cx1 h) := by
  unfold F15.t
  unfold F15.p at hp
  refine st_if (Q := F15.Post F ro r) (fun hc_56 => ?_) (fun hc_56 => ?_)
  · replace hp := ifp_t hc_56 hp
    have hs_57 := hs.tail
    have hs_58 := hs_57.tail
    cases hp
    exact ⟨_, rfl, hs_58⟩
  · replace hp := ifp_f hc_56 hp
    have hs_75 := hs.pull 1 rfl
    have hs_76 := hs_75.pull 1 rfl
    exact F15.J3_ok hora ax0 _ xax0 ax1 _ xax1 _ hs_76 hp

theorem F15.ok {ora : Ora} (hora : HOra ora) {lf ro : Nat} {F : List Ent} {r : (Bool)} (ax0 : Option Addr) (cx0 : Nat) (xax0 : List Bool) (ax1 : Option Addr) (cx1 : Nat) (xax1 : List Bool) (h : Heap) (hs : Sat ro h (.row ax0 cx0 (xax0.map Value.bool) :: .row ax1 cx1 (xax1.map Value.bool) :: F)) (hp : F15.p lf xax0 xax1 = some r) : F15.Post F ro r (callW Tryd.prog ora ro 15 [.slice ax0 xax0.length cx0, .slice ax1 xax1.length cx1] h) := by
  have h1 := F15.t_ok hora ax0 cx0 xax0 ax1 cx1 xax1 h hs hp
  have h2 : callW Tryd.prog ora ro 15 [.slice ax0 xax0.length cx0, .slice ax1 xax1.length cx1] h = _ := callW_body (hora.none _ _ _ _ (by decide)) Tryd.func15 (F15.le (callW Tryd.prog ora) lf ro ax0 xax0.length cx0 ax1 xax1.length cx1 h) (F15.Post.ne h1)
  rw [h2]; exact h1

def F19.Post (F : List Ent) (ro : Nat) (r : (List Int × Int)) (x : Out) : Prop := ∃ a0 h', x = .ok (.tuple #[.slice a0 r.1.length r.1.length, .int .i64 r.2]) h' ∧ Sat ro h' (.own ro a0 1 (r.1.map (Value.int .i64)) :: F)
theorem F19.Post.ne {F : List Ent} {ro : Nat} {r : (List Int × Int)} {x : Out} (hx : F19.Post F ro r x) : x ≠ .fail := by
  obtain ⟨a0, h', rfl, _⟩ := hx
  simp

def F19.J12p (lf : Nat) (kb7p : List Bool → Int → List Int → Int → Option (List Int × Int)) (kb10p : List Bool → Int → List Int → Int → Int → Int → Option (List Int × Int)) (xa27 : List Bool) (n28 : Int) (xa29 : List Int) (n30 : Int) (n31 : Int) (n32 : Int) : Option (List Int × Int) :=
  letJ (fun (n76 : Int) => (
    kb10p xa27 n28 xa29 n30 n76 (IntKind.i64.wrap (n32 + 1)) : Option (List Int × Int))) fun j78p =>
  letJ (fun (b84 : Bool) => (
    ifp b84 (
      j78p (IntKind.i64.wrap ((IntKind.i64.wrap (2 * n31)) + 1))) (
      j78p (IntKind.i64.wrap (2 * n31))) : Option (List Int × Int))) fun j86p =>
  ifp (decide (n32 ≥ (xa27.length : Int))) (
    j86p true) (
    bindp (idxp xa27 n32) fun x_92 =>
    j86p x_92)

theorem F19.J12_ok {ora : Ora} (hora : HOra ora) {lf ro : Nat} {F : List Ent} {r : (List Int × Int)} {kb7p : List Bool → Int → List Int → Int → Option (List Int × Int)} {kb7 : (Option Addr) → Nat → Nat → Int → (Option Addr) → Nat → Nat → Int → Heap → Out} (hkb7 : ∀ (a10 : Option Addr) (c10 : Nat) (xa10 : List Bool) (n11 : Int) (a12 : Option Addr) (xa12 : List Int) (n13 : Int) (h : Heap), Sat ro h (.row a10 c10 (xa10.map Value.bool) :: .own ro a12 1 (xa12.map (Value.int .i64)) :: F) → kb7p xa10 n11 xa12 n13 = some r → F19.Post F ro r (kb7 a10 xa10.length c10 n11 a12 xa12.length xa12.length n13 h)) {kb10p : List Bool → Int → List Int → Int → Int → Int → Option (List Int × Int)} {kb10 : (Option Addr) → Nat → Nat → Int → (Option Addr) → Nat → Nat → Int → Int → Int → Heap → Out} (hkb10 : ∀ (a20 : Option Addr) (c20 : Nat) (xa20 : List Bool) (n21 : Int) (a22 : Option Addr) (xa22 : List Int) (n23 : Int) (n24 : Int) (n25 : Int) (h : Heap), Sat ro h (.row a20 c20 (xa20.map Value.bool) :: .own ro a22 1 (xa22.map (Value.int .i64)) :: F) → kb10p xa20 n21 xa22 n23 n24 n25 = some r → F19.Post F ro r (kb10 a20 xa20.length c20 n21 a22 xa22.length xa22.length n23 n24 n25 h)) (a27 : Option Addr) (c27 : Nat) (xa27 : List Bool) (n28 : Int) (a29 : Option Addr) (xa29 : List Int) (n30 : Int) (n31 : Int) (n32 : Int) (h : Heap) (hs : Sat ro h (.row a27 c27 (xa27.map Value.bool) :: .own ro a29 1 (xa29.map (Value.int .i64)) :: F)) (hp : F19.J12p lf kb7p kb10p xa27 n28 xa29 n30 n31 n32 = some r) : F19.Post F ro r (F19.J12 (callW Tryd.prog ora) lf ro kb7 kb10 a27 xa27.length c27 n28 a29 xa29.length xa29.length n30 n31 n32 h) := by
  unfold F19.J12
  unfold F19.J12p at hp
  refine st_letJ hp (fun j78p j78 => ∀ (n76 : Int) (h_102 : Heap), Sat ro h_102 (.row a27 c27 (xa27.map Value.bool) :: .own ro a29 1 (xa29.map (Value.int .i64)) :: F) → j78p n76 = some r → F19.Post F ro r (j78 n76 h_102)) ?_ ?_
  · intro n76 h_102 hs hp
    have hs_103 := hs.pull 1 rfl
    have hs_104 := hs_103.pull 1 rfl
    exact hkb10 a27 _ xa27 n28 a29 xa29 n30 n76 (IntKind.i64.wrap (n32 + 1)) _ hs_104 hp
  · intro j78p j78 hj78 hp
    refine st_letJ hp (fun j86p j86 => ∀ (b84 : Bool) (h_96 : Heap), Sat ro h_96 (.row a27 c27 (xa27.map Value.bool) :: .own ro a29 1 (xa29.map (Value.int .i64)) :: F) → j86p b84 = some r → F19.Post F ro r (j86 b84 h_96)) ?_ ?_
    · intro b84 h_96 hs hp
      refine st_if (Q := F19.Post F ro r) (fun hc_97 => ?_) (fun hc_97 => ?_)
      · replace hp := ifp_t hc_97 hp
        have hs_98 := hs.pull 1 rfl
        have hs_99 := hs_98.pull 1 rfl
        exact hj78 (IntKind.i64.wrap ((IntKind.i64.wrap (2 * n31)) + 1)) _ hs_99 hp
      · replace hp := ifp_f hc_97 hp
        have hs_100 := hs.pull 1 rfl
        have hs_101 := hs_100.pull 1 rfl
        exact hj78 (IntKind.i64.wrap (2 * n31)) _ hs_101 hp
    · intro j86p j86 hj86 hp
      refine st_if (Q := F19.Post F ro r) (fun hc_89 => ?_) (fun hc_89 => ?_)
      · replace hp := ifp_t hc_89 hp
        have hs_90 := hs.pull 1 rfl
        have hs_91 := hs_90.pull 1 rfl
        exact hj86 true _ hs_91 hp
      · replace hp := ifp_f hc_89 hp
        obtain ⟨x_92, hx_93, hp⟩ := bindp_some hp
        refine st_idxR (Q := F19.Post F ro r) (l := xa27) (f := Value.bool) isO isO hs und24 siz4 agg4 rfl hx_93 ?_
        refine st_bool (Q := F19.Post F ro r) ?_
        have hs_94 := hs.pull 1 rfl
        have hs_95 := hs_94.pull 1 rfl
        exact hj86 x_92 _ hs_95 hp

def F19.J15p (lf : Nat) (kb7p : List Bool → Int → List Int → Int → Option (List Int × Int)) (xa98 : List Bool) (n99 : Int) (xa100 : List Int) (n101 : Int) (n102 : Int) : Option (List Int × Int) :=
  letJ (fun (n175 : Int) (n176 : Int) => (
    bindp (appp 8 xa100 [n176]) fun x_134 =>
    kb7p xa98 n99 x_134 n175 : Option (List Int × Int))) fun j178p =>
  ifp (n102 == 0) (
    j178p (IntKind.i64.wrap ((IntKind.i64.wrap (n101 + n99)) - 1)) 1) (
    bindp (shlp .i64 1 (IntKind.u64.wrap (IntKind.i64.wrap (n99 - 1)))) fun n_110 =>
    ifp (n102 == (IntKind.i64.wrap (n_110 - 1))) (
      j178p (IntKind.i64.wrap ((IntKind.i64.wrap (n101 + n99)) - 1)) (IntKind.i64.wrap (2 * n102))) (
      letJ (fun (b194 : Bool) => (
        letJ (fun (n197 : Int) => (
          j178p (IntKind.i64.wrap ((IntKind.i64.wrap ((IntKind.i64.wrap (n101 + n99)) - 1)) + 1)) n197 : Option (List Int × Int))) fun j198p =>
        ifp b194 (
          j198p (IntKind.i64.wrap ((IntKind.i64.wrap (2 * n102)) + 1))) (
          j198p (IntKind.i64.wrap (2 * n102))) : Option (List Int × Int))) fun j196p =>
      ifp (decide (IntKind.i64.wrap ((IntKind.i64.wrap (n101 + n99)) - 1) ≥ (xa98.length : Int))) (
        j196p true) (
        bindp (idxp xa98 (IntKind.i64.wrap ((IntKind.i64.wrap (n101 + n99)) - 1))) fun x_118 =>
        j196p x_118)))

theorem F19.J15_ok {ora : Ora} (hora : HOra ora) {lf ro : Nat} {F : List Ent} {r : (List Int × Int)} {kb7p : List Bool → Int → List Int → Int → Option (List Int × Int)} {kb7 : (Option Addr) → Nat → Nat → Int → (Option Addr) → Nat → Nat → Int → Heap → Out} (hkb7 : ∀ (a10 : Option Addr) (c10 : Nat) (xa10 : List Bool) (n11 : Int) (a12 : Option Addr) (xa12 : List Int) (n13 : Int) (h : Heap), Sat ro h (.row a10 c10 (xa10.map Value.bool) :: .own ro a12 1 (xa12.map (Value.int .i64)) :: F) → kb7p xa10 n11 xa12 n13 = some r → F19.Post F ro r (kb7 a10 xa10.length c10 n11 a12 xa12.length xa12.length n13 h)) (a98 : Option Addr) (c98 : Nat) (xa98 : List Bool) (n99 : Int) (a100 : Option Addr) (xa100 : List Int) (n101 : Int) (n102 : Int) (h : Heap) (hs : Sat ro h (.row a98 c98 (xa98.map Value.bool) :: .own ro a100 1 (xa100.map (Value.int .i64)) :: F)) (hp : F19.J15p lf kb7p xa98 n99 xa100 n101 n102 = some r) : F19.Post F ro r (F19.J15 (callW Tryd.prog ora) lf ro kb7 a98 xa98.length c98 n99 a100 xa100.length xa100.length n101 n102 h) := by
  unfold F19.J15
  unfold F19.J15p at hp
  refine st_letJ hp (fun j178p j178 => ∀ (n175 : Int) (n176 : Int) (h_131 : Heap), Sat ro h_131 (.row a98 c98 (xa98.map Value.bool) :: .own ro a100 1 (xa100.map (Value.int .i64)) :: F) → j178p n175 n176 = some r → F19.Post F ro r (j178 n175 n176 h_131)) ?_ ?_
  · intro n175 n176 h_131 hs hp
    refine st_pushJ (Q := F19.Post F ro r) hs hs.low rfl fun h_132 _ hs_133 => ?_
    have hs_139 := hs_133.pull 2 rfl
    obtain ⟨x_134, hx_135, hp⟩ := bindp_some hp
    refine st_appO (Q := F19.Post F ro r) isO (l := xa100) (x := [n176]) (f := (Value.int .i64)) hs_139 (fun _ => rfl) und35 und35 one3 rfl rfl rfl hx_135 fun a_136 h_137 hs_138 => ?_
    refine st_slice (Q := F19.Post F ro r) ?_
    have hs_140 := hs_138.pull 1 rfl
    have hs_141 := hs_140.tail
    have hs_142 := hs_141.pull 1 rfl
    exact hkb7 a98 _ xa98 n99 a_136 x_134 n175 _ hs_142 hp
  · intro j178p j178 hj178 hp
    refine st_if (Q := F19.Post F ro r) (fun hc_107 => ?_) (fun hc_107 => ?_)
    · replace hp := ifp_t hc_107 hp
      have hs_108 := hs.pull 1 rfl
      have hs_109 := hs_108.pull 1 rfl
      exact hj178 (IntKind.i64.wrap ((IntKind.i64.wrap (n101 + n99)) - 1)) 1 _ hs_109 hp
    · replace hp := ifp_f hc_107 hp
      obtain ⟨n_110, hx_111, hp⟩ := bindp_some hp
      refine st_shl (Q := F19.Post F ro r) isO hx_111 ?_
      refine st_int (Q := F19.Post F ro r) ?_
      refine st_if (Q := F19.Post F ro r) (fun hc_112 => ?_) (fun hc_112 => ?_)
      · replace hp := ifp_t hc_112 hp
        have hs_113 := hs.pull 1 rfl
        have hs_114 := hs_113.pull 1 rfl
        exact hj178 (IntKind.i64.wrap ((IntKind.i64.wrap (n101 + n99)) - 1)) (IntKind.i64.wrap (2 * n102)) _ hs_114 hp
      · replace hp := ifp_f hc_112 hp
        refine st_letJ hp (fun j196p j196 => ∀ (b194 : Bool) (h_122 : Heap), Sat ro h_122 (.row a98 c98 (xa98.map Value.bool) :: .own ro a100 1 (xa100.map (Value.int .i64)) :: F) → j196p b194 = some r → F19.Post F ro r (j196 b194 h_122)) ?_ ?_
        · intro b194 h_122 hs hp
          refine st_letJ hp (fun j198p j198 => ∀ (n197 : Int), Sat ro h_122 (.row a98 c98 (xa98.map Value.bool) :: .own ro a100 1 (xa100.map (Value.int .i64)) :: F) → j198p n197 = some r → F19.Post F ro r (j198 n197)) ?_ ?_
          · intro n197 hs hp
            have hs_129 := hs.pull 1 rfl
            have hs_130 := hs_129.pull 1 rfl
            exact hj178 (IntKind.i64.wrap ((IntKind.i64.wrap ((IntKind.i64.wrap (n101 + n99)) - 1)) + 1)) n197 _ hs_130 hp
          · intro j198p j198 hj198 hp
            refine st_if (Q := F19.Post F ro r) (fun hc_123 => ?_) (fun hc_123 => ?_)
            · replace hp := ifp_t hc_123 hp
              have hs_124 := hs.pull 1 rfl
              have hs_125 := hs_124.pull 1 rfl
              exact hj198 (IntKind.i64.wrap ((IntKind.i64.wrap (2 * n102)) + 1)) hs_125 hp
            · replace hp := ifp_f hc_123 hp
              have hs_126 := hs.pull 1 rfl
              have hs_127 := hs_126.pull 1 rfl
              exact hj198 (IntKind.i64.wrap (2 * n102)) hs_127 hp
        · intro j196p j196 hj196 hp
          refine st_if (Q := F19.Post F ro r) (fun hc_115 => ?_) (fun hc_115 => ?_)
          · replace hp := ifp_t hc_115 hp
            have hs_116 := hs.pull 1 rfl
            have hs_117 := hs_116.pull 1 rfl
            exact hj196 true _ hs_117 hp
          · replace hp := ifp_f hc_115 hp
            obtain ⟨x_118, hx_119, hp⟩ := bindp_some hp
            refine st_idxR (Q := F19.Post F ro r) (l := xa98) (f := Value.bool) isO isO hs und24 siz4 agg4 rfl hx_119 ?_
            refine st_bool (Q := F19.Post F ro r) ?_
            have hs_120 := hs.pull 1 rfl
            have hs_121 := hs_120.pull 1 rfl
            exact hj196 x_118 _ hs_121 hp

def F19.L10p (lf : Nat) (kb7p : List Bool → Int → List Int → Int → Option (List Int × Int)) : Nat → List Bool → Int → List Int → Int → Int → Int → Option (List Int × Int)
  | 0, _, _, _, _, _, _ => none
  | n + 1, xa20, n21, xa22, n23, n24, n25 =>
  ifp (decide (n25 < IntKind.i64.wrap ((IntKind.i64.wrap (n23 + n21)) - 1))) (
    F19.J12p lf kb7p (F19.L10p lf kb7p n) xa20 n21 xa22 n23 n24 n25) (
    F19.J15p lf kb7p xa20 n21 xa22 n23 n24)

theorem F19.L10_ok {ora : Ora} (hora : HOra ora) {lf ro : Nat} {F : List Ent} {r : (List Int × Int)} {kb7p : List Bool → Int → List Int → Int → Option (List Int × Int)} {kb7 : (Option Addr) → Nat → Nat → Int → (Option Addr) → Nat → Nat → Int → Heap → Out} (hkb7 : ∀ (a10 : Option Addr) (c10 : Nat) (xa10 : List Bool) (n11 : Int) (a12 : Option Addr) (xa12 : List Int) (n13 : Int) (h : Heap), Sat ro h (.row a10 c10 (xa10.map Value.bool) :: .own ro a12 1 (xa12.map (Value.int .i64)) :: F) → kb7p xa10 n11 xa12 n13 = some r → F19.Post F ro r (kb7 a10 xa10.length c10 n11 a12 xa12.length xa12.length n13 h)) : ∀ (n : Nat) (a20 : Option Addr) (c20 : Nat) (xa20 : List Bool) (n21 : Int) (a22 : Option Addr) (xa22 : List Int) (n23 : Int) (n24 : Int) (n25 : Int) (h : Heap), Sat ro h (.row a20 c20 (xa20.map Value.bool) :: .own ro a22 1 (xa22.map (Value.int .i64)) :: F) → F19.L10p lf kb7p n xa20 n21 xa22 n23 n24 n25 = some r → F19.Post F ro r (F19.L10 (callW Tryd.prog ora) lf ro kb7 n a20 xa20.length c20 n21 a22 xa22.length xa22.length n23 n24 n25 h) := by
  intro n
  induction n with
  | zero => intro a20 c20 xa20 n21 a22 xa22 n23 n24 n25 h hs hp; cases hp
  | succ n ih =>
    intro a20 c20 xa20 n21 a22 xa22 n23 n24 n25 h hs hp
    unfold F19.L10
    unfold F19.L10p at hp
    refine st_if (Q := F19.Post F ro r) (fun hc_88 => ?_) (fun hc_88 => ?_)
    · replace hp := ifp_t hc_88 hp
      have hs_105 := hs.pull 1 rfl
      have hs_106 := hs_105.pull 1 rfl
      exact F19.J12_ok hora hkb7 ih a20 _ xa20 n21 a22 xa22 n23 n24 n25 _ hs_106 hp
    · replace hp := ifp_f hc_88 hp
      have hs_143 := hs.pull 1 rfl
      have hs_144 := hs_143.pull 1 rfl
      exact F19.J15_ok hora hkb7 a20 _ xa20 n21 a22 xa22 n23 n24 _ hs_144 hp

def F19.J8p (lf : Nat) (kb7p : List Bool → Int → List Int → Int → Option (List Int × Int)) (xa15 : List Bool) (n16 : Int) (xa17 : List Int) (n18 : Int) : Option (List Int × Int) :=
  F19.L10p lf kb7p lf xa15 n16 xa17 n18 0 n18

theorem F19.J8_ok {ora : Ora} (hora : HOra ora) {lf ro : Nat} {F : List Ent} {r : (List Int × Int)} {kb7p : List Bool → Int → List Int → Int → Option (List Int × Int)} {kb7 : (Option Addr) → Nat → Nat → Int → (Option Addr) → Nat → Nat → Int → Heap → Out} (hkb7 : ∀ (a10 : Option Addr) (c10 : Nat) (xa10 : List Bool) (n11 : Int) (a12 : Option Addr) (xa12 : List Int) (n13 : Int) (h : Heap), Sat ro h (.row a10 c10 (xa10.map Value.bool) :: .own ro a12 1 (xa12.map (Value.int .i64)) :: F) → kb7p xa10 n11 xa12 n13 = some r → F19.Post F ro r (kb7 a10 xa10.length c10 n11 a12 xa12.length xa12.length n13 h)) (a15 : Option Addr) (c15 : Nat) (xa15 : List Bool) (n16 : Int) (a17 : Option Addr) (xa17 : List Int) (n18 : Int) (h : Heap) (hs : Sat ro h (.row a15 c15 (xa15.map Value.bool) :: .own ro a17 1 (xa17.map (Value.int .i64)) :: F)) (hp : F19.J8p lf kb7p xa15 n16 xa17 n18 = some r) : F19.Post F ro r (F19.J8 (callW Tryd.prog ora) lf ro kb7 a15 xa15.length c15 n16 a17 xa17.length xa17.length n18 h) := by
  unfold F19.J8
  unfold F19.J8p at hp
  have hs_145 := hs.pull 1 rfl
  have hs_146 := hs_145.pull 1 rfl
  exact F19.L10_ok hora hkb7 lf a15 _ xa15 n16 a17 xa17 n18 0 n18 _ hs_146 hp

def F19.L7p (lf : Nat) : Nat → List Bool → Int → List Int → Int → Option (List Int × Int)
  | 0, _, _, _, _ => none
  | n + 1, xa10, n11, xa12, n13 =>
  ifp (decide (n13 < (xa10.length : Int))) (
    F19.J8p lf (F19.L7p lf n) xa10 n11 xa12 n13) (
    some (xa12, 0))

theorem F19.L7_ok {ora : Ora} (hora : HOra ora) {lf ro : Nat} {F : List Ent} {r : (List Int × Int)} : ∀ (n : Nat) (a10 : Option Addr) (c10 : Nat) (xa10 : List Bool) (n11 : Int) (a12 : Option Addr) (xa12 : List Int) (n13 : Int) (h : Heap), Sat ro h (.row a10 c10 (xa10.map Value.bool) :: .own ro a12 1 (xa12.map (Value.int .i64)) :: F) → F19.L7p lf n xa10 n11 xa12 n13 = some r → F19.Post F ro r (F19.L7 (callW Tryd.prog ora) lf ro n a10 xa10.length c10 n11 a12 xa12.length xa12.length n13 h) := by
  intro n
  induction n with
  | zero => intro a10 c10 xa10 n11 a12 xa12 n13 h hs hp; cases hp
  | succ n ih =>
    intro a10 c10 xa10 n11 a12 xa12 n13 h hs hp
    unfold F19.L7
    unfold F19.L7p at hp
    refine st_if (Q := F19.Post F ro r) (fun hc_87 => ?_) (fun hc_87 => ?_)
    · replace hp := ifp_t hc_87 hp
      have hs_147 := hs.pull 1 rfl
      have hs_148 := hs_147.pull 1 rfl
      exact F19.J8_ok hora ih a10 _ xa10 n11 a12 xa12 n13 _ hs_148 hp
    · replace hp := ifp_f hc_87 hp
      have hs_149 := hs.tail
      cases hp
      exact ⟨a12, _, rfl, hs_149⟩

def F19.J5p (lf : Nat) (xa7 : List Bool) (n8 : Int) : Option (List Int × Int) :=
  F19.L7p lf lf xa7 n8 [] 0

theorem F19.J5_ok {ora : Ora} (hora : HOra ora) {lf ro : Nat} {F : List Ent} {r : (List Int × Int)} (a7 : Option Addr) (c7 : Nat) (xa7 : List Bool) (n8 : Int) (h : Heap) (hs : Sat ro h (.row a7 c7 (xa7.map Value.bool) :: F)) (hp : F19.J5p lf xa7 n8 = some r) : F19.Post F ro r (F19.J5 (callW Tryd.prog ora) lf ro a7 xa7.length c7 n8 h) := by
  unfold F19.J5
  unfold F19.J5p at hp
  have hs_150 := hs.nilOwn ro 1
  have hs_151 := hs_150.pull 1 rfl
  exact F19.L7_ok hora lf a7 _ xa7 n8 none [] 0 _ hs_151 hp

def F19.J3p (lf : Nat) (xa4 : List Bool) (n5 : Int) : Option (List Int × Int) :=
  ifp (decide ((xa4.length : Int) > 1048576)) (
    some ([], 4)) (
    F19.J5p lf xa4 n5)

theorem F19.J3_ok {ora : Ora} (hora : HOra ora) {lf ro : Nat} {F : List Ent} {r : (List Int × Int)} (a4 : Option Addr) (c4 : Nat) (xa4 : List Bool) (n5 : Int) (h : Heap) (hs : Sat ro h (.row a4 c4 (xa4.map Value.bool) :: F)) (hp : F19.J3p lf xa4 n5 = some r) : F19.Post F ro r (F19.J3 (callW Tryd.prog ora) lf ro a4 xa4.length c4 n5 h) := by
  unfold F19.J3
  unfold F19.J3p at hp
  refine st_if (Q := F19.Post F ro r) (fun hc_83 => ?_) (fun hc_83 => ?_)
  · replace hp := ifp_t hc_83 hp
    have hs_84 := hs.nilOwn ro 1
    have hs_85 := hs_84.pull 1 rfl
    have hs_86 := hs_85.tail
    cases hp
    exact ⟨none, _, rfl, hs_86⟩
  · replace hp := ifp_f hc_83 hp
    exact F19.J5_ok hora a4 _ xa4 n5 _ hs hp

def F19.p (lf : Nat) (xax0 : List Bool) (x1 : Int) : Option (List Int × Int) :=
  letJ (fun (n1 : Int) (b2 : Bool) => (
    ifp b2 (
      some ([], 3)) (
      F19.J3p lf xax0 n1) : Option (List Int × Int))) fun j3p =>
  ifp (decide (x1 < 2)) (
    j3p x1 true) (
    j3p x1 (decide (x1 > 12)))

theorem F19.t_ok {ora : Ora} (hora : HOra ora) {lf ro : Nat} {F : List Ent} {r : (List Int × Int)} (ax0 : Option Addr) (cx0 : Nat) (xax0 : List Bool) (x1 : Int) (h : Heap) (hs : Sat ro h (.row ax0 cx0 (xax0.map Value.bool) :: F)) (hp : F19.p lf xax0 x1 = some r) : F19.Post F ro r (F19.t (callW Tryd.prog ora) lf ro ax0 xax0.length cx0 x1 h) := by
  unfold F19.t
  unfold F19.p at hp
  refine st_letJ hp (fun j3p j3 => ∀ (n1 : Int) (b2 : Bool), Sat ro h (.row ax0 cx0 (xax0.map Value.bool) :: F) → j3p n1 b2 = some r → F19.Post F ro r (j3 n1 b2)) ?_ ?_
  · intro n1 b2 hs hp
    refine st_if (Q := F19.Post F ro r) (fun hc_79 => ?_) (fun hc_79 => ?_)
    · replace hp := ifp_t hc_79 hp
      have hs_80 := hs.nilOwn ro 1
      have hs_81 := hs_80.pull 1 rfl
      have hs_82 := hs_81.tail
      cases hp
      exact ⟨none, _, rfl, hs_82⟩
    · replace hp := ifp_f hc_79 hp
      exact F19.J3_ok hora ax0 _ xax0 n1 _ hs hp
  · intro j3p j3 hj3 hp
    refine st_if (Q := F19.Post F ro r) (fun hc_77 => ?_) (fun hc_77 => ?_)
    · replace hp := ifp_t hc_77 hp
      exact hj3 x1 true hs hp
    · replace hp := ifp_f hc_77 hp
      exact hj3 x1 (decide (x1 > 12)) hs hp

theorem F19.ok {ora : Ora} (hora : HOra ora) {lf ro : Nat} {F : List Ent} {r : (List Int × Int)} (ax0 : Option Addr) (cx0 : Nat) (xax0 : List Bool) (x1 : Int) (h : Heap) (hs : Sat ro h (.row ax0 cx0 (xax0.map Value.bool) :: F)) (hp : F19.p lf xax0 x1 = some r) : F19.Post F ro r (callW Tryd.prog ora ro 19 [.slice ax0 xax0.length cx0, .int .i64 x1] h) := by
  have h1 := F19.t_ok hora ax0 cx0 xax0 x1 h hs hp
  have h2 : callW Tryd.prog ora ro 19 [.slice ax0 xax0.length cx0, .int .i64 x1] h = _ := callW_body (hora.none _ _ _ _ (by decide)) Tryd.func19 (F19.le (callW Tryd.prog ora) lf ro ax0 xax0.length cx0 x1 h) (F19.Post.ne h1)
  rw [h2]; exact h1

def F21.Post (F : List Ent) (ro : Nat) (r : (List Bool × Int)) (x : Out) : Prop := ∃ a0 h', x = .ok (.tuple #[.slice a0 r.1.length r.1.length, .int .i64 r.2]) h' ∧ Sat ro h' (.own ro a0 1 (r.1.map Value.bool) :: F)
theorem F21.Post.ne {F : List Ent} {ro : Nat} {r : (List Bool × Int)} {x : Out} (hx : F21.Post F ro r x) : x ≠ .fail := by
  obtain ⟨a0, h', rfl, _⟩ := hx
  simp

def F21.J7p (lf : Nat) (kb5p : List Int → Int → Int → Int → Option (List Bool × Int)) (xa18 : List Int) (n19 : Int) (n20 : Int) (n21 : Int) : Option (List Bool × Int) :=
  letJ (fun (b56 : Bool) => (
    ifp b56 (
      some ([], 3)) (
      kb5p xa18 n19 n20 (IntKind.i64.wrap (n21 + 1))) : Option (List Bool × Int))) fun j58p =>
  bindp (idxp xa18 n21) fun x_161 =>
  ifp (decide (x_161 < 0)) (
    j58p true) (
    bindp (idxp xa18 n21) fun x_164 =>
    j58p (decide (x_164 > n20)))

theorem F21.J7_ok {ora : Ora} (hora : HOra ora) {lf ro : Nat} {F : List Ent} {r : (List Bool × Int)} {kb5p : List Int → Int → Int → Int → Option (List Bool × Int)} {kb5 : (Option Addr) → Nat → Nat → Int → Int → Int → Heap → Out} (hkb5 : ∀ (a13 : Option Addr) (c13 : Nat) (xa13 : List Int) (n14 : Int) (n15 : Int) (n16 : Int) (h : Heap), Sat ro h (.row a13 c13 (xa13.map (Value.int .i64)) :: F) → kb5p xa13 n14 n15 n16 = some r → F21.Post F ro r (kb5 a13 xa13.length c13 n14 n15 n16 h)) (a18 : Option Addr) (c18 : Nat) (xa18 : List Int) (n19 : Int) (n20 : Int) (n21 : Int) (h : Heap) (hs : Sat ro h (.row a18 c18 (xa18.map (Value.int .i64)) :: F)) (hp : F21.J7p lf kb5p xa18 n19 n20 n21 = some r) : F21.Post F ro r (F21.J7 (callW Tryd.prog ora) lf ro kb5 a18 xa18.length c18 n19 n20 n21 h) := by
  unfold F21.J7
  unfold F21.J7p at hp
  refine st_letJ hp (fun j58p j58 => ∀ (b56 : Bool) (h_166 : Heap), Sat ro h_166 (.row a18 c18 (xa18.map (Value.int .i64)) :: F) → j58p b56 = some r → F21.Post F ro r (j58 b56 h_166)) ?_ ?_
  · intro b56 h_166 hs hp
    refine st_if (Q := F21.Post F ro r) (fun hc_167 => ?_) (fun hc_167 => ?_)
    · replace hp := ifp_t hc_167 hp
      have hs_168 := hs.nilOwn ro 1
      have hs_169 := hs_168.pull 1 rfl
      have hs_170 := hs_169.tail
      cases hp
      exact ⟨none, _, rfl, hs_170⟩
    · replace hp := ifp_f hc_167 hp
      exact hkb5 a18 _ xa18 n19 n20 (IntKind.i64.wrap (n21 + 1)) _ hs hp
  · intro j58p j58 hj58 hp
    obtain ⟨x_161, hx_162, hp⟩ := bindp_some hp
    refine st_idxR (Q := F21.Post F ro r) (l := xa18) (f := (Value.int .i64)) isO isO hs und35 siz3 agg3 rfl hx_162 ?_
    refine st_int (Q := F21.Post F ro r) ?_
    refine st_if (Q := F21.Post F ro r) (fun hc_163 => ?_) (fun hc_163 => ?_)
    · replace hp := ifp_t hc_163 hp
      exact hj58 true _ hs hp
    · replace hp := ifp_f hc_163 hp
      obtain ⟨x_164, hx_165, hp⟩ := bindp_some hp
      refine st_idxR (Q := F21.Post F ro r) (l := xa18) (f := (Value.int .i64)) isO isO hs und35 siz3 agg3 rfl hx_165 ?_
      refine st_int (Q := F21.Post F ro r) ?_
      exact hj58 (decide (x_164 > n20)) _ hs hp

def F21.J20p (lf : Nat) (kb13p : List Int → Int → Int → List Bool → Int → Option (List Bool × Int)) (xa117 : List Int) (n118 : Int) (n119 : Int) (xa120 : List Bool) (n121 : Int) (n122 : Int) (b123 : Bool) : Option (List Bool × Int) :=
  letJ (fun (xa269 : List Bool) => (
    kb13p xa117 n118 n119 xa269 (IntKind.i64.wrap (n121 + 1)) : Option (List Bool × Int))) fun j271p =>
  ifp b123 (
    bindp (F39.p lf xa120 (IntKind.i64.wrap (Int.tdiv n122 2)) (IntKind.i64.wrap (n118 - 1))) fun r_192 =>
    j271p r_192.1) (
    bindp (F39.p lf xa120 n122 n118) fun r_205 =>
    j271p r_205.1)

theorem F21.J20_ok {ora : Ora} (hora : HOra ora) {lf ro : Nat} {F : List Ent} {r : (List Bool × Int)} {kb13p : List Int → Int → Int → List Bool → Int → Option (List Bool × Int)} {kb13 : (Option Addr) → Nat → Nat → Int → Int → (Option Addr) → Nat → Nat → Int → Heap → Out} (hkb13 : ∀ (a87 : Option Addr) (c87 : Nat) (xa87 : List Int) (n88 : Int) (n89 : Int) (a90 : Option Addr) (xa90 : List Bool) (n91 : Int) (h : Heap), Sat ro h (.row a87 c87 (xa87.map (Value.int .i64)) :: .own ro a90 1 (xa90.map Value.bool) :: F) → kb13p xa87 n88 n89 xa90 n91 = some r → F21.Post F ro r (kb13 a87 xa87.length c87 n88 n89 a90 xa90.length xa90.length n91 h)) (a117 : Option Addr) (c117 : Nat) (xa117 : List Int) (n118 : Int) (n119 : Int) (a120 : Option Addr) (xa120 : List Bool) (n121 : Int) (n122 : Int) (b123 : Bool) (h : Heap) (hs : Sat ro h (.row a117 c117 (xa117.map (Value.int .i64)) :: .own ro a120 1 (xa120.map Value.bool) :: F)) (hp : F21.J20p lf kb13p xa117 n118 n119 xa120 n121 n122 b123 = some r) : F21.Post F ro r (F21.J20 (callW Tryd.prog ora) lf ro kb13 a117 xa117.length c117 n118 n119 a120 xa120.length xa120.length n121 n122 b123 h) := by
  unfold F21.J20
  unfold F21.J20p at hp
  refine st_letJ hp (fun j271p j271 => ∀ (a269 : Option Addr) (xa269 : List Bool) (h_215 : Heap), Sat ro h_215 (.own ro a269 1 (xa269.map Value.bool) :: .row a117 c117 (xa117.map (Value.int .i64)) :: F) → j271p xa269 = some r → F21.Post F ro r (j271 a269 xa269.length xa269.length h_215)) ?_ ?_
  · intro a269 xa269 h_215 hs hp
    have hs_216 := hs.pull 1 rfl
    exact hkb13 a117 _ xa117 n118 n119 a269 xa269 (IntKind.i64.wrap (n121 + 1)) _ hs_216 hp
  · intro j271p j271 hj271 hp
    refine st_if (Q := F21.Post F ro r) (fun hc_188 => ?_) (fun hc_188 => ?_)
    · replace hp := ifp_t hc_188 hp
      have hs_189 := hs.pull 1 rfl
      have hs_190 := Sat.weakM (x := xa120) (f := Value.bool) hs_189
      have hs_191 := hs_190.dup
      obtain ⟨r_192, hx_193, hp⟩ := bindp_some hp
      obtain ⟨a_197, h_194, e_196, hs_195⟩ := F39.ok hora (ro := ro) (F := .row a120 xa120.length (xa120.map Value.bool) :: .row a117 c117 (xa117.map (Value.int .i64)) :: F) a120 xa120.length xa120 (IntKind.i64.wrap (Int.tdiv n122 2)) (IntKind.i64.wrap (n118 - 1)) _ hs_191 hx_193
      refine st_ok (Q := F21.Post F ro r) isO e_196 ?_
      refine st_tup (Q := F21.Post F ro r) (l := [.slice a_197 (r_192.1).length (r_192.1).length, .int .i64 r_192.2]) ?_
      refine st_cons (Q := F21.Post F ro r) ?_
      refine st_slice (Q := F21.Post F ro r) ?_
      refine st_cons (Q := F21.Post F ro r) ?_
      refine st_int (Q := F21.Post F ro r) ?_
      refine st_nil (Q := F21.Post F ro r) ?_
      have hs_198 := hs_195.pull 1 rfl
      have hs_199 := hs_198.tail
      have hs_200 := hs_199.pull 1 rfl
      have hs_201 := hs_200.pull 1 rfl
      exact hj271 a_197 r_192.1 _ hs_201 hp
    · replace hp := ifp_f hc_188 hp
      have hs_202 := hs.pull 1 rfl
      have hs_203 := Sat.weakM (x := xa120) (f := Value.bool) hs_202
      have hs_204 := hs_203.dup
      obtain ⟨r_205, hx_206, hp⟩ := bindp_some hp
      obtain ⟨a_210, h_207, e_209, hs_208⟩ := F39.ok hora (ro := ro) (F := .row a120 xa120.length (xa120.map Value.bool) :: .row a117 c117 (xa117.map (Value.int .i64)) :: F) a120 xa120.length xa120 n122 n118 _ hs_204 hx_206
      refine st_ok (Q := F21.Post F ro r) isO e_209 ?_
      refine st_tup (Q := F21.Post F ro r) (l := [.slice a_210 (r_205.1).length (r_205.1).length, .int .i64 r_205.2]) ?_
      refine st_cons (Q := F21.Post F ro r) ?_
      refine st_slice (Q := F21.Post F ro r) ?_
      refine st_cons (Q := F21.Post F ro r) ?_
      refine st_int (Q := F21.Post F ro r) ?_
      refine st_nil (Q := F21.Post F ro r) ?_
      have hs_211 := hs_208.pull 1 rfl
      have hs_212 := hs_211.tail
      have hs_213 := hs_212.pull 1 rfl
      have hs_214 := hs_213.pull 1 rfl
      exact hj271 a_210 r_205.1 _ hs_214 hp

def F21.J18p (lf : Nat) (kb13p : List Int → Int → Int → List Bool → Int → Option (List Bool × Int)) (xa109 : List Int) (n110 : Int) (n111 : Int) (xa112 : List Bool) (n113 : Int) (n114 : Int) (b115 : Bool) : Option (List Bool × Int) :=
  ifp b115 (
    some ([], 22)) (
    ifp ((IntKind.i64.wrap (Int.tdiv n114 2)) == 0) (
      F21.J20p lf kb13p xa109 n110 n111 xa112 n113 n114 true) (
      F21.J20p lf kb13p xa109 n110 n111 xa112 n113 n114 ((IntKind.i64.wrap (Int.tdiv n114 2)) == (IntKind.i64.wrap (Int.tdiv n111 2)))))

theorem F21.J18_ok {ora : Ora} (hora : HOra ora) {lf ro : Nat} {F : List Ent} {r : (List Bool × Int)} {kb13p : List Int → Int → Int → List Bool → Int → Option (List Bool × Int)} {kb13 : (Option Addr) → Nat → Nat → Int → Int → (Option Addr) → Nat → Nat → Int → Heap → Out} (hkb13 : ∀ (a87 : Option Addr) (c87 : Nat) (xa87 : List Int) (n88 : Int) (n89 : Int) (a90 : Option Addr) (xa90 : List Bool) (n91 : Int) (h : Heap), Sat ro h (.row a87 c87 (xa87.map (Value.int .i64)) :: .own ro a90 1 (xa90.map Value.bool) :: F) → kb13p xa87 n88 n89 xa90 n91 = some r → F21.Post F ro r (kb13 a87 xa87.length c87 n88 n89 a90 xa90.length xa90.length n91 h)) (a109 : Option Addr) (c109 : Nat) (xa109 : List Int) (n110 : Int) (n111 : Int) (a112 : Option Addr) (xa112 : List Bool) (n113 : Int) (n114 : Int) (b115 : Bool) (h : Heap) (hs : Sat ro h (.row a109 c109 (xa109.map (Value.int .i64)) :: .own ro a112 1 (xa112.map Value.bool) :: F)) (hp : F21.J18p lf kb13p xa109 n110 n111 xa112 n113 n114 b115 = some r) : F21.Post F ro r (F21.J18 (callW Tryd.prog ora) lf ro kb13 a109 xa109.length c109 n110 n111 a112 xa112.length xa112.length n113 n114 b115 h) := by
  unfold F21.J18
  unfold F21.J18p at hp
  refine st_if (Q := F21.Post F ro r) (fun hc_181 => ?_) (fun hc_181 => ?_)
  · replace hp := ifp_t hc_181 hp
    have hs_182 := hs.nilOwn ro 1
    have hs_183 := hs_182.pull 1 rfl
    have hs_184 := hs_183.tail
    have hs_185 := hs_184.pull 1 rfl
    have hs_186 := hs_185.tail
    cases hp
    exact ⟨none, _, rfl, hs_186⟩
  · replace hp := ifp_f hc_181 hp
    refine st_if (Q := F21.Post F ro r) (fun hc_187 => ?_) (fun hc_187 => ?_)
    · replace hp := ifp_t hc_187 hp
      have hs_217 := hs.pull 1 rfl
      have hs_218 := hs_217.pull 1 rfl
      exact F21.J20_ok hora hkb13 a109 _ xa109 n110 n111 a112 xa112 n113 n114 true _ hs_218 hp
    · replace hp := ifp_f hc_187 hp
      have hs_219 := hs.pull 1 rfl
      have hs_220 := hs_219.pull 1 rfl
      exact F21.J20_ok hora hkb13 a109 _ xa109 n110 n111 a112 xa112 n113 n114 ((IntKind.i64.wrap (Int.tdiv n114 2)) == (IntKind.i64.wrap (Int.tdiv n111 2))) _ hs_220 hp

def F21.J15p (lf : Nat) (kb13p : List Int → Int → Int → List Bool → Int → Option (List Bool × Int)) (xa93 : List Int) (n94 : Int) (n95 : Int) (xa96 : List Bool) (n97 : Int) : Option (List Bool × Int) :=
  bindp (idxp xa93 n97) fun x_178 =>
  ifp (x_178 == 0) (
    F21.J18p lf kb13p xa93 n94 n95 xa96 n97 x_178 true) (
    F21.J18p lf kb13p xa93 n94 n95 xa96 n97 x_178 (x_178 == n95))

theorem F21.J15_ok {ora : Ora} (hora : HOra ora) {lf ro : Nat} {F : List Ent} {r : (List Bool × Int)} {kb13p : List Int → Int → Int → List Bool → Int → Option (List Bool × Int)} {kb13 : (Option Addr) → Nat → Nat → Int → Int → (Option Addr) → Nat → Nat → Int → Heap → Out} (hkb13 : ∀ (a87 : Option Addr) (c87 : Nat) (xa87 : List Int) (n88 : Int) (n89 : Int) (a90 : Option Addr) (xa90 : List Bool) (n91 : Int) (h : Heap), Sat ro h (.row a87 c87 (xa87.map (Value.int .i64)) :: .own ro a90 1 (xa90.map Value.bool) :: F) → kb13p xa87 n88 n89 xa90 n91 = some r → F21.Post F ro r (kb13 a87 xa87.length c87 n88 n89 a90 xa90.length xa90.length n91 h)) (a93 : Option Addr) (c93 : Nat) (xa93 : List Int) (n94 : Int) (n95 : Int) (a96 : Option Addr) (xa96 : List Bool) (n97 : Int) (h : Heap) (hs : Sat ro h (.row a93 c93 (xa93.map (Value.int .i64)) :: .own ro a96 1 (xa96.map Value.bool) :: F)) (hp : F21.J15p lf kb13p xa93 n94 n95 xa96 n97 = some r) : F21.Post F ro r (F21.J15 (callW Tryd.prog ora) lf ro kb13 a93 xa93.length c93 n94 n95 a96 xa96.length xa96.length n97 h) := by
  unfold F21.J15
  unfold F21.J15p at hp
  obtain ⟨x_178, hx_179, hp⟩ := bindp_some hp
  refine st_idxR (Q := F21.Post F ro r) (l := xa93) (f := (Value.int .i64)) isO isO hs und35 siz3 agg3 rfl hx_179 ?_
  refine st_int (Q := F21.Post F ro r) ?_
  refine st_if (Q := F21.Post F ro r) (fun hc_180 => ?_) (fun hc_180 => ?_)
  · replace hp := ifp_t hc_180 hp
    have hs_221 := hs.pull 1 rfl
    have hs_222 := hs_221.pull 1 rfl
    exact F21.J18_ok hora hkb13 a93 _ xa93 n94 n95 a96 xa96 n97 x_178 true _ hs_222 hp
  · replace hp := ifp_f hc_180 hp
    have hs_223 := hs.pull 1 rfl
    have hs_224 := hs_223.pull 1 rfl
    exact F21.J18_ok hora hkb13 a93 _ xa93 n94 n95 a96 xa96 n97 x_178 (x_178 == n95) _ hs_224 hp

def F21.L13p (lf : Nat) : Nat → List Int → Int → Int → List Bool → Int → Option (List Bool × Int)
  | 0, _, _, _, _, _ => none
  | n + 1, xa87, n88, n89, xa90, n91 =>
  ifp (decide (n91 < (xa87.length : Int))) (
    F21.J15p lf (F21.L13p lf n) xa87 n88 n89 xa90 n91) (
    some (xa90, 0))

theorem F21.L13_ok {ora : Ora} (hora : HOra ora) {lf ro : Nat} {F : List Ent} {r : (List Bool × Int)} : ∀ (n : Nat) (a87 : Option Addr) (c87 : Nat) (xa87 : List Int) (n88 : Int) (n89 : Int) (a90 : Option Addr) (xa90 : List Bool) (n91 : Int) (h : Heap), Sat ro h (.row a87 c87 (xa87.map (Value.int .i64)) :: .own ro a90 1 (xa90.map Value.bool) :: F) → F21.L13p lf n xa87 n88 n89 xa90 n91 = some r → F21.Post F ro r (F21.L13 (callW Tryd.prog ora) lf ro n a87 xa87.length c87 n88 n89 a90 xa90.length xa90.length n91 h) := by
  intro n
  induction n with
  | zero => intro a87 c87 xa87 n88 n89 a90 xa90 n91 h hs hp; cases hp
  | succ n ih =>
    intro a87 c87 xa87 n88 n89 a90 xa90 n91 h hs hp
    unfold F21.L13
    unfold F21.L13p at hp
    refine st_if (Q := F21.Post F ro r) (fun hc_177 => ?_) (fun hc_177 => ?_)
    · replace hp := ifp_t hc_177 hp
      have hs_225 := hs.pull 1 rfl
      have hs_226 := hs_225.pull 1 rfl
      exact F21.J15_ok hora ih a87 _ xa87 n88 n89 a90 xa90 n91 _ hs_226 hp
    · replace hp := ifp_f hc_177 hp
      have hs_227 := hs.tail
      cases hp
      exact ⟨a90, _, rfl, hs_227⟩

def F21.J11p (lf : Nat) (xa83 : List Int) (n84 : Int) (n85 : Int) : Option (List Bool × Int) :=
  F21.L13p lf lf xa83 n84 n85 [] 0

theorem F21.J11_ok {ora : Ora} (hora : HOra ora) {lf ro : Nat} {F : List Ent} {r : (List Bool × Int)} (a83 : Option Addr) (c83 : Nat) (xa83 : List Int) (n84 : Int) (n85 : Int) (h : Heap) (hs : Sat ro h (.row a83 c83 (xa83.map (Value.int .i64)) :: F)) (hp : F21.J11p lf xa83 n84 n85 = some r) : F21.Post F ro r (F21.J11 (callW Tryd.prog ora) lf ro a83 xa83.length c83 n84 n85 h) := by
  unfold F21.J11
  unfold F21.J11p at hp
  have hs_228 := hs.nilOwn ro 1
  have hs_229 := hs_228.pull 1 rfl
  exact F21.L13_ok hora lf a83 _ xa83 n84 n85 none [] 0 _ hs_229 hp

def F21.J9p (lf : Nat) (xa73 : List Int) (n74 : Int) (n75 : Int) : Option (List Bool × Int) :=
  bindp (quop .i64 1048576 n74) fun n_171 =>
  ifp (decide ((xa73.length : Int) > n_171)) (
    some ([], 4)) (
    F21.J11p lf xa73 n74 n75)

theorem F21.J9_ok {ora : Ora} (hora : HOra ora) {lf ro : Nat} {F : List Ent} {r : (List Bool × Int)} (a73 : Option Addr) (c73 : Nat) (xa73 : List Int) (n74 : Int) (n75 : Int) (h : Heap) (hs : Sat ro h (.row a73 c73 (xa73.map (Value.int .i64)) :: F)) (hp : F21.J9p lf xa73 n74 n75 = some r) : F21.Post F ro r (F21.J9 (callW Tryd.prog ora) lf ro a73 xa73.length c73 n74 n75 h) := by
  unfold F21.J9
  unfold F21.J9p at hp
  obtain ⟨n_171, hx_172, hp⟩ := bindp_some hp
  refine st_quo (Q := F21.Post F ro r) isO hx_172 ?_
  refine st_int (Q := F21.Post F ro r) ?_
  refine st_if (Q := F21.Post F ro r) (fun hc_173 => ?_) (fun hc_173 => ?_)
  · replace hp := ifp_t hc_173 hp
    have hs_174 := hs.nilOwn ro 1
    have hs_175 := hs_174.pull 1 rfl
    have hs_176 := hs_175.tail
    cases hp
    exact ⟨none, _, rfl, hs_176⟩
  · replace hp := ifp_f hc_173 hp
    exact F21.J11_ok hora a73 _ xa73 n74 n75 _ hs hp

def F21.L5p (lf : Nat) : Nat → List Int → Int → Int → Int → Option (List Bool × Int)
  | 0, _, _, _, _ => none
  | n + 1, xa13, n14, n15, n16 =>
  ifp (decide (n16 < (xa13.length : Int))) (
    F21.J7p lf (F21.L5p lf n) xa13 n14 n15 n16) (
    F21.J9p lf xa13 n14 n15)

theorem F21.L5_ok {ora : Ora} (hora : HOra ora) {lf ro : Nat} {F : List Ent} {r : (List Bool × Int)} : ∀ (n : Nat) (a13 : Option Addr) (c13 : Nat) (xa13 : List Int) (n14 : Int) (n15 : Int) (n16 : Int) (h : Heap), Sat ro h (.row a13 c13 (xa13.map (Value.int .i64)) :: F) → F21.L5p lf n xa13 n14 n15 n16 = some r → F21.Post F ro r (F21.L5 (callW Tryd.prog ora) lf ro n a13 xa13.length c13 n14 n15 n16 h) := by
  intro n
  induction n with
  | zero => intro a13 c13 xa13 n14 n15 n16 h hs hp; cases hp
  | succ n ih =>
    intro a13 c13 xa13 n14 n15 n16 h hs hp
    unfold F21.L5
    unfold F21.L5p at hp
    refine st_if (Q := F21.Post F ro r) (fun hc_160 => ?_) (fun hc_160 => ?_)
    · replace hp := ifp_t hc_160 hp
      exact F21.J7_ok hora ih a13 _ xa13 n14 n15 n16 _ hs hp
    · replace hp := ifp_f hc_160 hp
      exact F21.J9_ok hora a13 _ xa13 n14 n15 _ hs hp

def F21.J3p (lf : Nat) (xa4 : List Int) (n5 : Int) : Option (List Bool × Int) :=
  bindp (shlp .i64 1 (IntKind.u64.wrap n5)) fun n_158 =>
  F21.L5p lf lf xa4 n5 (IntKind.i64.wrap (n_158 - 1)) 0

theorem F21.J3_ok {ora : Ora} (hora : HOra ora) {lf ro : Nat} {F : List Ent} {r : (List Bool × Int)} (a4 : Option Addr) (c4 : Nat) (xa4 : List Int) (n5 : Int) (h : Heap) (hs : Sat ro h (.row a4 c4 (xa4.map (Value.int .i64)) :: F)) (hp : F21.J3p lf xa4 n5 = some r) : F21.Post F ro r (F21.J3 (callW Tryd.prog ora) lf ro a4 xa4.length c4 n5 h) := by
  unfold F21.J3
  unfold F21.J3p at hp
  obtain ⟨n_158, hx_159, hp⟩ := bindp_some hp
  refine st_shl (Q := F21.Post F ro r) isO hx_159 ?_
  refine st_int (Q := F21.Post F ro r) ?_
  exact F21.L5_ok hora lf a4 _ xa4 n5 (IntKind.i64.wrap (n_158 - 1)) 0 _ hs hp

def F21.p (lf : Nat) (xax0 : List Int) (x1 : Int) : Option (List Bool × Int) :=
  letJ (fun (n1 : Int) (b2 : Bool) => (
    ifp b2 (
      some ([], 3)) (
      F21.J3p lf xax0 n1) : Option (List Bool × Int))) fun j3p =>
  ifp (decide (x1 < 2)) (
    j3p x1 true) (
    j3p x1 (decide (x1 > 12)))

theorem F21.t_ok {ora : Ora} (hora : HOra ora) {lf ro : Nat} {F : List Ent} {r : (List Bool × Int)} (ax0 : Option Addr) (cx0 : Nat) (xax0 : List Int) (x1 : Int) (h : Heap) (hs : Sat ro h (.row ax0 cx0 (xax0.map (Value.int .i64)) :: F)) (hp : F21.p lf xax0 x1 = some r) : F21.Post F ro r (F21.t (callW Tryd.prog ora) lf ro ax0 xax0.length cx0 x1 h) := by
  unfold F21.t
  unfold F21.p at hp
  refine st_letJ hp (fun j3p j3 => ∀ (n1 : Int) (b2 : Bool), Sat ro h (.row ax0 cx0 (xax0.map (Value.int .i64)) :: F) → j3p n1 b2 = some r → F21.Post F ro r (j3 n1 b2)) ?_ ?_
  · intro n1 b2 hs hp
    refine st_if (Q := F21.Post F ro r) (fun hc_154 => ?_) (fun hc_154 => ?_)
    · replace hp := ifp_t hc_154 hp
      have hs_155 := hs.nilOwn ro 1
      have hs_156 := hs_155.pull 1 rfl
      have hs_157 := hs_156.tail
      cases hp
      exact ⟨none, _, rfl, hs_157⟩
    · replace hp := ifp_f hc_154 hp
      exact F21.J3_ok hora ax0 _ xax0 n1 _ hs hp
  · intro j3p j3 hj3 hp
    refine st_if (Q := F21.Post F ro r) (fun hc_152 => ?_) (fun hc_152 => ?_)
    · replace hp := ifp_t hc_152 hp
      exact hj3 x1 true hs hp
    · replace hp := ifp_f hc_152 hp
      exact hj3 x1 (decide (x1 > 12)) hs hp

theorem F21.ok {ora : Ora} (hora : HOra ora) {lf ro : Nat} {F : List Ent} {r : (List Bool × Int)} (ax0 : Option Addr) (cx0 : Nat) (xax0 : List Int) (x1 : Int) (h : Heap) (hs : Sat ro h (.row ax0 cx0 (xax0.map (Value.int .i64)) :: F)) (hp : F21.p lf xax0 x1 = some r) : F21.Post F ro r (callW Tryd.prog ora ro 21 [.slice ax0 xax0.length cx0, .int .i64 x1] h) := by
  have h1 := F21.t_ok hora ax0 cx0 xax0 x1 h hs hp
  have h2 : callW Tryd.prog ora ro 21 [.slice ax0 xax0.length cx0, .int .i64 x1] h = _ := callW_body (hora.none _ _ _ _ (by decide)) Tryd.func21 (F21.le (callW Tryd.prog ora) lf ro ax0 xax0.length cx0 x1 h) (F21.Post.ne h1)
  rw [h2]; exact h1

def F44.Post (py0 : Nat) (apy0_0 : Option Addr) (cpy0_0 : Nat) (xpy0_0 : List Bool) (F : List Ent) (ro : Nat) (r : (Int)) (x : Out) : Prop := ∃ h', x = .ok (.int .i64 r) h' ∧ Sat ro h' (.own ro (some ⟨py0, 0, none⟩) 1 [.slice apy0_0 xpy0_0.length cpy0_0] :: F)
theorem F44.Post.ne {py0 : Nat} {apy0_0 : Option Addr} {cpy0_0 : Nat} {xpy0_0 : List Bool} {F : List Ent} {ro : Nat} {r : (Int)} {x : Out} (hx : F44.Post py0 apy0_0 cpy0_0 xpy0_0 F ro r x) : x ≠ .fail := by
  obtain ⟨h', rfl, _⟩ := hx
  simp

def F44.p (lf : Nat) (x0 : Int) (xpy0_0 : List Bool) : Option (Int) :=
  letJ (fun (b12 : Bool) => (
    ifp b12 (
      some 1) (
      some 0) : Option (Int))) fun j14p =>
  ifp (decide (x0 ≥ (xpy0_0.length : Int))) (
    j14p true) (
    bindp (idxp xpy0_0 x0) fun x_233 =>
    j14p x_233)

theorem F44.t_ok {ora : Ora} (hora : HOra ora) {lf ro : Nat} {F : List Ent} {r : (Int)} {py0 : Nat} {apy0_0 : Option Addr} {cpy0_0 : Nat} {xpy0_0 : List Bool} (x0 : Int) (h : Heap) (hs : Sat ro h (.own ro (some ⟨py0, 0, none⟩) 1 [.slice apy0_0 xpy0_0.length cpy0_0] :: .row apy0_0 cpy0_0 (xpy0_0.map Value.bool) :: F)) (hp : F44.p lf x0 xpy0_0 = some r) : F44.Post py0 apy0_0 cpy0_0 xpy0_0 F ro r (F44.t (callW Tryd.prog ora) lf ro x0 py0 0 h) := by
  unfold F44.t
  unfold F44.p at hp
  refine st_letJ hp (fun j14p j14 => ∀ (b12 : Bool) (h_237 : Heap), Sat ro h_237 (.own ro (some ⟨py0, 0, none⟩) 1 [.slice apy0_0 xpy0_0.length cpy0_0] :: .row apy0_0 cpy0_0 (xpy0_0.map Value.bool) :: F) → j14p b12 = some r → F44.Post py0 apy0_0 cpy0_0 xpy0_0 F ro r (j14 b12 h_237)) ?_ ?_
  · intro b12 h_237 hs hp
    refine st_if (Q := F44.Post py0 apy0_0 cpy0_0 xpy0_0 F ro r) (fun hc_238 => ?_) (fun hc_238 => ?_)
    · replace hp := ifp_t hc_238 hp
      have hs_239 := hs.pull 1 rfl
      have hs_240 := hs_239.tail
      cases hp
      exact ⟨_, rfl, hs_240⟩
    · replace hp := ifp_f hc_238 hp
      have hs_241 := hs.pull 1 rfl
      have hs_242 := hs_241.tail
      cases hp
      exact ⟨_, rfl, hs_242⟩
  · intro j14p j14 hj14 hp
    refine st_load (Q := F44.Post py0 apy0_0 cpy0_0 xpy0_0 F ro r) isO hs agg24 rfl ?_
    refine st_slice (Q := F44.Post py0 apy0_0 cpy0_0 xpy0_0 F ro r) ?_
    refine st_if (Q := F44.Post py0 apy0_0 cpy0_0 xpy0_0 F ro r) (fun hc_230 => ?_) (fun hc_230 => ?_)
    · replace hp := ifp_t hc_230 hp
      have hs_231 := hs.pull 1 rfl
      have hs_232 := hs_231.pull 1 rfl
      exact hj14 true _ hs_232 hp
    · replace hp := ifp_f hc_230 hp
      refine st_load (Q := F44.Post py0 apy0_0 cpy0_0 xpy0_0 F ro r) isO hs agg24 rfl ?_
      refine st_slice (Q := F44.Post py0 apy0_0 cpy0_0 xpy0_0 F ro r) ?_
      have hs_235 := hs.pull 1 rfl
      obtain ⟨x_233, hx_234, hp⟩ := bindp_some hp
      refine st_idxR (Q := F44.Post py0 apy0_0 cpy0_0 xpy0_0 F ro r) (l := xpy0_0) (f := Value.bool) isO isO hs_235 und24 siz4 agg4 rfl hx_234 ?_
      refine st_bool (Q := F44.Post py0 apy0_0 cpy0_0 xpy0_0 F ro r) ?_
      have hs_236 := hs_235.pull 1 rfl
      exact hj14 x_233 _ hs_236 hp

theorem F44.ok {ora : Ora} (hora : HOra ora) {lf ro : Nat} {F : List Ent} {r : (Int)} {py0 : Nat} {apy0_0 : Option Addr} {cpy0_0 : Nat} {xpy0_0 : List Bool} (x0 : Int) (h : Heap) (hs : Sat ro h (.own ro (some ⟨py0, 0, none⟩) 1 [.slice apy0_0 xpy0_0.length cpy0_0] :: .row apy0_0 cpy0_0 (xpy0_0.map Value.bool) :: F)) (hp : F44.p lf x0 xpy0_0 = some r) : F44.Post py0 apy0_0 cpy0_0 xpy0_0 F ro r (callW Tryd.prog ora ro 44 [.int .i64 x0, .pointer (some ⟨py0, 0, none⟩)] h) := by
  have h1 := F44.t_ok hora x0 h hs hp
  have h2 : callW Tryd.prog ora ro 44 [.int .i64 x0, .pointer (some ⟨py0, 0, none⟩)] h = _ := callW_body (hora.none _ _ _ _ (by decide)) Tryd.func44 (F44.le (callW Tryd.prog ora) lf ro x0 py0 0 h) (F44.Post.ne h1)
  rw [h2]; exact h1

def F18.Post (F : List Ent) (ro : Nat) (r : (List Int × Int)) (x : Out) : Prop := ∃ a0 h', x = .ok (.tuple #[.slice a0 r.1.length r.1.length, .int .i64 r.2]) h' ∧ Sat ro h' (.own ro a0 1 (r.1.map (Value.int .i64)) :: F)
theorem F18.Post.ne {F : List Ent} {ro : Nat} {r : (List Int × Int)} {x : Out} (hx : F18.Post F ro r x) : x ≠ .fail := by
  obtain ⟨a0, h', rfl, _⟩ := hx
  simp

def F18.J15p (lf : Nat) (kb8p : Int → List Bool → List Int → Int → Option (List Int × Int)) (n43 : Int) (xp44_0 : List Bool) (xa46 : List Int) (n47 : Int) (n48 : Int) : Option (List Int × Int) :=
  letJ (fun (n94 : Int) (n95 : Int) => (
    bindp (appp 8 xa46 [n95]) fun x_295 =>
    kb8p n43 xp44_0 x_295 n94 : Option (List Int × Int))) fun j97p =>
  ifp (n48 == 0) (
    j97p (IntKind.i64.wrap (n47 + (IntKind.i64.wrap (n43 - 1)))) 1) (
    bindp (shlp .i64 1 (IntKind.i64.wrap (n43 - 1))) fun n_275 =>
    ifp (n48 == (IntKind.i64.wrap (n_275 - 1))) (
      j97p (IntKind.i64.wrap (n47 + (IntKind.i64.wrap (n43 - 1)))) (IntKind.i64.wrap (n48 * 2))) (
      bindp (F44.p lf (IntKind.i64.wrap (n47 + (IntKind.i64.wrap (n43 - 1)))) xp44_0) fun r_284 =>
      j97p (IntKind.i64.wrap ((IntKind.i64.wrap (n47 + (IntKind.i64.wrap (n43 - 1)))) + 1)) (IntKind.i64.wrap ((IntKind.i64.wrap (2 * n48)) + r_284))))

theorem F18.J15_ok {ora : Ora} (hora : HOra ora) {lf ro : Nat} {F : List Ent} {r : (List Int × Int)} {kb8p : Int → List Bool → List Int → Int → Option (List Int × Int)} {kb8 : Int → Nat → Nat → Nat → Nat → (Option Addr) → Nat → Nat → Int → Heap → Out} (hkb8 : ∀ (n16 : Int) (p17 : Nat) (ap17_0 : Option Addr) (cp17_0 : Nat) (xp17_0 : List Bool) (a19 : Option Addr) (xa19 : List Int) (n20 : Int) (h : Heap), Sat ro h (.own ro (some ⟨p17, 0, none⟩) 1 [.slice ap17_0 xp17_0.length cp17_0] :: .row ap17_0 cp17_0 (xp17_0.map Value.bool) :: .own ro a19 1 (xa19.map (Value.int .i64)) :: F) → kb8p n16 xp17_0 xa19 n20 = some r → F18.Post F ro r (kb8 n16 p17 0 p17 0 a19 xa19.length xa19.length n20 h)) (n43 : Int) (p44 : Nat) (ap44_0 : Option Addr) (cp44_0 : Nat) (xp44_0 : List Bool) (a46 : Option Addr) (xa46 : List Int) (n47 : Int) (n48 : Int) (h : Heap) (hs : Sat ro h (.own ro (some ⟨p44, 0, none⟩) 1 [.slice ap44_0 xp44_0.length cp44_0] :: .row ap44_0 cp44_0 (xp44_0.map Value.bool) :: .own ro a46 1 (xa46.map (Value.int .i64)) :: F)) (hp : F18.J15p lf kb8p n43 xp44_0 xa46 n47 n48 = some r) : F18.Post F ro r (F18.J15 (callW Tryd.prog ora) lf ro kb8 n43 p44 0 p44 0 a46 xa46.length xa46.length n47 n48 h) := by
  unfold F18.J15
  unfold F18.J15p at hp
  refine st_letJ hp (fun j97p j97 => ∀ (n94 : Int) (n95 : Int) (h_292 : Heap), Sat ro h_292 (.own ro (some ⟨p44, 0, none⟩) 1 [.slice ap44_0 xp44_0.length cp44_0] :: .row ap44_0 cp44_0 (xp44_0.map Value.bool) :: .own ro a46 1 (xa46.map (Value.int .i64)) :: F) → j97p n94 n95 = some r → F18.Post F ro r (j97 n94 n95 h_292)) ?_ ?_
  · intro n94 n95 h_292 hs hp
    refine st_pushJ (Q := F18.Post F ro r) hs hs.low rfl fun h_293 _ hs_294 => ?_
    have hs_300 := hs_294.pull 3 rfl
    obtain ⟨x_295, hx_296, hp⟩ := bindp_some hp
    refine st_appO (Q := F18.Post F ro r) isO (l := xa46) (x := [n95]) (f := (Value.int .i64)) hs_300 (fun _ => rfl) und35 und35 one3 rfl rfl rfl hx_296 fun a_297 h_298 hs_299 => ?_
    refine st_slice (Q := F18.Post F ro r) ?_
    have hs_301 := hs_299.pull 1 rfl
    have hs_302 := hs_301.tail
    have hs_303 := hs_302.pull 2 rfl
    have hs_304 := hs_303.pull 2 rfl
    exact hkb8 n43 p44 ap44_0 _ xp44_0 a_297 x_295 n94 _ hs_304 hp
  · intro j97p j97 hj97 hp
    refine st_if (Q := F18.Post F ro r) (fun hc_271 => ?_) (fun hc_271 => ?_)
    · replace hp := ifp_t hc_271 hp
      have hs_272 := hs.pull 2 rfl
      have hs_273 := hs_272.pull 2 rfl
      have hs_274 := hs_273.pull 2 rfl
      exact hj97 (IntKind.i64.wrap (n47 + (IntKind.i64.wrap (n43 - 1)))) 1 _ hs_274 hp
    · replace hp := ifp_f hc_271 hp
      obtain ⟨n_275, hx_276, hp⟩ := bindp_some hp
      refine st_shl (Q := F18.Post F ro r) isO hx_276 ?_
      refine st_int (Q := F18.Post F ro r) ?_
      refine st_if (Q := F18.Post F ro r) (fun hc_277 => ?_) (fun hc_277 => ?_)
      · replace hp := ifp_t hc_277 hp
        have hs_278 := hs.pull 2 rfl
        have hs_279 := hs_278.pull 2 rfl
        have hs_280 := hs_279.pull 2 rfl
        exact hj97 (IntKind.i64.wrap (n47 + (IntKind.i64.wrap (n43 - 1)))) (IntKind.i64.wrap (n48 * 2)) _ hs_280 hp
      · replace hp := ifp_f hc_277 hp
        have hs_281 := hs.pull 1 rfl
        have hs_282 := hs_281.dup
        have hs_283 := hs_282.pull 2 rfl
        obtain ⟨r_284, hx_285, hp⟩ := bindp_some hp
        obtain ⟨h_286, e_288, hs_287⟩ := F44.ok hora (ro := ro) (py0 := p44) (apy0_0 := ap44_0) (cpy0_0 := cp44_0) (xpy0_0 := xp44_0) (F := .row ap44_0 cp44_0 (xp44_0.map Value.bool) :: .own ro a46 1 (xa46.map (Value.int .i64)) :: F) (IntKind.i64.wrap (n47 + (IntKind.i64.wrap (n43 - 1)))) _ hs_283 hx_285
        refine st_ok (Q := F18.Post F ro r) isO e_288 ?_
        refine st_int (Q := F18.Post F ro r) ?_
        have hs_289 := hs_287.pull 2 rfl
        have hs_290 := hs_289.pull 2 rfl
        have hs_291 := hs_290.pull 2 rfl
        exact hj97 (IntKind.i64.wrap ((IntKind.i64.wrap (n47 + (IntKind.i64.wrap (n43 - 1)))) + 1)) (IntKind.i64.wrap ((IntKind.i64.wrap (2 * n48)) + r_284)) _ hs_291 hp

def F18.L11p (lf : Nat) (kb8p : Int → List Bool → List Int → Int → Option (List Int × Int)) : Nat → Int → List Bool → List Int → Int → Int → Int → Int → Option (List Int × Int)
  | 0, _, _, _, _, _, _, _ => none
  | n + 1, n34, xp35_0, xa37, n38, n39, n40, n41 =>
  ifp (decide (n41 < n40)) (
    bindp (F44.p lf (IntKind.i64.wrap (n38 + n41)) xp35_0) fun r_263 =>
    F18.L11p lf kb8p n n34 xp35_0 xa37 n38 (IntKind.i64.wrap ((IntKind.i64.wrap (2 * n39)) + r_263)) n40 (IntKind.i64.wrap (n41 + 1))) (
    F18.J15p lf kb8p n34 xp35_0 xa37 n38 n39)

theorem F18.L11_ok {ora : Ora} (hora : HOra ora) {lf ro : Nat} {F : List Ent} {r : (List Int × Int)} {kb8p : Int → List Bool → List Int → Int → Option (List Int × Int)} {kb8 : Int → Nat → Nat → Nat → Nat → (Option Addr) → Nat → Nat → Int → Heap → Out} (hkb8 : ∀ (n16 : Int) (p17 : Nat) (ap17_0 : Option Addr) (cp17_0 : Nat) (xp17_0 : List Bool) (a19 : Option Addr) (xa19 : List Int) (n20 : Int) (h : Heap), Sat ro h (.own ro (some ⟨p17, 0, none⟩) 1 [.slice ap17_0 xp17_0.length cp17_0] :: .row ap17_0 cp17_0 (xp17_0.map Value.bool) :: .own ro a19 1 (xa19.map (Value.int .i64)) :: F) → kb8p n16 xp17_0 xa19 n20 = some r → F18.Post F ro r (kb8 n16 p17 0 p17 0 a19 xa19.length xa19.length n20 h)) : ∀ (n : Nat) (n34 : Int) (p35 : Nat) (ap35_0 : Option Addr) (cp35_0 : Nat) (xp35_0 : List Bool) (a37 : Option Addr) (xa37 : List Int) (n38 : Int) (n39 : Int) (n40 : Int) (n41 : Int) (h : Heap), Sat ro h (.own ro (some ⟨p35, 0, none⟩) 1 [.slice ap35_0 xp35_0.length cp35_0] :: .row ap35_0 cp35_0 (xp35_0.map Value.bool) :: .own ro a37 1 (xa37.map (Value.int .i64)) :: F) → F18.L11p lf kb8p n n34 xp35_0 xa37 n38 n39 n40 n41 = some r → F18.Post F ro r (F18.L11 (callW Tryd.prog ora) lf ro kb8 n n34 p35 0 p35 0 a37 xa37.length xa37.length n38 n39 n40 n41 h) := by
  intro n
  induction n with
  | zero => intro n34 p35 ap35_0 cp35_0 xp35_0 a37 xa37 n38 n39 n40 n41 h hs hp; cases hp
  | succ n ih =>
    intro n34 p35 ap35_0 cp35_0 xp35_0 a37 xa37 n38 n39 n40 n41 h hs hp
    unfold F18.L11
    unfold F18.L11p at hp
    refine st_if (Q := F18.Post F ro r) (fun hc_259 => ?_) (fun hc_259 => ?_)
    · replace hp := ifp_t hc_259 hp
      have hs_260 := hs.pull 1 rfl
      have hs_261 := hs_260.dup
      have hs_262 := hs_261.pull 2 rfl
      obtain ⟨r_263, hx_264, hp⟩ := bindp_some hp
      obtain ⟨h_265, e_267, hs_266⟩ := F44.ok hora (ro := ro) (py0 := p35) (apy0_0 := ap35_0) (cpy0_0 := cp35_0) (xpy0_0 := xp35_0) (F := .row ap35_0 cp35_0 (xp35_0.map Value.bool) :: .own ro a37 1 (xa37.map (Value.int .i64)) :: F) (IntKind.i64.wrap (n38 + n41)) _ hs_262 hx_264
      refine st_ok (Q := F18.Post F ro r) isO e_267 ?_
      refine st_int (Q := F18.Post F ro r) ?_
      have hs_268 := hs_266.pull 2 rfl
      have hs_269 := hs_268.pull 2 rfl
      have hs_270 := hs_269.pull 2 rfl
      exact ih n34 p35 ap35_0 _ xp35_0 a37 xa37 n38 (IntKind.i64.wrap ((IntKind.i64.wrap (2 * n39)) + r_263)) n40 (IntKind.i64.wrap (n41 + 1)) _ hs_270 hp
    · replace hp := ifp_f hc_259 hp
      have hs_305 := hs.pull 2 rfl
      have hs_306 := hs_305.pull 2 rfl
      have hs_307 := hs_306.pull 2 rfl
      exact F18.J15_ok hora hkb8 n34 p35 ap35_0 _ xp35_0 a37 xa37 n38 n39 _ hs_307 hp

def F18.J9p (lf : Nat) (kb8p : Int → List Bool → List Int → Int → Option (List Int × Int)) (n28 : Int) (xp29_0 : List Bool) (xa31 : List Int) (n32 : Int) : Option (List Int × Int) :=
  F18.L11p lf kb8p lf n28 xp29_0 xa31 n32 0 (IntKind.i64.wrap (n28 - 1)) 0

theorem F18.J9_ok {ora : Ora} (hora : HOra ora) {lf ro : Nat} {F : List Ent} {r : (List Int × Int)} {kb8p : Int → List Bool → List Int → Int → Option (List Int × Int)} {kb8 : Int → Nat → Nat → Nat → Nat → (Option Addr) → Nat → Nat → Int → Heap → Out} (hkb8 : ∀ (n16 : Int) (p17 : Nat) (ap17_0 : Option Addr) (cp17_0 : Nat) (xp17_0 : List Bool) (a19 : Option Addr) (xa19 : List Int) (n20 : Int) (h : Heap), Sat ro h (.own ro (some ⟨p17, 0, none⟩) 1 [.slice ap17_0 xp17_0.length cp17_0] :: .row ap17_0 cp17_0 (xp17_0.map Value.bool) :: .own ro a19 1 (xa19.map (Value.int .i64)) :: F) → kb8p n16 xp17_0 xa19 n20 = some r → F18.Post F ro r (kb8 n16 p17 0 p17 0 a19 xa19.length xa19.length n20 h)) (n28 : Int) (p29 : Nat) (ap29_0 : Option Addr) (cp29_0 : Nat) (xp29_0 : List Bool) (a31 : Option Addr) (xa31 : List Int) (n32 : Int) (h : Heap) (hs : Sat ro h (.own ro (some ⟨p29, 0, none⟩) 1 [.slice ap29_0 xp29_0.length cp29_0] :: .row ap29_0 cp29_0 (xp29_0.map Value.bool) :: .own ro a31 1 (xa31.map (Value.int .i64)) :: F)) (hp : F18.J9p lf kb8p n28 xp29_0 xa31 n32 = some r) : F18.Post F ro r (F18.J9 (callW Tryd.prog ora) lf ro kb8 n28 p29 0 p29 0 a31 xa31.length xa31.length n32 h) := by
  unfold F18.J9
  unfold F18.J9p at hp
  have hs_308 := hs.pull 2 rfl
  have hs_309 := hs_308.pull 2 rfl
  have hs_310 := hs_309.pull 2 rfl
  exact F18.L11_ok hora hkb8 lf n28 p29 ap29_0 _ xp29_0 a31 xa31 n32 0 (IntKind.i64.wrap (n28 - 1)) 0 _ hs_310 hp

def F18.L8p (lf : Nat) : Nat → Int → List Bool → List Int → Int → Option (List Int × Int)
  | 0, _, _, _, _ => none
  | n + 1, n16, xp17_0, xa19, n20 =>
  ifp (decide (n20 < (xp17_0.length : Int))) (
    F18.J9p lf (F18.L8p lf n) n16 xp17_0 xa19 n20) (
    some (xa19, 0))

theorem F18.L8_ok {ora : Ora} (hora : HOra ora) {lf ro : Nat} {F : List Ent} {r : (List Int × Int)} : ∀ (n : Nat) (n16 : Int) (p17 : Nat) (ap17_0 : Option Addr) (cp17_0 : Nat) (xp17_0 : List Bool) (a19 : Option Addr) (xa19 : List Int) (n20 : Int) (h : Heap), Sat ro h (.own ro (some ⟨p17, 0, none⟩) 1 [.slice ap17_0 xp17_0.length cp17_0] :: .row ap17_0 cp17_0 (xp17_0.map Value.bool) :: .own ro a19 1 (xa19.map (Value.int .i64)) :: F) → F18.L8p lf n n16 xp17_0 xa19 n20 = some r → F18.Post F ro r (F18.L8 (callW Tryd.prog ora) lf ro n n16 p17 0 p17 0 a19 xa19.length xa19.length n20 h) := by
  intro n
  induction n with
  | zero => intro n16 p17 ap17_0 cp17_0 xp17_0 a19 xa19 n20 h hs hp; cases hp
  | succ n ih =>
    intro n16 p17 ap17_0 cp17_0 xp17_0 a19 xa19 n20 h hs hp
    unfold F18.L8
    unfold F18.L8p at hp
    refine st_load (Q := F18.Post F ro r) isO hs agg24 rfl ?_
    refine st_slice (Q := F18.Post F ro r) ?_
    refine st_if (Q := F18.Post F ro r) (fun hc_258 => ?_) (fun hc_258 => ?_)
    · replace hp := ifp_t hc_258 hp
      have hs_311 := hs.pull 2 rfl
      have hs_312 := hs_311.pull 2 rfl
      have hs_313 := hs_312.pull 2 rfl
      exact F18.J9_ok hora ih n16 p17 ap17_0 _ xp17_0 a19 xa19 n20 _ hs_313 hp
    · replace hp := ifp_f hc_258 hp
      have hs_314 := hs.tail
      have hs_315 := hs_314.tail
      cases hp
      exact ⟨a19, _, rfl, hs_315⟩

def F18.J5p (lf : Nat) (n13 : Int) (xp14_0 : List Bool) : Option (List Int × Int) :=
  F18.L8p lf lf n13 xp14_0 [] 0

theorem F18.J5_ok {ora : Ora} (hora : HOra ora) {lf ro : Nat} {F : List Ent} {r : (List Int × Int)} (n13 : Int) (p14 : Nat) (ap14_0 : Option Addr) (cp14_0 : Nat) (xp14_0 : List Bool) (h : Heap) (hs : Sat ro h (.own ro (some ⟨p14, 0, none⟩) 1 [.slice ap14_0 xp14_0.length cp14_0] :: .row ap14_0 cp14_0 (xp14_0.map Value.bool) :: F)) (hp : F18.J5p lf n13 xp14_0 = some r) : F18.Post F ro r (F18.J5 (callW Tryd.prog ora) lf ro n13 p14 0 h) := by
  unfold F18.J5
  unfold F18.J5p at hp
  have hs_316 := hs.nilOwn ro 1
  have hs_317 := hs_316.pull 2 rfl
  have hs_318 := hs_317.pull 2 rfl
  exact F18.L8_ok hora lf n13 p14 ap14_0 _ xp14_0 none [] 0 _ hs_318 hp

def F18.J2p (lf : Nat) (n3 : Int) (xp4_0 : List Bool) (b5 : Bool) : Option (List Int × Int) :=
  ifp b5 (
    some ([], 3)) (
    ifp (decide ((xp4_0.length : Int) > 1048576)) (
      some ([], 4)) (
      F18.J5p lf n3 xp4_0))

theorem F18.J2_ok {ora : Ora} (hora : HOra ora) {lf ro : Nat} {F : List Ent} {r : (List Int × Int)} (n3 : Int) (p4 : Nat) (ap4_0 : Option Addr) (cp4_0 : Nat) (xp4_0 : List Bool) (b5 : Bool) (h : Heap) (hs : Sat ro h (.own ro (some ⟨p4, 0, none⟩) 1 [.slice ap4_0 xp4_0.length cp4_0] :: .row ap4_0 cp4_0 (xp4_0.map Value.bool) :: F)) (hp : F18.J2p lf n3 xp4_0 b5 = some r) : F18.Post F ro r (F18.J2 (callW Tryd.prog ora) lf ro n3 p4 0 b5 h) := by
  unfold F18.J2
  unfold F18.J2p at hp
  refine st_if (Q := F18.Post F ro r) (fun hc_246 => ?_) (fun hc_246 => ?_)
  · replace hp := ifp_t hc_246 hp
    have hs_247 := hs.nilOwn ro 1
    have hs_248 := hs_247.pull 1 rfl
    have hs_249 := hs_248.tail
    have hs_250 := hs_249.pull 1 rfl
    have hs_251 := hs_250.tail
    cases hp
    exact ⟨none, _, rfl, hs_251⟩
  · replace hp := ifp_f hc_246 hp
    refine st_load (Q := F18.Post F ro r) isO hs agg24 rfl ?_
    refine st_slice (Q := F18.Post F ro r) ?_
    refine st_if (Q := F18.Post F ro r) (fun hc_252 => ?_) (fun hc_252 => ?_)
    · replace hp := ifp_t hc_252 hp
      have hs_253 := hs.nilOwn ro 1
      have hs_254 := hs_253.pull 1 rfl
      have hs_255 := hs_254.tail
      have hs_256 := hs_255.pull 1 rfl
      have hs_257 := hs_256.tail
      cases hp
      exact ⟨none, _, rfl, hs_257⟩
    · replace hp := ifp_f hc_252 hp
      have hs_319 := hs.pull 1 rfl
      have hs_320 := hs_319.pull 1 rfl
      exact F18.J5_ok hora n3 p4 ap4_0 _ xp4_0 _ hs_320 hp

def F18.p (lf : Nat) (xax0 : List Bool) (x1 : Int) : Option (List Int × Int) :=
  ifp (decide (x1 < 2)) (
    F18.J2p lf x1 xax0 true) (
    F18.J2p lf x1 xax0 (decide (x1 > 12)))

theorem F18.t_ok {ora : Ora} (hora : HOra ora) {lf ro : Nat} {F : List Ent} {r : (List Int × Int)} (ax0 : Option Addr) (cx0 : Nat) (xax0 : List Bool) (x1 : Int) (h : Heap) (hs : Sat ro h (.row ax0 cx0 (xax0.map Value.bool) :: F)) (hp : F18.p lf xax0 x1 = some r) : F18.Post F ro r (F18.t (callW Tryd.prog ora) lf ro ax0 xax0.length cx0 x1 h) := by
  unfold F18.t
  unfold F18.p at hp
  refine st_pushJ (Q := F18.Post F ro r) hs hs.low rfl fun h_243 _ hs_244 => ?_
  refine st_if (Q := F18.Post F ro r) (fun hc_245 => ?_) (fun hc_245 => ?_)
  · replace hp := ifp_t hc_245 hp
    have hs_321 := hs_244.pull 1 rfl
    have hs_322 := hs_321.pull 1 rfl
    exact F18.J2_ok hora x1 h.next ax0 _ xax0 true _ hs_322 hp
  · replace hp := ifp_f hc_245 hp
    have hs_323 := hs_244.pull 1 rfl
    have hs_324 := hs_323.pull 1 rfl
    exact F18.J2_ok hora x1 h.next ax0 _ xax0 (decide (x1 > 12)) _ hs_324 hp

theorem F18.ok {ora : Ora} (hora : HOra ora) {lf ro : Nat} {F : List Ent} {r : (List Int × Int)} (ax0 : Option Addr) (cx0 : Nat) (xax0 : List Bool) (x1 : Int) (h : Heap) (hs : Sat ro h (.row ax0 cx0 (xax0.map Value.bool) :: F)) (hp : F18.p lf xax0 x1 = some r) : F18.Post F ro r (callW Tryd.prog ora ro 18 [.slice ax0 xax0.length cx0, .int .i64 x1] h) := by
  have h1 := F18.t_ok hora ax0 cx0 xax0 x1 h hs hp
  have h2 : callW Tryd.prog ora ro 18 [.slice ax0 xax0.length cx0, .int .i64 x1] h = _ := callW_body (hora.none _ _ _ _ (by decide)) Tryd.func18 (F18.le (callW Tryd.prog ora) lf ro ax0 xax0.length cx0 x1 h) (F18.Post.ne h1)
  rw [h2]; exact h1

def F46.Post (py0 : Nat) (F : List Ent) (ro : Nat) (r : (Bool × Int)) (x : Out) : Prop := ∃ h', x = .ok (.bool r.1) h' ∧ Sat ro h' (.own ro (some ⟨py0, 0, none⟩) 1 [.int .i64 r.2] :: F)
theorem F46.Post.ne {py0 : Nat} {F : List Ent} {ro : Nat} {r : (Bool × Int)} {x : Out} (hx : F46.Post py0 F ro r x) : x ≠ .fail := by
  obtain ⟨h', rfl, _⟩ := hx
  simp

def F46.p (lf : Nat) (x0 : Int) (mpy0_0 : Int) : Option (Bool × Int) :=
  letJ (fun (b7 : Bool) => (
    some (b7, mpy0_0) : Option (Bool × Int))) fun j9p =>
  ifp (decide (x0 < 0)) (
    j9p true) (
    bindp (shlp .i64 1 mpy0_0) fun n_326 =>
    j9p (decide (x0 ≥ n_326)))

theorem F46.t_ok {ora : Ora} (hora : HOra ora) {lf ro : Nat} {F : List Ent} {r : (Bool × Int)} {py0 : Nat} (x0 : Int) (mpy0_0 : Int) (h : Heap) (hs : Sat ro h (.own ro (some ⟨py0, 0, none⟩) 1 [.int .i64 mpy0_0] :: F)) (hp : F46.p lf x0 mpy0_0 = some r) : F46.Post py0 F ro r (F46.t (callW Tryd.prog ora) lf ro x0 py0 0 h) := by
  unfold F46.t
  unfold F46.p at hp
  refine st_letJ hp (fun j9p j9 => ∀ (b7 : Bool) (h_328 : Heap), Sat ro h_328 (.own ro (some ⟨py0, 0, none⟩) 1 [.int .i64 mpy0_0] :: F) → j9p b7 = some r → F46.Post py0 F ro r (j9 b7 h_328)) ?_ ?_
  · intro b7 h_328 hs hp
    cases hp
    exact ⟨_, rfl, hs⟩
  · intro j9p j9 hj9 hp
    refine st_if (Q := F46.Post py0 F ro r) (fun hc_325 => ?_) (fun hc_325 => ?_)
    · replace hp := ifp_t hc_325 hp
      exact hj9 true _ hs hp
    · replace hp := ifp_f hc_325 hp
      refine st_load (Q := F46.Post py0 F ro r) isO hs agg3 rfl ?_
      refine st_int (Q := F46.Post py0 F ro r) ?_
      obtain ⟨n_326, hx_327, hp⟩ := bindp_some hp
      refine st_shl (Q := F46.Post py0 F ro r) isO hx_327 ?_
      refine st_int (Q := F46.Post py0 F ro r) ?_
      exact hj9 (decide (x0 ≥ n_326)) _ hs hp

theorem F46.ok {ora : Ora} (hora : HOra ora) {lf ro : Nat} {F : List Ent} {r : (Bool × Int)} {py0 : Nat} (x0 : Int) (mpy0_0 : Int) (h : Heap) (hs : Sat ro h (.own ro (some ⟨py0, 0, none⟩) 1 [.int .i64 mpy0_0] :: F)) (hp : F46.p lf x0 mpy0_0 = some r) : F46.Post py0 F ro r (callW Tryd.prog ora ro 46 [.int .i64 x0, .pointer (some ⟨py0, 0, none⟩)] h) := by
  have h1 := F46.t_ok hora x0 mpy0_0 h hs hp
  have h2 : callW Tryd.prog ora ro 46 [.int .i64 x0, .pointer (some ⟨py0, 0, none⟩)] h = _ := callW_body (hora.none _ _ _ _ (by decide)) Tryd.func46 (F46.le (callW Tryd.prog ora) lf ro x0 py0 0 h) (F46.Post.ne h1)
  rw [h2]; exact h1

def F69.Post (px1_0 : Nat) (F : List Ent) (ro : Nat) (r : (Int × Int)) (x : Out) : Prop := ∃ h', x = .ok (.int .i64 r.1) h' ∧ Sat ro h' (.own ro (some ⟨px1_0, 0, none⟩) 1 [.int .i64 r.2] :: F)
theorem F69.Post.ne {px1_0 : Nat} {F : List Ent} {ro : Nat} {r : (Int × Int)} {x : Out} (hx : F69.Post px1_0 F ro r x) : x ≠ .fail := by
  obtain ⟨h', rfl, _⟩ := hx
  simp

def F69.J3p (lf : Nat) (kb2p : List Int → Int → Int → Int → Option (Int × Int)) (xa6 : List Int) (mpx1_0_0 : Int) (n8 : Int) (n9 : Int) : Option (Int × Int) :=
  bindp (idxp xa6 n9) fun x_330 =>
  bindp (F46.p lf x_330 mpx1_0_0) fun r_333 =>
  ifp r_333.1 (
    some (n9, r_333.2)) (
    kb2p xa6 r_333.2 n8 (IntKind.i64.wrap (n9 + 1)))

theorem F69.J3_ok {ora : Ora} (hora : HOra ora) {lf ro : Nat} {F : List Ent} {r : (Int × Int)} {px1_0 : Nat} {kb2p : List Int → Int → Int → Int → Option (Int × Int)} {kb2 : (Option Addr) → Nat → Nat → Nat → Nat → Int → Int → Heap → Out} (hkb2 : ∀ (a1 : Option Addr) (c1 : Nat) (xa1 : List Int) (mpx1_0_0 : Int) (n3 : Int) (n4 : Int) (h : Heap), Sat ro h (.row a1 c1 (xa1.map (Value.int .i64)) :: .own ro (some ⟨px1_0, 0, none⟩) 1 [.int .i64 mpx1_0_0] :: F) → kb2p xa1 mpx1_0_0 n3 n4 = some r → F69.Post px1_0 F ro r (kb2 a1 xa1.length c1 px1_0 0 n3 n4 h)) (a6 : Option Addr) (c6 : Nat) (xa6 : List Int) (mpx1_0_0 : Int) (n8 : Int) (n9 : Int) (h : Heap) (hs : Sat ro h (.row a6 c6 (xa6.map (Value.int .i64)) :: .own ro (some ⟨px1_0, 0, none⟩) 1 [.int .i64 mpx1_0_0] :: F)) (hp : F69.J3p lf kb2p xa6 mpx1_0_0 n8 n9 = some r) : F69.Post px1_0 F ro r (F69.J3 (callW Tryd.prog ora) lf ro kb2 a6 xa6.length c6 px1_0 0 n8 n9 h) := by
  unfold F69.J3
  unfold F69.J3p at hp
  obtain ⟨x_330, hx_331, hp⟩ := bindp_some hp
  refine st_idxR (Q := F69.Post px1_0 F ro r) (l := xa6) (f := (Value.int .i64)) isO isO hs und35 siz3 agg3 rfl hx_331 ?_
  refine st_int (Q := F69.Post px1_0 F ro r) ?_
  have hs_332 := hs.pull 1 rfl
  obtain ⟨r_333, hx_334, hp⟩ := bindp_some hp
  obtain ⟨h_335, e_337, hs_336⟩ := F46.ok hora (ro := ro) (py0 := px1_0) (F := .row a6 c6 (xa6.map (Value.int .i64)) :: F) x_330 mpx1_0_0 _ hs_332 hx_334
  refine st_ok (Q := F69.Post px1_0 F ro r) isO e_337 ?_
  refine st_bool (Q := F69.Post px1_0 F ro r) ?_
  refine st_if (Q := F69.Post px1_0 F ro r) (fun hc_338 => ?_) (fun hc_338 => ?_)
  · replace hp := ifp_t hc_338 hp
    have hs_339 := hs_336.pull 1 rfl
    have hs_340 := hs_339.tail
    cases hp
    exact ⟨_, rfl, hs_340⟩
  · replace hp := ifp_f hc_338 hp
    have hs_341 := hs_336.pull 1 rfl
    exact hkb2 a6 _ xa6 r_333.2 n8 (IntKind.i64.wrap (n9 + 1)) _ hs_341 hp

def F69.L2p (lf : Nat) : Nat → List Int → Int → Int → Int → Option (Int × Int)
  | 0, _, _, _, _ => none
  | n + 1, xa1, mpx1_0_0, n3, n4 =>
  ifp (decide (n4 < n3)) (
    F69.J3p lf (F69.L2p lf n) xa1 mpx1_0_0 n3 n4) (
    some (-1, mpx1_0_0))

theorem F69.L2_ok {ora : Ora} (hora : HOra ora) {lf ro : Nat} {F : List Ent} {r : (Int × Int)} {px1_0 : Nat} : ∀ (n : Nat) (a1 : Option Addr) (c1 : Nat) (xa1 : List Int) (mpx1_0_0 : Int) (n3 : Int) (n4 : Int) (h : Heap), Sat ro h (.row a1 c1 (xa1.map (Value.int .i64)) :: .own ro (some ⟨px1_0, 0, none⟩) 1 [.int .i64 mpx1_0_0] :: F) → F69.L2p lf n xa1 mpx1_0_0 n3 n4 = some r → F69.Post px1_0 F ro r (F69.L2 (callW Tryd.prog ora) lf ro n a1 xa1.length c1 px1_0 0 n3 n4 h) := by
  intro n
  induction n with
  | zero => intro a1 c1 xa1 mpx1_0_0 n3 n4 h hs hp; cases hp
  | succ n ih =>
    intro a1 c1 xa1 mpx1_0_0 n3 n4 h hs hp
    unfold F69.L2
    unfold F69.L2p at hp
    refine st_if (Q := F69.Post px1_0 F ro r) (fun hc_329 => ?_) (fun hc_329 => ?_)
    · replace hp := ifp_t hc_329 hp
      have hs_342 := hs.pull 1 rfl
      have hs_343 := hs_342.pull 1 rfl
      exact F69.J3_ok hora ih a1 _ xa1 mpx1_0_0 n3 n4 _ hs_343 hp
    · replace hp := ifp_f hc_329 hp
      have hs_344 := hs.tail
      cases hp
      exact ⟨_, rfl, hs_344⟩

def F69.p (lf : Nat) (xax0 : List Int) (mpx1_0_0 : Int) : Option (Int × Int) :=
  F69.L2p lf lf xax0 mpx1_0_0 (xax0.length : Int) 0

theorem F69.t_ok {ora : Ora} (hora : HOra ora) {lf ro : Nat} {F : List Ent} {r : (Int × Int)} {px1_0 : Nat} (ax0 : Option Addr) (cx0 : Nat) (xax0 : List Int) (mpx1_0_0 : Int) (h : Heap) (hs : Sat ro h (.row ax0 cx0 (xax0.map (Value.int .i64)) :: .own ro (some ⟨px1_0, 0, none⟩) 1 [.int .i64 mpx1_0_0] :: F)) (hp : F69.p lf xax0 mpx1_0_0 = some r) : F69.Post px1_0 F ro r (F69.t (callW Tryd.prog ora) lf ro ax0 xax0.length cx0 px1_0 0 h) := by
  unfold F69.t
  unfold F69.p at hp
  have hs_345 := hs.pull 1 rfl
  have hs_346 := hs_345.pull 1 rfl
  exact F69.L2_ok hora lf ax0 _ xax0 mpx1_0_0 (xax0.length : Int) 0 _ hs_346 hp

theorem F69.ok {ora : Ora} (hora : HOra ora) {lf ro : Nat} {F : List Ent} {r : (Int × Int)} {px1_0 : Nat} (ax0 : Option Addr) (cx0 : Nat) (xax0 : List Int) (mpx1_0_0 : Int) (h : Heap) (hs : Sat ro h (.row ax0 cx0 (xax0.map (Value.int .i64)) :: .own ro (some ⟨px1_0, 0, none⟩) 1 [.int .i64 mpx1_0_0] :: F)) (hp : F69.p lf xax0 mpx1_0_0 = some r) : F69.Post px1_0 F ro r (callW Tryd.prog ora ro 69 [.slice ax0 xax0.length cx0, .func (.func 46) #[] #[.pointer (some ⟨px1_0, 0, none⟩)]] h) := by
  have h1 := F69.t_ok hora ax0 cx0 xax0 mpx1_0_0 h hs hp
  have h2 : callW Tryd.prog ora ro 69 [.slice ax0 xax0.length cx0, .func (.func 46) #[] #[.pointer (some ⟨px1_0, 0, none⟩)]] h = _ := callW_body (hora.none _ _ _ _ (by decide)) Tryd.func69 (F69.le (callW Tryd.prog ora) lf ro ax0 xax0.length cx0 px1_0 0 h) (F69.Post.ne h1)
  rw [h2]; exact h1

def F45.Post (px1_0 : Nat) (F : List Ent) (ro : Nat) (r : (Bool × Int)) (x : Out) : Prop := ∃ h', x = .ok (.bool r.1) h' ∧ Sat ro h' (.own ro (some ⟨px1_0, 0, none⟩) 1 [.int .i64 r.2] :: F)
theorem F45.Post.ne {px1_0 : Nat} {F : List Ent} {ro : Nat} {r : (Bool × Int)} {x : Out} (hx : F45.Post px1_0 F ro r x) : x ≠ .fail := by
  obtain ⟨h', rfl, _⟩ := hx
  simp

def F45.p (lf : Nat) (xax0 : List Int) (mpx1_0_0 : Int) : Option (Bool × Int) :=
  bindp (F69.p lf xax0 mpx1_0_0) fun r_350 =>
  some (decide (r_350.1 ≥ 0), r_350.2)

theorem F45.t_ok {ora : Ora} (hora : HOra ora) {lf ro : Nat} {F : List Ent} {r : (Bool × Int)} {px1_0 : Nat} (ax0 : Option Addr) (cx0 : Nat) (xax0 : List Int) (mpx1_0_0 : Int) (h : Heap) (hs : Sat ro h (.row ax0 cx0 (xax0.map (Value.int .i64)) :: .own ro (some ⟨px1_0, 0, none⟩) 1 [.int .i64 mpx1_0_0] :: F)) (hp : F45.p lf xax0 mpx1_0_0 = some r) : F45.Post px1_0 F ro r (F45.t (callW Tryd.prog ora) lf ro ax0 xax0.length cx0 px1_0 0 h) := by
  unfold F45.t
  unfold F45.p at hp
  have hs_347 := hs.dup
  have hs_348 := hs_347.pull 2 rfl
  have hs_349 := hs_348.pull 1 rfl
  obtain ⟨r_350, hx_351, hp⟩ := bindp_some hp
  obtain ⟨h_352, e_354, hs_353⟩ := F69.ok hora (ro := ro) (px1_0 := px1_0) (F := .row ax0 cx0 (xax0.map (Value.int .i64)) :: F) ax0 cx0 xax0 mpx1_0_0 _ hs_349 hx_351
  refine st_ok (Q := F45.Post px1_0 F ro r) isO e_354 ?_
  refine st_int (Q := F45.Post px1_0 F ro r) ?_
  have hs_355 := hs_353.pull 1 rfl
  have hs_356 := hs_355.tail
  cases hp
  exact ⟨_, rfl, hs_356⟩

theorem F45.ok {ora : Ora} (hora : HOra ora) {lf ro : Nat} {F : List Ent} {r : (Bool × Int)} {px1_0 : Nat} (ax0 : Option Addr) (cx0 : Nat) (xax0 : List Int) (mpx1_0_0 : Int) (h : Heap) (hs : Sat ro h (.row ax0 cx0 (xax0.map (Value.int .i64)) :: .own ro (some ⟨px1_0, 0, none⟩) 1 [.int .i64 mpx1_0_0] :: F)) (hp : F45.p lf xax0 mpx1_0_0 = some r) : F45.Post px1_0 F ro r (callW Tryd.prog ora ro 45 [.slice ax0 xax0.length cx0, .func (.func 46) #[] #[.pointer (some ⟨px1_0, 0, none⟩)]] h) := by
  have h1 := F45.t_ok hora ax0 cx0 xax0 mpx1_0_0 h hs hp
  have h2 : callW Tryd.prog ora ro 45 [.slice ax0 xax0.length cx0, .func (.func 46) #[] #[.pointer (some ⟨px1_0, 0, none⟩)]] h = _ := callW_body (hora.none _ _ _ _ (by decide)) Tryd.func45 (F45.le (callW Tryd.prog ora) lf ro ax0 xax0.length cx0 px1_0 0 h) (F45.Post.ne h1)
  rw [h2]; exact h1

def F20.Post (F : List Ent) (ro : Nat) (r : (List Bool × Int)) (x : Out) : Prop := ∃ a0 h', x = .ok (.tuple #[.slice a0 r.1.length r.1.length, .int .i64 r.2]) h' ∧ Sat ro h' (.own ro a0 1 (r.1.map Value.bool) :: F)
theorem F20.Post.ne {F : List Ent} {ro : Nat} {r : (List Bool × Int)} {x : Out} (hx : F20.Post F ro r x) : x ≠ .fail := by
  obtain ⟨a0, h', rfl, _⟩ := hx
  simp

def F20.L15p (lf : Nat) (kb7p : Int → List Bool → List Int → Int → Int → Option (List Bool × Int)) : Nat → Int → List Bool → Int → Int → Int → List Int → Int → Int → Option (List Bool × Int)
  | 0, _, _, _, _, _, _, _, _ => none
  | n + 1, mp94_0, xa95, n96, n97, n98, xa99, n100, n101 =>
  letJ ((
    kb7p mp94_0 xa95 xa99 n100 (IntKind.i64.wrap (n101 + 1)) : Option (List Bool × Int))) fun j253p =>
  ifp (decide (n98 ≥ n97)) (
    bindp (shrp .i64 n96 n98) fun n_427 =>
    bindp (appp 1 xa95 [(bAnd .i64 n_427 1) == 1]) fun x_431 =>
    F20.L15p lf kb7p n mp94_0 x_431 n96 n97 (IntKind.i64.wrap (n98 - 1)) xa99 n100 n101) (
    j253p)

theorem F20.L15_ok {ora : Ora} (hora : HOra ora) {lf ro : Nat} {F : List Ent} {r : (List Bool × Int)} {kb7p : Int → List Bool → List Int → Int → Int → Option (List Bool × Int)} {kb7 : Nat → Nat → (Option Addr) → Nat → Nat → (Option Addr) → Nat → Nat → Int → Int → Heap → Out} (hkb7 : ∀ (p33 : Nat) (mp33_0 : Int) (a34 : Option Addr) (xa34 : List Bool) (a35 : Option Addr) (c35 : Nat) (xa35 : List Int) (n36 : Int) (n37 : Int) (h : Heap), Sat ro h (.own ro (some ⟨p33, 0, none⟩) 1 [.int .i64 mp33_0] :: .own ro a34 1 (xa34.map Value.bool) :: .row a35 c35 (xa35.map (Value.int .i64)) :: F) → kb7p mp33_0 xa34 xa35 n36 n37 = some r → F20.Post F ro r (kb7 p33 0 a34 xa34.length xa34.length a35 xa35.length c35 n36 n37 h)) : ∀ (n : Nat) (p94 : Nat) (mp94_0 : Int) (a95 : Option Addr) (xa95 : List Bool) (n96 : Int) (n97 : Int) (n98 : Int) (a99 : Option Addr) (c99 : Nat) (xa99 : List Int) (n100 : Int) (n101 : Int) (h : Heap), Sat ro h (.own ro (some ⟨p94, 0, none⟩) 1 [.int .i64 mp94_0] :: .own ro a95 1 (xa95.map Value.bool) :: .row a99 c99 (xa99.map (Value.int .i64)) :: F) → F20.L15p lf kb7p n mp94_0 xa95 n96 n97 n98 xa99 n100 n101 = some r → F20.Post F ro r (F20.L15 (callW Tryd.prog ora) lf ro kb7 n p94 0 a95 xa95.length xa95.length n96 n97 n98 a99 xa99.length c99 n100 n101 h) := by
  intro n
  induction n with
  | zero => intro p94 mp94_0 a95 xa95 n96 n97 n98 a99 c99 xa99 n100 n101 h hs hp; cases hp
  | succ n ih =>
    intro p94 mp94_0 a95 xa95 n96 n97 n98 a99 c99 xa99 n100 n101 h hs hp
    unfold F20.L15
    unfold F20.L15p at hp
    refine st_letJ hp (fun j253p j253 => Sat ro h (.own ro (some ⟨p94, 0, none⟩) 1 [.int .i64 mp94_0] :: .own ro a95 1 (xa95.map Value.bool) :: .row a99 c99 (xa99.map (Value.int .i64)) :: F) → j253p = some r → F20.Post F ro r (j253)) ?_ ?_
    · intro  hs hp
      have hs_446 := hs.pull 2 rfl
      have hs_447 := hs_446.pull 2 rfl
      have hs_448 := hs_447.pull 2 rfl
      exact hkb7 p94 mp94_0 a95 xa95 a99 _ xa99 n100 (IntKind.i64.wrap (n101 + 1)) _ hs_448 hp
    · intro j253p j253 hj253 hp
      refine st_if (Q := F20.Post F ro r) (fun hc_426 => ?_) (fun hc_426 => ?_)
      · replace hp := ifp_t hc_426 hp
        obtain ⟨n_427, hx_428, hp⟩ := bindp_some hp
        refine st_shr (Q := F20.Post F ro r) isO hx_428 ?_
        refine st_int (Q := F20.Post F ro r) ?_
        refine st_pushJ (Q := F20.Post F ro r) hs hs.low rfl fun h_429 _ hs_430 => ?_
        have hs_436 := hs_430.pull 2 rfl
        obtain ⟨x_431, hx_432, hp⟩ := bindp_some hp
        refine st_appO (Q := F20.Post F ro r) isO (l := xa95) (x := [(bAnd .i64 n_427 1) == 1]) (f := Value.bool) hs_436 (fun _ => rfl) und24 und24 one4 rfl rfl rfl hx_432 fun a_433 h_434 hs_435 => ?_
        refine st_slice (Q := F20.Post F ro r) ?_
        have hs_437 := hs_435.pull 1 rfl
        have hs_438 := hs_437.tail
        have hs_439 := hs_438.pull 2 rfl
        have hs_440 := hs_439.pull 1 rfl
        have hs_441 := hs_440.pull 2 rfl
        exact ih p94 mp94_0 a_433 x_431 n96 n97 (IntKind.i64.wrap (n98 - 1)) a99 _ xa99 n100 n101 _ hs_441 hp
      · replace hp := ifp_f hc_426 hp
        have hs_442 := hs.pull 2 rfl
        have hs_443 := hs_442.pull 2 rfl
        have hs_444 := hs_443.pull 2 rfl
        exact hj253 hs_444 hp

def F20.J14p (lf : Nat) (kb7p : Int → List Bool → List Int → Int → Int → Option (List Bool × Int)) (mp80_0 : Int) (xa81 : List Bool) (n82 : Int) (n83 : Int) (xa84 : List Int) (n85 : Int) (n86 : Int) : Option (List Bool × Int) :=
  F20.L15p lf kb7p lf mp80_0 xa81 n82 n83 (IntKind.i64.wrap (mp80_0 - 1)) xa84 n85 n86

theorem F20.J14_ok {ora : Ora} (hora : HOra ora) {lf ro : Nat} {F : List Ent} {r : (List Bool × Int)} {kb7p : Int → List Bool → List Int → Int → Int → Option (List Bool × Int)} {kb7 : Nat → Nat → (Option Addr) → Nat → Nat → (Option Addr) → Nat → Nat → Int → Int → Heap → Out} (hkb7 : ∀ (p33 : Nat) (mp33_0 : Int) (a34 : Option Addr) (xa34 : List Bool) (a35 : Option Addr) (c35 : Nat) (xa35 : List Int) (n36 : Int) (n37 : Int) (h : Heap), Sat ro h (.own ro (some ⟨p33, 0, none⟩) 1 [.int .i64 mp33_0] :: .own ro a34 1 (xa34.map Value.bool) :: .row a35 c35 (xa35.map (Value.int .i64)) :: F) → kb7p mp33_0 xa34 xa35 n36 n37 = some r → F20.Post F ro r (kb7 p33 0 a34 xa34.length xa34.length a35 xa35.length c35 n36 n37 h)) (p80 : Nat) (mp80_0 : Int) (a81 : Option Addr) (xa81 : List Bool) (n82 : Int) (n83 : Int) (a84 : Option Addr) (c84 : Nat) (xa84 : List Int) (n85 : Int) (n86 : Int) (h : Heap) (hs : Sat ro h (.own ro (some ⟨p80, 0, none⟩) 1 [.int .i64 mp80_0] :: .own ro a81 1 (xa81.map Value.bool) :: .row a84 c84 (xa84.map (Value.int .i64)) :: F)) (hp : F20.J14p lf kb7p mp80_0 xa81 n82 n83 xa84 n85 n86 = some r) : F20.Post F ro r (F20.J14 (callW Tryd.prog ora) lf ro kb7 p80 0 a81 xa81.length xa81.length n82 n83 a84 xa84.length c84 n85 n86 h) := by
  unfold F20.J14
  unfold F20.J14p at hp
  refine st_load (Q := F20.Post F ro r) isO hs agg3 rfl ?_
  refine st_int (Q := F20.Post F ro r) ?_
  have hs_449 := hs.pull 2 rfl
  have hs_450 := hs_449.pull 2 rfl
  have hs_451 := hs_450.pull 2 rfl
  exact F20.L15_ok hora hkb7 lf p80 mp80_0 a81 xa81 n82 n83 (IntKind.i64.wrap (mp80_0 - 1)) a84 _ xa84 n85 n86 _ hs_451 hp

def F20.J11p (lf : Nat) (kb7p : Int → List Bool → List Int → Int → Int → Option (List Bool × Int)) (mp64_0 : Int) (xa65 : List Bool) (n66 : Int) (xa67 : List Int) (n68 : Int) (n69 : Int) : Option (List Bool × Int) :=
  letJ (fun (b434 : Bool) => (
    ifp b434 (
      F20.J14p lf kb7p mp64_0 xa65 n66 1 xa67 n68 n69) (
      F20.J14p lf kb7p mp64_0 xa65 n66 0 xa67 n68 n69) : Option (List Bool × Int))) fun j436p =>
  ifp (n66 == 1) (
    j436p true) (
    bindp (shlp .i64 1 mp64_0) fun n_419 =>
    j436p (n66 == (IntKind.i64.wrap (n_419 - 2))))

theorem F20.J11_ok {ora : Ora} (hora : HOra ora) {lf ro : Nat} {F : List Ent} {r : (List Bool × Int)} {kb7p : Int → List Bool → List Int → Int → Int → Option (List Bool × Int)} {kb7 : Nat → Nat → (Option Addr) → Nat → Nat → (Option Addr) → Nat → Nat → Int → Int → Heap → Out} (hkb7 : ∀ (p33 : Nat) (mp33_0 : Int) (a34 : Option Addr) (xa34 : List Bool) (a35 : Option Addr) (c35 : Nat) (xa35 : List Int) (n36 : Int) (n37 : Int) (h : Heap), Sat ro h (.own ro (some ⟨p33, 0, none⟩) 1 [.int .i64 mp33_0] :: .own ro a34 1 (xa34.map Value.bool) :: .row a35 c35 (xa35.map (Value.int .i64)) :: F) → kb7p mp33_0 xa34 xa35 n36 n37 = some r → F20.Post F ro r (kb7 p33 0 a34 xa34.length xa34.length a35 xa35.length c35 n36 n37 h)) (p64 : Nat) (mp64_0 : Int) (a65 : Option Addr) (xa65 : List Bool) (n66 : Int) (a67 : Option Addr) (c67 : Nat) (xa67 : List Int) (n68 : Int) (n69 : Int) (h : Heap) (hs : Sat ro h (.own ro (some ⟨p64, 0, none⟩) 1 [.int .i64 mp64_0] :: .own ro a65 1 (xa65.map Value.bool) :: .row a67 c67 (xa67.map (Value.int .i64)) :: F)) (hp : F20.J11p lf kb7p mp64_0 xa65 n66 xa67 n68 n69 = some r) : F20.Post F ro r (F20.J11 (callW Tryd.prog ora) lf ro kb7 p64 0 a65 xa65.length xa65.length n66 a67 xa67.length c67 n68 n69 h) := by
  unfold F20.J11
  unfold F20.J11p at hp
  refine st_letJ hp (fun j436p j436 => ∀ (b434 : Bool) (h_424 : Heap), Sat ro h_424 (.own ro (some ⟨p64, 0, none⟩) 1 [.int .i64 mp64_0] :: .own ro a65 1 (xa65.map Value.bool) :: .row a67 c67 (xa67.map (Value.int .i64)) :: F) → j436p b434 = some r → F20.Post F ro r (j436 b434 h_424)) ?_ ?_
  · intro b434 h_424 hs hp
    refine st_if (Q := F20.Post F ro r) (fun hc_425 => ?_) (fun hc_425 => ?_)
    · replace hp := ifp_t hc_425 hp
      have hs_452 := hs.pull 2 rfl
      have hs_453 := hs_452.pull 2 rfl
      have hs_454 := hs_453.pull 2 rfl
      exact F20.J14_ok hora hkb7 p64 mp64_0 a65 xa65 n66 1 a67 _ xa67 n68 n69 _ hs_454 hp
    · replace hp := ifp_f hc_425 hp
      have hs_455 := hs.pull 2 rfl
      have hs_456 := hs_455.pull 2 rfl
      have hs_457 := hs_456.pull 2 rfl
      exact F20.J14_ok hora hkb7 p64 mp64_0 a65 xa65 n66 0 a67 _ xa67 n68 n69 _ hs_457 hp
  · intro j436p j436 hj436 hp
    refine st_if (Q := F20.Post F ro r) (fun hc_415 => ?_) (fun hc_415 => ?_)
    · replace hp := ifp_t hc_415 hp
      have hs_416 := hs.pull 2 rfl
      have hs_417 := hs_416.pull 2 rfl
      have hs_418 := hs_417.pull 2 rfl
      exact hj436 true _ hs_418 hp
    · replace hp := ifp_f hc_415 hp
      refine st_load (Q := F20.Post F ro r) isO hs agg3 rfl ?_
      refine st_int (Q := F20.Post F ro r) ?_
      obtain ⟨n_419, hx_420, hp⟩ := bindp_some hp
      refine st_shl (Q := F20.Post F ro r) isO hx_420 ?_
      refine st_int (Q := F20.Post F ro r) ?_
      have hs_421 := hs.pull 2 rfl
      have hs_422 := hs_421.pull 2 rfl
      have hs_423 := hs_422.pull 2 rfl
      exact hj436 (n66 == (IntKind.i64.wrap (n_419 - 2))) _ hs_423 hp

def F20.J8p (lf : Nat) (kb7p : Int → List Bool → List Int → Int → Int → Option (List Bool × Int)) (mp39_0 : Int) (xa40 : List Bool) (xa41 : List Int) (n42 : Int) (n43 : Int) : Option (List Bool × Int) :=
  bindp (idxp xa41 n43) fun x_393 =>
  letJ (fun (b521 : Bool) => (
    ifp b521 (
      some ([], 22)) (
      F20.J11p lf kb7p mp39_0 xa40 x_393 xa41 n42 n43) : Option (List Bool × Int))) fun j523p =>
  ifp (x_393 == 0) (
    j523p true) (
    bindp (shlp .i64 1 mp39_0) fun n_401 =>
    j523p (x_393 == (IntKind.i64.wrap (n_401 - 1))))

theorem F20.J8_ok {ora : Ora} (hora : HOra ora) {lf ro : Nat} {F : List Ent} {r : (List Bool × Int)} {kb7p : Int → List Bool → List Int → Int → Int → Option (List Bool × Int)} {kb7 : Nat → Nat → (Option Addr) → Nat → Nat → (Option Addr) → Nat → Nat → Int → Int → Heap → Out} (hkb7 : ∀ (p33 : Nat) (mp33_0 : Int) (a34 : Option Addr) (xa34 : List Bool) (a35 : Option Addr) (c35 : Nat) (xa35 : List Int) (n36 : Int) (n37 : Int) (h : Heap), Sat ro h (.own ro (some ⟨p33, 0, none⟩) 1 [.int .i64 mp33_0] :: .own ro a34 1 (xa34.map Value.bool) :: .row a35 c35 (xa35.map (Value.int .i64)) :: F) → kb7p mp33_0 xa34 xa35 n36 n37 = some r → F20.Post F ro r (kb7 p33 0 a34 xa34.length xa34.length a35 xa35.length c35 n36 n37 h)) (p39 : Nat) (mp39_0 : Int) (a40 : Option Addr) (xa40 : List Bool) (a41 : Option Addr) (c41 : Nat) (xa41 : List Int) (n42 : Int) (n43 : Int) (h : Heap) (hs : Sat ro h (.own ro (some ⟨p39, 0, none⟩) 1 [.int .i64 mp39_0] :: .own ro a40 1 (xa40.map Value.bool) :: .row a41 c41 (xa41.map (Value.int .i64)) :: F)) (hp : F20.J8p lf kb7p mp39_0 xa40 xa41 n42 n43 = some r) : F20.Post F ro r (F20.J8 (callW Tryd.prog ora) lf ro kb7 p39 0 a40 xa40.length xa40.length a41 xa41.length c41 n42 n43 h) := by
  unfold F20.J8
  unfold F20.J8p at hp
  have hs_395 := hs.pull 2 rfl
  obtain ⟨x_393, hx_394, hp⟩ := bindp_some hp
  refine st_idxR (Q := F20.Post F ro r) (l := xa41) (f := (Value.int .i64)) isO isO hs_395 und35 siz3 agg3 rfl hx_394 ?_
  refine st_int (Q := F20.Post F ro r) ?_
  refine st_letJ hp (fun j523p j523 => ∀ (b521 : Bool) (h_406 : Heap), Sat ro h_406 (.row a41 c41 (xa41.map (Value.int .i64)) :: .own ro (some ⟨p39, 0, none⟩) 1 [.int .i64 mp39_0] :: .own ro a40 1 (xa40.map Value.bool) :: F) → j523p b521 = some r → F20.Post F ro r (j523 b521 h_406)) ?_ ?_
  · intro b521 h_406 hs hp
    refine st_if (Q := F20.Post F ro r) (fun hc_407 => ?_) (fun hc_407 => ?_)
    · replace hp := ifp_t hc_407 hp
      have hs_408 := hs.nilOwn ro 1
      have hs_409 := hs_408.pull 1 rfl
      have hs_410 := hs_409.tail
      have hs_411 := hs_410.pull 1 rfl
      have hs_412 := hs_411.tail
      have hs_413 := hs_412.pull 1 rfl
      have hs_414 := hs_413.tail
      cases hp
      exact ⟨none, _, rfl, hs_414⟩
    · replace hp := ifp_f hc_407 hp
      have hs_458 := hs.pull 2 rfl
      have hs_459 := hs_458.pull 2 rfl
      exact F20.J11_ok hora hkb7 p39 mp39_0 a40 xa40 x_393 a41 _ xa41 n42 n43 _ hs_459 hp
  · intro j523p j523 hj523 hp
    refine st_if (Q := F20.Post F ro r) (fun hc_396 => ?_) (fun hc_396 => ?_)
    · replace hp := ifp_t hc_396 hp
      have hs_397 := hs_395.pull 2 rfl
      have hs_398 := hs_397.pull 2 rfl
      have hs_399 := hs_398.pull 2 rfl
      exact hj523 true _ hs_399 hp
    · replace hp := ifp_f hc_396 hp
      have hs_400 := hs_395.pull 1 rfl
      refine st_load (Q := F20.Post F ro r) isO hs_400 agg3 rfl ?_
      refine st_int (Q := F20.Post F ro r) ?_
      obtain ⟨n_401, hx_402, hp⟩ := bindp_some hp
      refine st_shl (Q := F20.Post F ro r) isO hx_402 ?_
      refine st_int (Q := F20.Post F ro r) ?_
      have hs_403 := hs_400.pull 2 rfl
      have hs_404 := hs_403.pull 1 rfl
      have hs_405 := hs_404.pull 2 rfl
      exact hj523 (x_393 == (IntKind.i64.wrap (n_401 - 1))) _ hs_405 hp

def F20.L7p (lf : Nat) : Nat → Int → List Bool → List Int → Int → Int → Option (List Bool × Int)
  | 0, _, _, _, _, _ => none
  | n + 1, mp33_0, xa34, xa35, n36, n37 =>
  ifp (decide (n37 < n36)) (
    F20.J8p lf (F20.L7p lf n) mp33_0 xa34 xa35 n36 n37) (
    some (xa34, 0))

theorem F20.L7_ok {ora : Ora} (hora : HOra ora) {lf ro : Nat} {F : List Ent} {r : (List Bool × Int)} : ∀ (n : Nat) (p33 : Nat) (mp33_0 : Int) (a34 : Option Addr) (xa34 : List Bool) (a35 : Option Addr) (c35 : Nat) (xa35 : List Int) (n36 : Int) (n37 : Int) (h : Heap), Sat ro h (.own ro (some ⟨p33, 0, none⟩) 1 [.int .i64 mp33_0] :: .own ro a34 1 (xa34.map Value.bool) :: .row a35 c35 (xa35.map (Value.int .i64)) :: F) → F20.L7p lf n mp33_0 xa34 xa35 n36 n37 = some r → F20.Post F ro r (F20.L7 (callW Tryd.prog ora) lf ro n p33 0 a34 xa34.length xa34.length a35 xa35.length c35 n36 n37 h) := by
  intro n
  induction n with
  | zero => intro p33 mp33_0 a34 xa34 a35 c35 xa35 n36 n37 h hs hp; cases hp
  | succ n ih =>
    intro p33 mp33_0 a34 xa34 a35 c35 xa35 n36 n37 h hs hp
    unfold F20.L7
    unfold F20.L7p at hp
    refine st_if (Q := F20.Post F ro r) (fun hc_392 => ?_) (fun hc_392 => ?_)
    · replace hp := ifp_t hc_392 hp
      have hs_460 := hs.pull 2 rfl
      have hs_461 := hs_460.pull 2 rfl
      have hs_462 := hs_461.pull 2 rfl
      exact F20.J8_ok hora ih p33 mp33_0 a34 xa34 a35 _ xa35 n36 n37 _ hs_462 hp
    · replace hp := ifp_f hc_392 hp
      have hs_463 := hs.tail
      have hs_464 := hs_463.pull 1 rfl
      have hs_465 := hs_464.tail
      cases hp
      exact ⟨a34, _, rfl, hs_465⟩

def F20.J5p (lf : Nat) (xa30 : List Int) (mp31_0 : Int) : Option (List Bool × Int) :=
  F20.L7p lf lf mp31_0 [] xa30 (xa30.length : Int) 0

theorem F20.J5_ok {ora : Ora} (hora : HOra ora) {lf ro : Nat} {F : List Ent} {r : (List Bool × Int)} (a30 : Option Addr) (c30 : Nat) (xa30 : List Int) (p31 : Nat) (mp31_0 : Int) (h : Heap) (hs : Sat ro h (.row a30 c30 (xa30.map (Value.int .i64)) :: .own ro (some ⟨p31, 0, none⟩) 1 [.int .i64 mp31_0] :: F)) (hp : F20.J5p lf xa30 mp31_0 = some r) : F20.Post F ro r (F20.J5 (callW Tryd.prog ora) lf ro a30 xa30.length c30 p31 0 h) := by
  unfold F20.J5
  unfold F20.J5p at hp
  have hs_466 := hs.nilOwn ro 1
  have hs_467 := hs_466.pull 1 rfl
  have hs_468 := hs_467.pull 1 rfl
  have hs_469 := hs_468.pull 2 rfl
  exact F20.L7_ok hora lf p31 mp31_0 none [] a30 _ xa30 (xa30.length : Int) 0 _ hs_469 hp

def F20.J3p (lf : Nat) (xa15 : List Int) (mp16_0 : Int) : Option (List Bool × Int) :=
  bindp (quop .i64 1048576 mp16_0) fun n_384 =>
  ifp (decide ((xa15.length : Int) > n_384)) (
    some ([], 4)) (
    F20.J5p lf xa15 mp16_0)

theorem F20.J3_ok {ora : Ora} (hora : HOra ora) {lf ro : Nat} {F : List Ent} {r : (List Bool × Int)} (a15 : Option Addr) (c15 : Nat) (xa15 : List Int) (p16 : Nat) (mp16_0 : Int) (h : Heap) (hs : Sat ro h (.row a15 c15 (xa15.map (Value.int .i64)) :: .own ro (some ⟨p16, 0, none⟩) 1 [.int .i64 mp16_0] :: F)) (hp : F20.J3p lf xa15 mp16_0 = some r) : F20.Post F ro r (F20.J3 (callW Tryd.prog ora) lf ro a15 xa15.length c15 p16 0 h) := by
  unfold F20.J3
  unfold F20.J3p at hp
  have hs_383 := hs.pull 1 rfl
  refine st_load (Q := F20.Post F ro r) isO hs_383 agg3 rfl ?_
  refine st_int (Q := F20.Post F ro r) ?_
  obtain ⟨n_384, hx_385, hp⟩ := bindp_some hp
  refine st_quo (Q := F20.Post F ro r) isO hx_385 ?_
  refine st_int (Q := F20.Post F ro r) ?_
  refine st_if (Q := F20.Post F ro r) (fun hc_386 => ?_) (fun hc_386 => ?_)
  · replace hp := ifp_t hc_386 hp
    have hs_387 := hs_383.nilOwn ro 1
    have hs_388 := hs_387.pull 1 rfl
    have hs_389 := hs_388.tail
    have hs_390 := hs_389.pull 1 rfl
    have hs_391 := hs_390.tail
    cases hp
    exact ⟨none, _, rfl, hs_391⟩
  · replace hp := ifp_f hc_386 hp
    have hs_470 := hs_383.pull 1 rfl
    exact F20.J5_ok hora a15 _ xa15 p16 mp16_0 _ hs_470 hp

def F20.p (lf : Nat) (xax0 : List Int) (x1 : Int) : Option (List Bool × Int) :=
  letJ (fun (b12 : Bool) (mj14_0_0 : Int) => (
    ifp b12 (
      some ([], 3)) (
      F20.J3p lf xax0 mj14_0_0) : Option (List Bool × Int))) fun j14p =>
  ifp (decide (x1 < 2)) (
    j14p true x1) (
    ifp (decide (x1 > 12)) (
      j14p true x1) (
      bindp (F45.p lf xax0 x1) fun r_369 =>
      j14p r_369.1 r_369.2))

theorem F20.t_ok {ora : Ora} (hora : HOra ora) {lf ro : Nat} {F : List Ent} {r : (List Bool × Int)} (ax0 : Option Addr) (cx0 : Nat) (xax0 : List Int) (x1 : Int) (h : Heap) (hs : Sat ro h (.row ax0 cx0 (xax0.map (Value.int .i64)) :: F)) (hp : F20.p lf xax0 x1 = some r) : F20.Post F ro r (F20.t (callW Tryd.prog ora) lf ro ax0 xax0.length cx0 x1 h) := by
  unfold F20.t
  unfold F20.p at hp
  refine st_pushJ (Q := F20.Post F ro r) hs hs.low rfl fun h_357 _ hs_358 => ?_
  refine st_letJ hp (fun j14p j14 => ∀ (b12 : Bool) (mj14_0_0 : Int) (h_376 : Heap), Sat ro h_376 (.own ro (some ⟨h.next, 0, none⟩) 1 [.int .i64 mj14_0_0] :: .row ax0 cx0 (xax0.map (Value.int .i64)) :: F) → j14p b12 mj14_0_0 = some r → F20.Post F ro r (j14 b12 h_376)) ?_ ?_
  · intro b12 mj14_0_0 h_376 hs hp
    refine st_if (Q := F20.Post F ro r) (fun hc_377 => ?_) (fun hc_377 => ?_)
    · replace hp := ifp_t hc_377 hp
      have hs_378 := hs.nilOwn ro 1
      have hs_379 := hs_378.pull 1 rfl
      have hs_380 := hs_379.tail
      have hs_381 := hs_380.pull 1 rfl
      have hs_382 := hs_381.tail
      cases hp
      exact ⟨none, _, rfl, hs_382⟩
    · replace hp := ifp_f hc_377 hp
      have hs_471 := hs.pull 1 rfl
      exact F20.J3_ok hora ax0 _ xax0 h.next mj14_0_0 _ hs_471 hp
  · intro j14p j14 hj14 hp
    refine st_load (Q := F20.Post F ro r) isO hs_358 agg3 rfl ?_
    refine st_int (Q := F20.Post F ro r) ?_
    refine st_if (Q := F20.Post F ro r) (fun hc_359 => ?_) (fun hc_359 => ?_)
    · replace hp := ifp_t hc_359 hp
      have hs_360 := hs_358.pull 1 rfl
      have hs_361 := hs_360.pull 1 rfl
      exact hj14 true x1 _ hs_361 hp
    · replace hp := ifp_f hc_359 hp
      refine st_load (Q := F20.Post F ro r) isO hs_358 agg3 rfl ?_
      refine st_int (Q := F20.Post F ro r) ?_
      refine st_if (Q := F20.Post F ro r) (fun hc_362 => ?_) (fun hc_362 => ?_)
      · replace hp := ifp_t hc_362 hp
        have hs_363 := hs_358.pull 1 rfl
        have hs_364 := hs_363.pull 1 rfl
        exact hj14 true x1 _ hs_364 hp
      · replace hp := ifp_f hc_362 hp
        have hs_365 := hs_358.pull 1 rfl
        have hs_366 := hs_365.dup
        have hs_367 := hs_366.pull 2 rfl
        have hs_368 := hs_367.pull 1 rfl
        obtain ⟨r_369, hx_370, hp⟩ := bindp_some hp
        obtain ⟨h_371, e_373, hs_372⟩ := F45.ok hora (ro := ro) (px1_0 := h.next) (F := .row ax0 cx0 (xax0.map (Value.int .i64)) :: F) ax0 cx0 xax0 x1 _ hs_368 hx_370
        refine st_ok (Q := F20.Post F ro r) isO e_373 ?_
        refine st_bool (Q := F20.Post F ro r) ?_
        have hs_374 := hs_372.pull 1 rfl
        have hs_375 := hs_374.pull 1 rfl
        exact hj14 r_369.1 r_369.2 _ hs_375 hp

theorem F20.ok {ora : Ora} (hora : HOra ora) {lf ro : Nat} {F : List Ent} {r : (List Bool × Int)} (ax0 : Option Addr) (cx0 : Nat) (xax0 : List Int) (x1 : Int) (h : Heap) (hs : Sat ro h (.row ax0 cx0 (xax0.map (Value.int .i64)) :: F)) (hp : F20.p lf xax0 x1 = some r) : F20.Post F ro r (callW Tryd.prog ora ro 20 [.slice ax0 xax0.length cx0, .int .i64 x1] h) := by
  have h1 := F20.t_ok hora ax0 cx0 xax0 x1 h hs hp
  have h2 : callW Tryd.prog ora ro 20 [.slice ax0 xax0.length cx0, .int .i64 x1] h = _ := callW_body (hora.none _ _ _ _ (by decide)) Tryd.func20 (F20.le (callW Tryd.prog ora) lf ro ax0 xax0.length cx0 x1 h) (F20.Post.ne h1)
  rw [h2]; exact h1

def F5.Post (F : List Ent) (ro : Nat) (r : (Bool)) (x : Out) : Prop := ∃ h', x = .ok (.bool r) h' ∧ Sat ro h' (F)
theorem F5.Post.ne {F : List Ent} {ro : Nat} {r : (Bool)} {x : Out} (hx : F5.Post F ro r x) : x ≠ .fail := by
  obtain ⟨h', rfl, _⟩ := hx
  simp

def F5.J3p (lf : Nat) (xa10 : List Bool) (xa11 : List Int) (n12 : Int) : Option (Bool) :=
  bindp (F18.p lf xa10 n12) fun r_487 =>
  bindp (F19.p lf xa10 n12) fun r_495 =>
  bindp (F20.p lf xa11 n12) fun r_503 =>
  bindp (F21.p lf xa11 n12) fun r_511 =>
  letJ (fun (b95 : Bool) => (
    some b95 : Option (Bool))) fun j97p =>
  bindp (F22.p lf r_487.1 r_495.1) fun r_524 =>
  ifp r_524 (
    ifp (r_487.2 == r_495.2) (
      bindp (F15.p lf r_503.1 r_511.1) fun r_538 =>
      ifp r_538 (
        ifp (r_503.2 == r_511.2) (
          bindp (F11.p lf) fun r_545 =>
          j97p r_545) (
          j97p false)) (
        j97p false)) (
      j97p false)) (
    j97p false)

theorem F5.J3_ok {ora : Ora} (hora : HOra ora) {lf ro : Nat} {F : List Ent} {r : (Bool)} (a10 : Option Addr) (c10 : Nat) (xa10 : List Bool) (a11 : Option Addr) (c11 : Nat) (xa11 : List Int) (n12 : Int) (h : Heap) (hs : Sat ro h (.row a10 c10 (xa10.map Value.bool) :: .row a11 c11 (xa11.map (Value.int .i64)) :: F)) (hp : F5.J3p lf xa10 xa11 n12 = some r) : F5.Post F ro r (F5.J3 (callW Tryd.prog ora) lf ro a10 xa10.length c10 a11 xa11.length c11 n12 h) := by
  unfold F5.J3
  unfold F5.J3p at hp
  have hs_486 := hs.dup
  obtain ⟨r_487, hx_488, hp⟩ := bindp_some hp
  obtain ⟨a_492, h_489, e_491, hs_490⟩ := F18.ok hora (ro := ro) (F := .row a10 c10 (xa10.map Value.bool) :: .row a11 c11 (xa11.map (Value.int .i64)) :: F) a10 c10 xa10 n12 _ hs_486 hx_488
  refine st_ok (Q := F5.Post F ro r) isO e_491 ?_
  refine st_tup (Q := F5.Post F ro r) (l := [.slice a_492 (r_487.1).length (r_487.1).length, .int .i64 r_487.2]) ?_
  refine st_cons (Q := F5.Post F ro r) ?_
  refine st_slice (Q := F5.Post F ro r) ?_
  refine st_cons (Q := F5.Post F ro r) ?_
  refine st_int (Q := F5.Post F ro r) ?_
  refine st_nil (Q := F5.Post F ro r) ?_
  have hs_493 := hs_490.pull 1 rfl
  have hs_494 := hs_493.dup
  obtain ⟨r_495, hx_496, hp⟩ := bindp_some hp
  obtain ⟨a_500, h_497, e_499, hs_498⟩ := F19.ok hora (ro := ro) (F := .row a10 c10 (xa10.map Value.bool) :: .own ro a_492 1 (r_487.1.map (Value.int .i64)) :: .row a11 c11 (xa11.map (Value.int .i64)) :: F) a10 c10 xa10 n12 _ hs_494 hx_496
  refine st_ok (Q := F5.Post F ro r) isO e_499 ?_
  refine st_tup (Q := F5.Post F ro r) (l := [.slice a_500 (r_495.1).length (r_495.1).length, .int .i64 r_495.2]) ?_
  refine st_cons (Q := F5.Post F ro r) ?_
  refine st_slice (Q := F5.Post F ro r) ?_
  refine st_cons (Q := F5.Post F ro r) ?_
  refine st_int (Q := F5.Post F ro r) ?_
  refine st_nil (Q := F5.Post F ro r) ?_
  have hs_501 := hs_498.pull 3 rfl
  have hs_502 := hs_501.dup
  obtain ⟨r_503, hx_504, hp⟩ := bindp_some hp
  obtain ⟨a_508, h_505, e_507, hs_506⟩ := F20.ok hora (ro := ro) (F := .row a11 c11 (xa11.map (Value.int .i64)) :: .own ro a_500 1 (r_495.1.map (Value.int .i64)) :: .row a10 c10 (xa10.map Value.bool) :: .own ro a_492 1 (r_487.1.map (Value.int .i64)) :: F) a11 c11 xa11 n12 _ hs_502 hx_504
  refine st_ok (Q := F5.Post F ro r) isO e_507 ?_
  refine st_tup (Q := F5.Post F ro r) (l := [.slice a_508 (r_503.1).length (r_503.1).length, .int .i64 r_503.2]) ?_
  refine st_cons (Q := F5.Post F ro r) ?_
  refine st_slice (Q := F5.Post F ro r) ?_
  refine st_cons (Q := F5.Post F ro r) ?_
  refine st_int (Q := F5.Post F ro r) ?_
  refine st_nil (Q := F5.Post F ro r) ?_
  have hs_509 := hs_506.pull 1 rfl
  have hs_510 := hs_509.dup
  obtain ⟨r_511, hx_512, hp⟩ := bindp_some hp
  obtain ⟨a_516, h_513, e_515, hs_514⟩ := F21.ok hora (ro := ro) (F := .row a11 c11 (xa11.map (Value.int .i64)) :: .own ro a_508 1 (r_503.1.map Value.bool) :: .own ro a_500 1 (r_495.1.map (Value.int .i64)) :: .row a10 c10 (xa10.map Value.bool) :: .own ro a_492 1 (r_487.1.map (Value.int .i64)) :: F) a11 c11 xa11 n12 _ hs_510 hx_512
  refine st_ok (Q := F5.Post F ro r) isO e_515 ?_
  refine st_tup (Q := F5.Post F ro r) (l := [.slice a_516 (r_511.1).length (r_511.1).length, .int .i64 r_511.2]) ?_
  refine st_cons (Q := F5.Post F ro r) ?_
  refine st_slice (Q := F5.Post F ro r) ?_
  refine st_cons (Q := F5.Post F ro r) ?_
  refine st_int (Q := F5.Post F ro r) ?_
  refine st_nil (Q := F5.Post F ro r) ?_
  refine st_letJ hp (fun j97p j97 => ∀ (b95 : Bool) (h_580 : Heap), Sat ro h_580 (F) → j97p b95 = some r → F5.Post F ro r (j97 b95 h_580)) ?_ ?_
  · intro b95 h_580 hs hp
    cases hp
    exact ⟨_, rfl, hs⟩
  · intro j97p j97 hj97 hp
    have hs_517 := hs_514.pull 5 rfl
    have hs_518 := Sat.weakM (x := r_487.1) (f := (Value.int .i64)) hs_517
    have hs_519 := hs_518.dup
    have hs_520 := hs_519.pull 5 rfl
    have hs_521 := Sat.weakM (x := r_495.1) (f := (Value.int .i64)) hs_520
    have hs_522 := hs_521.dup
    have hs_523 := hs_522.pull 2 rfl
    obtain ⟨r_524, hx_525, hp⟩ := bindp_some hp
    obtain ⟨h_526, e_528, hs_527⟩ := F22.ok hora (ro := ro) (F := .row a_500 r_495.1.length (r_495.1.map (Value.int .i64)) :: .row a_492 r_487.1.length (r_487.1.map (Value.int .i64)) :: .own ro a_516 1 (r_511.1.map Value.bool) :: .row a11 c11 (xa11.map (Value.int .i64)) :: .own ro a_508 1 (r_503.1.map Value.bool) :: .row a10 c10 (xa10.map Value.bool) :: F) a_492 r_487.1.length r_487.1 a_500 r_495.1.length r_495.1 _ hs_523 hx_525
    refine st_ok (Q := F5.Post F ro r) isO e_528 ?_
    refine st_bool (Q := F5.Post F ro r) ?_
    refine st_if (Q := F5.Post F ro r) (fun hc_529 => ?_) (fun hc_529 => ?_)
    · replace hp := ifp_t hc_529 hp
      refine st_if (Q := F5.Post F ro r) (fun hc_530 => ?_) (fun hc_530 => ?_)
      · replace hp := ifp_t hc_530 hp
        have hs_531 := hs_527.pull 4 rfl
        have hs_532 := Sat.weakM (x := r_503.1) (f := Value.bool) hs_531
        have hs_533 := hs_532.dup
        have hs_534 := hs_533.pull 4 rfl
        have hs_535 := Sat.weakM (x := r_511.1) (f := Value.bool) hs_534
        have hs_536 := hs_535.dup
        have hs_537 := hs_536.pull 2 rfl
        obtain ⟨r_538, hx_539, hp⟩ := bindp_some hp
        obtain ⟨h_540, e_542, hs_541⟩ := F15.ok hora (ro := ro) (F := .row a_516 r_511.1.length (r_511.1.map Value.bool) :: .row a_508 r_503.1.length (r_503.1.map Value.bool) :: .row a_500 r_495.1.length (r_495.1.map (Value.int .i64)) :: .row a_492 r_487.1.length (r_487.1.map (Value.int .i64)) :: .row a11 c11 (xa11.map (Value.int .i64)) :: .row a10 c10 (xa10.map Value.bool) :: F) a_508 r_503.1.length r_503.1 a_516 r_511.1.length r_511.1 _ hs_537 hx_539
        refine st_ok (Q := F5.Post F ro r) isO e_542 ?_
        refine st_bool (Q := F5.Post F ro r) ?_
        refine st_if (Q := F5.Post F ro r) (fun hc_543 => ?_) (fun hc_543 => ?_)
        · replace hp := ifp_t hc_543 hp
          refine st_if (Q := F5.Post F ro r) (fun hc_544 => ?_) (fun hc_544 => ?_)
          · replace hp := ifp_t hc_544 hp
            obtain ⟨r_545, hx_546, hp⟩ := bindp_some hp
            obtain ⟨h_547, e_549, hs_548⟩ := F11.ok hora (ro := ro) (F := .row a_516 r_511.1.length (r_511.1.map Value.bool) :: .row a_508 r_503.1.length (r_503.1.map Value.bool) :: .row a_500 r_495.1.length (r_495.1.map (Value.int .i64)) :: .row a_492 r_487.1.length (r_487.1.map (Value.int .i64)) :: .row a11 c11 (xa11.map (Value.int .i64)) :: .row a10 c10 (xa10.map Value.bool) :: F)  _ hs_541 hx_546
            refine st_ok (Q := F5.Post F ro r) isO e_549 ?_
            refine st_bool (Q := F5.Post F ro r) ?_
            have hs_550 := hs_548.tail
            have hs_551 := hs_550.tail
            have hs_552 := hs_551.tail
            have hs_553 := hs_552.tail
            have hs_554 := hs_553.tail
            have hs_555 := hs_554.tail
            exact hj97 r_545 _ hs_555 hp
          · replace hp := ifp_f hc_544 hp
            have hs_556 := hs_541.tail
            have hs_557 := hs_556.tail
            have hs_558 := hs_557.tail
            have hs_559 := hs_558.tail
            have hs_560 := hs_559.tail
            have hs_561 := hs_560.tail
            exact hj97 false _ hs_561 hp
        · replace hp := ifp_f hc_543 hp
          have hs_562 := hs_541.tail
          have hs_563 := hs_562.tail
          have hs_564 := hs_563.tail
          have hs_565 := hs_564.tail
          have hs_566 := hs_565.tail
          have hs_567 := hs_566.tail
          exact hj97 false _ hs_567 hp
      · replace hp := ifp_f hc_530 hp
        have hs_568 := hs_527.tail
        have hs_569 := hs_568.tail
        have hs_570 := hs_569.tail
        have hs_571 := hs_570.tail
        have hs_572 := hs_571.tail
        have hs_573 := hs_572.tail
        exact hj97 false _ hs_573 hp
    · replace hp := ifp_f hc_529 hp
      have hs_574 := hs_527.tail
      have hs_575 := hs_574.tail
      have hs_576 := hs_575.tail
      have hs_577 := hs_576.tail
      have hs_578 := hs_577.tail
      have hs_579 := hs_578.tail
      exact hj97 false _ hs_579 hp

def F5.p (lf : Nat) (xax0 : List Bool) (xax1 : List Int) (x2 : Int) : Option (Bool) :=
  letJ (fun (n1 : Int) (b2 : Bool) => (
    ifp b2 (
      bindp (F11.p lf) fun r_479 =>
      some r_479) (
      F5.J3p lf xax0 xax1 n1) : Option (Bool))) fun j3p =>
  ifp (decide ((xax0.length : Int) > 2000)) (
    j3p x2 true) (
    j3p x2 (decide ((xax1.length : Int) > 300)))

theorem F5.t_ok {ora : Ora} (hora : HOra ora) {lf ro : Nat} {F : List Ent} {r : (Bool)} (ax0 : Option Addr) (cx0 : Nat) (xax0 : List Bool) (ax1 : Option Addr) (cx1 : Nat) (xax1 : List Int) (x2 : Int) (h : Heap) (hs : Sat ro h (.row ax0 cx0 (xax0.map Value.bool) :: .row ax1 cx1 (xax1.map (Value.int .i64)) :: F)) (hp : F5.p lf xax0 xax1 x2 = some r) : F5.Post F ro r (F5.t (callW Tryd.prog ora) lf ro ax0 xax0.length cx0 ax1 xax1.length cx1 x2 h) := by
  unfold F5.t
  unfold F5.p at hp
  refine st_letJ hp (fun j3p j3 => ∀ (n1 : Int) (b2 : Bool), Sat ro h (.row ax0 cx0 (xax0.map Value.bool) :: .row ax1 cx1 (xax1.map (Value.int .i64)) :: F) → j3p n1 b2 = some r → F5.Post F ro r (j3 n1 b2)) ?_ ?_
  · intro n1 b2 hs hp
    refine st_if (Q := F5.Post F ro r) (fun hc_478 => ?_) (fun hc_478 => ?_)
    · replace hp := ifp_t hc_478 hp
      obtain ⟨r_479, hx_480, hp⟩ := bindp_some hp
      obtain ⟨h_481, e_483, hs_482⟩ := F11.ok hora (ro := ro) (F := .row ax0 cx0 (xax0.map Value.bool) :: .row ax1 cx1 (xax1.map (Value.int .i64)) :: F)  _ hs hx_480
      refine st_ok (Q := F5.Post F ro r) isO e_483 ?_
      refine st_bool (Q := F5.Post F ro r) ?_
      have hs_484 := hs_482.tail
      have hs_485 := hs_484.tail
      cases hp
      exact ⟨_, rfl, hs_485⟩
    · replace hp := ifp_f hc_478 hp
      have hs_581 := hs.pull 1 rfl
      have hs_582 := hs_581.pull 1 rfl
      exact F5.J3_ok hora ax0 _ xax0 ax1 _ xax1 n1 _ hs_582 hp
  · intro j3p j3 hj3 hp
    refine st_if (Q := F5.Post F ro r) (fun hc_472 => ?_) (fun hc_472 => ?_)
    · replace hp := ifp_t hc_472 hp
      have hs_473 := hs.pull 1 rfl
      have hs_474 := hs_473.pull 1 rfl
      exact hj3 x2 true hs_474 hp
    · replace hp := ifp_f hc_472 hp
      have hs_475 := hs.pull 1 rfl
      have hs_476 := hs_475.pull 1 rfl
      exact hj3 x2 (decide ((xax1.length : Int) > 300)) hs_476 hp

theorem F5.ok {ora : Ora} (hora : HOra ora) {lf ro : Nat} {F : List Ent} {r : (Bool)} (ax0 : Option Addr) (cx0 : Nat) (xax0 : List Bool) (ax1 : Option Addr) (cx1 : Nat) (xax1 : List Int) (x2 : Int) (h : Heap) (hs : Sat ro h (.row ax0 cx0 (xax0.map Value.bool) :: .row ax1 cx1 (xax1.map (Value.int .i64)) :: F)) (hp : F5.p lf xax0 xax1 x2 = some r) : F5.Post F ro r (callW Tryd.prog ora ro 5 [.slice ax0 xax0.length cx0, .slice ax1 xax1.length cx1, .int .i64 x2] h) := by
  have h1 := F5.t_ok hora ax0 cx0 xax0 ax1 cx1 xax1 x2 h hs hp
  have h2 : callW Tryd.prog ora ro 5 [.slice ax0 xax0.length cx0, .slice ax1 xax1.length cx1, .int .i64 x2] h = _ := callW_body (hora.none _ _ _ _ (by decide)) Tryd.func5 (F5.le (callW Tryd.prog ora) lf ro ax0 xax0.length cx0 ax1 xax1.length cx1 x2 h) (F5.Post.ne h1)
  rw [h2]; exact h1

end Go.Proofs.YtfadfpcelhdfbaaDoor
