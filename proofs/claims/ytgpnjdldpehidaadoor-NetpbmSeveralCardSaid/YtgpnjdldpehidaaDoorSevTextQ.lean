/-
  The reference and the law as plain functions of numbers and lists, and that they answer as the program does where they answer at all; no statement of the seat is proved in this file.
-/
import Derived.Test.YtgpnjdldpehidaaDoorSevTextJ
import Derived.Test.YtgpnjdldpehidaaDoorSevTextP
import Derived.Test.YtgpnjdldpehidaaDoorAbsE
open Go Go.Abs Go.Proofs
set_option maxRecDepth 100000
set_option linter.unusedVariables false
set_option linter.unusedSimpArgs false
namespace Go.Proofs.YtgpnjdldpehidaaDoor

theorem many24 : Many Tryd.prog 24 3 40 := ⟨Tryd.t24, _, by kernel_rfl, rfl, rfl, rfl, rfl⟩
theorem one5 : One Tryd.prog 5 1 := ⟨Tryd.t5, _, by kernel_rfl, rfl, rfl, rfl, rfl⟩
theorem und41 : Tryd.prog.underlying 41 = some (.slice 24) := by kernel_rfl

def F32.Post (F : List Ent) (ro : Nat) (r : (Bool)) (x : Out) : Prop := ∃ h', x = .ok (.bool r) h' ∧ Sat ro h' (F)
theorem F32.Post.ne {F : List Ent} {ro : Nat} {r : (Bool)} {x : Out} (hx : F32.Post F ro r x) : x ≠ .fail := by
  obtain ⟨h', rfl, _⟩ := hx
  simp

def F32.p (lf : Nat) (x0 : Int) : Option (Bool) :=
  letJ (fun (b1 : Bool) => (
    some b1 : Option (Bool))) fun j2p =>
  ifp (x0 == 1) (
    j2p true) (
    j2p (x0 == 2))

theorem F32.t_ok {ora : Ora} (hora : HOra ora) {lf ro : Nat} {F : List Ent} {r : (Bool)} (x0 : Int) (h : Heap) (hs : Sat ro h (F)) (hp : F32.p lf x0 = some r) : F32.Post F ro r (F32.t (callW Tryd.prog ora) lf ro x0 h) := by
  unfold F32.t
  unfold F32.p at hp
  refine st_letJ hp (fun j2p j2 => ∀ (b1 : Bool), Sat ro h (F) → j2p b1 = some r → F32.Post F ro r (j2 b1)) ?_ ?_
  · intro b1 hs hp
    cases hp
    exact ⟨_, rfl, hs⟩
  · intro j2p j2 hj2 hp
    refine st_if (Q := F32.Post F ro r) (fun hc_1 => ?_) (fun hc_1 => ?_)
    · replace hp := ifp_t hc_1 hp
      exact hj2 true hs hp
    · replace hp := ifp_f hc_1 hp
      exact hj2 (x0 == 2) hs hp

theorem F32.ok {ora : Ora} (hora : HOra ora) {lf ro : Nat} {F : List Ent} {r : (Bool)} (x0 : Int) (h : Heap) (hs : Sat ro h (F)) (hp : F32.p lf x0 = some r) : F32.Post F ro r (callW Tryd.prog ora ro 32 [.int .i64 x0] h) := by
  have h1 := F32.t_ok hora x0 h hs hp
  have h2 : callW Tryd.prog ora ro 32 [.int .i64 x0] h = _ := callW_body (hora.none _ _ _ _ (by decide)) Tryd.func32 (F32.le (callW Tryd.prog ora) lf ro x0 h) (F32.Post.ne h1)
  rw [h2]; exact h1

def F29.Post (F : List Ent) (ro : Nat) (r : (Bool)) (x : Out) : Prop := ∃ h', x = .ok (.bool r) h' ∧ Sat ro h' (F)
theorem F29.Post.ne {F : List Ent} {ro : Nat} {r : (Bool)} {x : Out} (hx : F29.Post F ro r x) : x ≠ .fail := by
  obtain ⟨h', rfl, _⟩ := hx
  simp

def F29.p (lf : Nat) (x0 : Int) : Option (Bool) :=
  letJ (fun (b4 : Bool) => (
    some b4 : Option (Bool))) fun j6p =>
  bindp (F32.p lf x0) fun r_3 =>
  ifp r_3 (
    j6p true) (
    ifp (x0 == 4) (
      j6p true) (
      j6p (x0 == 5)))

theorem F29.t_ok {ora : Ora} (hora : HOra ora) {lf ro : Nat} {F : List Ent} {r : (Bool)} (x0 : Int) (h : Heap) (hs : Sat ro h (F)) (hp : F29.p lf x0 = some r) : F29.Post F ro r (F29.t (callW Tryd.prog ora) lf ro x0 h) := by
  unfold F29.t
  unfold F29.p at hp
  refine st_letJ hp (fun j6p j6 => ∀ (b4 : Bool) (h_10 : Heap), Sat ro h_10 (F) → j6p b4 = some r → F29.Post F ro r (j6 b4 h_10)) ?_ ?_
  · intro b4 h_10 hs hp
    cases hp
    exact ⟨_, rfl, hs⟩
  · intro j6p j6 hj6 hp
    obtain ⟨r_3, hx_4, hp⟩ := bindp_some hp
    obtain ⟨h_5, e_7, hs_6⟩ := F32.ok hora (ro := ro) (F := F) x0 _ hs hx_4
    refine st_ok (Q := F29.Post F ro r) isO e_7 ?_
    refine st_bool (Q := F29.Post F ro r) ?_
    refine st_if (Q := F29.Post F ro r) (fun hc_8 => ?_) (fun hc_8 => ?_)
    · replace hp := ifp_t hc_8 hp
      exact hj6 true _ hs_6 hp
    · replace hp := ifp_f hc_8 hp
      refine st_if (Q := F29.Post F ro r) (fun hc_9 => ?_) (fun hc_9 => ?_)
      · replace hp := ifp_t hc_9 hp
        exact hj6 true _ hs_6 hp
      · replace hp := ifp_f hc_9 hp
        exact hj6 (x0 == 5) _ hs_6 hp

theorem F29.ok {ora : Ora} (hora : HOra ora) {lf ro : Nat} {F : List Ent} {r : (Bool)} (x0 : Int) (h : Heap) (hs : Sat ro h (F)) (hp : F29.p lf x0 = some r) : F29.Post F ro r (callW Tryd.prog ora ro 29 [.int .i64 x0] h) := by
  have h1 := F29.t_ok hora x0 h hs hp
  have h2 : callW Tryd.prog ora ro 29 [.int .i64 x0] h = _ := callW_body (hora.none _ _ _ _ (by decide)) Tryd.func29 (F29.le (callW Tryd.prog ora) lf ro x0 h) (F29.Post.ne h1)
  rw [h2]; exact h1

def F30.Post (F : List Ent) (ro : Nat) (r : (Bool)) (x : Out) : Prop := ∃ h', x = .ok (.bool r) h' ∧ Sat ro h' (F)
theorem F30.Post.ne {F : List Ent} {ro : Nat} {r : (Bool)} {x : Out} (hx : F30.Post F ro r x) : x ≠ .fail := by
  obtain ⟨h', rfl, _⟩ := hx
  simp

def F30.p (lf : Nat) (x0 : Int) : Option (Bool) :=
  letJ (fun (b1 : Bool) => (
    some b1 : Option (Bool))) fun j2p =>
  ifp (x0 == 2) (
    j2p true) (
    j2p (x0 == 5))

theorem F30.t_ok {ora : Ora} (hora : HOra ora) {lf ro : Nat} {F : List Ent} {r : (Bool)} (x0 : Int) (h : Heap) (hs : Sat ro h (F)) (hp : F30.p lf x0 = some r) : F30.Post F ro r (F30.t (callW Tryd.prog ora) lf ro x0 h) := by
  unfold F30.t
  unfold F30.p at hp
  refine st_letJ hp (fun j2p j2 => ∀ (b1 : Bool), Sat ro h (F) → j2p b1 = some r → F30.Post F ro r (j2 b1)) ?_ ?_
  · intro b1 hs hp
    cases hp
    exact ⟨_, rfl, hs⟩
  · intro j2p j2 hj2 hp
    refine st_if (Q := F30.Post F ro r) (fun hc_11 => ?_) (fun hc_11 => ?_)
    · replace hp := ifp_t hc_11 hp
      exact hj2 true hs hp
    · replace hp := ifp_f hc_11 hp
      exact hj2 (x0 == 5) hs hp

theorem F30.ok {ora : Ora} (hora : HOra ora) {lf ro : Nat} {F : List Ent} {r : (Bool)} (x0 : Int) (h : Heap) (hs : Sat ro h (F)) (hp : F30.p lf x0 = some r) : F30.Post F ro r (callW Tryd.prog ora ro 30 [.int .i64 x0] h) := by
  have h1 := F30.t_ok hora x0 h hs hp
  have h2 : callW Tryd.prog ora ro 30 [.int .i64 x0] h = _ := callW_body (hora.none _ _ _ _ (by decide)) Tryd.func30 (F30.le (callW Tryd.prog ora) lf ro x0 h) (F30.Post.ne h1)
  rw [h2]; exact h1

def F38.Post (F : List Ent) (ro : Nat) (r : (Bool)) (x : Out) : Prop := ∃ h', x = .ok (.bool r) h' ∧ Sat ro h' (F)
theorem F38.Post.ne {F : List Ent} {ro : Nat} {r : (Bool)} {x : Out} (hx : F38.Post F ro r x) : x ≠ .fail := by
  obtain ⟨h', rfl, _⟩ := hx
  simp

def F38.p (lf : Nat) (x0 : Int) : Option (Bool) :=
  letJ (fun (b1 : Bool) => (
    some b1 : Option (Bool))) fun j2p =>
  ifp (x0 == 32) (
    j2p true) (
    ifp (x0 == 9) (
      j2p true) (
      ifp (x0 == 10) (
        j2p true) (
        j2p (x0 == 13))))

theorem F38.t_ok {ora : Ora} (hora : HOra ora) {lf ro : Nat} {F : List Ent} {r : (Bool)} (x0 : Int) (h : Heap) (hs : Sat ro h (F)) (hp : F38.p lf x0 = some r) : F38.Post F ro r (F38.t (callW Tryd.prog ora) lf ro x0 h) := by
  unfold F38.t
  unfold F38.p at hp
  refine st_letJ hp (fun j2p j2 => ∀ (b1 : Bool), Sat ro h (F) → j2p b1 = some r → F38.Post F ro r (j2 b1)) ?_ ?_
  · intro b1 hs hp
    cases hp
    exact ⟨_, rfl, hs⟩
  · intro j2p j2 hj2 hp
    refine st_if (Q := F38.Post F ro r) (fun hc_13 => ?_) (fun hc_13 => ?_)
    · replace hp := ifp_t hc_13 hp
      exact hj2 true hs hp
    · replace hp := ifp_f hc_13 hp
      refine st_if (Q := F38.Post F ro r) (fun hc_14 => ?_) (fun hc_14 => ?_)
      · replace hp := ifp_t hc_14 hp
        exact hj2 true hs hp
      · replace hp := ifp_f hc_14 hp
        refine st_if (Q := F38.Post F ro r) (fun hc_15 => ?_) (fun hc_15 => ?_)
        · replace hp := ifp_t hc_15 hp
          exact hj2 true hs hp
        · replace hp := ifp_f hc_15 hp
          exact hj2 (x0 == 13) hs hp

theorem F38.ok {ora : Ora} (hora : HOra ora) {lf ro : Nat} {F : List Ent} {r : (Bool)} (x0 : Int) (h : Heap) (hs : Sat ro h (F)) (hp : F38.p lf x0 = some r) : F38.Post F ro r (callW Tryd.prog ora ro 38 [.int .u8 x0] h) := by
  have h1 := F38.t_ok hora x0 h hs hp
  have h2 : callW Tryd.prog ora ro 38 [.int .u8 x0] h = _ := callW_body (hora.none _ _ _ _ (by decide)) Tryd.func38 (F38.le (callW Tryd.prog ora) lf ro x0 h) (F38.Post.ne h1)
  rw [h2]; exact h1

def F69.Post (F : List Ent) (ro : Nat) (r : (Bool)) (x : Out) : Prop := ∃ h', x = .ok (.bool r) h' ∧ Sat ro h' (F)
theorem F69.Post.ne {F : List Ent} {ro : Nat} {r : (Bool)} {x : Out} (hx : F69.Post F ro r x) : x ≠ .fail := by
  obtain ⟨h', rfl, _⟩ := hx
  simp

def F69.p (lf : Nat) (x0 : Int) : Option (Bool) :=
  letJ (fun (b1 : Bool) => (
    some b1 : Option (Bool))) fun j2p =>
  ifp (decide (x0 ≥ 48)) (
    j2p (decide (x0 ≤ 57))) (
    j2p false)

theorem F69.t_ok {ora : Ora} (hora : HOra ora) {lf ro : Nat} {F : List Ent} {r : (Bool)} (x0 : Int) (h : Heap) (hs : Sat ro h (F)) (hp : F69.p lf x0 = some r) : F69.Post F ro r (F69.t (callW Tryd.prog ora) lf ro x0 h) := by
  unfold F69.t
  unfold F69.p at hp
  refine st_letJ hp (fun j2p j2 => ∀ (b1 : Bool), Sat ro h (F) → j2p b1 = some r → F69.Post F ro r (j2 b1)) ?_ ?_
  · intro b1 hs hp
    cases hp
    exact ⟨_, rfl, hs⟩
  · intro j2p j2 hj2 hp
    refine st_if (Q := F69.Post F ro r) (fun hc_17 => ?_) (fun hc_17 => ?_)
    · replace hp := ifp_t hc_17 hp
      exact hj2 (decide (x0 ≤ 57)) hs hp
    · replace hp := ifp_f hc_17 hp
      exact hj2 false hs hp

theorem F69.ok {ora : Ora} (hora : HOra ora) {lf ro : Nat} {F : List Ent} {r : (Bool)} (x0 : Int) (h : Heap) (hs : Sat ro h (F)) (hp : F69.p lf x0 = some r) : F69.Post F ro r (callW Tryd.prog ora ro 69 [.int .u8 x0] h) := by
  have h1 := F69.t_ok hora x0 h hs hp
  have h2 : callW Tryd.prog ora ro 69 [.int .u8 x0] h = _ := callW_body (hora.none _ _ _ _ (by decide)) Tryd.func69 (F69.le (callW Tryd.prog ora) lf ro x0 h) (F69.Post.ne h1)
  rw [h2]; exact h1

def F60.Post (F : List Ent) (ro : Nat) (r : (Int)) (x : Out) : Prop := ∃ h', x = .ok (.int .u8 r) h' ∧ Sat ro h' (F)
theorem F60.Post.ne {F : List Ent} {ro : Nat} {r : (Int)} {x : Out} (hx : F60.Post F ro r x) : x ≠ .fail := by
  obtain ⟨h', rfl, _⟩ := hx
  simp

def F60.p (lf : Nat) (x0 : Int) (x1 : Int) : Option (Int) :=
  bindp (quop .i64 (IntKind.i64.wrap ((IntKind.i64.wrap (255 * x0)) + (IntKind.i64.wrap (Int.tdiv x1 2)))) x1) fun n_19 =>
  some (IntKind.u8.wrap n_19)

theorem F60.t_ok {ora : Ora} (hora : HOra ora) {lf ro : Nat} {F : List Ent} {r : (Int)} (x0 : Int) (x1 : Int) (h : Heap) (hs : Sat ro h (F)) (hp : F60.p lf x0 x1 = some r) : F60.Post F ro r (F60.t (callW Tryd.prog ora) lf ro x0 x1 h) := by
  unfold F60.t
  unfold F60.p at hp
  obtain ⟨n_19, hx_20, hp⟩ := bindp_some hp
  refine st_quo (Q := F60.Post F ro r) isO hx_20 ?_
  refine st_int (Q := F60.Post F ro r) ?_
  cases hp
  exact ⟨_, rfl, hs⟩

theorem F60.ok {ora : Ora} (hora : HOra ora) {lf ro : Nat} {F : List Ent} {r : (Int)} (x0 : Int) (x1 : Int) (h : Heap) (hs : Sat ro h (F)) (hp : F60.p lf x0 x1 = some r) : F60.Post F ro r (callW Tryd.prog ora ro 60 [.int .i64 x0, .int .i64 x1] h) := by
  have h1 := F60.t_ok hora x0 x1 h hs hp
  have h2 : callW Tryd.prog ora ro 60 [.int .i64 x0, .int .i64 x1] h = _ := callW_body (hora.none _ _ _ _ (by decide)) Tryd.func60 (F60.le (callW Tryd.prog ora) lf ro x0 x1 h) (F60.Post.ne h1)
  rw [h2]; exact h1

def F58.Post (F : List Ent) (ro : Nat) (r : (Int)) (x : Out) : Prop := ∃ h', x = .ok (.int .i64 r) h' ∧ Sat ro h' (F)
theorem F58.Post.ne {F : List Ent} {ro : Nat} {r : (Int)} {x : Out} (hx : F58.Post F ro r x) : x ≠ .fail := by
  obtain ⟨h', rfl, _⟩ := hx
  simp

def F58.L3p (lf : Nat) (kb1p : List Int → Int → Option (Int)) : Nat → List Int → Int → Option (Int)
  | 0, _, _ => none
  | n + 1, xa33, n34 =>
  letJ (fun (b69 : Bool) => (
    ifp b69 (
      F58.L3p lf kb1p n xa33 (IntKind.i64.wrap (n34 + 1))) (
      kb1p xa33 n34) : Option (Int))) fun j71p =>
  ifp (decide (n34 < (xa33.length : Int))) (
    bindp (idxp xa33 n34) fun x_38 =>
    ifp (x_38 != 10) (
      bindp (idxp xa33 n34) fun x_41 =>
      j71p (x_41 != 13)) (
      j71p false)) (
    j71p false)

theorem F58.L3_ok {ora : Ora} (hora : HOra ora) {lf ro : Nat} {F : List Ent} {r : (Int)} {kb1p : List Int → Int → Option (Int)} {kb1 : (Option Addr) → Nat → Nat → Int → Heap → Out} (hkb1 : ∀ (a1 : Option Addr) (c1 : Nat) (xa1 : List Int) (n2 : Int) (h : Heap), Sat ro h (.row a1 c1 (xa1.map (Value.int .u8)) :: F) → kb1p xa1 n2 = some r → F58.Post F ro r (kb1 a1 xa1.length c1 n2 h)) : ∀ (n : Nat) (a33 : Option Addr) (c33 : Nat) (xa33 : List Int) (n34 : Int) (h : Heap), Sat ro h (.row a33 c33 (xa33.map (Value.int .u8)) :: F) → F58.L3p lf kb1p n xa33 n34 = some r → F58.Post F ro r (F58.L3 (callW Tryd.prog ora) lf ro kb1 n a33 xa33.length c33 n34 h) := by
  intro n
  induction n with
  | zero => intro a33 c33 xa33 n34 h hs hp; cases hp
  | succ n ih =>
    intro a33 c33 xa33 n34 h hs hp
    unfold F58.L3
    unfold F58.L3p at hp
    refine st_letJ hp (fun j71p j71 => ∀ (b69 : Bool) (h_43 : Heap), Sat ro h_43 (.row a33 c33 (xa33.map (Value.int .u8)) :: F) → j71p b69 = some r → F58.Post F ro r (j71 b69 h_43)) ?_ ?_
    · intro b69 h_43 hs hp
      refine st_if (Q := F58.Post F ro r) (fun hc_44 => ?_) (fun hc_44 => ?_)
      · replace hp := ifp_t hc_44 hp
        exact ih a33 _ xa33 (IntKind.i64.wrap (n34 + 1)) _ hs hp
      · replace hp := ifp_f hc_44 hp
        exact hkb1 a33 _ xa33 n34 _ hs hp
    · intro j71p j71 hj71 hp
      refine st_if (Q := F58.Post F ro r) (fun hc_37 => ?_) (fun hc_37 => ?_)
      · replace hp := ifp_t hc_37 hp
        obtain ⟨x_38, hx_39, hp⟩ := bindp_some hp
        refine st_idxR (Q := F58.Post F ro r) (l := xa33) (f := (Value.int .u8)) isO isO hs und22 siz5 agg5 rfl hx_39 ?_
        refine st_int (Q := F58.Post F ro r) ?_
        refine st_if (Q := F58.Post F ro r) (fun hc_40 => ?_) (fun hc_40 => ?_)
        · replace hp := ifp_t hc_40 hp
          obtain ⟨x_41, hx_42, hp⟩ := bindp_some hp
          refine st_idxR (Q := F58.Post F ro r) (l := xa33) (f := (Value.int .u8)) isO isO hs und22 siz5 agg5 rfl hx_42 ?_
          refine st_int (Q := F58.Post F ro r) ?_
          exact hj71 (x_41 != 13) _ hs hp
        · replace hp := ifp_f hc_40 hp
          exact hj71 false _ hs hp
      · replace hp := ifp_f hc_37 hp
        exact hj71 false _ hs hp

def F58.J2p (lf : Nat) (kb1p : List Int → Int → Option (Int)) (xa20 : List Int) (n21 : Int) : Option (Int) :=
  bindp (idxp xa20 n21) fun x_34 =>
  ifp (x_34 == 35) (
    F58.L3p lf kb1p lf xa20 n21) (
    kb1p xa20 (IntKind.i64.wrap (n21 + 1)))

theorem F58.J2_ok {ora : Ora} (hora : HOra ora) {lf ro : Nat} {F : List Ent} {r : (Int)} {kb1p : List Int → Int → Option (Int)} {kb1 : (Option Addr) → Nat → Nat → Int → Heap → Out} (hkb1 : ∀ (a1 : Option Addr) (c1 : Nat) (xa1 : List Int) (n2 : Int) (h : Heap), Sat ro h (.row a1 c1 (xa1.map (Value.int .u8)) :: F) → kb1p xa1 n2 = some r → F58.Post F ro r (kb1 a1 xa1.length c1 n2 h)) (a20 : Option Addr) (c20 : Nat) (xa20 : List Int) (n21 : Int) (h : Heap) (hs : Sat ro h (.row a20 c20 (xa20.map (Value.int .u8)) :: F)) (hp : F58.J2p lf kb1p xa20 n21 = some r) : F58.Post F ro r (F58.J2 (callW Tryd.prog ora) lf ro kb1 a20 xa20.length c20 n21 h) := by
  unfold F58.J2
  unfold F58.J2p at hp
  obtain ⟨x_34, hx_35, hp⟩ := bindp_some hp
  refine st_idxR (Q := F58.Post F ro r) (l := xa20) (f := (Value.int .u8)) isO isO hs und22 siz5 agg5 rfl hx_35 ?_
  refine st_int (Q := F58.Post F ro r) ?_
  refine st_if (Q := F58.Post F ro r) (fun hc_36 => ?_) (fun hc_36 => ?_)
  · replace hp := ifp_t hc_36 hp
    exact F58.L3_ok hora hkb1 lf a20 _ xa20 n21 _ hs hp
  · replace hp := ifp_f hc_36 hp
    exact hkb1 a20 _ xa20 (IntKind.i64.wrap (n21 + 1)) _ hs hp

def F58.L1p (lf : Nat) : Nat → List Int → Int → Option (Int)
  | 0, _, _ => none
  | n + 1, xa1, n2 =>
  letJ (fun (b122 : Bool) => (
    ifp b122 (
      F58.J2p lf (F58.L1p lf n) xa1 n2) (
      some n2) : Option (Int))) fun j124p =>
  ifp (decide (n2 < (xa1.length : Int))) (
    bindp (idxp xa1 n2) fun x_22 =>
    bindp (F38.p lf x_22) fun r_24 =>
    ifp r_24 (
      j124p true) (
      bindp (idxp xa1 n2) fun x_30 =>
      j124p (x_30 == 35))) (
    j124p false)

theorem F58.L1_ok {ora : Ora} (hora : HOra ora) {lf ro : Nat} {F : List Ent} {r : (Int)} : ∀ (n : Nat) (a1 : Option Addr) (c1 : Nat) (xa1 : List Int) (n2 : Int) (h : Heap), Sat ro h (.row a1 c1 (xa1.map (Value.int .u8)) :: F) → F58.L1p lf n xa1 n2 = some r → F58.Post F ro r (F58.L1 (callW Tryd.prog ora) lf ro n a1 xa1.length c1 n2 h) := by
  intro n
  induction n with
  | zero => intro a1 c1 xa1 n2 h hs hp; cases hp
  | succ n ih =>
    intro a1 c1 xa1 n2 h hs hp
    unfold F58.L1
    unfold F58.L1p at hp
    refine st_letJ hp (fun j124p j124 => ∀ (b122 : Bool) (h_32 : Heap), Sat ro h_32 (.row a1 c1 (xa1.map (Value.int .u8)) :: F) → j124p b122 = some r → F58.Post F ro r (j124 b122 h_32)) ?_ ?_
    · intro b122 h_32 hs hp
      refine st_if (Q := F58.Post F ro r) (fun hc_33 => ?_) (fun hc_33 => ?_)
      · replace hp := ifp_t hc_33 hp
        exact F58.J2_ok hora ih a1 _ xa1 n2 _ hs hp
      · replace hp := ifp_f hc_33 hp
        have hs_45 := hs.tail
        cases hp
        exact ⟨_, rfl, hs_45⟩
    · intro j124p j124 hj124 hp
      refine st_if (Q := F58.Post F ro r) (fun hc_21 => ?_) (fun hc_21 => ?_)
      · replace hp := ifp_t hc_21 hp
        obtain ⟨x_22, hx_23, hp⟩ := bindp_some hp
        refine st_idxR (Q := F58.Post F ro r) (l := xa1) (f := (Value.int .u8)) isO isO hs und22 siz5 agg5 rfl hx_23 ?_
        refine st_int (Q := F58.Post F ro r) ?_
        obtain ⟨r_24, hx_25, hp⟩ := bindp_some hp
        obtain ⟨h_26, e_28, hs_27⟩ := F38.ok hora (ro := ro) (F := .row a1 c1 (xa1.map (Value.int .u8)) :: F) x_22 _ hs hx_25
        refine st_ok (Q := F58.Post F ro r) isO e_28 ?_
        refine st_bool (Q := F58.Post F ro r) ?_
        refine st_if (Q := F58.Post F ro r) (fun hc_29 => ?_) (fun hc_29 => ?_)
        · replace hp := ifp_t hc_29 hp
          exact hj124 true _ hs_27 hp
        · replace hp := ifp_f hc_29 hp
          obtain ⟨x_30, hx_31, hp⟩ := bindp_some hp
          refine st_idxR (Q := F58.Post F ro r) (l := xa1) (f := (Value.int .u8)) isO isO hs_27 und22 siz5 agg5 rfl hx_31 ?_
          refine st_int (Q := F58.Post F ro r) ?_
          exact hj124 (x_30 == 35) _ hs_27 hp
      · replace hp := ifp_f hc_21 hp
        exact hj124 false _ hs hp

def F58.p (lf : Nat) (xax0 : List Int) (x1 : Int) : Option (Int) :=
  F58.L1p lf lf xax0 x1

theorem F58.t_ok {ora : Ora} (hora : HOra ora) {lf ro : Nat} {F : List Ent} {r : (Int)} (ax0 : Option Addr) (cx0 : Nat) (xax0 : List Int) (x1 : Int) (h : Heap) (hs : Sat ro h (.row ax0 cx0 (xax0.map (Value.int .u8)) :: F)) (hp : F58.p lf xax0 x1 = some r) : F58.Post F ro r (F58.t (callW Tryd.prog ora) lf ro ax0 xax0.length cx0 x1 h) := by
  unfold F58.t
  unfold F58.p at hp
  exact F58.L1_ok hora lf ax0 _ xax0 x1 _ hs hp

theorem F58.ok {ora : Ora} (hora : HOra ora) {lf ro : Nat} {F : List Ent} {r : (Int)} (ax0 : Option Addr) (cx0 : Nat) (xax0 : List Int) (x1 : Int) (h : Heap) (hs : Sat ro h (.row ax0 cx0 (xax0.map (Value.int .u8)) :: F)) (hp : F58.p lf xax0 x1 = some r) : F58.Post F ro r (callW Tryd.prog ora ro 58 [.slice ax0 xax0.length cx0, .int .i64 x1] h) := by
  have h1 := F58.t_ok hora ax0 cx0 xax0 x1 h hs hp
  have h2 : callW Tryd.prog ora ro 58 [.slice ax0 xax0.length cx0, .int .i64 x1] h = _ := callW_body (hora.none _ _ _ _ (by decide)) Tryd.func58 (F58.le (callW Tryd.prog ora) lf ro ax0 xax0.length cx0 x1 h) (F58.Post.ne h1)
  rw [h2]; exact h1

def F59.Post (F : List Ent) (ro : Nat) (r : (Int × Int × Int)) (x : Out) : Prop := ∃ h', x = .ok (.tuple #[.int .i64 r.1, .int .i64 r.2.1, .int .i64 r.2.2]) h' ∧ Sat ro h' (F)
theorem F59.Post.ne {F : List Ent} {ro : Nat} {r : (Int × Int × Int)} {x : Out} (hx : F59.Post F ro r x) : x ≠ .fail := by
  obtain ⟨h', rfl, _⟩ := hx
  simp

def F59.L11p (lf : Nat) : Nat → List Int → Int → Int → Option (Int × Int × Int)
  | 0, _, _, _ => none
  | n + 1, xa51, n52, n53 =>
  letJ ((
    some (n53, n52, 0) : Option (Int × Int × Int))) fun j85p =>
  letJ (fun (b94 : Bool) => (
    ifp b94 (
      bindp (idxp xa51 n52) fun x_88 =>
      F59.L11p lf n xa51 (IntKind.i64.wrap (n52 + 1)) (if IntKind.i64.wrap ((IntKind.i64.wrap (10 * n53)) + (IntKind.i64.wrap (IntKind.u8.wrap (x_88 - 48)))) < 65536 then IntKind.i64.wrap ((IntKind.i64.wrap (10 * n53)) + (IntKind.i64.wrap (IntKind.u8.wrap (x_88 - 48)))) else 65536)) (
      j85p) : Option (Int × Int × Int))) fun j96p =>
  ifp (decide (n52 < (xa51.length : Int))) (
    bindp (idxp xa51 n52) fun x_79 =>
    bindp (F69.p lf x_79) fun r_81 =>
    j96p r_81) (
    j96p false)

theorem F59.L11_ok {ora : Ora} (hora : HOra ora) {lf ro : Nat} {F : List Ent} {r : (Int × Int × Int)} : ∀ (n : Nat) (a51 : Option Addr) (c51 : Nat) (xa51 : List Int) (n52 : Int) (n53 : Int) (h : Heap), Sat ro h (.row a51 c51 (xa51.map (Value.int .u8)) :: F) → F59.L11p lf n xa51 n52 n53 = some r → F59.Post F ro r (F59.L11 (callW Tryd.prog ora) lf ro n a51 xa51.length c51 n52 n53 h) := by
  intro n
  induction n with
  | zero => intro a51 c51 xa51 n52 n53 h hs hp; cases hp
  | succ n ih =>
    intro a51 c51 xa51 n52 n53 h hs hp
    unfold F59.L11
    unfold F59.L11p at hp
    refine st_letJ hp (fun j85p j85 => ∀  (h_91 : Heap), Sat ro h_91 (F) → j85p = some r → F59.Post F ro r (j85 h_91)) ?_ ?_
    · intro  h_91 hs hp
      cases hp
      exact ⟨_, rfl, hs⟩
    · intro j85p j85 hj85 hp
      refine st_letJ hp (fun j96p j96 => ∀ (b94 : Bool) (h_86 : Heap), Sat ro h_86 (.row a51 c51 (xa51.map (Value.int .u8)) :: F) → j96p b94 = some r → F59.Post F ro r (j96 b94 h_86)) ?_ ?_
      · intro b94 h_86 hs hp
        refine st_if (Q := F59.Post F ro r) (fun hc_87 => ?_) (fun hc_87 => ?_)
        · replace hp := ifp_t hc_87 hp
          obtain ⟨x_88, hx_89, hp⟩ := bindp_some hp
          refine st_idxR (Q := F59.Post F ro r) (l := xa51) (f := (Value.int .u8)) isO isO hs und22 siz5 agg5 rfl hx_89 ?_
          refine st_int (Q := F59.Post F ro r) ?_
          exact ih a51 _ xa51 (IntKind.i64.wrap (n52 + 1)) (if IntKind.i64.wrap ((IntKind.i64.wrap (10 * n53)) + (IntKind.i64.wrap (IntKind.u8.wrap (x_88 - 48)))) < 65536 then IntKind.i64.wrap ((IntKind.i64.wrap (10 * n53)) + (IntKind.i64.wrap (IntKind.u8.wrap (x_88 - 48)))) else 65536) _ hs hp
        · replace hp := ifp_f hc_87 hp
          have hs_90 := hs.tail
          exact hj85 _ hs_90 hp
      · intro j96p j96 hj96 hp
        refine st_if (Q := F59.Post F ro r) (fun hc_78 => ?_) (fun hc_78 => ?_)
        · replace hp := ifp_t hc_78 hp
          obtain ⟨x_79, hx_80, hp⟩ := bindp_some hp
          refine st_idxR (Q := F59.Post F ro r) (l := xa51) (f := (Value.int .u8)) isO isO hs und22 siz5 agg5 rfl hx_80 ?_
          refine st_int (Q := F59.Post F ro r) ?_
          obtain ⟨r_81, hx_82, hp⟩ := bindp_some hp
          obtain ⟨h_83, e_85, hs_84⟩ := F69.ok hora (ro := ro) (F := .row a51 c51 (xa51.map (Value.int .u8)) :: F) x_79 _ hs hx_82
          refine st_ok (Q := F59.Post F ro r) isO e_85 ?_
          refine st_bool (Q := F59.Post F ro r) ?_
          exact hj96 r_81 _ hs_84 hp
        · replace hp := ifp_f hc_78 hp
          exact hj96 false _ hs hp

def F59.J10p (lf : Nat) (xa48 : List Int) (n49 : Int) : Option (Int × Int × Int) :=
  F59.L11p lf lf xa48 n49 0

theorem F59.J10_ok {ora : Ora} (hora : HOra ora) {lf ro : Nat} {F : List Ent} {r : (Int × Int × Int)} (a48 : Option Addr) (c48 : Nat) (xa48 : List Int) (n49 : Int) (h : Heap) (hs : Sat ro h (.row a48 c48 (xa48.map (Value.int .u8)) :: F)) (hp : F59.J10p lf xa48 n49 = some r) : F59.Post F ro r (F59.J10 (callW Tryd.prog ora) lf ro a48 xa48.length c48 n49 h) := by
  unfold F59.J10
  unfold F59.J10p at hp
  exact F59.L11_ok hora lf a48 _ xa48 n49 0 _ hs hp

def F59.J8p (lf : Nat) (xa29 : List Int) (n30 : Int) : Option (Int × Int × Int) :=
  bindp (idxp xa29 n30) fun x_69 =>
  bindp (F69.p lf x_69) fun r_71 =>
  ifp (!r_71) (
    some (0, 0, 9)) (
    F59.J10p lf xa29 n30)

theorem F59.J8_ok {ora : Ora} (hora : HOra ora) {lf ro : Nat} {F : List Ent} {r : (Int × Int × Int)} (a29 : Option Addr) (c29 : Nat) (xa29 : List Int) (n30 : Int) (h : Heap) (hs : Sat ro h (.row a29 c29 (xa29.map (Value.int .u8)) :: F)) (hp : F59.J8p lf xa29 n30 = some r) : F59.Post F ro r (F59.J8 (callW Tryd.prog ora) lf ro a29 xa29.length c29 n30 h) := by
  unfold F59.J8
  unfold F59.J8p at hp
  obtain ⟨x_69, hx_70, hp⟩ := bindp_some hp
  refine st_idxR (Q := F59.Post F ro r) (l := xa29) (f := (Value.int .u8)) isO isO hs und22 siz5 agg5 rfl hx_70 ?_
  refine st_int (Q := F59.Post F ro r) ?_
  obtain ⟨r_71, hx_72, hp⟩ := bindp_some hp
  obtain ⟨h_73, e_75, hs_74⟩ := F69.ok hora (ro := ro) (F := .row a29 c29 (xa29.map (Value.int .u8)) :: F) x_69 _ hs hx_72
  refine st_ok (Q := F59.Post F ro r) isO e_75 ?_
  refine st_bool (Q := F59.Post F ro r) ?_
  refine st_if (Q := F59.Post F ro r) (fun hc_76 => ?_) (fun hc_76 => ?_)
  · replace hp := ifp_t hc_76 hp
    have hs_77 := hs_74.tail
    cases hp
    exact ⟨_, rfl, hs_77⟩
  · replace hp := ifp_f hc_76 hp
    exact F59.J10_ok hora a29 _ xa29 n30 _ hs_74 hp

def F59.J5p (lf : Nat) (xa20 : List Int) (n21 : Int) : Option (Int × Int × Int) :=
  bindp (F58.p lf xa20 n21) fun r_62 =>
  ifp (r_62 == (xa20.length : Int)) (
    some (0, 0, 10)) (
    F59.J8p lf xa20 r_62)

theorem F59.J5_ok {ora : Ora} (hora : HOra ora) {lf ro : Nat} {F : List Ent} {r : (Int × Int × Int)} (a20 : Option Addr) (c20 : Nat) (xa20 : List Int) (n21 : Int) (h : Heap) (hs : Sat ro h (.row a20 c20 (xa20.map (Value.int .u8)) :: F)) (hp : F59.J5p lf xa20 n21 = some r) : F59.Post F ro r (F59.J5 (callW Tryd.prog ora) lf ro a20 xa20.length c20 n21 h) := by
  unfold F59.J5
  unfold F59.J5p at hp
  have hs_61 := hs.dup
  obtain ⟨r_62, hx_63, hp⟩ := bindp_some hp
  obtain ⟨h_64, e_66, hs_65⟩ := F58.ok hora (ro := ro) (F := .row a20 c20 (xa20.map (Value.int .u8)) :: F) a20 c20 xa20 n21 _ hs_61 hx_63
  refine st_ok (Q := F59.Post F ro r) isO e_66 ?_
  refine st_int (Q := F59.Post F ro r) ?_
  refine st_if (Q := F59.Post F ro r) (fun hc_67 => ?_) (fun hc_67 => ?_)
  · replace hp := ifp_t hc_67 hp
    have hs_68 := hs_65.tail
    cases hp
    exact ⟨_, rfl, hs_68⟩
  · replace hp := ifp_f hc_67 hp
    exact F59.J8_ok hora a20 _ xa20 r_62 _ hs_65 hp

def F59.J3p (lf : Nat) (xa1 : List Int) (n2 : Int) : Option (Int × Int × Int) :=
  letJ (fun (b17 : Bool) => (
    ifp b17 (
      some (0, 0, 9)) (
      F59.J5p lf xa1 n2) : Option (Int × Int × Int))) fun j19p =>
  bindp (idxp xa1 n2) fun x_48 =>
  bindp (F38.p lf x_48) fun r_50 =>
  ifp (!r_50) (
    bindp (idxp xa1 n2) fun x_56 =>
    j19p (x_56 != 35)) (
    j19p false)

theorem F59.J3_ok {ora : Ora} (hora : HOra ora) {lf ro : Nat} {F : List Ent} {r : (Int × Int × Int)} (a1 : Option Addr) (c1 : Nat) (xa1 : List Int) (n2 : Int) (h : Heap) (hs : Sat ro h (.row a1 c1 (xa1.map (Value.int .u8)) :: F)) (hp : F59.J3p lf xa1 n2 = some r) : F59.Post F ro r (F59.J3 (callW Tryd.prog ora) lf ro a1 xa1.length c1 n2 h) := by
  unfold F59.J3
  unfold F59.J3p at hp
  refine st_letJ hp (fun j19p j19 => ∀ (b17 : Bool) (h_58 : Heap), Sat ro h_58 (.row a1 c1 (xa1.map (Value.int .u8)) :: F) → j19p b17 = some r → F59.Post F ro r (j19 b17 h_58)) ?_ ?_
  · intro b17 h_58 hs hp
    refine st_if (Q := F59.Post F ro r) (fun hc_59 => ?_) (fun hc_59 => ?_)
    · replace hp := ifp_t hc_59 hp
      have hs_60 := hs.tail
      cases hp
      exact ⟨_, rfl, hs_60⟩
    · replace hp := ifp_f hc_59 hp
      exact F59.J5_ok hora a1 _ xa1 n2 _ hs hp
  · intro j19p j19 hj19 hp
    obtain ⟨x_48, hx_49, hp⟩ := bindp_some hp
    refine st_idxR (Q := F59.Post F ro r) (l := xa1) (f := (Value.int .u8)) isO isO hs und22 siz5 agg5 rfl hx_49 ?_
    refine st_int (Q := F59.Post F ro r) ?_
    obtain ⟨r_50, hx_51, hp⟩ := bindp_some hp
    obtain ⟨h_52, e_54, hs_53⟩ := F38.ok hora (ro := ro) (F := .row a1 c1 (xa1.map (Value.int .u8)) :: F) x_48 _ hs hx_51
    refine st_ok (Q := F59.Post F ro r) isO e_54 ?_
    refine st_bool (Q := F59.Post F ro r) ?_
    refine st_if (Q := F59.Post F ro r) (fun hc_55 => ?_) (fun hc_55 => ?_)
    · replace hp := ifp_t hc_55 hp
      obtain ⟨x_56, hx_57, hp⟩ := bindp_some hp
      refine st_idxR (Q := F59.Post F ro r) (l := xa1) (f := (Value.int .u8)) isO isO hs_53 und22 siz5 agg5 rfl hx_57 ?_
      refine st_int (Q := F59.Post F ro r) ?_
      exact hj19 (x_56 != 35) _ hs_53 hp
    · replace hp := ifp_f hc_55 hp
      exact hj19 false _ hs_53 hp

def F59.p (lf : Nat) (xax0 : List Int) (x1 : Int) : Option (Int × Int × Int) :=
  ifp (x1 == (xax0.length : Int)) (
    some (0, 0, 10)) (
    F59.J3p lf xax0 x1)

theorem F59.t_ok {ora : Ora} (hora : HOra ora) {lf ro : Nat} {F : List Ent} {r : (Int × Int × Int)} (ax0 : Option Addr) (cx0 : Nat) (xax0 : List Int) (x1 : Int) (h : Heap) (hs : Sat ro h (.row ax0 cx0 (xax0.map (Value.int .u8)) :: F)) (hp : F59.p lf xax0 x1 = some r) : F59.Post F ro r (F59.t (callW Tryd.prog ora) lf ro ax0 xax0.length cx0 x1 h) := by
  unfold F59.t
  unfold F59.p at hp
  refine st_if (Q := F59.Post F ro r) (fun hc_46 => ?_) (fun hc_46 => ?_)
  · replace hp := ifp_t hc_46 hp
    have hs_47 := hs.tail
    cases hp
    exact ⟨_, rfl, hs_47⟩
  · replace hp := ifp_f hc_46 hp
    exact F59.J3_ok hora ax0 _ xax0 x1 _ hs hp

theorem F59.ok {ora : Ora} (hora : HOra ora) {lf ro : Nat} {F : List Ent} {r : (Int × Int × Int)} (ax0 : Option Addr) (cx0 : Nat) (xax0 : List Int) (x1 : Int) (h : Heap) (hs : Sat ro h (.row ax0 cx0 (xax0.map (Value.int .u8)) :: F)) (hp : F59.p lf xax0 x1 = some r) : F59.Post F ro r (callW Tryd.prog ora ro 59 [.slice ax0 xax0.length cx0, .int .i64 x1] h) := by
  have h1 := F59.t_ok hora ax0 cx0 xax0 x1 h hs hp
  have h2 : callW Tryd.prog ora ro 59 [.slice ax0 xax0.length cx0, .int .i64 x1] h = _ := callW_body (hora.none _ _ _ _ (by decide)) Tryd.func59 (F59.le (callW Tryd.prog ora) lf ro ax0 xax0.length cx0 x1 h) (F59.Post.ne h1)
  rw [h2]; exact h1

def F57.Post (F : List Ent) (ro : Nat) (r : (Int × Int × Int)) (x : Out) : Prop := ∃ h', x = .ok (.tuple #[.int .i64 r.1, .int .i64 r.2.1, .int .i64 r.2.2]) h' ∧ Sat ro h' (F)
theorem F57.Post.ne {F : List Ent} {ro : Nat} {r : (Int × Int × Int)} {x : Out} (hx : F57.Post F ro r x) : x ≠ .fail := by
  obtain ⟨h', rfl, _⟩ := hx
  simp

def F57.J6p (lf : Nat) (n29 : Int) (n30 : Int) : Option (Int × Int × Int) :=
  ifp (decide (n29 > 65535)) (
    some (0, 0, 3)) (
    some (n29, n30, 0))

theorem F57.J6_ok {ora : Ora} (hora : HOra ora) {lf ro : Nat} {F : List Ent} {r : (Int × Int × Int)} (n29 : Int) (n30 : Int) (h : Heap) (hs : Sat ro h (F)) (hp : F57.J6p lf n29 n30 = some r) : F57.Post F ro r (F57.J6 (callW Tryd.prog ora) lf ro n29 n30 h) := by
  unfold F57.J6
  unfold F57.J6p at hp
  refine st_if (Q := F57.Post F ro r) (fun hc_102 => ?_) (fun hc_102 => ?_)
  · replace hp := ifp_t hc_102 hp
    cases hp
    exact ⟨_, rfl, hs⟩
  · replace hp := ifp_f hc_102 hp
    cases hp
    exact ⟨_, rfl, hs⟩

def F57.J4p (lf : Nat) (xa25 : List Int) (n26 : Int) (n27 : Int) : Option (Int × Int × Int) :=
  ifp (n27 == (xa25.length : Int)) (
    some (0, 0, 10)) (
    F57.J6p lf n26 n27)

theorem F57.J4_ok {ora : Ora} (hora : HOra ora) {lf ro : Nat} {F : List Ent} {r : (Int × Int × Int)} (a25 : Option Addr) (c25 : Nat) (xa25 : List Int) (n26 : Int) (n27 : Int) (h : Heap) (hs : Sat ro h (.row a25 c25 (xa25.map (Value.int .u8)) :: F)) (hp : F57.J4p lf xa25 n26 n27 = some r) : F57.Post F ro r (F57.J4 (callW Tryd.prog ora) lf ro a25 xa25.length c25 n26 n27 h) := by
  unfold F57.J4
  unfold F57.J4p at hp
  refine st_if (Q := F57.Post F ro r) (fun hc_100 => ?_) (fun hc_100 => ?_)
  · replace hp := ifp_t hc_100 hp
    have hs_101 := hs.tail
    cases hp
    exact ⟨_, rfl, hs_101⟩
  · replace hp := ifp_f hc_100 hp
    have hs_103 := hs.tail
    exact F57.J6_ok hora n26 n27 _ hs_103 hp

def F57.p (lf : Nat) (xax0 : List Int) (x1 : Int) : Option (Int × Int × Int) :=
  bindp (F59.p lf xax0 x1) fun r_93 =>
  ifp (r_93.2.2 != 0) (
    some (0, 0, r_93.2.2)) (
    F57.J4p lf xax0 r_93.1 r_93.2.1)

theorem F57.t_ok {ora : Ora} (hora : HOra ora) {lf ro : Nat} {F : List Ent} {r : (Int × Int × Int)} (ax0 : Option Addr) (cx0 : Nat) (xax0 : List Int) (x1 : Int) (h : Heap) (hs : Sat ro h (.row ax0 cx0 (xax0.map (Value.int .u8)) :: F)) (hp : F57.p lf xax0 x1 = some r) : F57.Post F ro r (F57.t (callW Tryd.prog ora) lf ro ax0 xax0.length cx0 x1 h) := by
  unfold F57.t
  unfold F57.p at hp
  have hs_92 := hs.dup
  obtain ⟨r_93, hx_94, hp⟩ := bindp_some hp
  obtain ⟨h_95, e_97, hs_96⟩ := F59.ok hora (ro := ro) (F := .row ax0 cx0 (xax0.map (Value.int .u8)) :: F) ax0 cx0 xax0 x1 _ hs_92 hx_94
  refine st_ok (Q := F57.Post F ro r) isO e_97 ?_
  refine st_tup (Q := F57.Post F ro r) (l := [.int .i64 r_93.1, .int .i64 r_93.2.1, .int .i64 r_93.2.2]) ?_
  refine st_cons (Q := F57.Post F ro r) ?_
  refine st_int (Q := F57.Post F ro r) ?_
  refine st_cons (Q := F57.Post F ro r) ?_
  refine st_int (Q := F57.Post F ro r) ?_
  refine st_cons (Q := F57.Post F ro r) ?_
  refine st_int (Q := F57.Post F ro r) ?_
  refine st_nil (Q := F57.Post F ro r) ?_
  refine st_if (Q := F57.Post F ro r) (fun hc_98 => ?_) (fun hc_98 => ?_)
  · replace hp := ifp_t hc_98 hp
    have hs_99 := hs_96.tail
    cases hp
    exact ⟨_, rfl, hs_99⟩
  · replace hp := ifp_f hc_98 hp
    exact F57.J4_ok hora ax0 _ xax0 r_93.1 r_93.2.1 _ hs_96 hp

theorem F57.ok {ora : Ora} (hora : HOra ora) {lf ro : Nat} {F : List Ent} {r : (Int × Int × Int)} (ax0 : Option Addr) (cx0 : Nat) (xax0 : List Int) (x1 : Int) (h : Heap) (hs : Sat ro h (.row ax0 cx0 (xax0.map (Value.int .u8)) :: F)) (hp : F57.p lf xax0 x1 = some r) : F57.Post F ro r (callW Tryd.prog ora ro 57 [.slice ax0 xax0.length cx0, .int .i64 x1] h) := by
  have h1 := F57.t_ok hora ax0 cx0 xax0 x1 h hs hp
  have h2 : callW Tryd.prog ora ro 57 [.slice ax0 xax0.length cx0, .int .i64 x1] h = _ := callW_body (hora.none _ _ _ _ (by decide)) Tryd.func57 (F57.le (callW Tryd.prog ora) lf ro ax0 xax0.length cx0 x1 h) (F57.Post.ne h1)
  rw [h2]; exact h1

def F45.Post (F : List Ent) (ro : Nat) (r : (Int × Int × Int × Int × Int)) (x : Out) : Prop := ∃ h', x = .ok (.tuple #[.int .i64 r.1, .int .i64 r.2.1, .int .i64 r.2.2.1, .int .i64 r.2.2.2.1, .int .i64 r.2.2.2.2]) h' ∧ Sat ro h' (F)
theorem F45.Post.ne {F : List Ent} {ro : Nat} {r : (Int × Int × Int × Int × Int)} {x : Out} (hx : F45.Post F ro r x) : x ≠ .fail := by
  obtain ⟨h', rfl, _⟩ := hx
  simp

def F45.J14p (lf : Nat) (n103 : Int) (n104 : Int) (n105 : Int) (n106 : Int) : Option (Int × Int × Int × Int × Int) :=
  letJ (fun (b108 : Bool) => (
    ifp b108 (
      some (0, 0, 0, 0, 3)) (
      some (n103, n104, n105, n106, 0)) : Option (Int × Int × Int × Int × Int))) fun j109p =>
  ifp (decide (n105 < 1)) (
    j109p true) (
    j109p (decide (n105 > 255)))

theorem F45.J14_ok {ora : Ora} (hora : HOra ora) {lf ro : Nat} {F : List Ent} {r : (Int × Int × Int × Int × Int)} (n103 : Int) (n104 : Int) (n105 : Int) (n106 : Int) (h : Heap) (hs : Sat ro h (F)) (hp : F45.J14p lf n103 n104 n105 n106 = some r) : F45.Post F ro r (F45.J14 (callW Tryd.prog ora) lf ro n103 n104 n105 n106 h) := by
  unfold F45.J14
  unfold F45.J14p at hp
  refine st_letJ hp (fun j109p j109 => ∀ (b108 : Bool), Sat ro h (F) → j109p b108 = some r → F45.Post F ro r (j109 b108)) ?_ ?_
  · intro b108 hs hp
    refine st_if (Q := F45.Post F ro r) (fun hc_144 => ?_) (fun hc_144 => ?_)
    · replace hp := ifp_t hc_144 hp
      cases hp
      exact ⟨_, rfl, hs⟩
    · replace hp := ifp_f hc_144 hp
      cases hp
      exact ⟨_, rfl, hs⟩
  · intro j109p j109 hj109 hp
    refine st_if (Q := F45.Post F ro r) (fun hc_142 => ?_) (fun hc_142 => ?_)
    · replace hp := ifp_t hc_142 hp
      exact hj109 true hs hp
    · replace hp := ifp_f hc_142 hp
      exact hj109 (decide (n105 > 255)) hs hp

def F45.J11p (lf : Nat) (xa74 : List Int) (n75 : Int) (n76 : Int) (n77 : Int) : Option (Int × Int × Int × Int × Int) :=
  bindp (F57.p lf xa74 n77) fun r_135 =>
  ifp (r_135.2.2 != 0) (
    some (0, 0, 0, 0, r_135.2.2)) (
    F45.J14p lf n75 n76 r_135.1 r_135.2.1)

theorem F45.J11_ok {ora : Ora} (hora : HOra ora) {lf ro : Nat} {F : List Ent} {r : (Int × Int × Int × Int × Int)} (a74 : Option Addr) (c74 : Nat) (xa74 : List Int) (n75 : Int) (n76 : Int) (n77 : Int) (h : Heap) (hs : Sat ro h (.row a74 c74 (xa74.map (Value.int .u8)) :: F)) (hp : F45.J11p lf xa74 n75 n76 n77 = some r) : F45.Post F ro r (F45.J11 (callW Tryd.prog ora) lf ro a74 xa74.length c74 n75 n76 n77 h) := by
  unfold F45.J11
  unfold F45.J11p at hp
  have hs_134 := hs.dup
  obtain ⟨r_135, hx_136, hp⟩ := bindp_some hp
  obtain ⟨h_137, e_139, hs_138⟩ := F57.ok hora (ro := ro) (F := .row a74 c74 (xa74.map (Value.int .u8)) :: F) a74 c74 xa74 n77 _ hs_134 hx_136
  refine st_ok (Q := F45.Post F ro r) isO e_139 ?_
  refine st_tup (Q := F45.Post F ro r) (l := [.int .i64 r_135.1, .int .i64 r_135.2.1, .int .i64 r_135.2.2]) ?_
  refine st_cons (Q := F45.Post F ro r) ?_
  refine st_int (Q := F45.Post F ro r) ?_
  refine st_cons (Q := F45.Post F ro r) ?_
  refine st_int (Q := F45.Post F ro r) ?_
  refine st_cons (Q := F45.Post F ro r) ?_
  refine st_int (Q := F45.Post F ro r) ?_
  refine st_nil (Q := F45.Post F ro r) ?_
  refine st_if (Q := F45.Post F ro r) (fun hc_140 => ?_) (fun hc_140 => ?_)
  · replace hp := ifp_t hc_140 hp
    have hs_141 := hs_138.tail
    cases hp
    exact ⟨_, rfl, hs_141⟩
  · replace hp := ifp_f hc_140 hp
    have hs_145 := hs_138.tail
    exact F45.J14_ok hora n75 n76 r_135.1 r_135.2.1 _ hs_145 hp

def F45.J9p (lf : Nat) (xa62 : List Int) (n63 : Int) (n64 : Int) (n65 : Int) (n66 : Int) : Option (Int × Int × Int × Int × Int) :=
  bindp (F30.p lf n63) fun r_127 =>
  ifp (!r_127) (
    some (n64, n65, 1, n66, 0)) (
    F45.J11p lf xa62 n64 n65 n66)

theorem F45.J9_ok {ora : Ora} (hora : HOra ora) {lf ro : Nat} {F : List Ent} {r : (Int × Int × Int × Int × Int)} (a62 : Option Addr) (c62 : Nat) (xa62 : List Int) (n63 : Int) (n64 : Int) (n65 : Int) (n66 : Int) (h : Heap) (hs : Sat ro h (.row a62 c62 (xa62.map (Value.int .u8)) :: F)) (hp : F45.J9p lf xa62 n63 n64 n65 n66 = some r) : F45.Post F ro r (F45.J9 (callW Tryd.prog ora) lf ro a62 xa62.length c62 n63 n64 n65 n66 h) := by
  unfold F45.J9
  unfold F45.J9p at hp
  obtain ⟨r_127, hx_128, hp⟩ := bindp_some hp
  obtain ⟨h_129, e_131, hs_130⟩ := F30.ok hora (ro := ro) (F := .row a62 c62 (xa62.map (Value.int .u8)) :: F) n63 _ hs hx_128
  refine st_ok (Q := F45.Post F ro r) isO e_131 ?_
  refine st_bool (Q := F45.Post F ro r) ?_
  refine st_if (Q := F45.Post F ro r) (fun hc_132 => ?_) (fun hc_132 => ?_)
  · replace hp := ifp_t hc_132 hp
    have hs_133 := hs_130.tail
    cases hp
    exact ⟨_, rfl, hs_133⟩
  · replace hp := ifp_f hc_132 hp
    exact F45.J11_ok hora a62 _ xa62 n64 n65 n66 _ hs_130 hp

def F45.J7p (lf : Nat) (xa54 : List Int) (n55 : Int) (n56 : Int) (n57 : Int) (n58 : Int) : Option (Int × Int × Int × Int × Int) :=
  letJ (fun (b60 : Bool) => (
    ifp b60 (
      some (0, 0, 0, 0, 23)) (
      F45.J9p lf xa54 n55 n56 n57 n58) : Option (Int × Int × Int × Int × Int))) fun j61p =>
  ifp (decide (n56 < 1)) (
    j61p true) (
    ifp (decide (n56 > 4096)) (
      j61p true) (
      ifp (decide (n57 < 1)) (
        j61p true) (
        ifp (decide (n57 > 4096)) (
          j61p true) (
          j61p (decide (IntKind.i64.wrap (n56 * n57) > 4194304))))))

theorem F45.J7_ok {ora : Ora} (hora : HOra ora) {lf ro : Nat} {F : List Ent} {r : (Int × Int × Int × Int × Int)} (a54 : Option Addr) (c54 : Nat) (xa54 : List Int) (n55 : Int) (n56 : Int) (n57 : Int) (n58 : Int) (h : Heap) (hs : Sat ro h (.row a54 c54 (xa54.map (Value.int .u8)) :: F)) (hp : F45.J7p lf xa54 n55 n56 n57 n58 = some r) : F45.Post F ro r (F45.J7 (callW Tryd.prog ora) lf ro a54 xa54.length c54 n55 n56 n57 n58 h) := by
  unfold F45.J7
  unfold F45.J7p at hp
  refine st_letJ hp (fun j61p j61 => ∀ (b60 : Bool), Sat ro h (.row a54 c54 (xa54.map (Value.int .u8)) :: F) → j61p b60 = some r → F45.Post F ro r (j61 b60)) ?_ ?_
  · intro b60 hs hp
    refine st_if (Q := F45.Post F ro r) (fun hc_125 => ?_) (fun hc_125 => ?_)
    · replace hp := ifp_t hc_125 hp
      have hs_126 := hs.tail
      cases hp
      exact ⟨_, rfl, hs_126⟩
    · replace hp := ifp_f hc_125 hp
      exact F45.J9_ok hora a54 _ xa54 n55 n56 n57 n58 _ hs hp
  · intro j61p j61 hj61 hp
    refine st_if (Q := F45.Post F ro r) (fun hc_120 => ?_) (fun hc_120 => ?_)
    · replace hp := ifp_t hc_120 hp
      exact hj61 true hs hp
    · replace hp := ifp_f hc_120 hp
      refine st_if (Q := F45.Post F ro r) (fun hc_121 => ?_) (fun hc_121 => ?_)
      · replace hp := ifp_t hc_121 hp
        exact hj61 true hs hp
      · replace hp := ifp_f hc_121 hp
        refine st_if (Q := F45.Post F ro r) (fun hc_122 => ?_) (fun hc_122 => ?_)
        · replace hp := ifp_t hc_122 hp
          exact hj61 true hs hp
        · replace hp := ifp_f hc_122 hp
          refine st_if (Q := F45.Post F ro r) (fun hc_123 => ?_) (fun hc_123 => ?_)
          · replace hp := ifp_t hc_123 hp
            exact hj61 true hs hp
          · replace hp := ifp_f hc_123 hp
            exact hj61 (decide (IntKind.i64.wrap (n56 * n57) > 4194304)) hs hp

def F45.J4p (lf : Nat) (xa25 : List Int) (n26 : Int) (n27 : Int) (n28 : Int) : Option (Int × Int × Int × Int × Int) :=
  bindp (F57.p lf xa25 n28) fun r_113 =>
  ifp (r_113.2.2 != 0) (
    some (0, 0, 0, 0, r_113.2.2)) (
    F45.J7p lf xa25 n26 n27 r_113.1 r_113.2.1)

theorem F45.J4_ok {ora : Ora} (hora : HOra ora) {lf ro : Nat} {F : List Ent} {r : (Int × Int × Int × Int × Int)} (a25 : Option Addr) (c25 : Nat) (xa25 : List Int) (n26 : Int) (n27 : Int) (n28 : Int) (h : Heap) (hs : Sat ro h (.row a25 c25 (xa25.map (Value.int .u8)) :: F)) (hp : F45.J4p lf xa25 n26 n27 n28 = some r) : F45.Post F ro r (F45.J4 (callW Tryd.prog ora) lf ro a25 xa25.length c25 n26 n27 n28 h) := by
  unfold F45.J4
  unfold F45.J4p at hp
  have hs_112 := hs.dup
  obtain ⟨r_113, hx_114, hp⟩ := bindp_some hp
  obtain ⟨h_115, e_117, hs_116⟩ := F57.ok hora (ro := ro) (F := .row a25 c25 (xa25.map (Value.int .u8)) :: F) a25 c25 xa25 n28 _ hs_112 hx_114
  refine st_ok (Q := F45.Post F ro r) isO e_117 ?_
  refine st_tup (Q := F45.Post F ro r) (l := [.int .i64 r_113.1, .int .i64 r_113.2.1, .int .i64 r_113.2.2]) ?_
  refine st_cons (Q := F45.Post F ro r) ?_
  refine st_int (Q := F45.Post F ro r) ?_
  refine st_cons (Q := F45.Post F ro r) ?_
  refine st_int (Q := F45.Post F ro r) ?_
  refine st_cons (Q := F45.Post F ro r) ?_
  refine st_int (Q := F45.Post F ro r) ?_
  refine st_nil (Q := F45.Post F ro r) ?_
  refine st_if (Q := F45.Post F ro r) (fun hc_118 => ?_) (fun hc_118 => ?_)
  · replace hp := ifp_t hc_118 hp
    have hs_119 := hs_116.tail
    cases hp
    exact ⟨_, rfl, hs_119⟩
  · replace hp := ifp_f hc_118 hp
    exact F45.J7_ok hora a25 _ xa25 n26 n27 r_113.1 r_113.2.1 _ hs_116 hp

def F45.p (lf : Nat) (xax0 : List Int) (x1 : Int) : Option (Int × Int × Int × Int × Int) :=
  bindp (F57.p lf xax0 2) fun r_105 =>
  ifp (r_105.2.2 != 0) (
    some (0, 0, 0, 0, r_105.2.2)) (
    F45.J4p lf xax0 x1 r_105.1 r_105.2.1)

theorem F45.t_ok {ora : Ora} (hora : HOra ora) {lf ro : Nat} {F : List Ent} {r : (Int × Int × Int × Int × Int)} (ax0 : Option Addr) (cx0 : Nat) (xax0 : List Int) (x1 : Int) (h : Heap) (hs : Sat ro h (.row ax0 cx0 (xax0.map (Value.int .u8)) :: F)) (hp : F45.p lf xax0 x1 = some r) : F45.Post F ro r (F45.t (callW Tryd.prog ora) lf ro ax0 xax0.length cx0 x1 h) := by
  unfold F45.t
  unfold F45.p at hp
  have hs_104 := hs.dup
  obtain ⟨r_105, hx_106, hp⟩ := bindp_some hp
  obtain ⟨h_107, e_109, hs_108⟩ := F57.ok hora (ro := ro) (F := .row ax0 cx0 (xax0.map (Value.int .u8)) :: F) ax0 cx0 xax0 2 _ hs_104 hx_106
  refine st_ok (Q := F45.Post F ro r) isO e_109 ?_
  refine st_tup (Q := F45.Post F ro r) (l := [.int .i64 r_105.1, .int .i64 r_105.2.1, .int .i64 r_105.2.2]) ?_
  refine st_cons (Q := F45.Post F ro r) ?_
  refine st_int (Q := F45.Post F ro r) ?_
  refine st_cons (Q := F45.Post F ro r) ?_
  refine st_int (Q := F45.Post F ro r) ?_
  refine st_cons (Q := F45.Post F ro r) ?_
  refine st_int (Q := F45.Post F ro r) ?_
  refine st_nil (Q := F45.Post F ro r) ?_
  refine st_if (Q := F45.Post F ro r) (fun hc_110 => ?_) (fun hc_110 => ?_)
  · replace hp := ifp_t hc_110 hp
    have hs_111 := hs_108.tail
    cases hp
    exact ⟨_, rfl, hs_111⟩
  · replace hp := ifp_f hc_110 hp
    exact F45.J4_ok hora ax0 _ xax0 x1 r_105.1 r_105.2.1 _ hs_108 hp

theorem F45.ok {ora : Ora} (hora : HOra ora) {lf ro : Nat} {F : List Ent} {r : (Int × Int × Int × Int × Int)} (ax0 : Option Addr) (cx0 : Nat) (xax0 : List Int) (x1 : Int) (h : Heap) (hs : Sat ro h (.row ax0 cx0 (xax0.map (Value.int .u8)) :: F)) (hp : F45.p lf xax0 x1 = some r) : F45.Post F ro r (callW Tryd.prog ora ro 45 [.slice ax0 xax0.length cx0, .int .i64 x1] h) := by
  have h1 := F45.t_ok hora ax0 cx0 xax0 x1 h hs hp
  have h2 : callW Tryd.prog ora ro 45 [.slice ax0 xax0.length cx0, .int .i64 x1] h = _ := callW_body (hora.none _ _ _ _ (by decide)) Tryd.func45 (F45.le (callW Tryd.prog ora) lf ro ax0 xax0.length cx0 x1 h) (F45.Post.ne h1)
  rw [h2]; exact h1

def F46.Post (F : List Ent) (ro : Nat) (r : (List Int × Int × Int)) (x : Out) : Prop := ∃ a0 h', x = .ok (.tuple #[.slice a0 r.1.length r.1.length, .int .i64 r.2.1, .int .i64 r.2.2]) h' ∧ Sat ro h' (.own ro a0 1 (r.1.map (Value.int .u8)) :: F)
theorem F46.Post.ne {F : List Ent} {ro : Nat} {r : (List Int × Int × Int)} {x : Out} (hx : F46.Post F ro r x) : x ≠ .fail := by
  obtain ⟨a0, h', rfl, _⟩ := hx
  simp

def F46.J6p (lf : Nat) (kb2p : List Int → Int → Int → List Int → Option (List Int × Int × Int)) (xa17 : List Int) (n18 : Int) (n19 : Int) (xa20 : List Int) : Option (List Int × Int × Int) :=
  letJ (fun (b73 : Bool) => (
    ifp b73 (
      some ([], 0, 9)) (
      bindp (idxp xa17 n18) fun x_175 =>
      bindp (appp 1 xa20 [IntKind.u8.wrap ((IntKind.u8.wrap (49 - x_175)) * 255)]) fun x_179 =>
      kb2p xa17 (IntKind.i64.wrap (n18 + 1)) n19 x_179) : Option (List Int × Int × Int))) fun j75p =>
  bindp (idxp xa17 n18) fun x_159 =>
  ifp (x_159 != 48) (
    bindp (idxp xa17 n18) fun x_162 =>
    j75p (x_162 != 49)) (
    j75p false)

theorem F46.J6_ok {ora : Ora} (hora : HOra ora) {lf ro : Nat} {F : List Ent} {r : (List Int × Int × Int)} {kb2p : List Int → Int → Int → List Int → Option (List Int × Int × Int)} {kb2 : (Option Addr) → Nat → Nat → Int → Int → (Option Addr) → Nat → Nat → Heap → Out} (hkb2 : ∀ (a1 : Option Addr) (c1 : Nat) (xa1 : List Int) (n2 : Int) (n3 : Int) (a4 : Option Addr) (xa4 : List Int) (h : Heap), Sat ro h (.row a1 c1 (xa1.map (Value.int .u8)) :: .own ro a4 1 (xa4.map (Value.int .u8)) :: F) → kb2p xa1 n2 n3 xa4 = some r → F46.Post F ro r (kb2 a1 xa1.length c1 n2 n3 a4 xa4.length xa4.length h)) (a17 : Option Addr) (c17 : Nat) (xa17 : List Int) (n18 : Int) (n19 : Int) (a20 : Option Addr) (xa20 : List Int) (h : Heap) (hs : Sat ro h (.row a17 c17 (xa17.map (Value.int .u8)) :: .own ro a20 1 (xa20.map (Value.int .u8)) :: F)) (hp : F46.J6p lf kb2p xa17 n18 n19 xa20 = some r) : F46.Post F ro r (F46.J6 (callW Tryd.prog ora) lf ro kb2 a17 xa17.length c17 n18 n19 a20 xa20.length xa20.length h) := by
  unfold F46.J6
  unfold F46.J6p at hp
  refine st_letJ hp (fun j75p j75 => ∀ (b73 : Bool) (h_168 : Heap), Sat ro h_168 (.row a17 c17 (xa17.map (Value.int .u8)) :: .own ro a20 1 (xa20.map (Value.int .u8)) :: F) → j75p b73 = some r → F46.Post F ro r (j75 b73 h_168)) ?_ ?_
  · intro b73 h_168 hs hp
    refine st_if (Q := F46.Post F ro r) (fun hc_169 => ?_) (fun hc_169 => ?_)
    · replace hp := ifp_t hc_169 hp
      have hs_170 := hs.nilOwn ro 1
      have hs_171 := hs_170.pull 1 rfl
      have hs_172 := hs_171.tail
      have hs_173 := hs_172.pull 1 rfl
      have hs_174 := hs_173.tail
      cases hp
      exact ⟨none, _, rfl, hs_174⟩
    · replace hp := ifp_f hc_169 hp
      obtain ⟨x_175, hx_176, hp⟩ := bindp_some hp
      refine st_idxR (Q := F46.Post F ro r) (l := xa17) (f := (Value.int .u8)) isO isO hs und22 siz5 agg5 rfl hx_176 ?_
      refine st_int (Q := F46.Post F ro r) ?_
      refine st_pushJ (Q := F46.Post F ro r) hs hs.low rfl fun h_177 _ hs_178 => ?_
      have hs_184 := hs_178.pull 2 rfl
      obtain ⟨x_179, hx_180, hp⟩ := bindp_some hp
      refine st_appO (Q := F46.Post F ro r) isO (l := xa20) (x := [IntKind.u8.wrap ((IntKind.u8.wrap (49 - x_175)) * 255)]) (f := (Value.int .u8)) hs_184 (fun _ => rfl) und22 und22 one5 rfl rfl rfl hx_180 fun a_181 h_182 hs_183 => ?_
      refine st_slice (Q := F46.Post F ro r) ?_
      have hs_185 := hs_183.pull 1 rfl
      have hs_186 := hs_185.tail
      have hs_187 := hs_186.pull 1 rfl
      exact hkb2 a17 _ xa17 (IntKind.i64.wrap (n18 + 1)) n19 a_181 x_179 _ hs_187 hp
  · intro j75p j75 hj75 hp
    obtain ⟨x_159, hx_160, hp⟩ := bindp_some hp
    refine st_idxR (Q := F46.Post F ro r) (l := xa17) (f := (Value.int .u8)) isO isO hs und22 siz5 agg5 rfl hx_160 ?_
    refine st_int (Q := F46.Post F ro r) ?_
    refine st_if (Q := F46.Post F ro r) (fun hc_161 => ?_) (fun hc_161 => ?_)
    · replace hp := ifp_t hc_161 hp
      obtain ⟨x_162, hx_163, hp⟩ := bindp_some hp
      refine st_idxR (Q := F46.Post F ro r) (l := xa17) (f := (Value.int .u8)) isO isO hs und22 siz5 agg5 rfl hx_163 ?_
      refine st_int (Q := F46.Post F ro r) ?_
      have hs_164 := hs.pull 1 rfl
      have hs_165 := hs_164.pull 1 rfl
      exact hj75 (x_162 != 49) _ hs_165 hp
    · replace hp := ifp_f hc_161 hp
      have hs_166 := hs.pull 1 rfl
      have hs_167 := hs_166.pull 1 rfl
      exact hj75 false _ hs_167 hp

def F46.J3p (lf : Nat) (kb2p : List Int → Int → Int → List Int → Option (List Int × Int × Int)) (xa6 : List Int) (n7 : Int) (n8 : Int) (xa9 : List Int) : Option (List Int × Int × Int) :=
  bindp (F58.p lf xa6 n7) fun r_148 =>
  ifp (r_148 == (xa6.length : Int)) (
    some ([], 0, 10)) (
    F46.J6p lf kb2p xa6 r_148 n8 xa9)

theorem F46.J3_ok {ora : Ora} (hora : HOra ora) {lf ro : Nat} {F : List Ent} {r : (List Int × Int × Int)} {kb2p : List Int → Int → Int → List Int → Option (List Int × Int × Int)} {kb2 : (Option Addr) → Nat → Nat → Int → Int → (Option Addr) → Nat → Nat → Heap → Out} (hkb2 : ∀ (a1 : Option Addr) (c1 : Nat) (xa1 : List Int) (n2 : Int) (n3 : Int) (a4 : Option Addr) (xa4 : List Int) (h : Heap), Sat ro h (.row a1 c1 (xa1.map (Value.int .u8)) :: .own ro a4 1 (xa4.map (Value.int .u8)) :: F) → kb2p xa1 n2 n3 xa4 = some r → F46.Post F ro r (kb2 a1 xa1.length c1 n2 n3 a4 xa4.length xa4.length h)) (a6 : Option Addr) (c6 : Nat) (xa6 : List Int) (n7 : Int) (n8 : Int) (a9 : Option Addr) (xa9 : List Int) (h : Heap) (hs : Sat ro h (.row a6 c6 (xa6.map (Value.int .u8)) :: .own ro a9 1 (xa9.map (Value.int .u8)) :: F)) (hp : F46.J3p lf kb2p xa6 n7 n8 xa9 = some r) : F46.Post F ro r (F46.J3 (callW Tryd.prog ora) lf ro kb2 a6 xa6.length c6 n7 n8 a9 xa9.length xa9.length h) := by
  unfold F46.J3
  unfold F46.J3p at hp
  have hs_147 := hs.dup
  obtain ⟨r_148, hx_149, hp⟩ := bindp_some hp
  obtain ⟨h_150, e_152, hs_151⟩ := F58.ok hora (ro := ro) (F := .row a6 c6 (xa6.map (Value.int .u8)) :: .own ro a9 1 (xa9.map (Value.int .u8)) :: F) a6 c6 xa6 n7 _ hs_147 hx_149
  refine st_ok (Q := F46.Post F ro r) isO e_152 ?_
  refine st_int (Q := F46.Post F ro r) ?_
  refine st_if (Q := F46.Post F ro r) (fun hc_153 => ?_) (fun hc_153 => ?_)
  · replace hp := ifp_t hc_153 hp
    have hs_154 := hs_151.nilOwn ro 1
    have hs_155 := hs_154.pull 1 rfl
    have hs_156 := hs_155.tail
    have hs_157 := hs_156.pull 1 rfl
    have hs_158 := hs_157.tail
    cases hp
    exact ⟨none, _, rfl, hs_158⟩
  · replace hp := ifp_f hc_153 hp
    have hs_188 := hs_151.pull 1 rfl
    have hs_189 := hs_188.pull 1 rfl
    exact F46.J6_ok hora hkb2 a6 _ xa6 r_148 n8 a9 xa9 _ hs_189 hp

def F46.L2p (lf : Nat) : Nat → List Int → Int → Int → List Int → Option (List Int × Int × Int)
  | 0, _, _, _, _ => none
  | n + 1, xa1, n2, n3, xa4 =>
  ifp (decide ((xa4.length : Int) < n3)) (
    F46.J3p lf (F46.L2p lf n) xa1 n2 n3 xa4) (
    some (xa4, n2, 0))

theorem F46.L2_ok {ora : Ora} (hora : HOra ora) {lf ro : Nat} {F : List Ent} {r : (List Int × Int × Int)} : ∀ (n : Nat) (a1 : Option Addr) (c1 : Nat) (xa1 : List Int) (n2 : Int) (n3 : Int) (a4 : Option Addr) (xa4 : List Int) (h : Heap), Sat ro h (.row a1 c1 (xa1.map (Value.int .u8)) :: .own ro a4 1 (xa4.map (Value.int .u8)) :: F) → F46.L2p lf n xa1 n2 n3 xa4 = some r → F46.Post F ro r (F46.L2 (callW Tryd.prog ora) lf ro n a1 xa1.length c1 n2 n3 a4 xa4.length xa4.length h) := by
  intro n
  induction n with
  | zero => intro a1 c1 xa1 n2 n3 a4 xa4 h hs hp; cases hp
  | succ n ih =>
    intro a1 c1 xa1 n2 n3 a4 xa4 h hs hp
    unfold F46.L2
    unfold F46.L2p at hp
    refine st_if (Q := F46.Post F ro r) (fun hc_146 => ?_) (fun hc_146 => ?_)
    · replace hp := ifp_t hc_146 hp
      have hs_190 := hs.pull 1 rfl
      have hs_191 := hs_190.pull 1 rfl
      exact F46.J3_ok hora ih a1 _ xa1 n2 n3 a4 xa4 _ hs_191 hp
    · replace hp := ifp_f hc_146 hp
      have hs_192 := hs.tail
      cases hp
      exact ⟨a4, _, rfl, hs_192⟩

def F46.p (lf : Nat) (xax0 : List Int) (x1 : Int) (x2 : Int) : Option (List Int × Int × Int) :=
  F46.L2p lf lf xax0 x1 x2 []

theorem F46.t_ok {ora : Ora} (hora : HOra ora) {lf ro : Nat} {F : List Ent} {r : (List Int × Int × Int)} (ax0 : Option Addr) (cx0 : Nat) (xax0 : List Int) (x1 : Int) (x2 : Int) (h : Heap) (hs : Sat ro h (.row ax0 cx0 (xax0.map (Value.int .u8)) :: F)) (hp : F46.p lf xax0 x1 x2 = some r) : F46.Post F ro r (F46.t (callW Tryd.prog ora) lf ro ax0 xax0.length cx0 x1 x2 h) := by
  unfold F46.t
  unfold F46.p at hp
  have hs_193 := hs.nilOwn ro 1
  have hs_194 := hs_193.pull 1 rfl
  exact F46.L2_ok hora lf ax0 _ xax0 x1 x2 none [] _ hs_194 hp

theorem F46.ok {ora : Ora} (hora : HOra ora) {lf ro : Nat} {F : List Ent} {r : (List Int × Int × Int)} (ax0 : Option Addr) (cx0 : Nat) (xax0 : List Int) (x1 : Int) (x2 : Int) (h : Heap) (hs : Sat ro h (.row ax0 cx0 (xax0.map (Value.int .u8)) :: F)) (hp : F46.p lf xax0 x1 x2 = some r) : F46.Post F ro r (callW Tryd.prog ora ro 46 [.slice ax0 xax0.length cx0, .int .i64 x1, .int .i64 x2] h) := by
  have h1 := F46.t_ok hora ax0 cx0 xax0 x1 x2 h hs hp
  have h2 : callW Tryd.prog ora ro 46 [.slice ax0 xax0.length cx0, .int .i64 x1, .int .i64 x2] h = _ := callW_body (hora.none _ _ _ _ (by decide)) Tryd.func46 (F46.le (callW Tryd.prog ora) lf ro ax0 xax0.length cx0 x1 x2 h) (F46.Post.ne h1)
  rw [h2]; exact h1

def F47.Post (F : List Ent) (ro : Nat) (r : (List Int × Int × Int)) (x : Out) : Prop := ∃ a0 h', x = .ok (.tuple #[.slice a0 r.1.length r.1.length, .int .i64 r.2.1, .int .i64 r.2.2]) h' ∧ Sat ro h' (.own ro a0 1 (r.1.map (Value.int .u8)) :: F)
theorem F47.Post.ne {F : List Ent} {ro : Nat} {r : (List Int × Int × Int)} {x : Out} (hx : F47.Post F ro r x) : x ≠ .fail := by
  obtain ⟨a0, h', rfl, _⟩ := hx
  simp

def F47.J6p (lf : Nat) (kb2p : List Int → Int → Int → Int → List Int → Option (List Int × Int × Int)) (xa37 : List Int) (n38 : Int) (n39 : Int) (xa40 : List Int) (n41 : Int) (n42 : Int) : Option (List Int × Int × Int) :=
  ifp (decide (n41 > n39)) (
    some ([], 0, 3)) (
    bindp (F60.p lf n41 n39) fun r_214 =>
    bindp (appp 1 xa40 [r_214]) fun x_221 =>
    kb2p xa37 n42 n38 n39 x_221)

theorem F47.J6_ok {ora : Ora} (hora : HOra ora) {lf ro : Nat} {F : List Ent} {r : (List Int × Int × Int)} {kb2p : List Int → Int → Int → Int → List Int → Option (List Int × Int × Int)} {kb2 : (Option Addr) → Nat → Nat → Int → Int → Int → (Option Addr) → Nat → Nat → Heap → Out} (hkb2 : ∀ (a1 : Option Addr) (c1 : Nat) (xa1 : List Int) (n2 : Int) (n3 : Int) (n4 : Int) (a5 : Option Addr) (xa5 : List Int) (h : Heap), Sat ro h (.row a1 c1 (xa1.map (Value.int .u8)) :: .own ro a5 1 (xa5.map (Value.int .u8)) :: F) → kb2p xa1 n2 n3 n4 xa5 = some r → F47.Post F ro r (kb2 a1 xa1.length c1 n2 n3 n4 a5 xa5.length xa5.length h)) (a37 : Option Addr) (c37 : Nat) (xa37 : List Int) (n38 : Int) (n39 : Int) (a40 : Option Addr) (xa40 : List Int) (n41 : Int) (n42 : Int) (h : Heap) (hs : Sat ro h (.row a37 c37 (xa37.map (Value.int .u8)) :: .own ro a40 1 (xa40.map (Value.int .u8)) :: F)) (hp : F47.J6p lf kb2p xa37 n38 n39 xa40 n41 n42 = some r) : F47.Post F ro r (F47.J6 (callW Tryd.prog ora) lf ro kb2 a37 xa37.length c37 n38 n39 a40 xa40.length xa40.length n41 n42 h) := by
  unfold F47.J6
  unfold F47.J6p at hp
  refine st_if (Q := F47.Post F ro r) (fun hc_208 => ?_) (fun hc_208 => ?_)
  · replace hp := ifp_t hc_208 hp
    have hs_209 := hs.nilOwn ro 1
    have hs_210 := hs_209.pull 1 rfl
    have hs_211 := hs_210.tail
    have hs_212 := hs_211.pull 1 rfl
    have hs_213 := hs_212.tail
    cases hp
    exact ⟨none, _, rfl, hs_213⟩
  · replace hp := ifp_f hc_208 hp
    obtain ⟨r_214, hx_215, hp⟩ := bindp_some hp
    obtain ⟨h_216, e_218, hs_217⟩ := F60.ok hora (ro := ro) (F := .row a37 c37 (xa37.map (Value.int .u8)) :: .own ro a40 1 (xa40.map (Value.int .u8)) :: F) n41 n39 _ hs hx_215
    refine st_ok (Q := F47.Post F ro r) isO e_218 ?_
    refine st_int (Q := F47.Post F ro r) ?_
    refine st_pushJ (Q := F47.Post F ro r) hs_217 hs_217.low rfl fun h_219 _ hs_220 => ?_
    have hs_226 := hs_220.pull 2 rfl
    obtain ⟨x_221, hx_222, hp⟩ := bindp_some hp
    refine st_appO (Q := F47.Post F ro r) isO (l := xa40) (x := [r_214]) (f := (Value.int .u8)) hs_226 (fun _ => rfl) und22 und22 one5 rfl rfl rfl hx_222 fun a_223 h_224 hs_225 => ?_
    refine st_slice (Q := F47.Post F ro r) ?_
    have hs_227 := hs_225.pull 1 rfl
    have hs_228 := hs_227.tail
    have hs_229 := hs_228.pull 1 rfl
    exact hkb2 a37 _ xa37 n42 n38 n39 a_223 x_221 _ hs_229 hp

def F47.J3p (lf : Nat) (kb2p : List Int → Int → Int → Int → List Int → Option (List Int × Int × Int)) (xa7 : List Int) (n8 : Int) (n9 : Int) (n10 : Int) (xa11 : List Int) : Option (List Int × Int × Int) :=
  bindp (F59.p lf xa7 n8) fun r_197 =>
  ifp (r_197.2.2 != 0) (
    some ([], 0, r_197.2.2)) (
    F47.J6p lf kb2p xa7 n9 n10 xa11 r_197.1 r_197.2.1)

theorem F47.J3_ok {ora : Ora} (hora : HOra ora) {lf ro : Nat} {F : List Ent} {r : (List Int × Int × Int)} {kb2p : List Int → Int → Int → Int → List Int → Option (List Int × Int × Int)} {kb2 : (Option Addr) → Nat → Nat → Int → Int → Int → (Option Addr) → Nat → Nat → Heap → Out} (hkb2 : ∀ (a1 : Option Addr) (c1 : Nat) (xa1 : List Int) (n2 : Int) (n3 : Int) (n4 : Int) (a5 : Option Addr) (xa5 : List Int) (h : Heap), Sat ro h (.row a1 c1 (xa1.map (Value.int .u8)) :: .own ro a5 1 (xa5.map (Value.int .u8)) :: F) → kb2p xa1 n2 n3 n4 xa5 = some r → F47.Post F ro r (kb2 a1 xa1.length c1 n2 n3 n4 a5 xa5.length xa5.length h)) (a7 : Option Addr) (c7 : Nat) (xa7 : List Int) (n8 : Int) (n9 : Int) (n10 : Int) (a11 : Option Addr) (xa11 : List Int) (h : Heap) (hs : Sat ro h (.row a7 c7 (xa7.map (Value.int .u8)) :: .own ro a11 1 (xa11.map (Value.int .u8)) :: F)) (hp : F47.J3p lf kb2p xa7 n8 n9 n10 xa11 = some r) : F47.Post F ro r (F47.J3 (callW Tryd.prog ora) lf ro kb2 a7 xa7.length c7 n8 n9 n10 a11 xa11.length xa11.length h) := by
  unfold F47.J3
  unfold F47.J3p at hp
  have hs_196 := hs.dup
  obtain ⟨r_197, hx_198, hp⟩ := bindp_some hp
  obtain ⟨h_199, e_201, hs_200⟩ := F59.ok hora (ro := ro) (F := .row a7 c7 (xa7.map (Value.int .u8)) :: .own ro a11 1 (xa11.map (Value.int .u8)) :: F) a7 c7 xa7 n8 _ hs_196 hx_198
  refine st_ok (Q := F47.Post F ro r) isO e_201 ?_
  refine st_tup (Q := F47.Post F ro r) (l := [.int .i64 r_197.1, .int .i64 r_197.2.1, .int .i64 r_197.2.2]) ?_
  refine st_cons (Q := F47.Post F ro r) ?_
  refine st_int (Q := F47.Post F ro r) ?_
  refine st_cons (Q := F47.Post F ro r) ?_
  refine st_int (Q := F47.Post F ro r) ?_
  refine st_cons (Q := F47.Post F ro r) ?_
  refine st_int (Q := F47.Post F ro r) ?_
  refine st_nil (Q := F47.Post F ro r) ?_
  refine st_if (Q := F47.Post F ro r) (fun hc_202 => ?_) (fun hc_202 => ?_)
  · replace hp := ifp_t hc_202 hp
    have hs_203 := hs_200.nilOwn ro 1
    have hs_204 := hs_203.pull 1 rfl
    have hs_205 := hs_204.tail
    have hs_206 := hs_205.pull 1 rfl
    have hs_207 := hs_206.tail
    cases hp
    exact ⟨none, _, rfl, hs_207⟩
  · replace hp := ifp_f hc_202 hp
    have hs_230 := hs_200.pull 1 rfl
    have hs_231 := hs_230.pull 1 rfl
    exact F47.J6_ok hora hkb2 a7 _ xa7 n9 n10 a11 xa11 r_197.1 r_197.2.1 _ hs_231 hp

def F47.J10p (lf : Nat) (xa69 : List Int) (n70 : Int) (xa71 : List Int) : Option (List Int × Int × Int) :=
  letJ (fun (b86 : Bool) => (
    ifp b86 (
      some ([], 0, 9)) (
      some (xa71, n70, 0)) : Option (List Int × Int × Int))) fun j88p =>
  ifp (decide (n70 < (xa69.length : Int))) (
    bindp (idxp xa69 n70) fun x_235 =>
    bindp (F38.p lf x_235) fun r_237 =>
    ifp (!r_237) (
      bindp (idxp xa69 n70) fun x_243 =>
      j88p (x_243 != 35)) (
      j88p false)) (
    j88p false)

theorem F47.J10_ok {ora : Ora} (hora : HOra ora) {lf ro : Nat} {F : List Ent} {r : (List Int × Int × Int)} (a69 : Option Addr) (c69 : Nat) (xa69 : List Int) (n70 : Int) (a71 : Option Addr) (xa71 : List Int) (h : Heap) (hs : Sat ro h (.row a69 c69 (xa69.map (Value.int .u8)) :: .own ro a71 1 (xa71.map (Value.int .u8)) :: F)) (hp : F47.J10p lf xa69 n70 xa71 = some r) : F47.Post F ro r (F47.J10 (callW Tryd.prog ora) lf ro a69 xa69.length c69 n70 a71 xa71.length xa71.length h) := by
  unfold F47.J10
  unfold F47.J10p at hp
  refine st_letJ hp (fun j88p j88 => ∀ (b86 : Bool) (h_248 : Heap), Sat ro h_248 (.own ro a71 1 (xa71.map (Value.int .u8)) :: F) → j88p b86 = some r → F47.Post F ro r (j88 b86 h_248)) ?_ ?_
  · intro b86 h_248 hs hp
    refine st_if (Q := F47.Post F ro r) (fun hc_249 => ?_) (fun hc_249 => ?_)
    · replace hp := ifp_t hc_249 hp
      have hs_250 := hs.nilOwn ro 1
      have hs_251 := hs_250.pull 1 rfl
      have hs_252 := hs_251.tail
      cases hp
      exact ⟨none, _, rfl, hs_252⟩
    · replace hp := ifp_f hc_249 hp
      cases hp
      exact ⟨a71, _, rfl, hs⟩
  · intro j88p j88 hj88 hp
    refine st_if (Q := F47.Post F ro r) (fun hc_234 => ?_) (fun hc_234 => ?_)
    · replace hp := ifp_t hc_234 hp
      obtain ⟨x_235, hx_236, hp⟩ := bindp_some hp
      refine st_idxR (Q := F47.Post F ro r) (l := xa69) (f := (Value.int .u8)) isO isO hs und22 siz5 agg5 rfl hx_236 ?_
      refine st_int (Q := F47.Post F ro r) ?_
      obtain ⟨r_237, hx_238, hp⟩ := bindp_some hp
      obtain ⟨h_239, e_241, hs_240⟩ := F38.ok hora (ro := ro) (F := .row a69 c69 (xa69.map (Value.int .u8)) :: .own ro a71 1 (xa71.map (Value.int .u8)) :: F) x_235 _ hs hx_238
      refine st_ok (Q := F47.Post F ro r) isO e_241 ?_
      refine st_bool (Q := F47.Post F ro r) ?_
      refine st_if (Q := F47.Post F ro r) (fun hc_242 => ?_) (fun hc_242 => ?_)
      · replace hp := ifp_t hc_242 hp
        obtain ⟨x_243, hx_244, hp⟩ := bindp_some hp
        refine st_idxR (Q := F47.Post F ro r) (l := xa69) (f := (Value.int .u8)) isO isO hs_240 und22 siz5 agg5 rfl hx_244 ?_
        refine st_int (Q := F47.Post F ro r) ?_
        have hs_245 := hs_240.tail
        exact hj88 (x_243 != 35) _ hs_245 hp
      · replace hp := ifp_f hc_242 hp
        have hs_246 := hs_240.tail
        exact hj88 false _ hs_246 hp
    · replace hp := ifp_f hc_234 hp
      have hs_247 := hs.tail
      exact hj88 false _ hs_247 hp

def F47.L2p (lf : Nat) : Nat → List Int → Int → Int → Int → List Int → Option (List Int × Int × Int)
  | 0, _, _, _, _, _ => none
  | n + 1, xa1, n2, n3, n4, xa5 =>
  ifp (decide ((xa5.length : Int) < n3)) (
    F47.J3p lf (F47.L2p lf n) xa1 n2 n3 n4 xa5) (
    F47.J10p lf xa1 n2 xa5)

theorem F47.L2_ok {ora : Ora} (hora : HOra ora) {lf ro : Nat} {F : List Ent} {r : (List Int × Int × Int)} : ∀ (n : Nat) (a1 : Option Addr) (c1 : Nat) (xa1 : List Int) (n2 : Int) (n3 : Int) (n4 : Int) (a5 : Option Addr) (xa5 : List Int) (h : Heap), Sat ro h (.row a1 c1 (xa1.map (Value.int .u8)) :: .own ro a5 1 (xa5.map (Value.int .u8)) :: F) → F47.L2p lf n xa1 n2 n3 n4 xa5 = some r → F47.Post F ro r (F47.L2 (callW Tryd.prog ora) lf ro n a1 xa1.length c1 n2 n3 n4 a5 xa5.length xa5.length h) := by
  intro n
  induction n with
  | zero => intro a1 c1 xa1 n2 n3 n4 a5 xa5 h hs hp; cases hp
  | succ n ih =>
    intro a1 c1 xa1 n2 n3 n4 a5 xa5 h hs hp
    unfold F47.L2
    unfold F47.L2p at hp
    refine st_if (Q := F47.Post F ro r) (fun hc_195 => ?_) (fun hc_195 => ?_)
    · replace hp := ifp_t hc_195 hp
      have hs_232 := hs.pull 1 rfl
      have hs_233 := hs_232.pull 1 rfl
      exact F47.J3_ok hora ih a1 _ xa1 n2 n3 n4 a5 xa5 _ hs_233 hp
    · replace hp := ifp_f hc_195 hp
      have hs_253 := hs.pull 1 rfl
      have hs_254 := hs_253.pull 1 rfl
      exact F47.J10_ok hora a1 _ xa1 n2 a5 xa5 _ hs_254 hp

def F47.p (lf : Nat) (xax0 : List Int) (x1 : Int) (x2 : Int) (x3 : Int) : Option (List Int × Int × Int) :=
  F47.L2p lf lf xax0 x1 x2 x3 []

theorem F47.t_ok {ora : Ora} (hora : HOra ora) {lf ro : Nat} {F : List Ent} {r : (List Int × Int × Int)} (ax0 : Option Addr) (cx0 : Nat) (xax0 : List Int) (x1 : Int) (x2 : Int) (x3 : Int) (h : Heap) (hs : Sat ro h (.row ax0 cx0 (xax0.map (Value.int .u8)) :: F)) (hp : F47.p lf xax0 x1 x2 x3 = some r) : F47.Post F ro r (F47.t (callW Tryd.prog ora) lf ro ax0 xax0.length cx0 x1 x2 x3 h) := by
  unfold F47.t
  unfold F47.p at hp
  have hs_255 := hs.nilOwn ro 1
  have hs_256 := hs_255.pull 1 rfl
  exact F47.L2_ok hora lf ax0 _ xax0 x1 x2 x3 none [] _ hs_256 hp

theorem F47.ok {ora : Ora} (hora : HOra ora) {lf ro : Nat} {F : List Ent} {r : (List Int × Int × Int)} (ax0 : Option Addr) (cx0 : Nat) (xax0 : List Int) (x1 : Int) (x2 : Int) (x3 : Int) (h : Heap) (hs : Sat ro h (.row ax0 cx0 (xax0.map (Value.int .u8)) :: F)) (hp : F47.p lf xax0 x1 x2 x3 = some r) : F47.Post F ro r (callW Tryd.prog ora ro 47 [.slice ax0 xax0.length cx0, .int .i64 x1, .int .i64 x2, .int .i64 x3] h) := by
  have h1 := F47.t_ok hora ax0 cx0 xax0 x1 x2 x3 h hs hp
  have h2 : callW Tryd.prog ora ro 47 [.slice ax0 xax0.length cx0, .int .i64 x1, .int .i64 x2, .int .i64 x3] h = _ := callW_body (hora.none _ _ _ _ (by decide)) Tryd.func47 (F47.le (callW Tryd.prog ora) lf ro ax0 xax0.length cx0 x1 x2 x3 h) (F47.Post.ne h1)
  rw [h2]; exact h1

def F48.Post (F : List Ent) (ro : Nat) (r : (List Int × Int × Int)) (x : Out) : Prop := ∃ a0 h', x = .ok (.tuple #[.slice a0 r.1.length r.1.length, .int .i64 r.2.1, .int .i64 r.2.2]) h' ∧ Sat ro h' (.own ro a0 1 (r.1.map (Value.int .u8)) :: F)
theorem F48.Post.ne {F : List Ent} {ro : Nat} {r : (List Int × Int × Int)} {x : Out} (hx : F48.Post F ro r x) : x ≠ .fail := by
  obtain ⟨a0, h', rfl, _⟩ := hx
  simp

def F48.J16p (lf : Nat) (kb11p : List Int → Int → Int → Int → Int → Int → Int → List Int → Int → Option (List Int × Int × Int)) (kb14p : List Int → Int → Int → Int → Int → Int → Int → List Int → Int → Int → Option (List Int × Int × Int)) (xa71 : List Int) (n72 : Int) (n73 : Int) (n74 : Int) (n75 : Int) (n76 : Int) (n77 : Int) (xa78 : List Int) (n79 : Int) (n80 : Int) : Option (List Int × Int × Int) :=
  letJ (fun (xa718 : List Int) => (
    kb14p xa71 n72 n73 n74 n75 n76 n77 xa718 n79 (IntKind.i64.wrap (n80 + 1)) : Option (List Int × Int × Int))) fun j720p =>
  ifp (n76 == 5) (
    bindp (idxp xa71 (IntKind.i64.wrap ((IntKind.i64.wrap (n72 + (IntKind.i64.wrap (n79 * n77)))) + n80))) fun x_276 =>
    ifp (decide (IntKind.i64.wrap x_276 > n75)) (
      some ([], 0, 3)) (
      bindp (F60.p lf (IntKind.i64.wrap x_276) n75) fun r_284 =>
      bindp (appp 1 xa78 [r_284]) fun x_291 =>
      j720p x_291)) (
    bindp (idxp xa71 (IntKind.i64.wrap ((IntKind.i64.wrap (n72 + (IntKind.i64.wrap (n79 * n77)))) + (IntKind.i64.wrap (Int.tdiv n80 8))))) fun x_301 =>
    bindp (shrp .u8 x_301 (IntKind.u64.wrap (IntKind.i64.wrap (7 - (Int.tmod n80 8))))) fun n_303 =>
    ifp ((Int.tmod n_303 2) == 1) (
      bindp (appp 1 xa78 [0]) fun x_308 =>
      j720p x_308) (
      bindp (appp 1 xa78 [255]) fun x_320 =>
      j720p x_320))

theorem F48.J16_ok {ora : Ora} (hora : HOra ora) {lf ro : Nat} {F : List Ent} {r : (List Int × Int × Int)} {kb11p : List Int → Int → Int → Int → Int → Int → Int → List Int → Int → Option (List Int × Int × Int)} {kb11 : (Option Addr) → Nat → Nat → Int → Int → Int → Int → Int → Int → (Option Addr) → Nat → Nat → Int → Heap → Out} (hkb11 : ∀ (a40 : Option Addr) (c40 : Nat) (xa40 : List Int) (n41 : Int) (n42 : Int) (n43 : Int) (n44 : Int) (n45 : Int) (n46 : Int) (a47 : Option Addr) (xa47 : List Int) (n48 : Int) (h : Heap), Sat ro h (.row a40 c40 (xa40.map (Value.int .u8)) :: .own ro a47 1 (xa47.map (Value.int .u8)) :: F) → kb11p xa40 n41 n42 n43 n44 n45 n46 xa47 n48 = some r → F48.Post F ro r (kb11 a40 xa40.length c40 n41 n42 n43 n44 n45 n46 a47 xa47.length xa47.length n48 h)) {kb14p : List Int → Int → Int → Int → Int → Int → Int → List Int → Int → Int → Option (List Int × Int × Int)} {kb14 : (Option Addr) → Nat → Nat → Int → Int → Int → Int → Int → Int → (Option Addr) → Nat → Nat → Int → Int → Heap → Out} (hkb14 : ∀ (a60 : Option Addr) (c60 : Nat) (xa60 : List Int) (n61 : Int) (n62 : Int) (n63 : Int) (n64 : Int) (n65 : Int) (n66 : Int) (a67 : Option Addr) (xa67 : List Int) (n68 : Int) (n69 : Int) (h : Heap), Sat ro h (.row a60 c60 (xa60.map (Value.int .u8)) :: .own ro a67 1 (xa67.map (Value.int .u8)) :: F) → kb14p xa60 n61 n62 n63 n64 n65 n66 xa67 n68 n69 = some r → F48.Post F ro r (kb14 a60 xa60.length c60 n61 n62 n63 n64 n65 n66 a67 xa67.length xa67.length n68 n69 h)) (a71 : Option Addr) (c71 : Nat) (xa71 : List Int) (n72 : Int) (n73 : Int) (n74 : Int) (n75 : Int) (n76 : Int) (n77 : Int) (a78 : Option Addr) (xa78 : List Int) (n79 : Int) (n80 : Int) (h : Heap) (hs : Sat ro h (.row a71 c71 (xa71.map (Value.int .u8)) :: .own ro a78 1 (xa78.map (Value.int .u8)) :: F)) (hp : F48.J16p lf kb11p kb14p xa71 n72 n73 n74 n75 n76 n77 xa78 n79 n80 = some r) : F48.Post F ro r (F48.J16 (callW Tryd.prog ora) lf ro kb11 kb14 a71 xa71.length c71 n72 n73 n74 n75 n76 n77 a78 xa78.length xa78.length n79 n80 h) := by
  unfold F48.J16
  unfold F48.J16p at hp
  refine st_letJ hp (fun j720p j720 => ∀ (a718 : Option Addr) (xa718 : List Int) (h_330 : Heap), Sat ro h_330 (.own ro a718 1 (xa718.map (Value.int .u8)) :: .row a71 c71 (xa71.map (Value.int .u8)) :: F) → j720p xa718 = some r → F48.Post F ro r (j720 a718 xa718.length xa718.length h_330)) ?_ ?_
  · intro a718 xa718 h_330 hs hp
    have hs_331 := hs.pull 1 rfl
    exact hkb14 a71 _ xa71 n72 n73 n74 n75 n76 n77 a718 xa718 n79 (IntKind.i64.wrap (n80 + 1)) _ hs_331 hp
  · intro j720p j720 hj720 hp
    refine st_if (Q := F48.Post F ro r) (fun hc_275 => ?_) (fun hc_275 => ?_)
    · replace hp := ifp_t hc_275 hp
      obtain ⟨x_276, hx_277, hp⟩ := bindp_some hp
      refine st_idxR (Q := F48.Post F ro r) (l := xa71) (f := (Value.int .u8)) isO isO hs und22 siz5 agg5 rfl hx_277 ?_
      refine st_int (Q := F48.Post F ro r) ?_
      refine st_if (Q := F48.Post F ro r) (fun hc_278 => ?_) (fun hc_278 => ?_)
      · replace hp := ifp_t hc_278 hp
        have hs_279 := hs.nilOwn ro 1
        have hs_280 := hs_279.pull 1 rfl
        have hs_281 := hs_280.tail
        have hs_282 := hs_281.pull 1 rfl
        have hs_283 := hs_282.tail
        cases hp
        exact ⟨none, _, rfl, hs_283⟩
      · replace hp := ifp_f hc_278 hp
        obtain ⟨r_284, hx_285, hp⟩ := bindp_some hp
        obtain ⟨h_286, e_288, hs_287⟩ := F60.ok hora (ro := ro) (F := .row a71 c71 (xa71.map (Value.int .u8)) :: .own ro a78 1 (xa78.map (Value.int .u8)) :: F) (IntKind.i64.wrap x_276) n75 _ hs hx_285
        refine st_ok (Q := F48.Post F ro r) isO e_288 ?_
        refine st_int (Q := F48.Post F ro r) ?_
        refine st_pushJ (Q := F48.Post F ro r) hs_287 hs_287.low rfl fun h_289 _ hs_290 => ?_
        have hs_296 := hs_290.pull 2 rfl
        obtain ⟨x_291, hx_292, hp⟩ := bindp_some hp
        refine st_appO (Q := F48.Post F ro r) isO (l := xa78) (x := [r_284]) (f := (Value.int .u8)) hs_296 (fun _ => rfl) und22 und22 one5 rfl rfl rfl hx_292 fun a_293 h_294 hs_295 => ?_
        refine st_slice (Q := F48.Post F ro r) ?_
        have hs_297 := hs_295.pull 1 rfl
        have hs_298 := hs_297.tail
        have hs_299 := hs_298.pull 1 rfl
        have hs_300 := hs_299.pull 1 rfl
        exact hj720 a_293 x_291 _ hs_300 hp
    · replace hp := ifp_f hc_275 hp
      obtain ⟨x_301, hx_302, hp⟩ := bindp_some hp
      refine st_idxR (Q := F48.Post F ro r) (l := xa71) (f := (Value.int .u8)) isO isO hs und22 siz5 agg5 rfl hx_302 ?_
      refine st_int (Q := F48.Post F ro r) ?_
      obtain ⟨n_303, hx_304, hp⟩ := bindp_some hp
      refine st_shr (Q := F48.Post F ro r) isO hx_304 ?_
      refine st_int (Q := F48.Post F ro r) ?_
      refine st_if (Q := F48.Post F ro r) (fun hc_305 => ?_) (fun hc_305 => ?_)
      · replace hp := ifp_t hc_305 hp
        refine st_pushJ (Q := F48.Post F ro r) hs hs.low rfl fun h_306 _ hs_307 => ?_
        have hs_313 := hs_307.pull 2 rfl
        obtain ⟨x_308, hx_309, hp⟩ := bindp_some hp
        refine st_appO (Q := F48.Post F ro r) isO (l := xa78) (x := [0]) (f := (Value.int .u8)) hs_313 (fun _ => rfl) und22 und22 one5 rfl rfl rfl hx_309 fun a_310 h_311 hs_312 => ?_
        refine st_slice (Q := F48.Post F ro r) ?_
        have hs_314 := hs_312.pull 1 rfl
        have hs_315 := hs_314.tail
        have hs_316 := hs_315.pull 1 rfl
        have hs_317 := hs_316.pull 1 rfl
        exact hj720 a_310 x_308 _ hs_317 hp
      · replace hp := ifp_f hc_305 hp
        refine st_pushJ (Q := F48.Post F ro r) hs hs.low rfl fun h_318 _ hs_319 => ?_
        have hs_325 := hs_319.pull 2 rfl
        obtain ⟨x_320, hx_321, hp⟩ := bindp_some hp
        refine st_appO (Q := F48.Post F ro r) isO (l := xa78) (x := [255]) (f := (Value.int .u8)) hs_325 (fun _ => rfl) und22 und22 one5 rfl rfl rfl hx_321 fun a_322 h_323 hs_324 => ?_
        refine st_slice (Q := F48.Post F ro r) ?_
        have hs_326 := hs_324.pull 1 rfl
        have hs_327 := hs_326.tail
        have hs_328 := hs_327.pull 1 rfl
        have hs_329 := hs_328.pull 1 rfl
        exact hj720 a_322 x_320 _ hs_329 hp

def F48.L14p (lf : Nat) (kb11p : List Int → Int → Int → Int → Int → Int → Int → List Int → Int → Option (List Int × Int × Int)) : Nat → List Int → Int → Int → Int → Int → Int → Int → List Int → Int → Int → Option (List Int × Int × Int)
  | 0, _, _, _, _, _, _, _, _, _, _ => none
  | n + 1, xa60, n61, n62, n63, n64, n65, n66, xa67, n68, n69 =>
  ifp (decide (n69 < n62)) (
    F48.J16p lf kb11p (F48.L14p lf kb11p n) xa60 n61 n62 n63 n64 n65 n66 xa67 n68 n69) (
    kb11p xa60 n61 n62 n63 n64 n65 n66 xa67 (IntKind.i64.wrap (n68 + 1)))

theorem F48.L14_ok {ora : Ora} (hora : HOra ora) {lf ro : Nat} {F : List Ent} {r : (List Int × Int × Int)} {kb11p : List Int → Int → Int → Int → Int → Int → Int → List Int → Int → Option (List Int × Int × Int)} {kb11 : (Option Addr) → Nat → Nat → Int → Int → Int → Int → Int → Int → (Option Addr) → Nat → Nat → Int → Heap → Out} (hkb11 : ∀ (a40 : Option Addr) (c40 : Nat) (xa40 : List Int) (n41 : Int) (n42 : Int) (n43 : Int) (n44 : Int) (n45 : Int) (n46 : Int) (a47 : Option Addr) (xa47 : List Int) (n48 : Int) (h : Heap), Sat ro h (.row a40 c40 (xa40.map (Value.int .u8)) :: .own ro a47 1 (xa47.map (Value.int .u8)) :: F) → kb11p xa40 n41 n42 n43 n44 n45 n46 xa47 n48 = some r → F48.Post F ro r (kb11 a40 xa40.length c40 n41 n42 n43 n44 n45 n46 a47 xa47.length xa47.length n48 h)) : ∀ (n : Nat) (a60 : Option Addr) (c60 : Nat) (xa60 : List Int) (n61 : Int) (n62 : Int) (n63 : Int) (n64 : Int) (n65 : Int) (n66 : Int) (a67 : Option Addr) (xa67 : List Int) (n68 : Int) (n69 : Int) (h : Heap), Sat ro h (.row a60 c60 (xa60.map (Value.int .u8)) :: .own ro a67 1 (xa67.map (Value.int .u8)) :: F) → F48.L14p lf kb11p n xa60 n61 n62 n63 n64 n65 n66 xa67 n68 n69 = some r → F48.Post F ro r (F48.L14 (callW Tryd.prog ora) lf ro kb11 n a60 xa60.length c60 n61 n62 n63 n64 n65 n66 a67 xa67.length xa67.length n68 n69 h) := by
  intro n
  induction n with
  | zero => intro a60 c60 xa60 n61 n62 n63 n64 n65 n66 a67 xa67 n68 n69 h hs hp; cases hp
  | succ n ih =>
    intro a60 c60 xa60 n61 n62 n63 n64 n65 n66 a67 xa67 n68 n69 h hs hp
    unfold F48.L14
    unfold F48.L14p at hp
    refine st_if (Q := F48.Post F ro r) (fun hc_274 => ?_) (fun hc_274 => ?_)
    · replace hp := ifp_t hc_274 hp
      have hs_332 := hs.pull 1 rfl
      have hs_333 := hs_332.pull 1 rfl
      exact F48.J16_ok hora hkb11 ih a60 _ xa60 n61 n62 n63 n64 n65 n66 a67 xa67 n68 n69 _ hs_333 hp
    · replace hp := ifp_f hc_274 hp
      have hs_334 := hs.pull 1 rfl
      have hs_335 := hs_334.pull 1 rfl
      exact hkb11 a60 _ xa60 n61 n62 n63 n64 n65 n66 a67 xa67 (IntKind.i64.wrap (n68 + 1)) _ hs_335 hp

def F48.J13p (lf : Nat) (kb11p : List Int → Int → Int → Int → Int → Int → Int → List Int → Int → Option (List Int × Int × Int)) (xa50 : List Int) (n51 : Int) (n52 : Int) (n53 : Int) (n54 : Int) (n55 : Int) (n56 : Int) (xa57 : List Int) (n58 : Int) : Option (List Int × Int × Int) :=
  F48.L14p lf kb11p lf xa50 n51 n52 n53 n54 n55 n56 xa57 n58 0

theorem F48.J13_ok {ora : Ora} (hora : HOra ora) {lf ro : Nat} {F : List Ent} {r : (List Int × Int × Int)} {kb11p : List Int → Int → Int → Int → Int → Int → Int → List Int → Int → Option (List Int × Int × Int)} {kb11 : (Option Addr) → Nat → Nat → Int → Int → Int → Int → Int → Int → (Option Addr) → Nat → Nat → Int → Heap → Out} (hkb11 : ∀ (a40 : Option Addr) (c40 : Nat) (xa40 : List Int) (n41 : Int) (n42 : Int) (n43 : Int) (n44 : Int) (n45 : Int) (n46 : Int) (a47 : Option Addr) (xa47 : List Int) (n48 : Int) (h : Heap), Sat ro h (.row a40 c40 (xa40.map (Value.int .u8)) :: .own ro a47 1 (xa47.map (Value.int .u8)) :: F) → kb11p xa40 n41 n42 n43 n44 n45 n46 xa47 n48 = some r → F48.Post F ro r (kb11 a40 xa40.length c40 n41 n42 n43 n44 n45 n46 a47 xa47.length xa47.length n48 h)) (a50 : Option Addr) (c50 : Nat) (xa50 : List Int) (n51 : Int) (n52 : Int) (n53 : Int) (n54 : Int) (n55 : Int) (n56 : Int) (a57 : Option Addr) (xa57 : List Int) (n58 : Int) (h : Heap) (hs : Sat ro h (.row a50 c50 (xa50.map (Value.int .u8)) :: .own ro a57 1 (xa57.map (Value.int .u8)) :: F)) (hp : F48.J13p lf kb11p xa50 n51 n52 n53 n54 n55 n56 xa57 n58 = some r) : F48.Post F ro r (F48.J13 (callW Tryd.prog ora) lf ro kb11 a50 xa50.length c50 n51 n52 n53 n54 n55 n56 a57 xa57.length xa57.length n58 h) := by
  unfold F48.J13
  unfold F48.J13p at hp
  have hs_336 := hs.pull 1 rfl
  have hs_337 := hs_336.pull 1 rfl
  exact F48.L14_ok hora hkb11 lf a50 _ xa50 n51 n52 n53 n54 n55 n56 a57 xa57 n58 0 _ hs_337 hp

def F48.L11p (lf : Nat) : Nat → List Int → Int → Int → Int → Int → Int → Int → List Int → Int → Option (List Int × Int × Int)
  | 0, _, _, _, _, _, _, _, _, _ => none
  | n + 1, xa40, n41, n42, n43, n44, n45, n46, xa47, n48 =>
  ifp (decide (n48 < n43)) (
    F48.J13p lf (F48.L11p lf n) xa40 n41 n42 n43 n44 n45 n46 xa47 n48) (
    some (xa47, IntKind.i64.wrap (n41 + (IntKind.i64.wrap (n46 * n43))), 0))

theorem F48.L11_ok {ora : Ora} (hora : HOra ora) {lf ro : Nat} {F : List Ent} {r : (List Int × Int × Int)} : ∀ (n : Nat) (a40 : Option Addr) (c40 : Nat) (xa40 : List Int) (n41 : Int) (n42 : Int) (n43 : Int) (n44 : Int) (n45 : Int) (n46 : Int) (a47 : Option Addr) (xa47 : List Int) (n48 : Int) (h : Heap), Sat ro h (.row a40 c40 (xa40.map (Value.int .u8)) :: .own ro a47 1 (xa47.map (Value.int .u8)) :: F) → F48.L11p lf n xa40 n41 n42 n43 n44 n45 n46 xa47 n48 = some r → F48.Post F ro r (F48.L11 (callW Tryd.prog ora) lf ro n a40 xa40.length c40 n41 n42 n43 n44 n45 n46 a47 xa47.length xa47.length n48 h) := by
  intro n
  induction n with
  | zero => intro a40 c40 xa40 n41 n42 n43 n44 n45 n46 a47 xa47 n48 h hs hp; cases hp
  | succ n ih =>
    intro a40 c40 xa40 n41 n42 n43 n44 n45 n46 a47 xa47 n48 h hs hp
    unfold F48.L11
    unfold F48.L11p at hp
    refine st_if (Q := F48.Post F ro r) (fun hc_273 => ?_) (fun hc_273 => ?_)
    · replace hp := ifp_t hc_273 hp
      have hs_338 := hs.pull 1 rfl
      have hs_339 := hs_338.pull 1 rfl
      exact F48.J13_ok hora ih a40 _ xa40 n41 n42 n43 n44 n45 n46 a47 xa47 n48 _ hs_339 hp
    · replace hp := ifp_f hc_273 hp
      have hs_340 := hs.tail
      cases hp
      exact ⟨a47, _, rfl, hs_340⟩

def F48.J9p (lf : Nat) (xa32 : List Int) (n33 : Int) (n34 : Int) (n35 : Int) (n36 : Int) (n37 : Int) (n38 : Int) : Option (List Int × Int × Int) :=
  F48.L11p lf lf xa32 n33 n34 n35 n36 n37 n38 [] 0

theorem F48.J9_ok {ora : Ora} (hora : HOra ora) {lf ro : Nat} {F : List Ent} {r : (List Int × Int × Int)} (a32 : Option Addr) (c32 : Nat) (xa32 : List Int) (n33 : Int) (n34 : Int) (n35 : Int) (n36 : Int) (n37 : Int) (n38 : Int) (h : Heap) (hs : Sat ro h (.row a32 c32 (xa32.map (Value.int .u8)) :: F)) (hp : F48.J9p lf xa32 n33 n34 n35 n36 n37 n38 = some r) : F48.Post F ro r (F48.J9 (callW Tryd.prog ora) lf ro a32 xa32.length c32 n33 n34 n35 n36 n37 n38 h) := by
  unfold F48.J9
  unfold F48.J9p at hp
  have hs_341 := hs.nilOwn ro 1
  have hs_342 := hs_341.pull 1 rfl
  exact F48.L11_ok hora lf a32 _ xa32 n33 n34 n35 n36 n37 n38 none [] 0 _ hs_342 hp

def F48.J7p (lf : Nat) (xa24 : List Int) (n25 : Int) (n26 : Int) (n27 : Int) (n28 : Int) (n29 : Int) (n30 : Int) : Option (List Int × Int × Int) :=
  ifp (decide (IntKind.i64.wrap (n30 * n27) > IntKind.i64.wrap ((xa24.length : Int) - n25))) (
    some ([], 0, 10)) (
    F48.J9p lf xa24 n25 n26 n27 n28 n29 n30)

theorem F48.J7_ok {ora : Ora} (hora : HOra ora) {lf ro : Nat} {F : List Ent} {r : (List Int × Int × Int)} (a24 : Option Addr) (c24 : Nat) (xa24 : List Int) (n25 : Int) (n26 : Int) (n27 : Int) (n28 : Int) (n29 : Int) (n30 : Int) (h : Heap) (hs : Sat ro h (.row a24 c24 (xa24.map (Value.int .u8)) :: F)) (hp : F48.J7p lf xa24 n25 n26 n27 n28 n29 n30 = some r) : F48.Post F ro r (F48.J7 (callW Tryd.prog ora) lf ro a24 xa24.length c24 n25 n26 n27 n28 n29 n30 h) := by
  unfold F48.J7
  unfold F48.J7p at hp
  refine st_if (Q := F48.Post F ro r) (fun hc_269 => ?_) (fun hc_269 => ?_)
  · replace hp := ifp_t hc_269 hp
    have hs_270 := hs.nilOwn ro 1
    have hs_271 := hs_270.pull 1 rfl
    have hs_272 := hs_271.tail
    cases hp
    exact ⟨none, _, rfl, hs_272⟩
  · replace hp := ifp_f hc_269 hp
    exact F48.J9_ok hora a24 _ xa24 n25 n26 n27 n28 n29 n30 _ hs hp

def F48.J3p (lf : Nat) (xa17 : List Int) (n18 : Int) (n19 : Int) (n20 : Int) (n21 : Int) (n22 : Int) : Option (List Int × Int × Int) :=
  ifp (n22 == 4) (
    F48.J7p lf xa17 (IntKind.i64.wrap (n18 + 1)) n19 n20 n21 n22 (IntKind.i64.wrap (Int.tdiv (IntKind.i64.wrap (n19 + 7)) 8))) (
    F48.J7p lf xa17 (IntKind.i64.wrap (n18 + 1)) n19 n20 n21 n22 n19)

theorem F48.J3_ok {ora : Ora} (hora : HOra ora) {lf ro : Nat} {F : List Ent} {r : (List Int × Int × Int)} (a17 : Option Addr) (c17 : Nat) (xa17 : List Int) (n18 : Int) (n19 : Int) (n20 : Int) (n21 : Int) (n22 : Int) (h : Heap) (hs : Sat ro h (.row a17 c17 (xa17.map (Value.int .u8)) :: F)) (hp : F48.J3p lf xa17 n18 n19 n20 n21 n22 = some r) : F48.Post F ro r (F48.J3 (callW Tryd.prog ora) lf ro a17 xa17.length c17 n18 n19 n20 n21 n22 h) := by
  unfold F48.J3
  unfold F48.J3p at hp
  refine st_if (Q := F48.Post F ro r) (fun hc_268 => ?_) (fun hc_268 => ?_)
  · replace hp := ifp_t hc_268 hp
    exact F48.J7_ok hora a17 _ xa17 (IntKind.i64.wrap (n18 + 1)) n19 n20 n21 n22 (IntKind.i64.wrap (Int.tdiv (IntKind.i64.wrap (n19 + 7)) 8)) _ hs hp
  · replace hp := ifp_f hc_268 hp
    exact F48.J7_ok hora a17 _ xa17 (IntKind.i64.wrap (n18 + 1)) n19 n20 n21 n22 n19 _ hs hp

def F48.p (lf : Nat) (xax0 : List Int) (x1 : Int) (x2 : Int) (x3 : Int) (x4 : Int) (x5 : Int) : Option (List Int × Int × Int) :=
  bindp (idxp xax0 x1) fun x_257 =>
  bindp (F38.p lf x_257) fun r_259 =>
  ifp (!r_259) (
    some ([], 0, 9)) (
    F48.J3p lf xax0 x1 x2 x3 x4 x5)

theorem F48.t_ok {ora : Ora} (hora : HOra ora) {lf ro : Nat} {F : List Ent} {r : (List Int × Int × Int)} (ax0 : Option Addr) (cx0 : Nat) (xax0 : List Int) (x1 : Int) (x2 : Int) (x3 : Int) (x4 : Int) (x5 : Int) (h : Heap) (hs : Sat ro h (.row ax0 cx0 (xax0.map (Value.int .u8)) :: F)) (hp : F48.p lf xax0 x1 x2 x3 x4 x5 = some r) : F48.Post F ro r (F48.t (callW Tryd.prog ora) lf ro ax0 xax0.length cx0 x1 x2 x3 x4 x5 h) := by
  unfold F48.t
  unfold F48.p at hp
  obtain ⟨x_257, hx_258, hp⟩ := bindp_some hp
  refine st_idxR (Q := F48.Post F ro r) (l := xax0) (f := (Value.int .u8)) isO isO hs und22 siz5 agg5 rfl hx_258 ?_
  refine st_int (Q := F48.Post F ro r) ?_
  obtain ⟨r_259, hx_260, hp⟩ := bindp_some hp
  obtain ⟨h_261, e_263, hs_262⟩ := F38.ok hora (ro := ro) (F := .row ax0 cx0 (xax0.map (Value.int .u8)) :: F) x_257 _ hs hx_260
  refine st_ok (Q := F48.Post F ro r) isO e_263 ?_
  refine st_bool (Q := F48.Post F ro r) ?_
  refine st_if (Q := F48.Post F ro r) (fun hc_264 => ?_) (fun hc_264 => ?_)
  · replace hp := ifp_t hc_264 hp
    have hs_265 := hs_262.nilOwn ro 1
    have hs_266 := hs_265.pull 1 rfl
    have hs_267 := hs_266.tail
    cases hp
    exact ⟨none, _, rfl, hs_267⟩
  · replace hp := ifp_f hc_264 hp
    exact F48.J3_ok hora ax0 _ xax0 x1 x2 x3 x4 x5 _ hs_262 hp

theorem F48.ok {ora : Ora} (hora : HOra ora) {lf ro : Nat} {F : List Ent} {r : (List Int × Int × Int)} (ax0 : Option Addr) (cx0 : Nat) (xax0 : List Int) (x1 : Int) (x2 : Int) (x3 : Int) (x4 : Int) (x5 : Int) (h : Heap) (hs : Sat ro h (.row ax0 cx0 (xax0.map (Value.int .u8)) :: F)) (hp : F48.p lf xax0 x1 x2 x3 x4 x5 = some r) : F48.Post F ro r (callW Tryd.prog ora ro 48 [.slice ax0 xax0.length cx0, .int .i64 x1, .int .i64 x2, .int .i64 x3, .int .i64 x4, .int .i64 x5] h) := by
  have h1 := F48.t_ok hora ax0 cx0 xax0 x1 x2 x3 x4 x5 h hs hp
  have h2 : callW Tryd.prog ora ro 48 [.slice ax0 xax0.length cx0, .int .i64 x1, .int .i64 x2, .int .i64 x3, .int .i64 x4, .int .i64 x5] h = _ := callW_body (hora.none _ _ _ _ (by decide)) Tryd.func48 (F48.le (callW Tryd.prog ora) lf ro ax0 xax0.length cx0 x1 x2 x3 x4 x5 h) (F48.Post.ne h1)
  rw [h2]; exact h1

def F37.Post (F : List Ent) (ro : Nat) (r : (Int × Int × List Int × Int × Int × Int)) (x : Out) : Prop := ∃ a2 h', x = .ok (.tuple #[.agg #[.int .i64 r.1, .int .i64 r.2.1, .slice a2 r.2.2.1.length r.2.2.1.length], .int .i64 r.2.2.2.1, .int .i64 r.2.2.2.2.1, .int .i64 r.2.2.2.2.2]) h' ∧ Sat ro h' (.own ro a2 1 (r.2.2.1.map (Value.int .u8)) :: F)
theorem F37.Post.ne {F : List Ent} {ro : Nat} {r : (Int × Int × List Int × Int × Int × Int)} {x : Out} (hx : F37.Post F ro r x) : x ≠ .fail := by
  obtain ⟨a2, h', rfl, _⟩ := hx
  simp

def F37.J15p (lf : Nat) (mp103_0 : Int) (mp103_1 : Int) (n104 : Int) (n105 : Int) (n106 : Int) (n107 : Int) (n108 : Int) (xa109 : List Int) : Option (Int × Int × List Int × Int × Int × Int) :=
  ifp (n108 != 0) (
    some (0, 0, [], 0, 0, n108)) (
    some (n105, n106, xa109, n104, n107, 0))

theorem F37.J15_ok {ora : Ora} (hora : HOra ora) {lf ro : Nat} {F : List Ent} {r : (Int × Int × List Int × Int × Int × Int)} (p103 : Nat) (mp103_0 : Int) (mp103_1 : Int) (n104 : Int) (n105 : Int) (n106 : Int) (n107 : Int) (n108 : Int) (a109 : Option Addr) (xa109 : List Int) (h : Heap) (hs : Sat ro h (.own ro (some ⟨p103, 0, none⟩) 1 [.int .i64 mp103_0, .int .i64 mp103_1, .slice none 0 0] :: .own ro a109 1 (xa109.map (Value.int .u8)) :: F)) (hp : F37.J15p lf mp103_0 mp103_1 n104 n105 n106 n107 n108 xa109 = some r) : F37.Post F ro r (F37.J15 (callW Tryd.prog ora) lf ro p103 0 n104 n105 n106 n107 n108 a109 xa109.length xa109.length h) := by
  unfold F37.J15
  unfold F37.J15p at hp
  refine st_if (Q := F37.Post F ro r) (fun hc_408 => ?_) (fun hc_408 => ?_)
  · replace hp := ifp_t hc_408 hp
    refine st_storeA (Q := F37.Post F ro r) (vs := [.int .i64 0, .int .i64 0, .slice none 0 0]) isO hs siz24 rfl rfl rfl rfl fun h_409 hs_410 => ?_
    have hc_411 := readCells_at (o := 0) (n := 3) (cs := [.int .i64 0, .int .i64 0, .slice none 0 0]) hs_410 rfl
    refine st_res (Q := F37.Post F ro r) (show resVals _ _ _ _ = some [.agg #[.int .i64 0, .int .i64 0, .slice none 0 0], .int .i64 0, .int .i64 0, .int .i64 n108] from res_cellA ((EF_get (by decide)).trans rfl) agg24 siz24 hc_411 (res_tmp ((EF_get (by decide)).trans rfl) (res_tmp ((EF_get (by decide)).trans rfl) (res_tmp ((EF_get (by decide)).trans rfl) (res_nil))))) ?_
    have hs_412 := hs_410.nilOwn ro 1
    have hs_413 := hs_412.pull 1 rfl
    have hs_414 := hs_413.tail
    have hs_415 := hs_414.pull 1 rfl
    have hs_416 := hs_415.tail
    cases hp
    exact ⟨none, _, rfl, hs_416⟩
  · replace hp := ifp_f hc_408 hp
    refine st_storeA (Q := F37.Post F ro r) (vs := [.int .i64 n105, .int .i64 n106, .slice a109 xa109.length xa109.length]) isO hs siz24 rfl rfl rfl rfl fun h_417 hs_418 => ?_
    have hc_419 := readCells_at (o := 0) (n := 3) (cs := [.int .i64 n105, .int .i64 n106, .slice a109 xa109.length xa109.length]) hs_418 rfl
    refine st_res (Q := F37.Post F ro r) (show resVals _ _ _ _ = some [.agg #[.int .i64 n105, .int .i64 n106, .slice a109 xa109.length xa109.length], .int .i64 n104, .int .i64 n107, .int .i64 0] from res_cellA ((EF_get (by decide)).trans rfl) agg24 siz24 hc_419 (res_tmp ((EF_get (by decide)).trans rfl) (res_tmp ((EF_get (by decide)).trans rfl) (res_tmp ((EF_get (by decide)).trans rfl) (res_nil))))) ?_
    have hs_420 := hs_418.tail
    cases hp
    exact ⟨a109, _, rfl, hs_420⟩

def F37.J9p (lf : Nat) (xa83 : List Int) (mp84_0 : Int) (mp84_1 : Int) (n85 : Int) (n86 : Int) (n87 : Int) (n88 : Int) (n89 : Int) : Option (Int × Int × List Int × Int × Int × Int) :=
  ifp (n85 == 1) (
    bindp (F46.p lf xa83 n89 (IntKind.i64.wrap (n86 * n87))) fun r_402 =>
    F37.J15p lf mp84_0 mp84_1 n85 n86 n87 r_402.2.1 r_402.2.2 r_402.1) (
    ifp (n85 == 2) (
      bindp (F47.p lf xa83 n89 (IntKind.i64.wrap (n86 * n87)) n88) fun r_426 =>
      F37.J15p lf mp84_0 mp84_1 n85 n86 n87 r_426.2.1 r_426.2.2 r_426.1) (
      bindp (F48.p lf xa83 n89 n86 n87 n88 n85) fun r_436 =>
      F37.J15p lf mp84_0 mp84_1 n85 n86 n87 r_436.2.1 r_436.2.2 r_436.1))

theorem F37.J9_ok {ora : Ora} (hora : HOra ora) {lf ro : Nat} {F : List Ent} {r : (Int × Int × List Int × Int × Int × Int)} (a83 : Option Addr) (c83 : Nat) (xa83 : List Int) (p84 : Nat) (mp84_0 : Int) (mp84_1 : Int) (n85 : Int) (n86 : Int) (n87 : Int) (n88 : Int) (n89 : Int) (h : Heap) (hs : Sat ro h (.row a83 c83 (xa83.map (Value.int .u8)) :: .own ro (some ⟨p84, 0, none⟩) 1 [.int .i64 mp84_0, .int .i64 mp84_1, .slice none 0 0] :: F)) (hp : F37.J9p lf xa83 mp84_0 mp84_1 n85 n86 n87 n88 n89 = some r) : F37.Post F ro r (F37.J9 (callW Tryd.prog ora) lf ro a83 xa83.length c83 p84 0 n85 n86 n87 n88 n89 h) := by
  unfold F37.J9
  unfold F37.J9p at hp
  refine st_if (Q := F37.Post F ro r) (fun hc_400 => ?_) (fun hc_400 => ?_)
  · replace hp := ifp_t hc_400 hp
    have hs_401 := hs.dup
    obtain ⟨r_402, hx_403, hp⟩ := bindp_some hp
    obtain ⟨a_407, h_404, e_406, hs_405⟩ := F46.ok hora (ro := ro) (F := .row a83 c83 (xa83.map (Value.int .u8)) :: .own ro (some ⟨p84, 0, none⟩) 1 [.int .i64 mp84_0, .int .i64 mp84_1, .slice none 0 0] :: F) a83 c83 xa83 n89 (IntKind.i64.wrap (n86 * n87)) _ hs_401 hx_403
    refine st_ok (Q := F37.Post F ro r) isO e_406 ?_
    refine st_tup (Q := F37.Post F ro r) (l := [.slice a_407 (r_402.1).length (r_402.1).length, .int .i64 r_402.2.1, .int .i64 r_402.2.2]) ?_
    refine st_cons (Q := F37.Post F ro r) ?_
    refine st_slice (Q := F37.Post F ro r) ?_
    refine st_cons (Q := F37.Post F ro r) ?_
    refine st_int (Q := F37.Post F ro r) ?_
    refine st_cons (Q := F37.Post F ro r) ?_
    refine st_int (Q := F37.Post F ro r) ?_
    refine st_nil (Q := F37.Post F ro r) ?_
    have hs_421 := hs_405.pull 1 rfl
    have hs_422 := hs_421.tail
    have hs_423 := hs_422.pull 1 rfl
    exact F37.J15_ok hora p84 mp84_0 mp84_1 n85 n86 n87 r_402.2.1 r_402.2.2 a_407 r_402.1 _ hs_423 hp
  · replace hp := ifp_f hc_400 hp
    refine st_if (Q := F37.Post F ro r) (fun hc_424 => ?_) (fun hc_424 => ?_)
    · replace hp := ifp_t hc_424 hp
      have hs_425 := hs.dup
      obtain ⟨r_426, hx_427, hp⟩ := bindp_some hp
      obtain ⟨a_431, h_428, e_430, hs_429⟩ := F47.ok hora (ro := ro) (F := .row a83 c83 (xa83.map (Value.int .u8)) :: .own ro (some ⟨p84, 0, none⟩) 1 [.int .i64 mp84_0, .int .i64 mp84_1, .slice none 0 0] :: F) a83 c83 xa83 n89 (IntKind.i64.wrap (n86 * n87)) n88 _ hs_425 hx_427
      refine st_ok (Q := F37.Post F ro r) isO e_430 ?_
      refine st_tup (Q := F37.Post F ro r) (l := [.slice a_431 (r_426.1).length (r_426.1).length, .int .i64 r_426.2.1, .int .i64 r_426.2.2]) ?_
      refine st_cons (Q := F37.Post F ro r) ?_
      refine st_slice (Q := F37.Post F ro r) ?_
      refine st_cons (Q := F37.Post F ro r) ?_
      refine st_int (Q := F37.Post F ro r) ?_
      refine st_cons (Q := F37.Post F ro r) ?_
      refine st_int (Q := F37.Post F ro r) ?_
      refine st_nil (Q := F37.Post F ro r) ?_
      have hs_432 := hs_429.pull 1 rfl
      have hs_433 := hs_432.tail
      have hs_434 := hs_433.pull 1 rfl
      exact F37.J15_ok hora p84 mp84_0 mp84_1 n85 n86 n87 r_426.2.1 r_426.2.2 a_431 r_426.1 _ hs_434 hp
    · replace hp := ifp_f hc_424 hp
      have hs_435 := hs.dup
      obtain ⟨r_436, hx_437, hp⟩ := bindp_some hp
      obtain ⟨a_441, h_438, e_440, hs_439⟩ := F48.ok hora (ro := ro) (F := .row a83 c83 (xa83.map (Value.int .u8)) :: .own ro (some ⟨p84, 0, none⟩) 1 [.int .i64 mp84_0, .int .i64 mp84_1, .slice none 0 0] :: F) a83 c83 xa83 n89 n86 n87 n88 n85 _ hs_435 hx_437
      refine st_ok (Q := F37.Post F ro r) isO e_440 ?_
      refine st_tup (Q := F37.Post F ro r) (l := [.slice a_441 (r_436.1).length (r_436.1).length, .int .i64 r_436.2.1, .int .i64 r_436.2.2]) ?_
      refine st_cons (Q := F37.Post F ro r) ?_
      refine st_slice (Q := F37.Post F ro r) ?_
      refine st_cons (Q := F37.Post F ro r) ?_
      refine st_int (Q := F37.Post F ro r) ?_
      refine st_cons (Q := F37.Post F ro r) ?_
      refine st_int (Q := F37.Post F ro r) ?_
      refine st_nil (Q := F37.Post F ro r) ?_
      have hs_442 := hs_439.pull 1 rfl
      have hs_443 := hs_442.tail
      have hs_444 := hs_443.pull 1 rfl
      exact F37.J15_ok hora p84 mp84_0 mp84_1 n85 n86 n87 r_436.2.1 r_436.2.2 a_441 r_436.1 _ hs_444 hp

def F37.J5p (lf : Nat) (xa30 : List Int) (mp31_0 : Int) (mp31_1 : Int) : Option (Int × Int × List Int × Int × Int × Int) :=
  bindp (idxp xa30 1) fun x_382 =>
  bindp (F45.p lf xa30 (IntKind.i64.wrap ((IntKind.i64.wrap x_382) - 48))) fun r_385 =>
  ifp (r_385.2.2.2.2 != 0) (
    some (0, 0, [], 0, 0, r_385.2.2.2.2)) (
    F37.J9p lf xa30 mp31_0 mp31_1 (IntKind.i64.wrap ((IntKind.i64.wrap x_382) - 48)) r_385.1 r_385.2.1 r_385.2.2.1 r_385.2.2.2.1)

theorem F37.J5_ok {ora : Ora} (hora : HOra ora) {lf ro : Nat} {F : List Ent} {r : (Int × Int × List Int × Int × Int × Int)} (a30 : Option Addr) (c30 : Nat) (xa30 : List Int) (p31 : Nat) (mp31_0 : Int) (mp31_1 : Int) (h : Heap) (hs : Sat ro h (.row a30 c30 (xa30.map (Value.int .u8)) :: .own ro (some ⟨p31, 0, none⟩) 1 [.int .i64 mp31_0, .int .i64 mp31_1, .slice none 0 0] :: F)) (hp : F37.J5p lf xa30 mp31_0 mp31_1 = some r) : F37.Post F ro r (F37.J5 (callW Tryd.prog ora) lf ro a30 xa30.length c30 p31 0 h) := by
  unfold F37.J5
  unfold F37.J5p at hp
  obtain ⟨x_382, hx_383, hp⟩ := bindp_some hp
  refine st_idxR (Q := F37.Post F ro r) (l := xa30) (f := (Value.int .u8)) isO isO hs und22 siz5 agg5 rfl hx_383 ?_
  refine st_int (Q := F37.Post F ro r) ?_
  have hs_384 := hs.dup
  obtain ⟨r_385, hx_386, hp⟩ := bindp_some hp
  obtain ⟨h_387, e_389, hs_388⟩ := F45.ok hora (ro := ro) (F := .row a30 c30 (xa30.map (Value.int .u8)) :: .own ro (some ⟨p31, 0, none⟩) 1 [.int .i64 mp31_0, .int .i64 mp31_1, .slice none 0 0] :: F) a30 c30 xa30 (IntKind.i64.wrap ((IntKind.i64.wrap x_382) - 48)) _ hs_384 hx_386
  refine st_ok (Q := F37.Post F ro r) isO e_389 ?_
  refine st_tup (Q := F37.Post F ro r) (l := [.int .i64 r_385.1, .int .i64 r_385.2.1, .int .i64 r_385.2.2.1, .int .i64 r_385.2.2.2.1, .int .i64 r_385.2.2.2.2]) ?_
  refine st_cons (Q := F37.Post F ro r) ?_
  refine st_int (Q := F37.Post F ro r) ?_
  refine st_cons (Q := F37.Post F ro r) ?_
  refine st_int (Q := F37.Post F ro r) ?_
  refine st_cons (Q := F37.Post F ro r) ?_
  refine st_int (Q := F37.Post F ro r) ?_
  refine st_cons (Q := F37.Post F ro r) ?_
  refine st_int (Q := F37.Post F ro r) ?_
  refine st_cons (Q := F37.Post F ro r) ?_
  refine st_int (Q := F37.Post F ro r) ?_
  refine st_nil (Q := F37.Post F ro r) ?_
  refine st_if (Q := F37.Post F ro r) (fun hc_390 => ?_) (fun hc_390 => ?_)
  · replace hp := ifp_t hc_390 hp
    have hs_391 := hs_388.pull 1 rfl
    refine st_storeA (Q := F37.Post F ro r) (vs := [.int .i64 0, .int .i64 0, .slice none 0 0]) isO hs_391 siz24 rfl rfl rfl rfl fun h_392 hs_393 => ?_
    have hc_394 := readCells_at (o := 0) (n := 3) (cs := [.int .i64 0, .int .i64 0, .slice none 0 0]) hs_393 rfl
    refine st_res (Q := F37.Post F ro r) (show resVals _ _ _ _ = some [.agg #[.int .i64 0, .int .i64 0, .slice none 0 0], .int .i64 0, .int .i64 0, .int .i64 r_385.2.2.2.2] from res_cellA ((EF_get (by decide)).trans rfl) agg24 siz24 hc_394 (res_tmp ((EF_get (by decide)).trans rfl) (res_tmp ((EF_get (by decide)).trans rfl) (res_tmp ((EF_get (by decide)).trans rfl) (res_nil))))) ?_
    have hs_395 := hs_393.nilOwn ro 1
    have hs_396 := hs_395.pull 1 rfl
    have hs_397 := hs_396.tail
    have hs_398 := hs_397.pull 1 rfl
    have hs_399 := hs_398.tail
    cases hp
    exact ⟨none, _, rfl, hs_399⟩
  · replace hp := ifp_f hc_390 hp
    have hs_445 := hs_388.pull 1 rfl
    have hs_446 := hs_445.pull 1 rfl
    exact F37.J9_ok hora a30 _ xa30 p31 mp31_0 mp31_1 (IntKind.i64.wrap ((IntKind.i64.wrap x_382) - 48)) r_385.1 r_385.2.1 r_385.2.2.1 r_385.2.2.2.1 _ hs_446 hp

def F37.J3p (lf : Nat) (xa7 : List Int) (mp8_0 : Int) (mp8_1 : Int) : Option (Int × Int × List Int × Int × Int × Int) :=
  letJ (fun (b23 : Bool) => (
    ifp b23 (
      some (0, 0, [], 0, 0, 25)) (
      F37.J5p lf xa7 mp8_0 mp8_1) : Option (Int × Int × List Int × Int × Int × Int))) fun j25p =>
  ifp (decide ((xa7.length : Int) < 2)) (
    j25p true) (
    bindp (idxp xa7 0) fun x_357 =>
    ifp (x_357 != 80) (
      j25p true) (
      bindp (idxp xa7 1) fun x_362 =>
      bindp (F29.p lf (IntKind.i64.wrap ((IntKind.i64.wrap x_362) - 48))) fun r_364 =>
      j25p (!r_364)))

theorem F37.J3_ok {ora : Ora} (hora : HOra ora) {lf ro : Nat} {F : List Ent} {r : (Int × Int × List Int × Int × Int × Int)} (a7 : Option Addr) (c7 : Nat) (xa7 : List Int) (p8 : Nat) (mp8_0 : Int) (mp8_1 : Int) (h : Heap) (hs : Sat ro h (.row a7 c7 (xa7.map (Value.int .u8)) :: .own ro (some ⟨p8, 0, none⟩) 1 [.int .i64 mp8_0, .int .i64 mp8_1, .slice none 0 0] :: F)) (hp : F37.J3p lf xa7 mp8_0 mp8_1 = some r) : F37.Post F ro r (F37.J3 (callW Tryd.prog ora) lf ro a7 xa7.length c7 p8 0 h) := by
  unfold F37.J3
  unfold F37.J3p at hp
  refine st_letJ hp (fun j25p j25 => ∀ (b23 : Bool) (h_371 : Heap), Sat ro h_371 (.row a7 c7 (xa7.map (Value.int .u8)) :: .own ro (some ⟨p8, 0, none⟩) 1 [.int .i64 mp8_0, .int .i64 mp8_1, .slice none 0 0] :: F) → j25p b23 = some r → F37.Post F ro r (j25 b23 h_371)) ?_ ?_
  · intro b23 h_371 hs hp
    refine st_if (Q := F37.Post F ro r) (fun hc_372 => ?_) (fun hc_372 => ?_)
    · replace hp := ifp_t hc_372 hp
      have hs_373 := hs.pull 1 rfl
      refine st_storeA (Q := F37.Post F ro r) (vs := [.int .i64 0, .int .i64 0, .slice none 0 0]) isO hs_373 siz24 rfl rfl rfl rfl fun h_374 hs_375 => ?_
      have hc_376 := readCells_at (o := 0) (n := 3) (cs := [.int .i64 0, .int .i64 0, .slice none 0 0]) hs_375 rfl
      refine st_res (Q := F37.Post F ro r) (show resVals _ _ _ _ = some [.agg #[.int .i64 0, .int .i64 0, .slice none 0 0], .int .i64 0, .int .i64 0, .int .i64 25] from res_cellA ((EF_get (by decide)).trans rfl) agg24 siz24 hc_376 (res_tmp ((EF_get (by decide)).trans rfl) (res_tmp ((EF_get (by decide)).trans rfl) (res_tmp ((EF_get (by decide)).trans rfl) (res_nil))))) ?_
      have hs_377 := hs_375.nilOwn ro 1
      have hs_378 := hs_377.pull 1 rfl
      have hs_379 := hs_378.tail
      have hs_380 := hs_379.pull 1 rfl
      have hs_381 := hs_380.tail
      cases hp
      exact ⟨none, _, rfl, hs_381⟩
    · replace hp := ifp_f hc_372 hp
      have hs_447 := hs.pull 1 rfl
      have hs_448 := hs_447.pull 1 rfl
      exact F37.J5_ok hora a7 _ xa7 p8 mp8_0 mp8_1 _ hs_448 hp
  · intro j25p j25 hj25 hp
    refine st_if (Q := F37.Post F ro r) (fun hc_354 => ?_) (fun hc_354 => ?_)
    · replace hp := ifp_t hc_354 hp
      have hs_355 := hs.pull 1 rfl
      have hs_356 := hs_355.pull 1 rfl
      exact hj25 true _ hs_356 hp
    · replace hp := ifp_f hc_354 hp
      obtain ⟨x_357, hx_358, hp⟩ := bindp_some hp
      refine st_idxR (Q := F37.Post F ro r) (l := xa7) (f := (Value.int .u8)) isO isO hs und22 siz5 agg5 rfl hx_358 ?_
      refine st_int (Q := F37.Post F ro r) ?_
      refine st_if (Q := F37.Post F ro r) (fun hc_359 => ?_) (fun hc_359 => ?_)
      · replace hp := ifp_t hc_359 hp
        have hs_360 := hs.pull 1 rfl
        have hs_361 := hs_360.pull 1 rfl
        exact hj25 true _ hs_361 hp
      · replace hp := ifp_f hc_359 hp
        obtain ⟨x_362, hx_363, hp⟩ := bindp_some hp
        refine st_idxR (Q := F37.Post F ro r) (l := xa7) (f := (Value.int .u8)) isO isO hs und22 siz5 agg5 rfl hx_363 ?_
        refine st_int (Q := F37.Post F ro r) ?_
        obtain ⟨r_364, hx_365, hp⟩ := bindp_some hp
        obtain ⟨h_366, e_368, hs_367⟩ := F29.ok hora (ro := ro) (F := .row a7 c7 (xa7.map (Value.int .u8)) :: .own ro (some ⟨p8, 0, none⟩) 1 [.int .i64 mp8_0, .int .i64 mp8_1, .slice none 0 0] :: F) (IntKind.i64.wrap ((IntKind.i64.wrap x_362) - 48)) _ hs hx_365
        refine st_ok (Q := F37.Post F ro r) isO e_368 ?_
        refine st_bool (Q := F37.Post F ro r) ?_
        have hs_369 := hs_367.pull 1 rfl
        have hs_370 := hs_369.pull 1 rfl
        exact hj25 (!r_364) _ hs_370 hp

def F37.p (lf : Nat) (xax0 : List Int) : Option (Int × Int × List Int × Int × Int × Int) :=
  ifp (decide ((xax0.length : Int) > 4194304)) (
    some (0, 0, [], 0, 0, 4)) (
    F37.J3p lf xax0 0 0)

theorem F37.t_ok {ora : Ora} (hora : HOra ora) {lf ro : Nat} {F : List Ent} {r : (Int × Int × List Int × Int × Int × Int)} (ax0 : Option Addr) (cx0 : Nat) (xax0 : List Int) (h : Heap) (hs : Sat ro h (.row ax0 cx0 (xax0.map (Value.int .u8)) :: F)) (hp : F37.p lf xax0 = some r) : F37.Post F ro r (F37.t (callW Tryd.prog ora) lf ro ax0 xax0.length cx0 h) := by
  unfold F37.t
  unfold F37.p at hp
  refine st_pushJ (Q := F37.Post F ro r) hs hs.low rfl fun h_343 _ hs_344 => ?_
  refine st_if (Q := F37.Post F ro r) (fun hc_345 => ?_) (fun hc_345 => ?_)
  · replace hp := ifp_t hc_345 hp
    refine st_storeA (Q := F37.Post F ro r) (vs := [.int .i64 0, .int .i64 0, .slice none 0 0]) isO hs_344 siz24 rfl rfl rfl rfl fun h_346 hs_347 => ?_
    have hc_348 := readCells_at (o := 0) (n := 3) (cs := [.int .i64 0, .int .i64 0, .slice none 0 0]) hs_347 rfl
    refine st_res (Q := F37.Post F ro r) (show resVals _ _ _ _ = some [.agg #[.int .i64 0, .int .i64 0, .slice none 0 0], .int .i64 0, .int .i64 0, .int .i64 4] from res_cellA ((EF_get (by decide)).trans rfl) agg24 siz24 hc_348 (res_tmp ((EF_get (by decide)).trans rfl) (res_tmp ((EF_get (by decide)).trans rfl) (res_tmp ((EF_get (by decide)).trans rfl) (res_nil))))) ?_
    have hs_349 := hs_347.nilOwn ro 1
    have hs_350 := hs_349.pull 1 rfl
    have hs_351 := hs_350.tail
    have hs_352 := hs_351.pull 1 rfl
    have hs_353 := hs_352.tail
    cases hp
    exact ⟨none, _, rfl, hs_353⟩
  · replace hp := ifp_f hc_345 hp
    have hs_449 := hs_344.pull 1 rfl
    exact F37.J3_ok hora ax0 _ xax0 h.next 0 0 _ hs_449 hp

theorem F37.ok {ora : Ora} (hora : HOra ora) {lf ro : Nat} {F : List Ent} {r : (Int × Int × List Int × Int × Int × Int)} (ax0 : Option Addr) (cx0 : Nat) (xax0 : List Int) (h : Heap) (hs : Sat ro h (.row ax0 cx0 (xax0.map (Value.int .u8)) :: F)) (hp : F37.p lf xax0 = some r) : F37.Post F ro r (callW Tryd.prog ora ro 37 [.slice ax0 xax0.length cx0] h) := by
  have h1 := F37.t_ok hora ax0 cx0 xax0 h hs hp
  have h2 : callW Tryd.prog ora ro 37 [.slice ax0 xax0.length cx0] h = _ := callW_body (hora.none _ _ _ _ (by decide)) Tryd.func37 (F37.le (callW Tryd.prog ora) lf ro ax0 xax0.length cx0 h) (F37.Post.ne h1)
  rw [h2]; exact h1

def F18.Post (F : List Ent) (ro : Nat) (r : (List Img × Int)) (x : Out) : Prop := ∃ a0 y0 h', x = .ok (.tuple #[.slice a0 r.1.length r.1.length, .int .i64 r.2]) h' ∧ Sat ro h' (.own ro a0 3 (imgC y0 0 r.1) :: .rows (imgR y0 0 r.1) :: F)
theorem F18.Post.ne {F : List Ent} {ro : Nat} {r : (List Img × Int)} {x : Out} (hx : F18.Post F ro r x) : x ≠ .fail := by
  obtain ⟨a0, y0, h', rfl, _⟩ := hx
  simp

def F18.L9p (lf : Nat) (kb3p : List Int → List Img → Int → Option (List Img × Int)) : Nat → List Int → List Img → Int → Option (List Img × Int)
  | 0, _, _, _ => none
  | n + 1, xa109, xa110, n111 =>
  letJ (fun (b140 : Bool) => (
    ifp b140 (
      F18.L9p lf kb3p n xa109 xa110 (IntKind.i64.wrap (n111 + 1))) (
      kb3p xa109 xa110 n111) : Option (List Img × Int))) fun j142p =>
  ifp (decide (n111 < (xa109.length : Int))) (
    bindp (idxp xa109 n111) fun x_506 =>
    bindp (F38.p lf x_506) fun r_508 =>
    j142p r_508) (
    j142p false)

theorem F18.L9_ok {ora : Ora} (hora : HOra ora) {lf ro : Nat} {F : List Ent} {r : (List Img × Int)} {kb3p : List Int → List Img → Int → Option (List Img × Int)} {kb3 : (Option Addr) → Nat → Nat → (Option Addr) → Nat → Nat → Int → Heap → Out} (hkb3 : ∀ (a1 : Option Addr) (c1 : Nat) (xa1 : List Int) (a2 : Option Addr) (ya2 : Dec) (xa2 : List Img) (n3 : Int) (h : Heap), Sat ro h (.row a1 c1 (xa1.map (Value.int .u8)) :: .own ro a2 3 (imgC ya2 0 xa2) :: .rows (imgR ya2 0 xa2) :: F) → kb3p xa1 xa2 n3 = some r → F18.Post F ro r (kb3 a1 xa1.length c1 a2 xa2.length xa2.length n3 h)) : ∀ (n : Nat) (a109 : Option Addr) (c109 : Nat) (xa109 : List Int) (a110 : Option Addr) (ya110 : Dec) (xa110 : List Img) (n111 : Int) (h : Heap), Sat ro h (.row a109 c109 (xa109.map (Value.int .u8)) :: .own ro a110 3 (imgC ya110 0 xa110) :: .rows (imgR ya110 0 xa110) :: F) → F18.L9p lf kb3p n xa109 xa110 n111 = some r → F18.Post F ro r (F18.L9 (callW Tryd.prog ora) lf ro kb3 n a109 xa109.length c109 a110 xa110.length xa110.length n111 h) := by
  intro n
  induction n with
  | zero => intro a109 c109 xa109 a110 ya110 xa110 n111 h hs hp; cases hp
  | succ n ih =>
    intro a109 c109 xa109 a110 ya110 xa110 n111 h hs hp
    unfold F18.L9
    unfold F18.L9p at hp
    refine st_letJ hp (fun j142p j142 => ∀ (b140 : Bool) (h_519 : Heap), Sat ro h_519 (.row a109 c109 (xa109.map (Value.int .u8)) :: .own ro a110 3 (imgC ya110 0 xa110) :: .rows (imgR ya110 0 xa110) :: F) → j142p b140 = some r → F18.Post F ro r (j142 b140 h_519)) ?_ ?_
    · intro b140 h_519 hs hp
      refine st_if (Q := F18.Post F ro r) (fun hc_520 => ?_) (fun hc_520 => ?_)
      · replace hp := ifp_t hc_520 hp
        have hs_521 := hs.pull 2 rfl
        have hs_522 := hs_521.pull 2 rfl
        have hs_523 := hs_522.pull 2 rfl
        exact ih a109 _ xa109 a110 ya110 xa110 (IntKind.i64.wrap (n111 + 1)) _ hs_523 hp
      · replace hp := ifp_f hc_520 hp
        have hs_524 := hs.pull 2 rfl
        have hs_525 := hs_524.pull 2 rfl
        have hs_526 := hs_525.pull 2 rfl
        exact hkb3 a109 _ xa109 a110 ya110 xa110 n111 _ hs_526 hp
    · intro j142p j142 hj142 hp
      refine st_if (Q := F18.Post F ro r) (fun hc_505 => ?_) (fun hc_505 => ?_)
      · replace hp := ifp_t hc_505 hp
        obtain ⟨x_506, hx_507, hp⟩ := bindp_some hp
        refine st_idxR (Q := F18.Post F ro r) (l := xa109) (f := (Value.int .u8)) isO isO hs und22 siz5 agg5 rfl hx_507 ?_
        refine st_int (Q := F18.Post F ro r) ?_
        obtain ⟨r_508, hx_509, hp⟩ := bindp_some hp
        obtain ⟨h_510, e_512, hs_511⟩ := F38.ok hora (ro := ro) (F := .row a109 c109 (xa109.map (Value.int .u8)) :: .own ro a110 3 (imgC ya110 0 xa110) :: .rows (imgR ya110 0 xa110) :: F) x_506 _ hs hx_509
        refine st_ok (Q := F18.Post F ro r) isO e_512 ?_
        refine st_bool (Q := F18.Post F ro r) ?_
        have hs_513 := hs_511.pull 2 rfl
        have hs_514 := hs_513.pull 2 rfl
        have hs_515 := hs_514.pull 2 rfl
        exact hj142 r_508 _ hs_515 hp
      · replace hp := ifp_f hc_505 hp
        have hs_516 := hs.pull 2 rfl
        have hs_517 := hs_516.pull 2 rfl
        have hs_518 := hs_517.pull 2 rfl
        exact hj142 false _ hs_518 hp

def F18.J7p (lf : Nat) (kb3p : List Int → List Img → Int → Option (List Img × Int)) (xa71 : List Int) (xa72 : List Img) (n73 : Int) (mp74_0 : Int) (mp74_1 : Int) (xp74_2 : List Int) (n75 : Int) : Option (List Img × Int) :=
  bindp (appp 40 xa72 [(mp74_0, mp74_1, xp74_2)]) fun x_499 =>
  F18.L9p lf kb3p lf xa71 x_499 (IntKind.i64.wrap (n73 + n75))

theorem F18.J7_ok {ora : Ora} (hora : HOra ora) {lf ro : Nat} {F : List Ent} {r : (List Img × Int)} {kb3p : List Int → List Img → Int → Option (List Img × Int)} {kb3 : (Option Addr) → Nat → Nat → (Option Addr) → Nat → Nat → Int → Heap → Out} (hkb3 : ∀ (a1 : Option Addr) (c1 : Nat) (xa1 : List Int) (a2 : Option Addr) (ya2 : Dec) (xa2 : List Img) (n3 : Int) (h : Heap), Sat ro h (.row a1 c1 (xa1.map (Value.int .u8)) :: .own ro a2 3 (imgC ya2 0 xa2) :: .rows (imgR ya2 0 xa2) :: F) → kb3p xa1 xa2 n3 = some r → F18.Post F ro r (kb3 a1 xa1.length c1 a2 xa2.length xa2.length n3 h)) (a71 : Option Addr) (c71 : Nat) (xa71 : List Int) (a72 : Option Addr) (ya72 : Dec) (xa72 : List Img) (n73 : Int) (p74 : Nat) (mp74_0 : Int) (mp74_1 : Int) (ap74_2 : Option Addr) (xp74_2 : List Int) (n75 : Int) (h : Heap) (hs : Sat ro h (.row a71 c71 (xa71.map (Value.int .u8)) :: .own ro a72 3 (imgC ya72 0 xa72) :: .rows (imgR ya72 0 xa72) :: .own ro (some ⟨p74, 0, none⟩) 1 [.int .i64 mp74_0, .int .i64 mp74_1, .slice ap74_2 xp74_2.length xp74_2.length] :: .own ro ap74_2 1 (xp74_2.map (Value.int .u8)) :: F)) (hp : F18.J7p lf kb3p xa71 xa72 n73 mp74_0 mp74_1 xp74_2 n75 = some r) : F18.Post F ro r (F18.J7 (callW Tryd.prog ora) lf ro kb3 a71 xa71.length c71 a72 xa72.length xa72.length n73 p74 0 n75 h) := by
  unfold F18.J7
  unfold F18.J7p at hp
  have hs_491 := hs.pull 3 rfl
  refine st_loadA (Q := F18.Post F ro r) isO hs_491 agg24 siz24 rfl ?_
  refine st_agg (Q := F18.Post F ro r) (l := [.int .i64 mp74_0, .int .i64 mp74_1, .slice ap74_2 xp74_2.length xp74_2.length]) ?_
  refine st_cons (Q := F18.Post F ro r) ?_
  refine st_int (Q := F18.Post F ro r) ?_
  refine st_cons (Q := F18.Post F ro r) ?_
  refine st_int (Q := F18.Post F ro r) ?_
  refine st_cons (Q := F18.Post F ro r) ?_
  refine st_slice (Q := F18.Post F ro r) ?_
  refine st_nil (Q := F18.Post F ro r) ?_
  refine st_pushJ (Q := F18.Post F ro r) hs_491 hs_491.low rfl fun h_492 _ hs_493 => ?_
  have hs_494 := hs_493.pull 5 rfl
  have hs_495 := Sat.weakM (x := xp74_2) (f := (Value.int .u8)) hs_494
  have hs_496 := hs_495.pull 1 rfl
  have hs_497 := hs_496.pull 5 rfl
  have hs_498 := hs_497.pull 5 rfl
  obtain ⟨x_499, hx_500, hp⟩ := bindp_some hp
  refine st_imgA (Q := F18.Post F ro r) isO hs_498 und41 und41 many24 rfl rfl hx_500 fun a_501 h_502 y_503 hs_504 => ?_
  refine st_slice (Q := F18.Post F ro r) ?_
  have hs_527 := hs_504.pull 2 rfl
  have hs_528 := hs_527.tail
  have hs_529 := hs_528.pull 2 rfl
  have hs_530 := hs_529.tail
  have hs_531 := hs_530.pull 1 rfl
  have hs_532 := hs_531.pull 1 rfl
  have hs_533 := hs_532.pull 2 rfl
  exact F18.L9_ok hora hkb3 lf a71 _ xa71 a_501 y_503 x_499 (IntKind.i64.wrap (n73 + n75)) _ hs_533 hp

def F18.J4p (lf : Nat) (kb3p : List Int → List Img → Int → Option (List Img × Int)) (xa7 : List Int) (xa8 : List Img) (n9 : Int) : Option (List Img × Int) :=
  bindp (subp xa7 n9 (xa7.length : Int)) fun x_459 =>
  bindp (F37.p lf x_459) fun r_465 =>
  ifp (r_465.2.2.2.2.2 != 0) (
    some ([], r_465.2.2.2.2.2)) (
    F18.J7p lf kb3p xa7 xa8 n9 r_465.1 r_465.2.1 r_465.2.2.1 r_465.2.2.2.2.1)

theorem F18.J4_ok {ora : Ora} (hora : HOra ora) {lf ro : Nat} {F : List Ent} {r : (List Img × Int)} {kb3p : List Int → List Img → Int → Option (List Img × Int)} {kb3 : (Option Addr) → Nat → Nat → (Option Addr) → Nat → Nat → Int → Heap → Out} (hkb3 : ∀ (a1 : Option Addr) (c1 : Nat) (xa1 : List Int) (a2 : Option Addr) (ya2 : Dec) (xa2 : List Img) (n3 : Int) (h : Heap), Sat ro h (.row a1 c1 (xa1.map (Value.int .u8)) :: .own ro a2 3 (imgC ya2 0 xa2) :: .rows (imgR ya2 0 xa2) :: F) → kb3p xa1 xa2 n3 = some r → F18.Post F ro r (kb3 a1 xa1.length c1 a2 xa2.length xa2.length n3 h)) (a7 : Option Addr) (c7 : Nat) (xa7 : List Int) (a8 : Option Addr) (ya8 : Dec) (xa8 : List Img) (n9 : Int) (h : Heap) (hs : Sat ro h (.row a7 c7 (xa7.map (Value.int .u8)) :: .own ro a8 3 (imgC ya8 0 xa8) :: .rows (imgR ya8 0 xa8) :: F)) (hp : F18.J4p lf kb3p xa7 xa8 n9 = some r) : F18.Post F ro r (F18.J4 (callW Tryd.prog ora) lf ro kb3 a7 xa7.length c7 a8 xa8.length xa8.length n9 h) := by
  unfold F18.J4
  unfold F18.J4p at hp
  obtain ⟨x_459, hx_460, hp⟩ := bindp_some hp
  refine st_subR (Q := F18.Post F ro r) (l := xa7) (f := (Value.int .u8)) isO hs und22 siz5 rfl (.inr ⟨_, rfl⟩) (.inl ⟨rfl, rfl⟩) hx_460 fun a_461 c_462 hs_463 => ?_
  refine st_slice (Q := F18.Post F ro r) ?_
  have hs_464 := hs_463.dup
  obtain ⟨r_465, hx_466, hp⟩ := bindp_some hp
  obtain ⟨a_470, h_467, e_469, hs_468⟩ := F37.ok hora (ro := ro) (F := .row a_461 c_462 (x_459.map (Value.int .u8)) :: .row a7 c7 (xa7.map (Value.int .u8)) :: .own ro a8 3 (imgC ya8 0 xa8) :: .rows (imgR ya8 0 xa8) :: F) a_461 c_462 x_459 _ hs_464 hx_466
  refine st_ok (Q := F18.Post F ro r) isO e_469 ?_
  refine st_tup (Q := F18.Post F ro r) (l := [.agg #[.int .i64 r_465.1, .int .i64 r_465.2.1, .slice a_470 (r_465.2.2.1).length (r_465.2.2.1).length], .int .i64 r_465.2.2.2.1, .int .i64 r_465.2.2.2.2.1, .int .i64 r_465.2.2.2.2.2]) ?_
  refine st_cons (Q := F18.Post F ro r) ?_
  refine st_agg (Q := F18.Post F ro r) (l := [.int .i64 r_465.1, .int .i64 r_465.2.1, .slice a_470 (r_465.2.2.1).length (r_465.2.2.1).length]) ?_
  refine st_cons (Q := F18.Post F ro r) ?_
  refine st_int (Q := F18.Post F ro r) ?_
  refine st_cons (Q := F18.Post F ro r) ?_
  refine st_int (Q := F18.Post F ro r) ?_
  refine st_cons (Q := F18.Post F ro r) ?_
  refine st_slice (Q := F18.Post F ro r) ?_
  refine st_nil (Q := F18.Post F ro r) ?_
  refine st_cons (Q := F18.Post F ro r) ?_
  refine st_int (Q := F18.Post F ro r) ?_
  refine st_cons (Q := F18.Post F ro r) ?_
  refine st_int (Q := F18.Post F ro r) ?_
  refine st_cons (Q := F18.Post F ro r) ?_
  refine st_int (Q := F18.Post F ro r) ?_
  refine st_nil (Q := F18.Post F ro r) ?_
  refine st_pushJ (Q := F18.Post F ro r) hs_468 hs_468.low rfl fun h_471 _ hs_472 => ?_
  refine st_storeA (Q := F18.Post F ro r) (vs := [.int .i64 r_465.1, .int .i64 r_465.2.1, .slice a_470 (r_465.2.2.1).length (r_465.2.2.1).length]) isO hs_472 siz24 rfl rfl rfl rfl fun h_473 hs_474 => ?_
  refine st_if (Q := F18.Post F ro r) (fun hc_475 => ?_) (fun hc_475 => ?_)
  · replace hp := ifp_t hc_475 hp
    have hs_476 := hs_474.nilImgs
    have hs_477 := hs_476.pull 2 rfl
    have hs_478 := hs_477.tail
    have hs_479 := hs_478.pull 2 rfl
    have hs_480 := hs_479.tail
    have hs_481 := hs_480.pull 2 rfl
    have hs_482 := hs_481.tail
    have hs_483 := hs_482.pull 2 rfl
    have hs_484 := hs_483.tail
    have hs_485 := hs_484.pull 2 rfl
    have hs_486 := hs_485.tail
    have hs_487 := hs_486.pull 2 rfl
    have hs_488 := hs_487.tail
    have hs_489 := hs_488.pull 1 rfl
    have hs_490 := hs_489.pull 1 rfl
    cases hp
    exact ⟨none, nilD, _, rfl, hs_490⟩
  · replace hp := ifp_f hc_475 hp
    have hs_534 := hs_474.pull 2 rfl
    have hs_535 := hs_534.tail
    have hs_536 := hs_535.pull 1 rfl
    have hs_537 := hs_536.pull 1 rfl
    have hs_538 := hs_537.pull 4 rfl
    have hs_539 := hs_538.pull 4 rfl
    have hs_540 := hs_539.pull 4 rfl
    exact F18.J7_ok hora hkb3 a7 _ xa7 a8 ya8 xa8 n9 h_467.next r_465.1 r_465.2.1 a_470 r_465.2.2.1 r_465.2.2.2.2.1 _ hs_540 hp

def F18.L3p (lf : Nat) : Nat → List Int → List Img → Int → Option (List Img × Int)
  | 0, _, _, _ => none
  | n + 1, xa1, xa2, n3 =>
  letJ (fun (b254 : Bool) => (
    ifp b254 (
      F18.J4p lf (F18.L3p lf n) xa1 xa2 n3) (
      some (xa2, 0)) : Option (List Img × Int))) fun j255p =>
  ifp ((xa2.length : Int) == 0) (
    j255p true) (
    j255p (decide (n3 < (xa1.length : Int))))

theorem F18.L3_ok {ora : Ora} (hora : HOra ora) {lf ro : Nat} {F : List Ent} {r : (List Img × Int)} : ∀ (n : Nat) (a1 : Option Addr) (c1 : Nat) (xa1 : List Int) (a2 : Option Addr) (ya2 : Dec) (xa2 : List Img) (n3 : Int) (h : Heap), Sat ro h (.row a1 c1 (xa1.map (Value.int .u8)) :: .own ro a2 3 (imgC ya2 0 xa2) :: .rows (imgR ya2 0 xa2) :: F) → F18.L3p lf n xa1 xa2 n3 = some r → F18.Post F ro r (F18.L3 (callW Tryd.prog ora) lf ro n a1 xa1.length c1 a2 xa2.length xa2.length n3 h) := by
  intro n
  induction n with
  | zero => intro a1 c1 xa1 a2 ya2 xa2 n3 h hs hp; cases hp
  | succ n ih =>
    intro a1 c1 xa1 a2 ya2 xa2 n3 h hs hp
    unfold F18.L3
    unfold F18.L3p at hp
    refine st_letJ hp (fun j255p j255 => ∀ (b254 : Bool), Sat ro h (.row a1 c1 (xa1.map (Value.int .u8)) :: .own ro a2 3 (imgC ya2 0 xa2) :: .rows (imgR ya2 0 xa2) :: F) → j255p b254 = some r → F18.Post F ro r (j255 b254)) ?_ ?_
    · intro b254 hs hp
      refine st_if (Q := F18.Post F ro r) (fun hc_458 => ?_) (fun hc_458 => ?_)
      · replace hp := ifp_t hc_458 hp
        have hs_541 := hs.pull 2 rfl
        have hs_542 := hs_541.pull 2 rfl
        have hs_543 := hs_542.pull 2 rfl
        exact F18.J4_ok hora ih a1 _ xa1 a2 ya2 xa2 n3 _ hs_543 hp
      · replace hp := ifp_f hc_458 hp
        have hs_544 := hs.tail
        have hs_545 := hs_544.pull 1 rfl
        have hs_546 := hs_545.pull 1 rfl
        cases hp
        exact ⟨a2, ya2, _, rfl, hs_546⟩
    · intro j255p j255 hj255 hp
      refine st_if (Q := F18.Post F ro r) (fun hc_450 => ?_) (fun hc_450 => ?_)
      · replace hp := ifp_t hc_450 hp
        have hs_451 := hs.pull 2 rfl
        have hs_452 := hs_451.pull 2 rfl
        have hs_453 := hs_452.pull 2 rfl
        exact hj255 true hs_453 hp
      · replace hp := ifp_f hc_450 hp
        have hs_454 := hs.pull 2 rfl
        have hs_455 := hs_454.pull 2 rfl
        have hs_456 := hs_455.pull 2 rfl
        exact hj255 (decide (n3 < (xa1.length : Int))) hs_456 hp

def F18.p (lf : Nat) (xax0 : List Int) : Option (List Img × Int) :=
  F18.L3p lf lf xax0 [] 0

theorem F18.t_ok {ora : Ora} (hora : HOra ora) {lf ro : Nat} {F : List Ent} {r : (List Img × Int)} (ax0 : Option Addr) (cx0 : Nat) (xax0 : List Int) (h : Heap) (hs : Sat ro h (.row ax0 cx0 (xax0.map (Value.int .u8)) :: F)) (hp : F18.p lf xax0 = some r) : F18.Post F ro r (F18.t (callW Tryd.prog ora) lf ro ax0 xax0.length cx0 h) := by
  unfold F18.t
  unfold F18.p at hp
  have hs_547 := hs.nilImgs
  have hs_548 := hs_547.pull 1 rfl
  have hs_549 := hs_548.pull 1 rfl
  have hs_550 := hs_549.pull 2 rfl
  exact F18.L3_ok hora lf ax0 _ xax0 none nilD [] 0 _ hs_550 hp

theorem F18.ok {ora : Ora} (hora : HOra ora) {lf ro : Nat} {F : List Ent} {r : (List Img × Int)} (ax0 : Option Addr) (cx0 : Nat) (xax0 : List Int) (h : Heap) (hs : Sat ro h (.row ax0 cx0 (xax0.map (Value.int .u8)) :: F)) (hp : F18.p lf xax0 = some r) : F18.Post F ro r (callW Tryd.prog ora ro 18 [.slice ax0 xax0.length cx0] h) := by
  have h1 := F18.t_ok hora ax0 cx0 xax0 h hs hp
  have h2 : callW Tryd.prog ora ro 18 [.slice ax0 xax0.length cx0] h = _ := callW_body (hora.none _ _ _ _ (by decide)) Tryd.func18 (F18.le (callW Tryd.prog ora) lf ro ax0 xax0.length cx0 h) (F18.Post.ne h1)
  rw [h2]; exact h1

def F17.Post (F : List Ent) (ro : Nat) (r : (List Img × Int)) (x : Out) : Prop := ∃ a0 y0 h', x = .ok (.tuple #[.slice a0 r.1.length r.1.length, .int .i64 r.2]) h' ∧ Sat ro h' (.own ro a0 3 (imgC y0 0 r.1) :: .rows (imgR y0 0 r.1) :: F)
theorem F17.Post.ne {F : List Ent} {ro : Nat} {r : (List Img × Int)} {x : Out} (hx : F17.Post F ro r x) : x ≠ .fail := by
  obtain ⟨a0, y0, h', rfl, _⟩ := hx
  simp

def F17.L12p (lf : Nat) (kb6p : List Int → List Img → List Int → Int → Bool → Option (List Img × Int)) : Nat → List Int → List Img → List Int → Int → Option (List Img × Int)
  | 0, _, _, _, _ => none
  | n + 1, xa99, xa100, xp101_0, mp101_1 =>
  letJ ((
    kb6p xa99 xa100 xp101_0 mp101_1 (decide (mp101_1 < (xa99.length : Int))) : Option (List Img × Int))) fun j371p =>
  letJ (fun (b389 : Bool) => (
    ifp b389 (
      F17.L12p lf kb6p n xa99 xa100 xp101_0 (IntKind.i64.wrap (mp101_1 + 1))) (
      j371p) : Option (List Img × Int))) fun j391p =>
  ifp (decide (mp101_1 < (xa99.length : Int))) (
    bindp (idxp xa99 mp101_1) fun x_607 =>
    bindp (F36.p lf x_607) fun r_610 =>
    j391p r_610) (
    j391p false)

theorem F17.L12_ok {ora : Ora} (hora : HOra9 ora) {lf ro : Nat} {F : List Ent} {r : (List Img × Int)} {kb6p : List Int → List Img → List Int → Int → Bool → Option (List Img × Int)} {kb6 : (Option Addr) → Nat → Nat → (Option Addr) → Nat → Nat → Nat → Nat → Bool → Heap → Out} (hkb6 : ∀ (a5 : Option Addr) (c5 : Nat) (xa5 : List Int) (a6 : Option Addr) (ya6 : Dec) (xa6 : List Img) (p7 : Nat) (ap7_0 : Option Addr) (cp7_0 : Nat) (xp7_0 : List Int) (mp7_1 : Int) (b8 : Bool) (h : Heap), Sat ro h (.row a5 c5 (xa5.map (Value.int .u8)) :: .own ro a6 3 (imgC ya6 0 xa6) :: .rows (imgR ya6 0 xa6) :: .own ro (some ⟨p7, 0, none⟩) 1 [.slice ap7_0 xp7_0.length cp7_0, .int .i64 mp7_1] :: .row ap7_0 cp7_0 (xp7_0.map (Value.int .u8)) :: F) → kb6p xa5 xa6 xp7_0 mp7_1 b8 = some r → F17.Post F ro r (kb6 a5 xa5.length c5 a6 xa6.length xa6.length p7 0 b8 h)) : ∀ (n : Nat) (a99 : Option Addr) (c99 : Nat) (xa99 : List Int) (a100 : Option Addr) (ya100 : Dec) (xa100 : List Img) (p101 : Nat) (ap101_0 : Option Addr) (cp101_0 : Nat) (xp101_0 : List Int) (mp101_1 : Int) (h : Heap), Sat ro h (.row a99 c99 (xa99.map (Value.int .u8)) :: .own ro a100 3 (imgC ya100 0 xa100) :: .rows (imgR ya100 0 xa100) :: .own ro (some ⟨p101, 0, none⟩) 1 [.slice ap101_0 xp101_0.length cp101_0, .int .i64 mp101_1] :: .row ap101_0 cp101_0 (xp101_0.map (Value.int .u8)) :: F) → F17.L12p lf kb6p n xa99 xa100 xp101_0 mp101_1 = some r → F17.Post F ro r (F17.L12 (callW Tryd.prog ora) lf ro kb6 n a99 xa99.length c99 a100 xa100.length xa100.length p101 0 h) := by
  intro n
  induction n with
  | zero => intro a99 c99 xa99 a100 ya100 xa100 p101 ap101_0 cp101_0 xp101_0 mp101_1 h hs hp; cases hp
  | succ n ih =>
    intro a99 c99 xa99 a100 ya100 xa100 p101 ap101_0 cp101_0 xp101_0 mp101_1 h hs hp
    unfold F17.L12
    unfold F17.L12p at hp
    refine st_letJ hp (fun j371p j371 => ∀  (h_640 : Heap), Sat ro h_640 (.row a99 c99 (xa99.map (Value.int .u8)) :: .own ro a100 3 (imgC ya100 0 xa100) :: .rows (imgR ya100 0 xa100) :: .own ro (some ⟨p101, 0, none⟩) 1 [.slice ap101_0 xp101_0.length cp101_0, .int .i64 mp101_1] :: .row ap101_0 cp101_0 (xp101_0.map (Value.int .u8)) :: F) → j371p = some r → F17.Post F ro r (j371 h_640)) ?_ ?_
    · intro  h_640 hs hp
      have hs_641 := hs.pull 3 rfl
      refine st_load (Q := F17.Post F ro r) isO hs_641 agg3 rfl ?_
      refine st_int (Q := F17.Post F ro r) ?_
      have hs_642 := hs_641.pull 4 rfl
      have hs_643 := hs_642.pull 1 rfl
      have hs_644 := hs_643.pull 4 rfl
      have hs_645 := hs_644.pull 4 rfl
      have hs_646 := hs_645.pull 4 rfl
      exact hkb6 a99 _ xa99 a100 ya100 xa100 p101 ap101_0 _ xp101_0 mp101_1 (decide (mp101_1 < (xa99.length : Int))) _ hs_646 hp
    · intro j371p j371 hj371 hp
      refine st_letJ hp (fun j391p j391 => ∀ (b389 : Bool) (h_625 : Heap), Sat ro h_625 (.row a99 c99 (xa99.map (Value.int .u8)) :: .own ro a100 3 (imgC ya100 0 xa100) :: .rows (imgR ya100 0 xa100) :: .own ro (some ⟨p101, 0, none⟩) 1 [.slice ap101_0 xp101_0.length cp101_0, .int .i64 mp101_1] :: .row ap101_0 cp101_0 (xp101_0.map (Value.int .u8)) :: F) → j391p b389 = some r → F17.Post F ro r (j391 b389 h_625)) ?_ ?_
      · intro b389 h_625 hs hp
        refine st_if (Q := F17.Post F ro r) (fun hc_626 => ?_) (fun hc_626 => ?_)
        · replace hp := ifp_t hc_626 hp
          have hs_627 := hs.pull 3 rfl
          refine st_load (Q := F17.Post F ro r) isO hs_627 agg3 rfl ?_
          refine st_int (Q := F17.Post F ro r) ?_
          refine st_store (Q := F17.Post F ro r) isO hs_627 siz3 rfl (Nat.le_of_ble_eq_true rfl) fun h_628 hs_629 => ?_
          have hs_630 := hs_629.pull 4 rfl
          have hs_631 := hs_630.pull 1 rfl
          have hs_632 := hs_631.pull 4 rfl
          have hs_633 := hs_632.pull 4 rfl
          have hs_634 := hs_633.pull 4 rfl
          exact ih a99 _ xa99 a100 ya100 xa100 p101 ap101_0 _ xp101_0 (IntKind.i64.wrap (mp101_1 + 1)) _ hs_634 hp
        · replace hp := ifp_f hc_626 hp
          have hs_635 := hs.pull 4 rfl
          have hs_636 := hs_635.pull 4 rfl
          have hs_637 := hs_636.pull 4 rfl
          have hs_638 := hs_637.pull 4 rfl
          have hs_639 := hs_638.pull 4 rfl
          exact hj371 _ hs_639 hp
      · intro j391p j391 hj391 hp
        have hs_605 := hs.pull 3 rfl
        refine st_load (Q := F17.Post F ro r) isO hs_605 agg3 rfl ?_
        refine st_int (Q := F17.Post F ro r) ?_
        refine st_if (Q := F17.Post F ro r) (fun hc_606 => ?_) (fun hc_606 => ?_)
        · replace hp := ifp_t hc_606 hp
          refine st_load (Q := F17.Post F ro r) isO hs_605 agg3 rfl ?_
          refine st_int (Q := F17.Post F ro r) ?_
          have hs_609 := hs_605.pull 1 rfl
          obtain ⟨x_607, hx_608, hp⟩ := bindp_some hp
          refine st_idxR (Q := F17.Post F ro r) (l := xa99) (f := (Value.int .u8)) isO isO hs_609 und22 siz5 agg5 rfl hx_608 ?_
          refine st_int (Q := F17.Post F ro r) ?_
          obtain ⟨r_610, hx_611, hp⟩ := bindp_some hp
          obtain ⟨h_612, e_614, hs_613⟩ := F36.ok hora.toHOra (ro := ro) (F := .row a99 c99 (xa99.map (Value.int .u8)) :: .own ro (some ⟨p101, 0, none⟩) 1 [.slice ap101_0 xp101_0.length cp101_0, .int .i64 mp101_1] :: .own ro a100 3 (imgC ya100 0 xa100) :: .rows (imgR ya100 0 xa100) :: .row ap101_0 cp101_0 (xp101_0.map (Value.int .u8)) :: F) x_607 _ hs_609 hx_611
          refine st_ok (Q := F17.Post F ro r) isO e_614 ?_
          refine st_bool (Q := F17.Post F ro r) ?_
          have hs_615 := hs_613.pull 4 rfl
          have hs_616 := hs_615.pull 2 rfl
          have hs_617 := hs_616.pull 4 rfl
          have hs_618 := hs_617.pull 4 rfl
          have hs_619 := hs_618.pull 4 rfl
          exact hj391 r_610 _ hs_619 hp
        · replace hp := ifp_f hc_606 hp
          have hs_620 := hs_605.pull 4 rfl
          have hs_621 := hs_620.pull 1 rfl
          have hs_622 := hs_621.pull 4 rfl
          have hs_623 := hs_622.pull 4 rfl
          have hs_624 := hs_623.pull 4 rfl
          exact hj391 false _ hs_624 hp

def F17.J11p (lf : Nat) (kb6p : List Int → List Img → List Int → Int → Bool → Option (List Img × Int)) (xa62 : List Int) (xa63 : List Img) (xp64_0 : List Int) (mp64_1 : Int) (mp65_0 : Int) (mp65_1 : Int) (xp65_2 : List Int) : Option (List Img × Int) :=
  bindp (appp 40 xa63 [(mp65_0, mp65_1, xp65_2)]) fun x_599 =>
  F17.L12p lf kb6p lf xa62 x_599 xp64_0 mp64_1

theorem F17.J11_ok {ora : Ora} (hora : HOra9 ora) {lf ro : Nat} {F : List Ent} {r : (List Img × Int)} {kb6p : List Int → List Img → List Int → Int → Bool → Option (List Img × Int)} {kb6 : (Option Addr) → Nat → Nat → (Option Addr) → Nat → Nat → Nat → Nat → Bool → Heap → Out} (hkb6 : ∀ (a5 : Option Addr) (c5 : Nat) (xa5 : List Int) (a6 : Option Addr) (ya6 : Dec) (xa6 : List Img) (p7 : Nat) (ap7_0 : Option Addr) (cp7_0 : Nat) (xp7_0 : List Int) (mp7_1 : Int) (b8 : Bool) (h : Heap), Sat ro h (.row a5 c5 (xa5.map (Value.int .u8)) :: .own ro a6 3 (imgC ya6 0 xa6) :: .rows (imgR ya6 0 xa6) :: .own ro (some ⟨p7, 0, none⟩) 1 [.slice ap7_0 xp7_0.length cp7_0, .int .i64 mp7_1] :: .row ap7_0 cp7_0 (xp7_0.map (Value.int .u8)) :: F) → kb6p xa5 xa6 xp7_0 mp7_1 b8 = some r → F17.Post F ro r (kb6 a5 xa5.length c5 a6 xa6.length xa6.length p7 0 b8 h)) (a62 : Option Addr) (c62 : Nat) (xa62 : List Int) (a63 : Option Addr) (ya63 : Dec) (xa63 : List Img) (p64 : Nat) (ap64_0 : Option Addr) (cp64_0 : Nat) (xp64_0 : List Int) (mp64_1 : Int) (p65 : Nat) (mp65_0 : Int) (mp65_1 : Int) (ap65_2 : Option Addr) (xp65_2 : List Int) (h : Heap) (hs : Sat ro h (.row a62 c62 (xa62.map (Value.int .u8)) :: .own ro a63 3 (imgC ya63 0 xa63) :: .rows (imgR ya63 0 xa63) :: .own ro (some ⟨p64, 0, none⟩) 1 [.slice ap64_0 xp64_0.length cp64_0, .int .i64 mp64_1] :: .row ap64_0 cp64_0 (xp64_0.map (Value.int .u8)) :: .own ro (some ⟨p65, 0, none⟩) 1 [.int .i64 mp65_0, .int .i64 mp65_1, .slice ap65_2 xp65_2.length xp65_2.length] :: .own ro ap65_2 1 (xp65_2.map (Value.int .u8)) :: F)) (hp : F17.J11p lf kb6p xa62 xa63 xp64_0 mp64_1 mp65_0 mp65_1 xp65_2 = some r) : F17.Post F ro r (F17.J11 (callW Tryd.prog ora) lf ro kb6 a62 xa62.length c62 a63 xa63.length xa63.length p64 0 p65 0 h) := by
  unfold F17.J11
  unfold F17.J11p at hp
  have hs_591 := hs.pull 5 rfl
  refine st_loadA (Q := F17.Post F ro r) isO hs_591 agg24 siz24 rfl ?_
  refine st_agg (Q := F17.Post F ro r) (l := [.int .i64 mp65_0, .int .i64 mp65_1, .slice ap65_2 xp65_2.length xp65_2.length]) ?_
  refine st_cons (Q := F17.Post F ro r) ?_
  refine st_int (Q := F17.Post F ro r) ?_
  refine st_cons (Q := F17.Post F ro r) ?_
  refine st_int (Q := F17.Post F ro r) ?_
  refine st_cons (Q := F17.Post F ro r) ?_
  refine st_slice (Q := F17.Post F ro r) ?_
  refine st_nil (Q := F17.Post F ro r) ?_
  refine st_pushJ (Q := F17.Post F ro r) hs_591 hs_591.low rfl fun h_592 _ hs_593 => ?_
  have hs_594 := hs_593.pull 7 rfl
  have hs_595 := Sat.weakM (x := xp65_2) (f := (Value.int .u8)) hs_594
  have hs_596 := hs_595.pull 1 rfl
  have hs_597 := hs_596.pull 5 rfl
  have hs_598 := hs_597.pull 5 rfl
  obtain ⟨x_599, hx_600, hp⟩ := bindp_some hp
  refine st_imgA (Q := F17.Post F ro r) isO hs_598 und41 und41 many24 rfl rfl hx_600 fun a_601 h_602 y_603 hs_604 => ?_
  refine st_slice (Q := F17.Post F ro r) ?_
  have hs_647 := hs_604.pull 2 rfl
  have hs_648 := hs_647.tail
  have hs_649 := hs_648.pull 2 rfl
  have hs_650 := hs_649.tail
  have hs_651 := hs_650.pull 4 rfl
  have hs_652 := hs_651.pull 4 rfl
  have hs_653 := hs_652.pull 3 rfl
  have hs_654 := hs_653.pull 3 rfl
  have hs_655 := hs_654.pull 4 rfl
  exact F17.L12_ok hora hkb6 lf a62 _ xa62 a_601 y_603 x_599 p64 ap64_0 _ xp64_0 mp64_1 _ hs_655 hp

def F17.J8p (lf : Nat) (kb6p : List Int → List Img → List Int → Int → Bool → Option (List Img × Int)) (xa10 : List Int) (xa11 : List Img) (xp12_0 : List Int) (mp12_1 : Int) : Option (List Img × Int) :=
  bindp (F35.p lf xp12_0 mp12_1) fun r_563 =>
  ifp (r_563.2.2.2.2.1 != 0) (
    some ([], r_563.2.2.2.2.1)) (
    F17.J11p lf kb6p xa10 xa11 xp12_0 r_563.2.2.2.2.2 r_563.1 r_563.2.1 r_563.2.2.1)

theorem F17.J8_ok {ora : Ora} (hora : HOra9 ora) {lf ro : Nat} {F : List Ent} {r : (List Img × Int)} {kb6p : List Int → List Img → List Int → Int → Bool → Option (List Img × Int)} {kb6 : (Option Addr) → Nat → Nat → (Option Addr) → Nat → Nat → Nat → Nat → Bool → Heap → Out} (hkb6 : ∀ (a5 : Option Addr) (c5 : Nat) (xa5 : List Int) (a6 : Option Addr) (ya6 : Dec) (xa6 : List Img) (p7 : Nat) (ap7_0 : Option Addr) (cp7_0 : Nat) (xp7_0 : List Int) (mp7_1 : Int) (b8 : Bool) (h : Heap), Sat ro h (.row a5 c5 (xa5.map (Value.int .u8)) :: .own ro a6 3 (imgC ya6 0 xa6) :: .rows (imgR ya6 0 xa6) :: .own ro (some ⟨p7, 0, none⟩) 1 [.slice ap7_0 xp7_0.length cp7_0, .int .i64 mp7_1] :: .row ap7_0 cp7_0 (xp7_0.map (Value.int .u8)) :: F) → kb6p xa5 xa6 xp7_0 mp7_1 b8 = some r → F17.Post F ro r (kb6 a5 xa5.length c5 a6 xa6.length xa6.length p7 0 b8 h)) (a10 : Option Addr) (c10 : Nat) (xa10 : List Int) (a11 : Option Addr) (ya11 : Dec) (xa11 : List Img) (p12 : Nat) (ap12_0 : Option Addr) (cp12_0 : Nat) (xp12_0 : List Int) (mp12_1 : Int) (h : Heap) (hs : Sat ro h (.row a10 c10 (xa10.map (Value.int .u8)) :: .own ro a11 3 (imgC ya11 0 xa11) :: .rows (imgR ya11 0 xa11) :: .own ro (some ⟨p12, 0, none⟩) 1 [.slice ap12_0 xp12_0.length cp12_0, .int .i64 mp12_1] :: .row ap12_0 cp12_0 (xp12_0.map (Value.int .u8)) :: F)) (hp : F17.J8p lf kb6p xa10 xa11 xp12_0 mp12_1 = some r) : F17.Post F ro r (F17.J8 (callW Tryd.prog ora) lf ro kb6 a10 xa10.length c10 a11 xa11.length xa11.length p12 0 h) := by
  unfold F17.J8
  unfold F17.J8p at hp
  have hs_560 := hs.pull 4 rfl
  have hs_561 := hs_560.dup
  have hs_562 := hs_561.pull 5 rfl
  obtain ⟨r_563, hx_564, hp⟩ := bindp_some hp
  obtain ⟨a_568, h_565, e_567, hs_566⟩ := F35.ok hora (ro := ro) (px0 := p12) (apx0_0 := ap12_0) (cpx0_0 := cp12_0) (xpx0_0 := xp12_0) (F := .row ap12_0 cp12_0 (xp12_0.map (Value.int .u8)) :: .row a10 c10 (xa10.map (Value.int .u8)) :: .own ro a11 3 (imgC ya11 0 xa11) :: .rows (imgR ya11 0 xa11) :: F) mp12_1 _ hs_562 hx_564
  refine st_ok (Q := F17.Post F ro r) isO e_567 ?_
  refine st_tup (Q := F17.Post F ro r) (l := [.agg #[.int .i64 r_563.1, .int .i64 r_563.2.1, .slice a_568 (r_563.2.2.1).length (r_563.2.2.1).length], .int .i64 r_563.2.2.2.1, .int .i64 r_563.2.2.2.2.1]) ?_
  refine st_cons (Q := F17.Post F ro r) ?_
  refine st_agg (Q := F17.Post F ro r) (l := [.int .i64 r_563.1, .int .i64 r_563.2.1, .slice a_568 (r_563.2.2.1).length (r_563.2.2.1).length]) ?_
  refine st_cons (Q := F17.Post F ro r) ?_
  refine st_int (Q := F17.Post F ro r) ?_
  refine st_cons (Q := F17.Post F ro r) ?_
  refine st_int (Q := F17.Post F ro r) ?_
  refine st_cons (Q := F17.Post F ro r) ?_
  refine st_slice (Q := F17.Post F ro r) ?_
  refine st_nil (Q := F17.Post F ro r) ?_
  refine st_cons (Q := F17.Post F ro r) ?_
  refine st_int (Q := F17.Post F ro r) ?_
  refine st_cons (Q := F17.Post F ro r) ?_
  refine st_int (Q := F17.Post F ro r) ?_
  refine st_nil (Q := F17.Post F ro r) ?_
  refine st_pushJ (Q := F17.Post F ro r) hs_566 hs_566.low rfl fun h_569 _ hs_570 => ?_
  refine st_storeA (Q := F17.Post F ro r) (vs := [.int .i64 r_563.1, .int .i64 r_563.2.1, .slice a_568 (r_563.2.2.1).length (r_563.2.2.1).length]) isO hs_570 siz24 rfl rfl rfl rfl fun h_571 hs_572 => ?_
  refine st_if (Q := F17.Post F ro r) (fun hc_573 => ?_) (fun hc_573 => ?_)
  · replace hp := ifp_t hc_573 hp
    have hs_574 := hs_572.nilImgs
    have hs_575 := hs_574.pull 2 rfl
    have hs_576 := hs_575.tail
    have hs_577 := hs_576.pull 2 rfl
    have hs_578 := hs_577.tail
    have hs_579 := hs_578.pull 2 rfl
    have hs_580 := hs_579.tail
    have hs_581 := hs_580.pull 2 rfl
    have hs_582 := hs_581.tail
    have hs_583 := hs_582.pull 2 rfl
    have hs_584 := hs_583.tail
    have hs_585 := hs_584.pull 2 rfl
    have hs_586 := hs_585.tail
    have hs_587 := hs_586.pull 2 rfl
    have hs_588 := hs_587.tail
    have hs_589 := hs_588.pull 1 rfl
    have hs_590 := hs_589.pull 1 rfl
    cases hp
    exact ⟨none, nilD, _, rfl, hs_590⟩
  · replace hp := ifp_f hc_573 hp
    have hs_656 := hs_572.pull 1 rfl
    have hs_657 := hs_656.pull 1 rfl
    have hs_658 := hs_657.pull 3 rfl
    have hs_659 := hs_658.pull 3 rfl
    have hs_660 := hs_659.pull 6 rfl
    have hs_661 := hs_660.pull 6 rfl
    have hs_662 := hs_661.pull 6 rfl
    exact F17.J11_ok hora hkb6 a10 _ xa10 a11 ya11 xa11 p12 ap12_0 _ xp12_0 r_563.2.2.2.2.2 h_565.next r_563.1 r_563.2.1 a_568 r_563.2.2.1 _ hs_662 hp

def F17.L6p (lf : Nat) : Nat → List Int → List Img → List Int → Int → Bool → Option (List Img × Int)
  | 0, _, _, _, _, _ => none
  | n + 1, xa5, xa6, xp7_0, mp7_1, b8 =>
  ifp b8 (
    F17.J8p lf (F17.L6p lf n) xa5 xa6 xp7_0 mp7_1) (
    some (xa6, 0))

theorem F17.L6_ok {ora : Ora} (hora : HOra9 ora) {lf ro : Nat} {F : List Ent} {r : (List Img × Int)} : ∀ (n : Nat) (a5 : Option Addr) (c5 : Nat) (xa5 : List Int) (a6 : Option Addr) (ya6 : Dec) (xa6 : List Img) (p7 : Nat) (ap7_0 : Option Addr) (cp7_0 : Nat) (xp7_0 : List Int) (mp7_1 : Int) (b8 : Bool) (h : Heap), Sat ro h (.row a5 c5 (xa5.map (Value.int .u8)) :: .own ro a6 3 (imgC ya6 0 xa6) :: .rows (imgR ya6 0 xa6) :: .own ro (some ⟨p7, 0, none⟩) 1 [.slice ap7_0 xp7_0.length cp7_0, .int .i64 mp7_1] :: .row ap7_0 cp7_0 (xp7_0.map (Value.int .u8)) :: F) → F17.L6p lf n xa5 xa6 xp7_0 mp7_1 b8 = some r → F17.Post F ro r (F17.L6 (callW Tryd.prog ora) lf ro n a5 xa5.length c5 a6 xa6.length xa6.length p7 0 b8 h) := by
  intro n
  induction n with
  | zero => intro a5 c5 xa5 a6 ya6 xa6 p7 ap7_0 cp7_0 xp7_0 mp7_1 b8 h hs hp; cases hp
  | succ n ih =>
    intro a5 c5 xa5 a6 ya6 xa6 p7 ap7_0 cp7_0 xp7_0 mp7_1 b8 h hs hp
    unfold F17.L6
    unfold F17.L6p at hp
    refine st_if (Q := F17.Post F ro r) (fun hc_559 => ?_) (fun hc_559 => ?_)
    · replace hp := ifp_t hc_559 hp
      have hs_663 := hs.pull 4 rfl
      have hs_664 := hs_663.pull 4 rfl
      have hs_665 := hs_664.pull 4 rfl
      have hs_666 := hs_665.pull 4 rfl
      have hs_667 := hs_666.pull 4 rfl
      exact F17.J8_ok hora ih a5 _ xa5 a6 ya6 xa6 p7 ap7_0 _ xp7_0 mp7_1 _ hs_667 hp
    · replace hp := ifp_f hc_559 hp
      have hs_668 := hs.tail
      have hs_669 := hs_668.pull 2 rfl
      have hs_670 := hs_669.tail
      have hs_671 := hs_670.pull 2 rfl
      have hs_672 := hs_671.tail
      have hs_673 := hs_672.pull 1 rfl
      have hs_674 := hs_673.pull 1 rfl
      cases hp
      exact ⟨a6, ya6, _, rfl, hs_674⟩

def F17.J3p (lf : Nat) (xa1 : List Int) : Option (List Img × Int) :=
  F17.L6p lf lf xa1 [] xa1 0 true

theorem F17.J3_ok {ora : Ora} (hora : HOra9 ora) {lf ro : Nat} {F : List Ent} {r : (List Img × Int)} (a1 : Option Addr) (c1 : Nat) (xa1 : List Int) (h : Heap) (hs : Sat ro h (.row a1 c1 (xa1.map (Value.int .u8)) :: F)) (hp : F17.J3p lf xa1 = some r) : F17.Post F ro r (F17.J3 (callW Tryd.prog ora) lf ro a1 xa1.length c1 h) := by
  unfold F17.J3
  unfold F17.J3p at hp
  refine st_pushJ (Q := F17.Post F ro r) hs hs.low rfl fun h_557 _ hs_558 => ?_
  have hs_675 := hs_558.nilImgs
  have hs_676 := hs_675.pull 3 rfl
  have hs_677 := hs_676.dup
  have hs_678 := hs_677.pull 4 rfl
  have hs_679 := hs_678.pull 4 rfl
  have hs_680 := hs_679.pull 4 rfl
  have hs_681 := hs_680.pull 4 rfl
  exact F17.L6_ok hora lf a1 _ xa1 none nilD [] h.next a1 _ xa1 0 true _ hs_681 hp

def F17.p (lf : Nat) (xax0 : List Int) : Option (List Img × Int) :=
  ifp (decide ((xax0.length : Int) > 4194304)) (
    some ([], 4)) (
    F17.J3p lf xax0)

theorem F17.t_ok {ora : Ora} (hora : HOra9 ora) {lf ro : Nat} {F : List Ent} {r : (List Img × Int)} (ax0 : Option Addr) (cx0 : Nat) (xax0 : List Int) (h : Heap) (hs : Sat ro h (.row ax0 cx0 (xax0.map (Value.int .u8)) :: F)) (hp : F17.p lf xax0 = some r) : F17.Post F ro r (F17.t (callW Tryd.prog ora) lf ro ax0 xax0.length cx0 h) := by
  unfold F17.t
  unfold F17.p at hp
  refine st_if (Q := F17.Post F ro r) (fun hc_551 => ?_) (fun hc_551 => ?_)
  · replace hp := ifp_t hc_551 hp
    have hs_552 := hs.nilImgs
    have hs_553 := hs_552.pull 2 rfl
    have hs_554 := hs_553.tail
    have hs_555 := hs_554.pull 1 rfl
    have hs_556 := hs_555.pull 1 rfl
    cases hp
    exact ⟨none, nilD, _, rfl, hs_556⟩
  · replace hp := ifp_f hc_551 hp
    exact F17.J3_ok hora ax0 _ xax0 _ hs hp

theorem F17.ok {ora : Ora} (hora : HOra9 ora) {lf ro : Nat} {F : List Ent} {r : (List Img × Int)} (ax0 : Option Addr) (cx0 : Nat) (xax0 : List Int) (h : Heap) (hs : Sat ro h (.row ax0 cx0 (xax0.map (Value.int .u8)) :: F)) (hp : F17.p lf xax0 = some r) : F17.Post F ro r (callW Tryd.prog ora ro 17 [.slice ax0 xax0.length cx0] h) := by
  have h1 := F17.t_ok hora ax0 cx0 xax0 h hs hp
  have h2 : callW Tryd.prog ora ro 17 [.slice ax0 xax0.length cx0] h = _ := callW_body (hora.none _ _ _ _ (by decide)) Tryd.func17 (F17.le (callW Tryd.prog ora) lf ro ax0 xax0.length cx0 h) (F17.Post.ne h1)
  rw [h2]; exact h1

def F15.Post (F : List Ent) (ro : Nat) (r : (Bool)) (x : Out) : Prop := ∃ h', x = .ok (.bool r) h' ∧ Sat ro h' (F)
theorem F15.Post.ne {F : List Ent} {ro : Nat} {r : (Bool)} {x : Out} (hx : F15.Post F ro r x) : x ≠ .fail := by
  obtain ⟨h', rfl, _⟩ := hx
  simp

def F15.J6p (lf : Nat) (kb4p : Int → Int → List Int → Int → Int → List Int → Int → Option (Bool)) (mp39_0 : Int) (mp39_1 : Int) (xp39_2 : List Int) (mp40_0 : Int) (mp40_1 : Int) (xp40_2 : List Int) (n41 : Int) : Option (Bool) :=
  bindp (idxp xp39_2 n41) fun x_713 =>
  bindp (idxp xp40_2 n41) fun x_717 =>
  ifp (x_713 != x_717) (
    some false) (
    kb4p mp39_0 mp39_1 xp39_2 mp40_0 mp40_1 xp40_2 (IntKind.i64.wrap (n41 + 1)))

theorem F15.J6_ok {ora : Ora} (hora : HOra ora) {lf ro : Nat} {F : List Ent} {r : (Bool)} {kb4p : Int → Int → List Int → Int → Int → List Int → Int → Option (Bool)} {kb4 : Nat → Nat → Nat → Nat → Int → Heap → Out} (hkb4 : ∀ (p29 : Nat) (mp29_0 : Int) (mp29_1 : Int) (ap29_2 : Option Addr) (cp29_2 : Nat) (xp29_2 : List Int) (p30 : Nat) (mp30_0 : Int) (mp30_1 : Int) (ap30_2 : Option Addr) (cp30_2 : Nat) (xp30_2 : List Int) (n31 : Int) (h : Heap), Sat ro h (.own ro (some ⟨p29, 0, none⟩) 1 [.int .i64 mp29_0, .int .i64 mp29_1, .slice ap29_2 xp29_2.length cp29_2] :: .row ap29_2 cp29_2 (xp29_2.map (Value.int .u8)) :: .own ro (some ⟨p30, 0, none⟩) 1 [.int .i64 mp30_0, .int .i64 mp30_1, .slice ap30_2 xp30_2.length cp30_2] :: .row ap30_2 cp30_2 (xp30_2.map (Value.int .u8)) :: F) → kb4p mp29_0 mp29_1 xp29_2 mp30_0 mp30_1 xp30_2 n31 = some r → F15.Post F ro r (kb4 p29 0 p30 0 n31 h)) (p39 : Nat) (mp39_0 : Int) (mp39_1 : Int) (ap39_2 : Option Addr) (cp39_2 : Nat) (xp39_2 : List Int) (p40 : Nat) (mp40_0 : Int) (mp40_1 : Int) (ap40_2 : Option Addr) (cp40_2 : Nat) (xp40_2 : List Int) (n41 : Int) (h : Heap) (hs : Sat ro h (.own ro (some ⟨p39, 0, none⟩) 1 [.int .i64 mp39_0, .int .i64 mp39_1, .slice ap39_2 xp39_2.length cp39_2] :: .row ap39_2 cp39_2 (xp39_2.map (Value.int .u8)) :: .own ro (some ⟨p40, 0, none⟩) 1 [.int .i64 mp40_0, .int .i64 mp40_1, .slice ap40_2 xp40_2.length cp40_2] :: .row ap40_2 cp40_2 (xp40_2.map (Value.int .u8)) :: F)) (hp : F15.J6p lf kb4p mp39_0 mp39_1 xp39_2 mp40_0 mp40_1 xp40_2 n41 = some r) : F15.Post F ro r (F15.J6 (callW Tryd.prog ora) lf ro kb4 p39 0 p40 0 n41 h) := by
  unfold F15.J6
  unfold F15.J6p at hp
  refine st_load (Q := F15.Post F ro r) isN hs agg22 rfl ?_
  refine st_slice (Q := F15.Post F ro r) ?_
  have hs_715 := hs.pull 1 rfl
  obtain ⟨x_713, hx_714, hp⟩ := bindp_some hp
  refine st_idxR (Q := F15.Post F ro r) (l := xp39_2) (f := (Value.int .u8)) isN isN hs_715 und22 siz5 agg5 rfl hx_714 ?_
  refine st_int (Q := F15.Post F ro r) ?_
  have hs_716 := hs_715.pull 2 rfl
  refine st_load (Q := F15.Post F ro r) isN hs_716 agg22 rfl ?_
  refine st_slice (Q := F15.Post F ro r) ?_
  have hs_719 := hs_716.pull 3 rfl
  obtain ⟨x_717, hx_718, hp⟩ := bindp_some hp
  refine st_idxR (Q := F15.Post F ro r) (l := xp40_2) (f := (Value.int .u8)) isN isN hs_719 und22 siz5 agg5 rfl hx_718 ?_
  refine st_int (Q := F15.Post F ro r) ?_
  refine st_if (Q := F15.Post F ro r) (fun hc_720 => ?_) (fun hc_720 => ?_)
  · replace hp := ifp_t hc_720 hp
    have hs_721 := hs_719.tail
    have hs_722 := hs_721.tail
    have hs_723 := hs_722.tail
    have hs_724 := hs_723.tail
    cases hp
    exact ⟨_, rfl, hs_724⟩
  · replace hp := ifp_f hc_720 hp
    have hs_725 := hs_719.pull 1 rfl
    have hs_726 := hs_725.pull 2 rfl
    have hs_727 := hs_726.pull 3 rfl
    exact hkb4 p39 mp39_0 mp39_1 ap39_2 _ xp39_2 p40 mp40_0 mp40_1 ap40_2 _ xp40_2 (IntKind.i64.wrap (n41 + 1)) _ hs_727 hp

def F15.L4p (lf : Nat) : Nat → Int → Int → List Int → Int → Int → List Int → Int → Option (Bool)
  | 0, _, _, _, _, _, _, _ => none
  | n + 1, mp29_0, mp29_1, xp29_2, mp30_0, mp30_1, xp30_2, n31 =>
  ifp (decide (n31 < (xp29_2.length : Int))) (
    F15.J6p lf (F15.L4p lf n) mp29_0 mp29_1 xp29_2 mp30_0 mp30_1 xp30_2 n31) (
    some true)

theorem F15.L4_ok {ora : Ora} (hora : HOra ora) {lf ro : Nat} {F : List Ent} {r : (Bool)} : ∀ (n : Nat) (p29 : Nat) (mp29_0 : Int) (mp29_1 : Int) (ap29_2 : Option Addr) (cp29_2 : Nat) (xp29_2 : List Int) (p30 : Nat) (mp30_0 : Int) (mp30_1 : Int) (ap30_2 : Option Addr) (cp30_2 : Nat) (xp30_2 : List Int) (n31 : Int) (h : Heap), Sat ro h (.own ro (some ⟨p29, 0, none⟩) 1 [.int .i64 mp29_0, .int .i64 mp29_1, .slice ap29_2 xp29_2.length cp29_2] :: .row ap29_2 cp29_2 (xp29_2.map (Value.int .u8)) :: .own ro (some ⟨p30, 0, none⟩) 1 [.int .i64 mp30_0, .int .i64 mp30_1, .slice ap30_2 xp30_2.length cp30_2] :: .row ap30_2 cp30_2 (xp30_2.map (Value.int .u8)) :: F) → F15.L4p lf n mp29_0 mp29_1 xp29_2 mp30_0 mp30_1 xp30_2 n31 = some r → F15.Post F ro r (F15.L4 (callW Tryd.prog ora) lf ro n p29 0 p30 0 n31 h) := by
  intro n
  induction n with
  | zero => intro p29 mp29_0 mp29_1 ap29_2 cp29_2 xp29_2 p30 mp30_0 mp30_1 ap30_2 cp30_2 xp30_2 n31 h hs hp; cases hp
  | succ n ih =>
    intro p29 mp29_0 mp29_1 ap29_2 cp29_2 xp29_2 p30 mp30_0 mp30_1 ap30_2 cp30_2 xp30_2 n31 h hs hp
    unfold F15.L4
    unfold F15.L4p at hp
    refine st_load (Q := F15.Post F ro r) isO hs agg22 rfl ?_
    refine st_slice (Q := F15.Post F ro r) ?_
    refine st_if (Q := F15.Post F ro r) (fun hc_712 => ?_) (fun hc_712 => ?_)
    · replace hp := ifp_t hc_712 hp
      have hs_728 := hs.pull 3 rfl
      have hs_729 := hs_728.pull 3 rfl
      have hs_730 := hs_729.pull 3 rfl
      have hs_731 := hs_730.pull 3 rfl
      exact F15.J6_ok hora ih p29 mp29_0 mp29_1 ap29_2 _ xp29_2 p30 mp30_0 mp30_1 ap30_2 _ xp30_2 n31 _ hs_731 hp
    · replace hp := ifp_f hc_712 hp
      have hs_732 := hs.tail
      have hs_733 := hs_732.tail
      have hs_734 := hs_733.tail
      have hs_735 := hs_734.tail
      cases hp
      exact ⟨_, rfl, hs_735⟩

def F15.J3p (lf : Nat) (mp26_0 : Int) (mp26_1 : Int) (xp26_2 : List Int) (mp27_0 : Int) (mp27_1 : Int) (xp27_2 : List Int) : Option (Bool) :=
  F15.L4p lf lf mp26_0 mp26_1 xp26_2 mp27_0 mp27_1 xp27_2 0

theorem F15.J3_ok {ora : Ora} (hora : HOra ora) {lf ro : Nat} {F : List Ent} {r : (Bool)} (p26 : Nat) (mp26_0 : Int) (mp26_1 : Int) (ap26_2 : Option Addr) (cp26_2 : Nat) (xp26_2 : List Int) (p27 : Nat) (mp27_0 : Int) (mp27_1 : Int) (ap27_2 : Option Addr) (cp27_2 : Nat) (xp27_2 : List Int) (h : Heap) (hs : Sat ro h (.own ro (some ⟨p26, 0, none⟩) 1 [.int .i64 mp26_0, .int .i64 mp26_1, .slice ap26_2 xp26_2.length cp26_2] :: .row ap26_2 cp26_2 (xp26_2.map (Value.int .u8)) :: .own ro (some ⟨p27, 0, none⟩) 1 [.int .i64 mp27_0, .int .i64 mp27_1, .slice ap27_2 xp27_2.length cp27_2] :: .row ap27_2 cp27_2 (xp27_2.map (Value.int .u8)) :: F)) (hp : F15.J3p lf mp26_0 mp26_1 xp26_2 mp27_0 mp27_1 xp27_2 = some r) : F15.Post F ro r (F15.J3 (callW Tryd.prog ora) lf ro p26 0 p27 0 h) := by
  unfold F15.J3
  unfold F15.J3p at hp
  have hs_736 := hs.pull 3 rfl
  have hs_737 := hs_736.pull 3 rfl
  have hs_738 := hs_737.pull 3 rfl
  have hs_739 := hs_738.pull 3 rfl
  exact F15.L4_ok hora lf p26 mp26_0 mp26_1 ap26_2 _ xp26_2 p27 mp27_0 mp27_1 ap27_2 _ xp27_2 0 _ hs_739 hp

def F15.p (lf : Nat) (x0_0 : Int) (x0_1 : Int) (xax0_2 : List Int) (x1_0 : Int) (x1_1 : Int) (xax1_2 : List Int) : Option (Bool) :=
  letJ (fun (b23 : Bool) => (
    ifp b23 (
      some false) (
      F15.J3p lf x0_0 x0_1 xax0_2 x1_0 x1_1 xax1_2) : Option (Bool))) fun j25p =>
  ifp (x0_0 != x1_0) (
    j25p true) (
    ifp (x0_1 != x1_1) (
      j25p true) (
      j25p ((xax0_2.length : Int) != (xax1_2.length : Int))))

theorem F15.t_ok {ora : Ora} (hora : HOra ora) {lf ro : Nat} {F : List Ent} {r : (Bool)} (x0_0 : Int) (x0_1 : Int) (ax0_2 : Option Addr) (cx0_2 : Nat) (xax0_2 : List Int) (x1_0 : Int) (x1_1 : Int) (ax1_2 : Option Addr) (cx1_2 : Nat) (xax1_2 : List Int) (h : Heap) (hs : Sat ro h (.row ax0_2 cx0_2 (xax0_2.map (Value.int .u8)) :: .row ax1_2 cx1_2 (xax1_2.map (Value.int .u8)) :: F)) (hp : F15.p lf x0_0 x0_1 xax0_2 x1_0 x1_1 xax1_2 = some r) : F15.Post F ro r (F15.t (callW Tryd.prog ora) lf ro x0_0 x0_1 ax0_2 xax0_2.length cx0_2 x1_0 x1_1 ax1_2 xax1_2.length cx1_2 h) := by
  unfold F15.t
  unfold F15.p at hp
  refine st_pushJ (Q := F15.Post F ro r) hs hs.low rfl fun h_682 _ hs_683 => ?_
  refine st_pushJ (Q := F15.Post F ro r) hs_683 hs_683.low rfl fun h_684 _ hs_685 => ?_
  refine st_letJ hp (fun j25p j25 => ∀ (b23 : Bool) (h_706 : Heap), Sat ro h_706 (.own ro (some ⟨h_682.next, 0, none⟩) 1 [.int .i64 x1_0, .int .i64 x1_1, .slice ax1_2 xax1_2.length cx1_2] :: .own ro (some ⟨h.next, 0, none⟩) 1 [.int .i64 x0_0, .int .i64 x0_1, .slice ax0_2 xax0_2.length cx0_2] :: .row ax0_2 cx0_2 (xax0_2.map (Value.int .u8)) :: .row ax1_2 cx1_2 (xax1_2.map (Value.int .u8)) :: F) → j25p b23 = some r → F15.Post F ro r (j25 b23 h_706)) ?_ ?_
  · intro b23 h_706 hs hp
    refine st_if (Q := F15.Post F ro r) (fun hc_707 => ?_) (fun hc_707 => ?_)
    · replace hp := ifp_t hc_707 hp
      have hs_708 := hs.tail
      have hs_709 := hs_708.tail
      have hs_710 := hs_709.tail
      have hs_711 := hs_710.tail
      cases hp
      exact ⟨_, rfl, hs_711⟩
    · replace hp := ifp_f hc_707 hp
      have hs_740 := hs.pull 3 rfl
      have hs_741 := hs_740.pull 1 rfl
      have hs_742 := hs_741.pull 3 rfl
      have hs_743 := hs_742.pull 3 rfl
      exact F15.J3_ok hora h.next x0_0 x0_1 ax0_2 _ xax0_2 h_682.next x1_0 x1_1 ax1_2 _ xax1_2 _ hs_743 hp
  · intro j25p j25 hj25 hp
    have hs_686 := hs_685.pull 1 rfl
    refine st_load (Q := F15.Post F ro r) isO hs_686 agg3 rfl ?_
    refine st_int (Q := F15.Post F ro r) ?_
    have hs_687 := hs_686.pull 1 rfl
    refine st_load (Q := F15.Post F ro r) isO hs_687 agg3 rfl ?_
    refine st_int (Q := F15.Post F ro r) ?_
    refine st_if (Q := F15.Post F ro r) (fun hc_688 => ?_) (fun hc_688 => ?_)
    · replace hp := ifp_t hc_688 hp
      have hs_689 := hs_687.pull 3 rfl
      have hs_690 := hs_689.pull 3 rfl
      have hs_691 := hs_690.pull 3 rfl
      have hs_692 := hs_691.pull 3 rfl
      exact hj25 true _ hs_692 hp
    · replace hp := ifp_f hc_688 hp
      have hs_693 := hs_687.pull 1 rfl
      refine st_load (Q := F15.Post F ro r) isO hs_693 agg3 rfl ?_
      refine st_int (Q := F15.Post F ro r) ?_
      have hs_694 := hs_693.pull 1 rfl
      refine st_load (Q := F15.Post F ro r) isO hs_694 agg3 rfl ?_
      refine st_int (Q := F15.Post F ro r) ?_
      refine st_if (Q := F15.Post F ro r) (fun hc_695 => ?_) (fun hc_695 => ?_)
      · replace hp := ifp_t hc_695 hp
        have hs_696 := hs_694.pull 3 rfl
        have hs_697 := hs_696.pull 3 rfl
        have hs_698 := hs_697.pull 3 rfl
        have hs_699 := hs_698.pull 3 rfl
        exact hj25 true _ hs_699 hp
      · replace hp := ifp_f hc_695 hp
        have hs_700 := hs_694.pull 1 rfl
        refine st_load (Q := F15.Post F ro r) isO hs_700 agg22 rfl ?_
        refine st_slice (Q := F15.Post F ro r) ?_
        have hs_701 := hs_700.pull 1 rfl
        refine st_load (Q := F15.Post F ro r) isO hs_701 agg22 rfl ?_
        refine st_slice (Q := F15.Post F ro r) ?_
        have hs_702 := hs_701.pull 3 rfl
        have hs_703 := hs_702.pull 3 rfl
        have hs_704 := hs_703.pull 3 rfl
        have hs_705 := hs_704.pull 3 rfl
        exact hj25 ((xax0_2.length : Int) != (xax1_2.length : Int)) _ hs_705 hp

theorem F15.ok {ora : Ora} (hora : HOra ora) {lf ro : Nat} {F : List Ent} {r : (Bool)} (x0_0 : Int) (x0_1 : Int) (ax0_2 : Option Addr) (cx0_2 : Nat) (xax0_2 : List Int) (x1_0 : Int) (x1_1 : Int) (ax1_2 : Option Addr) (cx1_2 : Nat) (xax1_2 : List Int) (h : Heap) (hs : Sat ro h (.row ax0_2 cx0_2 (xax0_2.map (Value.int .u8)) :: .row ax1_2 cx1_2 (xax1_2.map (Value.int .u8)) :: F)) (hp : F15.p lf x0_0 x0_1 xax0_2 x1_0 x1_1 xax1_2 = some r) : F15.Post F ro r (callW Tryd.prog ora ro 15 [.agg #[.int .i64 x0_0, .int .i64 x0_1, .slice ax0_2 xax0_2.length cx0_2], .agg #[.int .i64 x1_0, .int .i64 x1_1, .slice ax1_2 xax1_2.length cx1_2]] h) := by
  have h1 := F15.t_ok hora x0_0 x0_1 ax0_2 cx0_2 xax0_2 x1_0 x1_1 ax1_2 cx1_2 xax1_2 h hs hp
  have h2 : callW Tryd.prog ora ro 15 [.agg #[.int .i64 x0_0, .int .i64 x0_1, .slice ax0_2 xax0_2.length cx0_2], .agg #[.int .i64 x1_0, .int .i64 x1_1, .slice ax1_2 xax1_2.length cx1_2]] h = _ := callW_body (hora.none _ _ _ _ (by decide)) Tryd.func15 (F15.le (callW Tryd.prog ora) lf ro x0_0 x0_1 ax0_2 xax0_2.length cx0_2 x1_0 x1_1 ax1_2 xax1_2.length cx1_2 h) (F15.Post.ne h1)
  rw [h2]; exact h1

def F7.Post (F : List Ent) (ro : Nat) (r : (Bool)) (x : Out) : Prop := ∃ h', x = .ok (.bool r) h' ∧ Sat ro h' (F)
theorem F7.Post.ne {F : List Ent} {ro : Nat} {r : (Bool)} {x : Out} (hx : F7.Post F ro r x) : x ≠ .fail := by
  obtain ⟨h', rfl, _⟩ := hx
  simp

def F7.J10p (lf : Nat) (kb8p : List Img → List Img → Int → Option (Bool)) (xa54 : List Img) (xa55 : List Img) (n56 : Int) : Option (Bool) :=
  bindp (idxp xa54 n56) fun x_788 =>
  bindp (idxp xa55 n56) fun x_795 =>
  bindp (F15.p lf x_788.1 x_788.2.1 x_788.2.2 x_795.1 x_795.2.1 x_795.2.2) fun r_807 =>
  ifp (!r_807) (
    some false) (
    kb8p xa54 xa55 (IntKind.i64.wrap (n56 + 1)))

theorem F7.J10_ok {ora : Ora} (hora : HOra9 ora) {lf ro : Nat} {F : List Ent} {r : (Bool)} {kb8p : List Img → List Img → Int → Option (Bool)} {kb8 : (Option Addr) → Nat → Nat → (Option Addr) → Nat → Nat → Int → Heap → Out} (hkb8 : ∀ (a50 : Option Addr) (ya50 : Dec) (xa50 : List Img) (a51 : Option Addr) (ya51 : Dec) (xa51 : List Img) (n52 : Int) (h : Heap), Sat ro h (.own ro a50 3 (imgC ya50 0 xa50) :: .rows (imgR ya50 0 xa50) :: .own ro a51 3 (imgC ya51 0 xa51) :: .rows (imgR ya51 0 xa51) :: F) → kb8p xa50 xa51 n52 = some r → F7.Post F ro r (kb8 a50 xa50.length xa50.length a51 xa51.length xa51.length n52 h)) (a54 : Option Addr) (ya54 : Dec) (xa54 : List Img) (a55 : Option Addr) (ya55 : Dec) (xa55 : List Img) (n56 : Int) (h : Heap) (hs : Sat ro h (.own ro a54 3 (imgC ya54 0 xa54) :: .rows (imgR ya54 0 xa54) :: .own ro a55 3 (imgC ya55 0 xa55) :: .rows (imgR ya55 0 xa55) :: F)) (hp : F7.J10p lf kb8p xa54 xa55 n56 = some r) : F7.Post F ro r (F7.J10 (callW Tryd.prog ora) lf ro kb8 a54 xa54.length xa54.length a55 xa55.length xa55.length n56 h) := by
  unfold F7.J10
  unfold F7.J10p at hp
  have hs_793 := hs.pull 1 rfl
  have hs_794 := hs_793.pull 1 rfl
  obtain ⟨x_788, hx_789, hp⟩ := bindp_some hp
  refine st_imgO (Q := F7.Post F ro r) isN isN hs_794 und41 siz24 agg24 siz24 rfl hx_789 fun a_790 c_791 hs_792 => ?_
  refine st_agg (Q := F7.Post F ro r) (l := [.int .i64 x_788.1, .int .i64 x_788.2.1, .slice a_790 (x_788.2.2).length c_791]) ?_
  refine st_cons (Q := F7.Post F ro r) ?_
  refine st_int (Q := F7.Post F ro r) ?_
  refine st_cons (Q := F7.Post F ro r) ?_
  refine st_int (Q := F7.Post F ro r) ?_
  refine st_cons (Q := F7.Post F ro r) ?_
  refine st_slice (Q := F7.Post F ro r) ?_
  refine st_nil (Q := F7.Post F ro r) ?_
  have hs_800 := hs_792.pull 4 rfl
  have hs_801 := hs_800.pull 4 rfl
  obtain ⟨x_795, hx_796, hp⟩ := bindp_some hp
  refine st_imgO (Q := F7.Post F ro r) isN isN hs_801 und41 siz24 agg24 siz24 rfl hx_796 fun a_797 c_798 hs_799 => ?_
  refine st_agg (Q := F7.Post F ro r) (l := [.int .i64 x_795.1, .int .i64 x_795.2.1, .slice a_797 (x_795.2.2).length c_798]) ?_
  refine st_cons (Q := F7.Post F ro r) ?_
  refine st_int (Q := F7.Post F ro r) ?_
  refine st_cons (Q := F7.Post F ro r) ?_
  refine st_int (Q := F7.Post F ro r) ?_
  refine st_cons (Q := F7.Post F ro r) ?_
  refine st_slice (Q := F7.Post F ro r) ?_
  refine st_nil (Q := F7.Post F ro r) ?_
  have hs_802 := hs_799.pull 3 rfl
  have hs_803 := hs_802.dup
  have hs_804 := hs_803.pull 2 rfl
  have hs_805 := hs_804.dup
  have hs_806 := hs_805.pull 2 rfl
  obtain ⟨r_807, hx_808, hp⟩ := bindp_some hp
  obtain ⟨h_809, e_811, hs_810⟩ := F15.ok hora.toHOra (ro := ro) (F := .row a_797 c_798 (x_795.2.2.map (Value.int .u8)) :: .row a_790 c_791 (x_788.2.2.map (Value.int .u8)) :: .own ro a55 3 (imgC ya55 0 xa55) :: .rows (imgR ya55 0 xa55) :: .own ro a54 3 (imgC ya54 0 xa54) :: .rows (imgR ya54 0 xa54) :: F) x_788.1 x_788.2.1 a_790 c_791 x_788.2.2 x_795.1 x_795.2.1 a_797 c_798 x_795.2.2 _ hs_806 hx_808
  refine st_ok (Q := F7.Post F ro r) isO e_811 ?_
  refine st_bool (Q := F7.Post F ro r) ?_
  refine st_if (Q := F7.Post F ro r) (fun hc_812 => ?_) (fun hc_812 => ?_)
  · replace hp := ifp_t hc_812 hp
    have hs_813 := hs_810.tail
    have hs_814 := hs_813.tail
    have hs_815 := hs_814.tail
    have hs_816 := hs_815.tail
    have hs_817 := hs_816.tail
    have hs_818 := hs_817.tail
    cases hp
    exact ⟨_, rfl, hs_818⟩
  · replace hp := ifp_f hc_812 hp
    have hs_819 := hs_810.tail
    have hs_820 := hs_819.tail
    have hs_821 := hs_820.pull 1 rfl
    have hs_822 := hs_821.pull 1 rfl
    have hs_823 := hs_822.pull 3 rfl
    have hs_824 := hs_823.pull 3 rfl
    exact hkb8 a54 ya54 xa54 a55 ya55 xa55 (IntKind.i64.wrap (n56 + 1)) _ hs_824 hp

def F7.L8p (lf : Nat) : Nat → List Img → List Img → Int → Option (Bool)
  | 0, _, _, _ => none
  | n + 1, xa50, xa51, n52 =>
  ifp (decide (n52 < (xa50.length : Int))) (
    F7.J10p lf (F7.L8p lf n) xa50 xa51 n52) (
    bindp (F9.p lf) fun r_829 =>
    some r_829)

theorem F7.L8_ok {ora : Ora} (hora : HOra9 ora) {lf ro : Nat} {F : List Ent} {r : (Bool)} : ∀ (n : Nat) (a50 : Option Addr) (ya50 : Dec) (xa50 : List Img) (a51 : Option Addr) (ya51 : Dec) (xa51 : List Img) (n52 : Int) (h : Heap), Sat ro h (.own ro a50 3 (imgC ya50 0 xa50) :: .rows (imgR ya50 0 xa50) :: .own ro a51 3 (imgC ya51 0 xa51) :: .rows (imgR ya51 0 xa51) :: F) → F7.L8p lf n xa50 xa51 n52 = some r → F7.Post F ro r (F7.L8 (callW Tryd.prog ora) lf ro n a50 xa50.length xa50.length a51 xa51.length xa51.length n52 h) := by
  intro n
  induction n with
  | zero => intro a50 ya50 xa50 a51 ya51 xa51 n52 h hs hp; cases hp
  | succ n ih =>
    intro a50 ya50 xa50 a51 ya51 xa51 n52 h hs hp
    unfold F7.L8
    unfold F7.L8p at hp
    refine st_if (Q := F7.Post F ro r) (fun hc_787 => ?_) (fun hc_787 => ?_)
    · replace hp := ifp_t hc_787 hp
      have hs_825 := hs.pull 3 rfl
      have hs_826 := hs_825.pull 3 rfl
      have hs_827 := hs_826.pull 3 rfl
      have hs_828 := hs_827.pull 3 rfl
      exact F7.J10_ok hora ih a50 ya50 xa50 a51 ya51 xa51 n52 _ hs_828 hp
    · replace hp := ifp_f hc_787 hp
      obtain ⟨r_829, hx_830, hp⟩ := bindp_some hp
      obtain ⟨h_831, e_833, hs_832⟩ := F9.ok hora (ro := ro) (F := .own ro a50 3 (imgC ya50 0 xa50) :: .rows (imgR ya50 0 xa50) :: .own ro a51 3 (imgC ya51 0 xa51) :: .rows (imgR ya51 0 xa51) :: F)  _ hs hx_830
      refine st_ok (Q := F7.Post F ro r) isO e_833 ?_
      refine st_bool (Q := F7.Post F ro r) ?_
      have hs_834 := hs_832.tail
      have hs_835 := hs_834.tail
      have hs_836 := hs_835.tail
      have hs_837 := hs_836.tail
      cases hp
      exact ⟨_, rfl, hs_837⟩

def F7.J7p (lf : Nat) (xa47 : List Img) (xa48 : List Img) : Option (Bool) :=
  F7.L8p lf lf xa47 xa48 0

theorem F7.J7_ok {ora : Ora} (hora : HOra9 ora) {lf ro : Nat} {F : List Ent} {r : (Bool)} (a47 : Option Addr) (ya47 : Dec) (xa47 : List Img) (a48 : Option Addr) (ya48 : Dec) (xa48 : List Img) (h : Heap) (hs : Sat ro h (.own ro a47 3 (imgC ya47 0 xa47) :: .rows (imgR ya47 0 xa47) :: .own ro a48 3 (imgC ya48 0 xa48) :: .rows (imgR ya48 0 xa48) :: F)) (hp : F7.J7p lf xa47 xa48 = some r) : F7.Post F ro r (F7.J7 (callW Tryd.prog ora) lf ro a47 xa47.length xa47.length a48 xa48.length xa48.length h) := by
  unfold F7.J7
  unfold F7.J7p at hp
  have hs_838 := hs.pull 3 rfl
  have hs_839 := hs_838.pull 3 rfl
  have hs_840 := hs_839.pull 3 rfl
  have hs_841 := hs_840.pull 3 rfl
  exact F7.L8_ok hora lf a47 ya47 xa47 a48 ya48 xa48 0 _ hs_841 hp

def F7.J3p (lf : Nat) (xa7 : List Int) : Option (Bool) :=
  bindp (F17.p lf xa7) fun r_752 =>
  bindp (F18.p lf xa7) fun r_761 =>
  letJ (fun (b45 : Bool) => (
    ifp b45 (
      some false) (
      F7.J7p lf r_752.1 r_761.1) : Option (Bool))) fun j46p =>
  ifp (r_752.2 != r_761.2) (
    j46p true) (
    j46p (((r_752.1).length : Int) != ((r_761.1).length : Int)))

theorem F7.J3_ok {ora : Ora} (hora : HOra9 ora) {lf ro : Nat} {F : List Ent} {r : (Bool)} (a7 : Option Addr) (c7 : Nat) (xa7 : List Int) (h : Heap) (hs : Sat ro h (.row a7 c7 (xa7.map (Value.int .u8)) :: F)) (hp : F7.J3p lf xa7 = some r) : F7.Post F ro r (F7.J3 (callW Tryd.prog ora) lf ro a7 xa7.length c7 h) := by
  unfold F7.J3
  unfold F7.J3p at hp
  have hs_751 := hs.dup
  obtain ⟨r_752, hx_753, hp⟩ := bindp_some hp
  obtain ⟨a_757, a_758, h_754, e_756, hs_755⟩ := F17.ok hora (ro := ro) (F := .row a7 c7 (xa7.map (Value.int .u8)) :: F) a7 c7 xa7 _ hs_751 hx_753
  refine st_ok (Q := F7.Post F ro r) isO e_756 ?_
  refine st_tup (Q := F7.Post F ro r) (l := [.slice a_757 (r_752.1).length (r_752.1).length, .int .i64 r_752.2]) ?_
  refine st_cons (Q := F7.Post F ro r) ?_
  refine st_slice (Q := F7.Post F ro r) ?_
  refine st_cons (Q := F7.Post F ro r) ?_
  refine st_int (Q := F7.Post F ro r) ?_
  refine st_nil (Q := F7.Post F ro r) ?_
  have hs_759 := hs_755.pull 2 rfl
  have hs_760 := hs_759.dup
  obtain ⟨r_761, hx_762, hp⟩ := bindp_some hp
  obtain ⟨a_766, a_767, h_763, e_765, hs_764⟩ := F18.ok hora.toHOra (ro := ro) (F := .row a7 c7 (xa7.map (Value.int .u8)) :: .own ro a_757 3 (imgC a_758 0 r_752.1) :: .rows (imgR a_758 0 r_752.1) :: F) a7 c7 xa7 _ hs_760 hx_762
  refine st_ok (Q := F7.Post F ro r) isO e_765 ?_
  refine st_tup (Q := F7.Post F ro r) (l := [.slice a_766 (r_761.1).length (r_761.1).length, .int .i64 r_761.2]) ?_
  refine st_cons (Q := F7.Post F ro r) ?_
  refine st_slice (Q := F7.Post F ro r) ?_
  refine st_cons (Q := F7.Post F ro r) ?_
  refine st_int (Q := F7.Post F ro r) ?_
  refine st_nil (Q := F7.Post F ro r) ?_
  refine st_letJ hp (fun j46p j46 => ∀ (b45 : Bool), Sat ro h_763 (.own ro a_766 3 (imgC a_767 0 r_761.1) :: .rows (imgR a_767 0 r_761.1) :: .own ro a_757 3 (imgC a_758 0 r_752.1) :: .rows (imgR a_758 0 r_752.1) :: F) → j46p b45 = some r → F7.Post F ro r (j46 b45)) ?_ ?_
  · intro b45 hs hp
    refine st_if (Q := F7.Post F ro r) (fun hc_782 => ?_) (fun hc_782 => ?_)
    · replace hp := ifp_t hc_782 hp
      have hs_783 := hs.tail
      have hs_784 := hs_783.tail
      have hs_785 := hs_784.tail
      have hs_786 := hs_785.tail
      cases hp
      exact ⟨_, rfl, hs_786⟩
    · replace hp := ifp_f hc_782 hp
      have hs_842 := hs.pull 1 rfl
      have hs_843 := hs_842.pull 1 rfl
      have hs_844 := hs_843.pull 3 rfl
      have hs_845 := hs_844.pull 3 rfl
      exact F7.J7_ok hora a_757 a_758 r_752.1 a_766 a_767 r_761.1 _ hs_845 hp
  · intro j46p j46 hj46 hp
    refine st_if (Q := F7.Post F ro r) (fun hc_768 => ?_) (fun hc_768 => ?_)
    · replace hp := ifp_t hc_768 hp
      have hs_769 := hs_764.pull 2 rfl
      have hs_770 := hs_769.tail
      have hs_771 := hs_770.pull 3 rfl
      have hs_772 := hs_771.pull 3 rfl
      have hs_773 := hs_772.pull 3 rfl
      have hs_774 := hs_773.pull 3 rfl
      exact hj46 true hs_774 hp
    · replace hp := ifp_f hc_768 hp
      have hs_775 := hs_764.pull 2 rfl
      have hs_776 := hs_775.tail
      have hs_777 := hs_776.pull 3 rfl
      have hs_778 := hs_777.pull 3 rfl
      have hs_779 := hs_778.pull 3 rfl
      have hs_780 := hs_779.pull 3 rfl
      exact hj46 (((r_752.1).length : Int) != ((r_761.1).length : Int)) hs_780 hp

def F7.p (lf : Nat) (xax0 : List Int) : Option (Bool) :=
  ifp (decide ((xax0.length : Int) > 2000)) (
    bindp (F9.p lf) fun r_745 =>
    some r_745) (
    F7.J3p lf xax0)

theorem F7.t_ok {ora : Ora} (hora : HOra9 ora) {lf ro : Nat} {F : List Ent} {r : (Bool)} (ax0 : Option Addr) (cx0 : Nat) (xax0 : List Int) (h : Heap) (hs : Sat ro h (.row ax0 cx0 (xax0.map (Value.int .u8)) :: F)) (hp : F7.p lf xax0 = some r) : F7.Post F ro r (F7.t (callW Tryd.prog ora) lf ro ax0 xax0.length cx0 h) := by
  unfold F7.t
  unfold F7.p at hp
  refine st_if (Q := F7.Post F ro r) (fun hc_744 => ?_) (fun hc_744 => ?_)
  · replace hp := ifp_t hc_744 hp
    obtain ⟨r_745, hx_746, hp⟩ := bindp_some hp
    obtain ⟨h_747, e_749, hs_748⟩ := F9.ok hora (ro := ro) (F := .row ax0 cx0 (xax0.map (Value.int .u8)) :: F)  _ hs hx_746
    refine st_ok (Q := F7.Post F ro r) isO e_749 ?_
    refine st_bool (Q := F7.Post F ro r) ?_
    have hs_750 := hs_748.tail
    cases hp
    exact ⟨_, rfl, hs_750⟩
  · replace hp := ifp_f hc_744 hp
    exact F7.J3_ok hora ax0 _ xax0 _ hs hp

theorem F7.ok {ora : Ora} (hora : HOra9 ora) {lf ro : Nat} {F : List Ent} {r : (Bool)} (ax0 : Option Addr) (cx0 : Nat) (xax0 : List Int) (h : Heap) (hs : Sat ro h (.row ax0 cx0 (xax0.map (Value.int .u8)) :: F)) (hp : F7.p lf xax0 = some r) : F7.Post F ro r (callW Tryd.prog ora ro 7 [.slice ax0 xax0.length cx0] h) := by
  have h1 := F7.t_ok hora ax0 cx0 xax0 h hs hp
  have h2 : callW Tryd.prog ora ro 7 [.slice ax0 xax0.length cx0] h = _ := callW_body (hora.none _ _ _ _ (by decide)) Tryd.func7 (F7.le (callW Tryd.prog ora) lf ro ax0 xax0.length cx0 h) (F7.Post.ne h1)
  rw [h2]; exact h1

end Go.Proofs.YtgpnjdldpehidaaDoor
