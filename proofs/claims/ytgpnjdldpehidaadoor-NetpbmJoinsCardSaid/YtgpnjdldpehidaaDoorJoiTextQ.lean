/-
  The functions that read and the law as plain functions of numbers and lists, and that they answer as the program does where they answer at all; no statement of the seat is proved in this file.
-/
import Derived.Test.YtgpnjdldpehidaaDoorJoiTextJ
import Derived.Test.YtgpnjdldpehidaaDoorJoiTextP
import Derived.Test.YtgpnjdldpehidaaDoorAbsG
open Go Go.Abs Go.Proofs
set_option maxRecDepth 100000
set_option linter.unusedVariables false
set_option linter.unusedSimpArgs false
namespace Go.Proofs.YtgpnjdldpehidaaDoor

theorem inf5 : Tryd.prog.info? 5 = some Tryd.t5 := by kernel_rfl
theorem siz22 : sizeOf? Tryd.prog 22 = some 1 := by kernel_rfl
theorem siz3 : sizeOf? Tryd.prog 3 = some 1 := by kernel_rfl
theorem zer5 : zeroOf Tryd.prog 5 = some (Value.int .u8 0) := by kernel_rfl

def F36.Post (F : List Ent) (ro : Nat) (r : (Bool)) (x : Out) : Prop := ∃ h', x = .ok (.bool r) h' ∧ Sat ro h' (F)
theorem F36.Post.ne {F : List Ent} {ro : Nat} {r : (Bool)} {x : Out} (hx : F36.Post F ro r x) : x ≠ .fail := by
  obtain ⟨h', rfl, _⟩ := hx
  simp

def F36.p (lf : Nat) (x0 : Int) : Option (Bool) :=
  letJ (fun (b1 : Bool) => (
    some b1 : Option (Bool))) fun j2p =>
  ifp (x0 == 32) (
    j2p true) (
    ifp (x0 == 9) (
      j2p true) (
      ifp (x0 == 10) (
        j2p true) (
        j2p (x0 == 13))))

theorem F36.t_ok {ora : Ora} (hora : HOra ora) {lf ro : Nat} {F : List Ent} {r : (Bool)} (x0 : Int) (h : Heap) (hs : Sat ro h (F)) (hp : F36.p lf x0 = some r) : F36.Post F ro r (F36.t (callW Tryd.prog ora) lf ro x0 h) := by
  unfold F36.t
  unfold F36.p at hp
  refine st_letJ hp (fun j2p j2 => ∀ (b1 : Bool), Sat ro h (F) → j2p b1 = some r → F36.Post F ro r (j2 b1)) ?_ ?_
  · intro b1 hs hp
    cases hp
    exact ⟨_, rfl, hs⟩
  · intro j2p j2 hj2 hp
    refine st_if (Q := F36.Post F ro r) (fun hc_1 => ?_) (fun hc_1 => ?_)
    · replace hp := ifp_t hc_1 hp
      exact hj2 true hs hp
    · replace hp := ifp_f hc_1 hp
      refine st_if (Q := F36.Post F ro r) (fun hc_2 => ?_) (fun hc_2 => ?_)
      · replace hp := ifp_t hc_2 hp
        exact hj2 true hs hp
      · replace hp := ifp_f hc_2 hp
        refine st_if (Q := F36.Post F ro r) (fun hc_3 => ?_) (fun hc_3 => ?_)
        · replace hp := ifp_t hc_3 hp
          exact hj2 true hs hp
        · replace hp := ifp_f hc_3 hp
          exact hj2 (x0 == 13) hs hp

theorem F36.ok {ora : Ora} (hora : HOra ora) {lf ro : Nat} {F : List Ent} {r : (Bool)} (x0 : Int) (h : Heap) (hs : Sat ro h (F)) (hp : F36.p lf x0 = some r) : F36.Post F ro r (callW Tryd.prog ora ro 36 [.int .u8 x0] h) := by
  have h1 := F36.t_ok hora x0 h hs hp
  have h2 : callW Tryd.prog ora ro 36 [.int .u8 x0] h = _ := callW_body (hora.none _ _ _ _ (by decide)) Tryd.func36 (F36.le (callW Tryd.prog ora) lf ro x0 h) (F36.Post.ne h1)
  rw [h2]; exact h1

def F51.Post (F : List Ent) (ro : Nat) (r : (Bool)) (x : Out) : Prop := ∃ h', x = .ok (.bool r) h' ∧ Sat ro h' (F)
theorem F51.Post.ne {F : List Ent} {ro : Nat} {r : (Bool)} {x : Out} (hx : F51.Post F ro r x) : x ≠ .fail := by
  obtain ⟨h', rfl, _⟩ := hx
  simp

def F51.p (lf : Nat) (x0 : Int) : Option (Bool) :=
  letJ (fun (b1 : Bool) => (
    some b1 : Option (Bool))) fun j2p =>
  ifp (decide (x0 ≥ 48)) (
    j2p (decide (x0 ≤ 57))) (
    j2p false)

theorem F51.t_ok {ora : Ora} (hora : HOra ora) {lf ro : Nat} {F : List Ent} {r : (Bool)} (x0 : Int) (h : Heap) (hs : Sat ro h (F)) (hp : F51.p lf x0 = some r) : F51.Post F ro r (F51.t (callW Tryd.prog ora) lf ro x0 h) := by
  unfold F51.t
  unfold F51.p at hp
  refine st_letJ hp (fun j2p j2 => ∀ (b1 : Bool), Sat ro h (F) → j2p b1 = some r → F51.Post F ro r (j2 b1)) ?_ ?_
  · intro b1 hs hp
    cases hp
    exact ⟨_, rfl, hs⟩
  · intro j2p j2 hj2 hp
    refine st_if (Q := F51.Post F ro r) (fun hc_5 => ?_) (fun hc_5 => ?_)
    · replace hp := ifp_t hc_5 hp
      exact hj2 (decide (x0 ≤ 57)) hs hp
    · replace hp := ifp_f hc_5 hp
      exact hj2 false hs hp

theorem F51.ok {ora : Ora} (hora : HOra ora) {lf ro : Nat} {F : List Ent} {r : (Bool)} (x0 : Int) (h : Heap) (hs : Sat ro h (F)) (hp : F51.p lf x0 = some r) : F51.Post F ro r (callW Tryd.prog ora ro 51 [.int .u8 x0] h) := by
  have h1 := F51.t_ok hora x0 h hs hp
  have h2 : callW Tryd.prog ora ro 51 [.int .u8 x0] h = _ := callW_body (hora.none _ _ _ _ (by decide)) Tryd.func51 (F51.le (callW Tryd.prog ora) lf ro x0 h) (F51.Post.ne h1)
  rw [h2]; exact h1

def F54.Post (F : List Ent) (ro : Nat) (r : (Bool)) (x : Out) : Prop := ∃ h', x = .ok (.bool r) h' ∧ Sat ro h' (F)
theorem F54.Post.ne {F : List Ent} {ro : Nat} {r : (Bool)} {x : Out} (hx : F54.Post F ro r x) : x ≠ .fail := by
  obtain ⟨h', rfl, _⟩ := hx
  simp

def F54.p (lf : Nat) (x0 : Int) : Option (Bool) :=
  letJ (fun (b1 : Bool) => (
    some b1 : Option (Bool))) fun j2p =>
  ifp (x0 == 1) (
    j2p true) (
    j2p (x0 == 2))

theorem F54.t_ok {ora : Ora} (hora : HOra ora) {lf ro : Nat} {F : List Ent} {r : (Bool)} (x0 : Int) (h : Heap) (hs : Sat ro h (F)) (hp : F54.p lf x0 = some r) : F54.Post F ro r (F54.t (callW Tryd.prog ora) lf ro x0 h) := by
  unfold F54.t
  unfold F54.p at hp
  refine st_letJ hp (fun j2p j2 => ∀ (b1 : Bool), Sat ro h (F) → j2p b1 = some r → F54.Post F ro r (j2 b1)) ?_ ?_
  · intro b1 hs hp
    cases hp
    exact ⟨_, rfl, hs⟩
  · intro j2p j2 hj2 hp
    refine st_if (Q := F54.Post F ro r) (fun hc_7 => ?_) (fun hc_7 => ?_)
    · replace hp := ifp_t hc_7 hp
      exact hj2 true hs hp
    · replace hp := ifp_f hc_7 hp
      exact hj2 (x0 == 2) hs hp

theorem F54.ok {ora : Ora} (hora : HOra ora) {lf ro : Nat} {F : List Ent} {r : (Bool)} (x0 : Int) (h : Heap) (hs : Sat ro h (F)) (hp : F54.p lf x0 = some r) : F54.Post F ro r (callW Tryd.prog ora ro 54 [.int .i64 x0] h) := by
  have h1 := F54.t_ok hora x0 h hs hp
  have h2 : callW Tryd.prog ora ro 54 [.int .i64 x0] h = _ := callW_body (hora.none _ _ _ _ (by decide)) Tryd.func54 (F54.le (callW Tryd.prog ora) lf ro x0 h) (F54.Post.ne h1)
  rw [h2]; exact h1

def F52.Post (px0 : Nat) (apx0_0 : Option Addr) (cpx0_0 : Nat) (xpx0_0 : List Int) (F : List Ent) (ro : Nat) (r : (Res (Int) (Int × Int))) (x : Out) : Prop := match r with
  | .ok r => ∃ h', x = .ok (.tuple #[]) h' ∧ Sat ro h' (.own ro (some ⟨px0, 0, none⟩) 1 [.slice apx0_0 xpx0_0.length cpx0_0, .int .i64 r] :: F)
  | .pan r => ∃ h', x = .panic (.iface 77 (.agg #[.int .i64 r.1])) h' ∧ Sat ro h' (.own ro (some ⟨px0, 0, none⟩) 1 [.slice apx0_0 xpx0_0.length cpx0_0, .int .i64 r.2] :: F)
theorem F52.Post.ne {px0 : Nat} {apx0_0 : Option Addr} {cpx0_0 : Nat} {xpx0_0 : List Int} {F : List Ent} {ro : Nat} {r : (Res (Int) (Int × Int))} {x : Out} (hx : F52.Post px0 apx0_0 cpx0_0 xpx0_0 F ro r x) : x ≠ .fail := by
  cases r with
  | ok r => obtain ⟨h', rfl, _⟩ := hx; simp
  | pan r => obtain ⟨h', rfl, _⟩ := hx; simp

def F52.p (lf : Nat) (xpx0_0 : List Int) (mpx0_1 : Int) (x1 : Bool) (x2 : Int) : Option (Res (Int) (Int × Int)) :=
  ifp (!x1) (
    some (.pan (x2, mpx0_1))) (
    some (.ok mpx0_1))

theorem F52.t_ok {ora : Ora} (hora : HOra ora) {lf ro : Nat} {F : List Ent} {r : (Res (Int) (Int × Int))} {px0 : Nat} {apx0_0 : Option Addr} {cpx0_0 : Nat} {xpx0_0 : List Int} (mpx0_1 : Int) (x1 : Bool) (x2 : Int) (h : Heap) (hs : Sat ro h (.own ro (some ⟨px0, 0, none⟩) 1 [.slice apx0_0 xpx0_0.length cpx0_0, .int .i64 mpx0_1] :: .row apx0_0 cpx0_0 (xpx0_0.map (Value.int .u8)) :: F)) (hp : F52.p lf xpx0_0 mpx0_1 x1 x2 = some r) : F52.Post px0 apx0_0 cpx0_0 xpx0_0 F ro r (F52.t (callW Tryd.prog ora) lf ro px0 0 x1 x2 h) := by
  unfold F52.t
  unfold F52.p at hp
  refine st_if (Q := F52.Post px0 apx0_0 cpx0_0 xpx0_0 F ro r) (fun hc_9 => ?_) (fun hc_9 => ?_)
  · replace hp := ifp_t hc_9 hp
    have hs_10 := hs.pull 1 rfl
    have hs_11 := hs_10.tail
    cases hp
    exact ⟨_, rfl, hs_11⟩
  · replace hp := ifp_f hc_9 hp
    have hs_12 := hs.pull 1 rfl
    have hs_13 := hs_12.tail
    cases hp
    exact ⟨_, rfl, hs_13⟩

theorem F52.ok {ora : Ora} (hora : HOra ora) {lf ro : Nat} {F : List Ent} {r : (Res (Int) (Int × Int))} {px0 : Nat} {apx0_0 : Option Addr} {cpx0_0 : Nat} {xpx0_0 : List Int} (mpx0_1 : Int) (x1 : Bool) (x2 : Int) (h : Heap) (hs : Sat ro h (.own ro (some ⟨px0, 0, none⟩) 1 [.slice apx0_0 xpx0_0.length cpx0_0, .int .i64 mpx0_1] :: .row apx0_0 cpx0_0 (xpx0_0.map (Value.int .u8)) :: F)) (hp : F52.p lf xpx0_0 mpx0_1 x1 x2 = some r) : F52.Post px0 apx0_0 cpx0_0 xpx0_0 F ro r (callW Tryd.prog ora ro 52 [.pointer (some ⟨px0, 0, none⟩), .bool x1, .int .i64 x2] h) := by
  have h1 := F52.t_ok hora mpx0_1 x1 x2 h hs hp
  have h2 : callW Tryd.prog ora ro 52 [.pointer (some ⟨px0, 0, none⟩), .bool x1, .int .i64 x2] h = _ := callW_body (hora.none _ _ _ _ (by decide)) Tryd.func52 (F52.le (callW Tryd.prog ora) lf ro px0 0 x1 x2 h) (F52.Post.ne h1)
  rw [h2]; exact h1

def F67.Post (px0 : Nat) (apx0_0 : Option Addr) (cpx0_0 : Nat) (xpx0_0 : List Int) (F : List Ent) (ro : Nat) (r : (Int)) (x : Out) : Prop := ∃ h', x = .ok (.tuple #[]) h' ∧ Sat ro h' (.own ro (some ⟨px0, 0, none⟩) 1 [.slice apx0_0 xpx0_0.length cpx0_0, .int .i64 r] :: F)
theorem F67.Post.ne {px0 : Nat} {apx0_0 : Option Addr} {cpx0_0 : Nat} {xpx0_0 : List Int} {F : List Ent} {ro : Nat} {r : (Int)} {x : Out} (hx : F67.Post px0 apx0_0 cpx0_0 xpx0_0 F ro r x) : x ≠ .fail := by
  obtain ⟨h', rfl, _⟩ := hx
  simp

def F67.L5p (lf : Nat) (kb0p : List Int → Int → Option (Int)) : Nat → List Int → Int → Option (Int)
  | 0, _, _ => none
  | n + 1, xpx0_0, mpx0_1 =>
  letJ (fun (b80 : Bool) => (
    ifp b80 (
      F67.L5p lf kb0p n xpx0_0 (IntKind.i64.wrap (mpx0_1 + 1))) (
      kb0p xpx0_0 mpx0_1) : Option (Int))) fun j82p =>
  ifp (decide (mpx0_1 < (xpx0_0.length : Int))) (
    bindp (idxp xpx0_0 mpx0_1) fun x_31 =>
    ifp (x_31 != 10) (
      bindp (idxp xpx0_0 mpx0_1) fun x_36 =>
      j82p (x_36 != 13)) (
      j82p false)) (
    j82p false)

theorem F67.L5_ok {ora : Ora} (hora : HOra ora) {lf ro : Nat} {F : List Ent} {r : (Int)} {px0 : Nat} {apx0_0 : Option Addr} {cpx0_0 : Nat} {xpx0_0 : List Int} {kb0p : List Int → Int → Option (Int)} {kb0 : Nat → Nat → Heap → Out} (hkb0 : ∀ (mpx0_1 : Int) (h : Heap), Sat ro h (.own ro (some ⟨px0, 0, none⟩) 1 [.slice apx0_0 xpx0_0.length cpx0_0, .int .i64 mpx0_1] :: .row apx0_0 cpx0_0 (xpx0_0.map (Value.int .u8)) :: F) → kb0p xpx0_0 mpx0_1 = some r → F67.Post px0 apx0_0 cpx0_0 xpx0_0 F ro r (kb0 px0 0 h)) : ∀ (n : Nat) (mpx0_1 : Int) (h : Heap), Sat ro h (.own ro (some ⟨px0, 0, none⟩) 1 [.slice apx0_0 xpx0_0.length cpx0_0, .int .i64 mpx0_1] :: .row apx0_0 cpx0_0 (xpx0_0.map (Value.int .u8)) :: F) → F67.L5p lf kb0p n xpx0_0 mpx0_1 = some r → F67.Post px0 apx0_0 cpx0_0 xpx0_0 F ro r (F67.L5 (callW Tryd.prog ora) lf ro kb0 n px0 0 h) := by
  intro n
  induction n with
  | zero => intro mpx0_1 h hs hp; cases hp
  | succ n ih =>
    intro mpx0_1 h hs hp
    unfold F67.L5
    unfold F67.L5p at hp
    refine st_letJ hp (fun j82p j82 => ∀ (b80 : Bool) (h_43 : Heap), Sat ro h_43 (.own ro (some ⟨px0, 0, none⟩) 1 [.slice apx0_0 xpx0_0.length cpx0_0, .int .i64 mpx0_1] :: .row apx0_0 cpx0_0 (xpx0_0.map (Value.int .u8)) :: F) → j82p b80 = some r → F67.Post px0 apx0_0 cpx0_0 xpx0_0 F ro r (j82 b80 h_43)) ?_ ?_
    · intro b80 h_43 hs hp
      refine st_if (Q := F67.Post px0 apx0_0 cpx0_0 xpx0_0 F ro r) (fun hc_44 => ?_) (fun hc_44 => ?_)
      · replace hp := ifp_t hc_44 hp
        refine st_load (Q := F67.Post px0 apx0_0 cpx0_0 xpx0_0 F ro r) isO hs agg3 rfl ?_
        refine st_int (Q := F67.Post px0 apx0_0 cpx0_0 xpx0_0 F ro r) ?_
        refine st_store (Q := F67.Post px0 apx0_0 cpx0_0 xpx0_0 F ro r) isO hs siz3 rfl (Nat.le_of_ble_eq_true rfl) fun h_45 hs_46 => ?_
        have hs_47 := hs_46.pull 1 rfl
        have hs_48 := hs_47.pull 1 rfl
        exact ih (IntKind.i64.wrap (mpx0_1 + 1)) _ hs_48 hp
      · replace hp := ifp_f hc_44 hp
        have hs_49 := hs.pull 1 rfl
        have hs_50 := hs_49.pull 1 rfl
        exact hkb0 mpx0_1 _ hs_50 hp
    · intro j82p j82 hj82 hp
      refine st_load (Q := F67.Post px0 apx0_0 cpx0_0 xpx0_0 F ro r) isN hs agg3 rfl ?_
      refine st_int (Q := F67.Post px0 apx0_0 cpx0_0 xpx0_0 F ro r) ?_
      refine st_load (Q := F67.Post px0 apx0_0 cpx0_0 xpx0_0 F ro r) isN hs agg22 rfl ?_
      refine st_slice (Q := F67.Post px0 apx0_0 cpx0_0 xpx0_0 F ro r) ?_
      refine st_if (Q := F67.Post px0 apx0_0 cpx0_0 xpx0_0 F ro r) (fun hc_30 => ?_) (fun hc_30 => ?_)
      · replace hp := ifp_t hc_30 hp
        refine st_load (Q := F67.Post px0 apx0_0 cpx0_0 xpx0_0 F ro r) isN hs agg22 rfl ?_
        refine st_slice (Q := F67.Post px0 apx0_0 cpx0_0 xpx0_0 F ro r) ?_
        refine st_load (Q := F67.Post px0 apx0_0 cpx0_0 xpx0_0 F ro r) isN hs agg3 rfl ?_
        refine st_int (Q := F67.Post px0 apx0_0 cpx0_0 xpx0_0 F ro r) ?_
        have hs_33 := hs.pull 1 rfl
        obtain ⟨x_31, hx_32, hp⟩ := bindp_some hp
        refine st_idxR (Q := F67.Post px0 apx0_0 cpx0_0 xpx0_0 F ro r) (l := xpx0_0) (f := (Value.int .u8)) isN isN hs_33 und22 siz5 agg5 rfl hx_32 ?_
        refine st_int (Q := F67.Post px0 apx0_0 cpx0_0 xpx0_0 F ro r) ?_
        refine st_if (Q := F67.Post px0 apx0_0 cpx0_0 xpx0_0 F ro r) (fun hc_34 => ?_) (fun hc_34 => ?_)
        · replace hp := ifp_t hc_34 hp
          have hs_35 := hs_33.pull 1 rfl
          refine st_load (Q := F67.Post px0 apx0_0 cpx0_0 xpx0_0 F ro r) isN hs_35 agg22 rfl ?_
          refine st_slice (Q := F67.Post px0 apx0_0 cpx0_0 xpx0_0 F ro r) ?_
          refine st_load (Q := F67.Post px0 apx0_0 cpx0_0 xpx0_0 F ro r) isN hs_35 agg3 rfl ?_
          refine st_int (Q := F67.Post px0 apx0_0 cpx0_0 xpx0_0 F ro r) ?_
          have hs_38 := hs_35.pull 1 rfl
          obtain ⟨x_36, hx_37, hp⟩ := bindp_some hp
          refine st_idxR (Q := F67.Post px0 apx0_0 cpx0_0 xpx0_0 F ro r) (l := xpx0_0) (f := (Value.int .u8)) isO isO hs_38 und22 siz5 agg5 rfl hx_37 ?_
          refine st_int (Q := F67.Post px0 apx0_0 cpx0_0 xpx0_0 F ro r) ?_
          have hs_39 := hs_38.pull 1 rfl
          exact hj82 (x_36 != 13) _ hs_39 hp
        · replace hp := ifp_f hc_34 hp
          have hs_40 := hs_33.pull 1 rfl
          exact hj82 false _ hs_40 hp
      · replace hp := ifp_f hc_30 hp
        have hs_41 := hs.pull 1 rfl
        have hs_42 := hs_41.pull 1 rfl
        exact hj82 false _ hs_42 hp

def F67.J1p (lf : Nat) (kb0p : List Int → Int → Option (Int)) (xpx0_0 : List Int) (mpx0_1 : Int) : Option (Int) :=
  bindp (idxp xpx0_0 mpx0_1) fun x_15 =>
  bindp (F36.p lf x_15) fun r_18 =>
  ifp r_18 (
    kb0p xpx0_0 (IntKind.i64.wrap (mpx0_1 + 1))) (
    ifp (x_15 == 35) (
      F67.L5p lf kb0p lf xpx0_0 mpx0_1) (
      some mpx0_1))

theorem F67.J1_ok {ora : Ora} (hora : HOra ora) {lf ro : Nat} {F : List Ent} {r : (Int)} {px0 : Nat} {apx0_0 : Option Addr} {cpx0_0 : Nat} {xpx0_0 : List Int} {kb0p : List Int → Int → Option (Int)} {kb0 : Nat → Nat → Heap → Out} (hkb0 : ∀ (mpx0_1 : Int) (h : Heap), Sat ro h (.own ro (some ⟨px0, 0, none⟩) 1 [.slice apx0_0 xpx0_0.length cpx0_0, .int .i64 mpx0_1] :: .row apx0_0 cpx0_0 (xpx0_0.map (Value.int .u8)) :: F) → kb0p xpx0_0 mpx0_1 = some r → F67.Post px0 apx0_0 cpx0_0 xpx0_0 F ro r (kb0 px0 0 h)) (mpx0_1 : Int) (h : Heap) (hs : Sat ro h (.own ro (some ⟨px0, 0, none⟩) 1 [.slice apx0_0 xpx0_0.length cpx0_0, .int .i64 mpx0_1] :: .row apx0_0 cpx0_0 (xpx0_0.map (Value.int .u8)) :: F)) (hp : F67.J1p lf kb0p xpx0_0 mpx0_1 = some r) : F67.Post px0 apx0_0 cpx0_0 xpx0_0 F ro r (F67.J1 (callW Tryd.prog ora) lf ro kb0 px0 0 h) := by
  unfold F67.J1
  unfold F67.J1p at hp
  refine st_load (Q := F67.Post px0 apx0_0 cpx0_0 xpx0_0 F ro r) isN hs agg22 rfl ?_
  refine st_slice (Q := F67.Post px0 apx0_0 cpx0_0 xpx0_0 F ro r) ?_
  refine st_load (Q := F67.Post px0 apx0_0 cpx0_0 xpx0_0 F ro r) isN hs agg3 rfl ?_
  refine st_int (Q := F67.Post px0 apx0_0 cpx0_0 xpx0_0 F ro r) ?_
  have hs_17 := hs.pull 1 rfl
  obtain ⟨x_15, hx_16, hp⟩ := bindp_some hp
  refine st_idxR (Q := F67.Post px0 apx0_0 cpx0_0 xpx0_0 F ro r) (l := xpx0_0) (f := (Value.int .u8)) isO isO hs_17 und22 siz5 agg5 rfl hx_16 ?_
  refine st_int (Q := F67.Post px0 apx0_0 cpx0_0 xpx0_0 F ro r) ?_
  obtain ⟨r_18, hx_19, hp⟩ := bindp_some hp
  obtain ⟨h_20, e_22, hs_21⟩ := F36.ok hora (ro := ro) (F := .row apx0_0 cpx0_0 (xpx0_0.map (Value.int .u8)) :: .own ro (some ⟨px0, 0, none⟩) 1 [.slice apx0_0 xpx0_0.length cpx0_0, .int .i64 mpx0_1] :: F) x_15 _ hs_17 hx_19
  refine st_ok (Q := F67.Post px0 apx0_0 cpx0_0 xpx0_0 F ro r) isO e_22 ?_
  refine st_bool (Q := F67.Post px0 apx0_0 cpx0_0 xpx0_0 F ro r) ?_
  refine st_if (Q := F67.Post px0 apx0_0 cpx0_0 xpx0_0 F ro r) (fun hc_23 => ?_) (fun hc_23 => ?_)
  · replace hp := ifp_t hc_23 hp
    have hs_24 := hs_21.pull 1 rfl
    refine st_load (Q := F67.Post px0 apx0_0 cpx0_0 xpx0_0 F ro r) isO hs_24 agg3 rfl ?_
    refine st_int (Q := F67.Post px0 apx0_0 cpx0_0 xpx0_0 F ro r) ?_
    refine st_store (Q := F67.Post px0 apx0_0 cpx0_0 xpx0_0 F ro r) isO hs_24 siz3 rfl (Nat.le_of_ble_eq_true rfl) fun h_25 hs_26 => ?_
    have hs_27 := hs_26.pull 1 rfl
    have hs_28 := hs_27.pull 1 rfl
    exact hkb0 (IntKind.i64.wrap (mpx0_1 + 1)) _ hs_28 hp
  · replace hp := ifp_f hc_23 hp
    refine st_if (Q := F67.Post px0 apx0_0 cpx0_0 xpx0_0 F ro r) (fun hc_29 => ?_) (fun hc_29 => ?_)
    · replace hp := ifp_t hc_29 hp
      have hs_51 := hs_21.pull 1 rfl
      exact F67.L5_ok hora hkb0 lf mpx0_1 _ hs_51 hp
    · replace hp := ifp_f hc_29 hp
      have hs_52 := hs_21.tail
      cases hp
      exact ⟨_, rfl, hs_52⟩

def F67.L0p (lf : Nat) : Nat → List Int → Int → Option (Int)
  | 0, _, _ => none
  | n + 1, xpx0_0, mpx0_1 =>
  ifp (decide (mpx0_1 < (xpx0_0.length : Int))) (
    F67.J1p lf (F67.L0p lf n) xpx0_0 mpx0_1) (
    some mpx0_1)

theorem F67.L0_ok {ora : Ora} (hora : HOra ora) {lf ro : Nat} {F : List Ent} {r : (Int)} {px0 : Nat} {apx0_0 : Option Addr} {cpx0_0 : Nat} {xpx0_0 : List Int} : ∀ (n : Nat) (mpx0_1 : Int) (h : Heap), Sat ro h (.own ro (some ⟨px0, 0, none⟩) 1 [.slice apx0_0 xpx0_0.length cpx0_0, .int .i64 mpx0_1] :: .row apx0_0 cpx0_0 (xpx0_0.map (Value.int .u8)) :: F) → F67.L0p lf n xpx0_0 mpx0_1 = some r → F67.Post px0 apx0_0 cpx0_0 xpx0_0 F ro r (F67.L0 (callW Tryd.prog ora) lf ro n px0 0 h) := by
  intro n
  induction n with
  | zero => intro mpx0_1 h hs hp; cases hp
  | succ n ih =>
    intro mpx0_1 h hs hp
    unfold F67.L0
    unfold F67.L0p at hp
    refine st_load (Q := F67.Post px0 apx0_0 cpx0_0 xpx0_0 F ro r) isN hs agg3 rfl ?_
    refine st_int (Q := F67.Post px0 apx0_0 cpx0_0 xpx0_0 F ro r) ?_
    refine st_load (Q := F67.Post px0 apx0_0 cpx0_0 xpx0_0 F ro r) isN hs agg22 rfl ?_
    refine st_slice (Q := F67.Post px0 apx0_0 cpx0_0 xpx0_0 F ro r) ?_
    refine st_if (Q := F67.Post px0 apx0_0 cpx0_0 xpx0_0 F ro r) (fun hc_14 => ?_) (fun hc_14 => ?_)
    · replace hp := ifp_t hc_14 hp
      have hs_53 := hs.pull 1 rfl
      have hs_54 := hs_53.pull 1 rfl
      exact F67.J1_ok hora ih mpx0_1 _ hs_54 hp
    · replace hp := ifp_f hc_14 hp
      have hs_55 := hs.pull 1 rfl
      have hs_56 := hs_55.tail
      cases hp
      exact ⟨_, rfl, hs_56⟩

def F67.p (lf : Nat) (xpx0_0 : List Int) (mpx0_1 : Int) : Option (Int) :=
  F67.L0p lf lf xpx0_0 mpx0_1

theorem F67.t_ok {ora : Ora} (hora : HOra ora) {lf ro : Nat} {F : List Ent} {r : (Int)} {px0 : Nat} {apx0_0 : Option Addr} {cpx0_0 : Nat} {xpx0_0 : List Int} (mpx0_1 : Int) (h : Heap) (hs : Sat ro h (.own ro (some ⟨px0, 0, none⟩) 1 [.slice apx0_0 xpx0_0.length cpx0_0, .int .i64 mpx0_1] :: .row apx0_0 cpx0_0 (xpx0_0.map (Value.int .u8)) :: F)) (hp : F67.p lf xpx0_0 mpx0_1 = some r) : F67.Post px0 apx0_0 cpx0_0 xpx0_0 F ro r (F67.t (callW Tryd.prog ora) lf ro px0 0 h) := by
  unfold F67.t
  unfold F67.p at hp
  have hs_57 := hs.pull 1 rfl
  have hs_58 := hs_57.pull 1 rfl
  exact F67.L0_ok hora lf mpx0_1 _ hs_58 hp

theorem F67.ok {ora : Ora} (hora : HOra ora) {lf ro : Nat} {F : List Ent} {r : (Int)} {px0 : Nat} {apx0_0 : Option Addr} {cpx0_0 : Nat} {xpx0_0 : List Int} (mpx0_1 : Int) (h : Heap) (hs : Sat ro h (.own ro (some ⟨px0, 0, none⟩) 1 [.slice apx0_0 xpx0_0.length cpx0_0, .int .i64 mpx0_1] :: .row apx0_0 cpx0_0 (xpx0_0.map (Value.int .u8)) :: F)) (hp : F67.p lf xpx0_0 mpx0_1 = some r) : F67.Post px0 apx0_0 cpx0_0 xpx0_0 F ro r (callW Tryd.prog ora ro 67 [.pointer (some ⟨px0, 0, none⟩)] h) := by
  have h1 := F67.t_ok hora mpx0_1 h hs hp
  have h2 : callW Tryd.prog ora ro 67 [.pointer (some ⟨px0, 0, none⟩)] h = _ := callW_body (hora.none _ _ _ _ (by decide)) Tryd.func67 (F67.le (callW Tryd.prog ora) lf ro px0 0 h) (F67.Post.ne h1)
  rw [h2]; exact h1

def F65.Post (px0 : Nat) (apx0_0 : Option Addr) (cpx0_0 : Nat) (xpx0_0 : List Int) (F : List Ent) (ro : Nat) (r : (Res (Int × Int) (Int × Int))) (x : Out) : Prop := match r with
  | .ok r => ∃ h', x = .ok (.int .i64 r.1) h' ∧ Sat ro h' (.own ro (some ⟨px0, 0, none⟩) 1 [.slice apx0_0 xpx0_0.length cpx0_0, .int .i64 r.2] :: F)
  | .pan r => ∃ h', x = .panic (.iface 77 (.agg #[.int .i64 r.1])) h' ∧ Sat ro h' (.own ro (some ⟨px0, 0, none⟩) 1 [.slice apx0_0 xpx0_0.length cpx0_0, .int .i64 r.2] :: F)
theorem F65.Post.ne {px0 : Nat} {apx0_0 : Option Addr} {cpx0_0 : Nat} {xpx0_0 : List Int} {F : List Ent} {ro : Nat} {r : (Res (Int × Int) (Int × Int))} {x : Out} (hx : F65.Post px0 apx0_0 cpx0_0 xpx0_0 F ro r x) : x ≠ .fail := by
  cases r with
  | ok r => obtain ⟨h', rfl, _⟩ := hx; simp
  | pan r => obtain ⟨h', rfl, _⟩ := hx; simp

def F65.L7p (lf : Nat) : Nat → List Int → Int → Int → Option (Res (Int × Int) (Int × Int))
  | 0, _, _, _ => none
  | n + 1, xpx0_0, mpx0_1, n97 =>
  letJ ((
    some (.ok (n97, mpx0_1)) : Option (Res (Int × Int) (Int × Int)))) fun j170p =>
  letJ (fun (b191 : Bool) => (
    ifp b191 (
      bindp (idxp xpx0_0 mpx0_1) fun x_140 =>
      F65.L7p lf n xpx0_0 (IntKind.i64.wrap (mpx0_1 + 1)) (if 65536 < IntKind.i64.wrap ((IntKind.i64.wrap (10 * n97)) + (IntKind.i64.wrap (IntKind.u8.wrap (x_140 - 48)))) then 65536 else IntKind.i64.wrap ((IntKind.i64.wrap (10 * n97)) + (IntKind.i64.wrap (IntKind.u8.wrap (x_140 - 48)))))) (
      j170p) : Option (Res (Int × Int) (Int × Int)))) fun j193p =>
  ifp (decide (mpx0_1 < (xpx0_0.length : Int))) (
    bindp (idxp xpx0_0 mpx0_1) fun x_127 =>
    bindp (F51.p lf x_127) fun r_130 =>
    j193p r_130) (
    j193p false)

theorem F65.L7_ok {ora : Ora} (hora : HOra ora) {lf ro : Nat} {F : List Ent} {r : (Res (Int × Int) (Int × Int))} {px0 : Nat} {apx0_0 : Option Addr} {cpx0_0 : Nat} {xpx0_0 : List Int} : ∀ (n : Nat) (mpx0_1 : Int) (n97 : Int) (h : Heap), Sat ro h (.own ro (some ⟨px0, 0, none⟩) 1 [.slice apx0_0 xpx0_0.length cpx0_0, .int .i64 mpx0_1] :: .row apx0_0 cpx0_0 (xpx0_0.map (Value.int .u8)) :: F) → F65.L7p lf n xpx0_0 mpx0_1 n97 = some r → F65.Post px0 apx0_0 cpx0_0 xpx0_0 F ro r (F65.L7 (callW Tryd.prog ora) lf ro n px0 0 n97 h) := by
  intro n
  induction n with
  | zero => intro mpx0_1 n97 h hs hp; cases hp
  | succ n ih =>
    intro mpx0_1 n97 h hs hp
    unfold F65.L7
    unfold F65.L7p at hp
    refine st_letJ hp (fun j170p j170 => ∀  (h_150 : Heap), Sat ro h_150 (.own ro (some ⟨px0, 0, none⟩) 1 [.slice apx0_0 xpx0_0.length cpx0_0, .int .i64 mpx0_1] :: .row apx0_0 cpx0_0 (xpx0_0.map (Value.int .u8)) :: F) → j170p = some r → F65.Post px0 apx0_0 cpx0_0 xpx0_0 F ro r (j170 h_150)) ?_ ?_
    · intro  h_150 hs hp
      have hs_151 := hs.pull 1 rfl
      have hs_152 := hs_151.tail
      cases hp
      exact ⟨_, rfl, hs_152⟩
    · intro j170p j170 hj170 hp
      refine st_letJ hp (fun j193p j193 => ∀ (b191 : Bool) (h_138 : Heap), Sat ro h_138 (.own ro (some ⟨px0, 0, none⟩) 1 [.slice apx0_0 xpx0_0.length cpx0_0, .int .i64 mpx0_1] :: .row apx0_0 cpx0_0 (xpx0_0.map (Value.int .u8)) :: F) → j193p b191 = some r → F65.Post px0 apx0_0 cpx0_0 xpx0_0 F ro r (j193 b191 h_138)) ?_ ?_
      · intro b191 h_138 hs hp
        refine st_if (Q := F65.Post px0 apx0_0 cpx0_0 xpx0_0 F ro r) (fun hc_139 => ?_) (fun hc_139 => ?_)
        · replace hp := ifp_t hc_139 hp
          refine st_load (Q := F65.Post px0 apx0_0 cpx0_0 xpx0_0 F ro r) isN hs agg22 rfl ?_
          refine st_slice (Q := F65.Post px0 apx0_0 cpx0_0 xpx0_0 F ro r) ?_
          refine st_load (Q := F65.Post px0 apx0_0 cpx0_0 xpx0_0 F ro r) isN hs agg3 rfl ?_
          refine st_int (Q := F65.Post px0 apx0_0 cpx0_0 xpx0_0 F ro r) ?_
          have hs_142 := hs.pull 1 rfl
          obtain ⟨x_140, hx_141, hp⟩ := bindp_some hp
          refine st_idxR (Q := F65.Post px0 apx0_0 cpx0_0 xpx0_0 F ro r) (l := xpx0_0) (f := (Value.int .u8)) isN isN hs_142 und22 siz5 agg5 rfl hx_141 ?_
          refine st_int (Q := F65.Post px0 apx0_0 cpx0_0 xpx0_0 F ro r) ?_
          have hs_143 := hs_142.pull 1 rfl
          refine st_load (Q := F65.Post px0 apx0_0 cpx0_0 xpx0_0 F ro r) isO hs_143 agg3 rfl ?_
          refine st_int (Q := F65.Post px0 apx0_0 cpx0_0 xpx0_0 F ro r) ?_
          refine st_store (Q := F65.Post px0 apx0_0 cpx0_0 xpx0_0 F ro r) isO hs_143 siz3 rfl (Nat.le_of_ble_eq_true rfl) fun h_144 hs_145 => ?_
          have hs_146 := hs_145.pull 1 rfl
          have hs_147 := hs_146.pull 1 rfl
          exact ih (IntKind.i64.wrap (mpx0_1 + 1)) (if 65536 < IntKind.i64.wrap ((IntKind.i64.wrap (10 * n97)) + (IntKind.i64.wrap (IntKind.u8.wrap (x_140 - 48)))) then 65536 else IntKind.i64.wrap ((IntKind.i64.wrap (10 * n97)) + (IntKind.i64.wrap (IntKind.u8.wrap (x_140 - 48))))) _ hs_147 hp
        · replace hp := ifp_f hc_139 hp
          have hs_148 := hs.pull 1 rfl
          have hs_149 := hs_148.pull 1 rfl
          exact hj170 _ hs_149 hp
      · intro j193p j193 hj193 hp
        refine st_load (Q := F65.Post px0 apx0_0 cpx0_0 xpx0_0 F ro r) isN hs agg3 rfl ?_
        refine st_int (Q := F65.Post px0 apx0_0 cpx0_0 xpx0_0 F ro r) ?_
        refine st_load (Q := F65.Post px0 apx0_0 cpx0_0 xpx0_0 F ro r) isN hs agg22 rfl ?_
        refine st_slice (Q := F65.Post px0 apx0_0 cpx0_0 xpx0_0 F ro r) ?_
        refine st_if (Q := F65.Post px0 apx0_0 cpx0_0 xpx0_0 F ro r) (fun hc_126 => ?_) (fun hc_126 => ?_)
        · replace hp := ifp_t hc_126 hp
          refine st_load (Q := F65.Post px0 apx0_0 cpx0_0 xpx0_0 F ro r) isN hs agg22 rfl ?_
          refine st_slice (Q := F65.Post px0 apx0_0 cpx0_0 xpx0_0 F ro r) ?_
          refine st_load (Q := F65.Post px0 apx0_0 cpx0_0 xpx0_0 F ro r) isN hs agg3 rfl ?_
          refine st_int (Q := F65.Post px0 apx0_0 cpx0_0 xpx0_0 F ro r) ?_
          have hs_129 := hs.pull 1 rfl
          obtain ⟨x_127, hx_128, hp⟩ := bindp_some hp
          refine st_idxR (Q := F65.Post px0 apx0_0 cpx0_0 xpx0_0 F ro r) (l := xpx0_0) (f := (Value.int .u8)) isO isO hs_129 und22 siz5 agg5 rfl hx_128 ?_
          refine st_int (Q := F65.Post px0 apx0_0 cpx0_0 xpx0_0 F ro r) ?_
          obtain ⟨r_130, hx_131, hp⟩ := bindp_some hp
          obtain ⟨h_132, e_134, hs_133⟩ := F51.ok hora (ro := ro) (F := .row apx0_0 cpx0_0 (xpx0_0.map (Value.int .u8)) :: .own ro (some ⟨px0, 0, none⟩) 1 [.slice apx0_0 xpx0_0.length cpx0_0, .int .i64 mpx0_1] :: F) x_127 _ hs_129 hx_131
          refine st_ok (Q := F65.Post px0 apx0_0 cpx0_0 xpx0_0 F ro r) isO e_134 ?_
          refine st_bool (Q := F65.Post px0 apx0_0 cpx0_0 xpx0_0 F ro r) ?_
          have hs_135 := hs_133.pull 1 rfl
          exact hj193 r_130 _ hs_135 hp
        · replace hp := ifp_f hc_126 hp
          have hs_136 := hs.pull 1 rfl
          have hs_137 := hs_136.pull 1 rfl
          exact hj193 false _ hs_137 hp

def F65.J3p (lf : Nat) (xpx0_0 : List Int) (mpx0_1 : Int) : Option (Res (Int × Int) (Int × Int)) :=
  bindp (F67.p lf xpx0_0 mpx0_1) fun r_92 =>
  bindr (F52.p lf xpx0_0 r_92 (decide (r_92 < (xpx0_0.length : Int))) 10) (fun r_106 => some (.pan (r_106.1, r_106.2))) fun r_105 =>
  bindp (idxp xpx0_0 r_105) fun x_108 =>
  bindp (F51.p lf x_108) fun r_111 =>
  bindr (F52.p lf xpx0_0 r_105 r_111 9) (fun r_124 => some (.pan (r_124.1, r_124.2))) fun r_123 =>
  F65.L7p lf lf xpx0_0 r_123 0

theorem F65.J3_ok {ora : Ora} (hora : HOra ora) {lf ro : Nat} {F : List Ent} {r : (Res (Int × Int) (Int × Int))} {px0 : Nat} {apx0_0 : Option Addr} {cpx0_0 : Nat} {xpx0_0 : List Int} (mpx0_1 : Int) (h : Heap) (hs : Sat ro h (.own ro (some ⟨px0, 0, none⟩) 1 [.slice apx0_0 xpx0_0.length cpx0_0, .int .i64 mpx0_1] :: .row apx0_0 cpx0_0 (xpx0_0.map (Value.int .u8)) :: F)) (hp : F65.J3p lf xpx0_0 mpx0_1 = some r) : F65.Post px0 apx0_0 cpx0_0 xpx0_0 F ro r (F65.J3 (callW Tryd.prog ora) lf ro px0 0 h) := by
  unfold F65.J3
  unfold F65.J3p at hp
  have hs_89 := hs.pull 1 rfl
  have hs_90 := hs_89.dup
  have hs_91 := hs_90.pull 2 rfl
  obtain ⟨r_92, hx_93, hp⟩ := bindp_some hp
  obtain ⟨h_94, e_96, hs_95⟩ := F67.ok hora (ro := ro) (px0 := px0) (apx0_0 := apx0_0) (cpx0_0 := cpx0_0) (xpx0_0 := xpx0_0) (F := .row apx0_0 cpx0_0 (xpx0_0.map (Value.int .u8)) :: F) mpx0_1 _ hs_91 hx_93
  refine st_ok (Q := F65.Post px0 apx0_0 cpx0_0 xpx0_0 F ro r) isO e_96 ?_
  refine st_tup (Q := F65.Post px0 apx0_0 cpx0_0 xpx0_0 F ro r) (l := []) ?_
  refine st_nil (Q := F65.Post px0 apx0_0 cpx0_0 xpx0_0 F ro r) ?_
  refine st_load (Q := F65.Post px0 apx0_0 cpx0_0 xpx0_0 F ro r) isN hs_95 agg3 rfl ?_
  refine st_int (Q := F65.Post px0 apx0_0 cpx0_0 xpx0_0 F ro r) ?_
  refine st_load (Q := F65.Post px0 apx0_0 cpx0_0 xpx0_0 F ro r) isN hs_95 agg22 rfl ?_
  refine st_slice (Q := F65.Post px0 apx0_0 cpx0_0 xpx0_0 F ro r) ?_
  have hs_97 := hs_95.pull 1 rfl
  have hs_98 := hs_97.dup
  have hs_99 := hs_98.pull 2 rfl
  obtain ⟨r_100, hx_101, hp⟩ := bindr_some hp
  have hc_107 := F52.ok hora (ro := ro) (px0 := px0) (apx0_0 := apx0_0) (cpx0_0 := cpx0_0) (xpx0_0 := xpx0_0) (F := .row apx0_0 cpx0_0 (xpx0_0.map (Value.int .u8)) :: F) r_92 (decide (r_92 < (xpx0_0.length : Int))) 10 _ hs_99 hx_101
  cases r_100 with
  | ok r_105 =>
    replace hp := bindr_ok hp
    obtain ⟨h_102, e_104, hs_103⟩ := hc_107
    refine st_ok (Q := F65.Post px0 apx0_0 cpx0_0 xpx0_0 F ro r) isO e_104 ?_
    refine st_tup (Q := F65.Post px0 apx0_0 cpx0_0 xpx0_0 F ro r) (l := []) ?_
    refine st_nil (Q := F65.Post px0 apx0_0 cpx0_0 xpx0_0 F ro r) ?_
    refine st_load (Q := F65.Post px0 apx0_0 cpx0_0 xpx0_0 F ro r) isN hs_103 agg22 rfl ?_
    refine st_slice (Q := F65.Post px0 apx0_0 cpx0_0 xpx0_0 F ro r) ?_
    refine st_load (Q := F65.Post px0 apx0_0 cpx0_0 xpx0_0 F ro r) isN hs_103 agg3 rfl ?_
    refine st_int (Q := F65.Post px0 apx0_0 cpx0_0 xpx0_0 F ro r) ?_
    have hs_110 := hs_103.pull 1 rfl
    obtain ⟨x_108, hx_109, hp⟩ := bindp_some hp
    refine st_idxR (Q := F65.Post px0 apx0_0 cpx0_0 xpx0_0 F ro r) (l := xpx0_0) (f := (Value.int .u8)) isN isN hs_110 und22 siz5 agg5 rfl hx_109 ?_
    refine st_int (Q := F65.Post px0 apx0_0 cpx0_0 xpx0_0 F ro r) ?_
    obtain ⟨r_111, hx_112, hp⟩ := bindp_some hp
    obtain ⟨h_113, e_115, hs_114⟩ := F51.ok hora (ro := ro) (F := .row apx0_0 cpx0_0 (xpx0_0.map (Value.int .u8)) :: .own ro (some ⟨px0, 0, none⟩) 1 [.slice apx0_0 xpx0_0.length cpx0_0, .int .i64 r_105] :: F) x_108 _ hs_110 hx_112
    refine st_ok (Q := F65.Post px0 apx0_0 cpx0_0 xpx0_0 F ro r) isN e_115 ?_
    refine st_bool (Q := F65.Post px0 apx0_0 cpx0_0 xpx0_0 F ro r) ?_
    have hs_116 := hs_114.dup
    have hs_117 := hs_116.pull 2 rfl
    obtain ⟨r_118, hx_119, hp⟩ := bindr_some hp
    have hc_125 := F52.ok hora (ro := ro) (px0 := px0) (apx0_0 := apx0_0) (cpx0_0 := cpx0_0) (xpx0_0 := xpx0_0) (F := .row apx0_0 cpx0_0 (xpx0_0.map (Value.int .u8)) :: F) r_105 r_111 9 _ hs_117 hx_119
    cases r_118 with
    | ok r_123 =>
      replace hp := bindr_ok hp
      obtain ⟨h_120, e_122, hs_121⟩ := hc_125
      refine st_ok (Q := F65.Post px0 apx0_0 cpx0_0 xpx0_0 F ro r) isO e_122 ?_
      refine st_tup (Q := F65.Post px0 apx0_0 cpx0_0 xpx0_0 F ro r) (l := []) ?_
      refine st_nil (Q := F65.Post px0 apx0_0 cpx0_0 xpx0_0 F ro r) ?_
      have hs_153 := hs_121.pull 1 rfl
      have hs_154 := hs_153.pull 1 rfl
      exact F65.L7_ok hora lf r_123 0 _ hs_154 hp
    | pan r_124 =>
      replace hp := bindr_pan hp
      obtain ⟨h_155, e_157, hs_156⟩ := hc_125
      refine st_pan (Q := F65.Post px0 apx0_0 cpx0_0 xpx0_0 F ro r) e_157 ?_
      have hs_158 := hs_156.pull 1 rfl
      have hs_159 := hs_158.tail
      cases hp
      exact ⟨_, rfl, hs_159⟩
  | pan r_106 =>
    replace hp := bindr_pan hp
    obtain ⟨h_160, e_162, hs_161⟩ := hc_107
    refine st_pan (Q := F65.Post px0 apx0_0 cpx0_0 xpx0_0 F ro r) e_162 ?_
    have hs_163 := hs_161.pull 1 rfl
    have hs_164 := hs_163.tail
    cases hp
    exact ⟨_, rfl, hs_164⟩

def F65.p (lf : Nat) (xpx0_0 : List Int) (mpx0_1 : Int) : Option (Res (Int × Int) (Int × Int)) :=
  bindr (F52.p lf xpx0_0 mpx0_1 (decide (mpx0_1 < (xpx0_0.length : Int))) 10) (fun r_68 => some (.pan (r_68.1, r_68.2))) fun r_67 =>
  bindp (idxp xpx0_0 r_67) fun x_70 =>
  bindp (F36.p lf x_70) fun r_73 =>
  ifp r_73 (
    bindr (F52.p lf xpx0_0 r_67 true 9) (fun r_87 => some (.pan (r_87.1, r_87.2))) fun r_86 =>
    F65.J3p lf xpx0_0 r_86) (
    bindp (idxp xpx0_0 r_67) fun x_173 =>
    bindr (F52.p lf xpx0_0 r_67 (x_173 == 35) 9) (fun r_184 => some (.pan (r_184.1, r_184.2))) fun r_183 =>
    F65.J3p lf xpx0_0 r_183)

theorem F65.t_ok {ora : Ora} (hora : HOra ora) {lf ro : Nat} {F : List Ent} {r : (Res (Int × Int) (Int × Int))} {px0 : Nat} {apx0_0 : Option Addr} {cpx0_0 : Nat} {xpx0_0 : List Int} (mpx0_1 : Int) (h : Heap) (hs : Sat ro h (.own ro (some ⟨px0, 0, none⟩) 1 [.slice apx0_0 xpx0_0.length cpx0_0, .int .i64 mpx0_1] :: .row apx0_0 cpx0_0 (xpx0_0.map (Value.int .u8)) :: F)) (hp : F65.p lf xpx0_0 mpx0_1 = some r) : F65.Post px0 apx0_0 cpx0_0 xpx0_0 F ro r (F65.t (callW Tryd.prog ora) lf ro px0 0 h) := by
  unfold F65.t
  unfold F65.p at hp
  refine st_load (Q := F65.Post px0 apx0_0 cpx0_0 xpx0_0 F ro r) isN hs agg3 rfl ?_
  refine st_int (Q := F65.Post px0 apx0_0 cpx0_0 xpx0_0 F ro r) ?_
  refine st_load (Q := F65.Post px0 apx0_0 cpx0_0 xpx0_0 F ro r) isN hs agg22 rfl ?_
  refine st_slice (Q := F65.Post px0 apx0_0 cpx0_0 xpx0_0 F ro r) ?_
  have hs_59 := hs.pull 1 rfl
  have hs_60 := hs_59.dup
  have hs_61 := hs_60.pull 2 rfl
  obtain ⟨r_62, hx_63, hp⟩ := bindr_some hp
  have hc_69 := F52.ok hora (ro := ro) (px0 := px0) (apx0_0 := apx0_0) (cpx0_0 := cpx0_0) (xpx0_0 := xpx0_0) (F := .row apx0_0 cpx0_0 (xpx0_0.map (Value.int .u8)) :: F) mpx0_1 (decide (mpx0_1 < (xpx0_0.length : Int))) 10 _ hs_61 hx_63
  cases r_62 with
  | ok r_67 =>
    replace hp := bindr_ok hp
    obtain ⟨h_64, e_66, hs_65⟩ := hc_69
    refine st_ok (Q := F65.Post px0 apx0_0 cpx0_0 xpx0_0 F ro r) isO e_66 ?_
    refine st_tup (Q := F65.Post px0 apx0_0 cpx0_0 xpx0_0 F ro r) (l := []) ?_
    refine st_nil (Q := F65.Post px0 apx0_0 cpx0_0 xpx0_0 F ro r) ?_
    refine st_load (Q := F65.Post px0 apx0_0 cpx0_0 xpx0_0 F ro r) isN hs_65 agg22 rfl ?_
    refine st_slice (Q := F65.Post px0 apx0_0 cpx0_0 xpx0_0 F ro r) ?_
    refine st_load (Q := F65.Post px0 apx0_0 cpx0_0 xpx0_0 F ro r) isN hs_65 agg3 rfl ?_
    refine st_int (Q := F65.Post px0 apx0_0 cpx0_0 xpx0_0 F ro r) ?_
    have hs_72 := hs_65.pull 1 rfl
    obtain ⟨x_70, hx_71, hp⟩ := bindp_some hp
    refine st_idxR (Q := F65.Post px0 apx0_0 cpx0_0 xpx0_0 F ro r) (l := xpx0_0) (f := (Value.int .u8)) isN isN hs_72 und22 siz5 agg5 rfl hx_71 ?_
    refine st_int (Q := F65.Post px0 apx0_0 cpx0_0 xpx0_0 F ro r) ?_
    obtain ⟨r_73, hx_74, hp⟩ := bindp_some hp
    obtain ⟨h_75, e_77, hs_76⟩ := F36.ok hora (ro := ro) (F := .row apx0_0 cpx0_0 (xpx0_0.map (Value.int .u8)) :: .own ro (some ⟨px0, 0, none⟩) 1 [.slice apx0_0 xpx0_0.length cpx0_0, .int .i64 r_67] :: F) x_70 _ hs_72 hx_74
    refine st_ok (Q := F65.Post px0 apx0_0 cpx0_0 xpx0_0 F ro r) isN e_77 ?_
    refine st_bool (Q := F65.Post px0 apx0_0 cpx0_0 xpx0_0 F ro r) ?_
    refine st_if (Q := F65.Post px0 apx0_0 cpx0_0 xpx0_0 F ro r) (fun hc_78 => ?_) (fun hc_78 => ?_)
    · replace hp := ifp_t hc_78 hp
      have hs_79 := hs_76.dup
      have hs_80 := hs_79.pull 2 rfl
      obtain ⟨r_81, hx_82, hp⟩ := bindr_some hp
      have hc_88 := F52.ok hora (ro := ro) (px0 := px0) (apx0_0 := apx0_0) (cpx0_0 := cpx0_0) (xpx0_0 := xpx0_0) (F := .row apx0_0 cpx0_0 (xpx0_0.map (Value.int .u8)) :: F) r_67 true 9 _ hs_80 hx_82
      cases r_81 with
      | ok r_86 =>
        replace hp := bindr_ok hp
        obtain ⟨h_83, e_85, hs_84⟩ := hc_88
        refine st_ok (Q := F65.Post px0 apx0_0 cpx0_0 xpx0_0 F ro r) isO e_85 ?_
        refine st_tup (Q := F65.Post px0 apx0_0 cpx0_0 xpx0_0 F ro r) (l := []) ?_
        refine st_nil (Q := F65.Post px0 apx0_0 cpx0_0 xpx0_0 F ro r) ?_
        have hs_165 := hs_84.pull 1 rfl
        have hs_166 := hs_165.pull 1 rfl
        exact F65.J3_ok hora r_86 _ hs_166 hp
      | pan r_87 =>
        replace hp := bindr_pan hp
        obtain ⟨h_167, e_169, hs_168⟩ := hc_88
        refine st_pan (Q := F65.Post px0 apx0_0 cpx0_0 xpx0_0 F ro r) e_169 ?_
        have hs_170 := hs_168.pull 1 rfl
        have hs_171 := hs_170.tail
        cases hp
        exact ⟨_, rfl, hs_171⟩
    · replace hp := ifp_f hc_78 hp
      have hs_172 := hs_76.pull 1 rfl
      refine st_load (Q := F65.Post px0 apx0_0 cpx0_0 xpx0_0 F ro r) isN hs_172 agg22 rfl ?_
      refine st_slice (Q := F65.Post px0 apx0_0 cpx0_0 xpx0_0 F ro r) ?_
      refine st_load (Q := F65.Post px0 apx0_0 cpx0_0 xpx0_0 F ro r) isN hs_172 agg3 rfl ?_
      refine st_int (Q := F65.Post px0 apx0_0 cpx0_0 xpx0_0 F ro r) ?_
      have hs_175 := hs_172.pull 1 rfl
      obtain ⟨x_173, hx_174, hp⟩ := bindp_some hp
      refine st_idxR (Q := F65.Post px0 apx0_0 cpx0_0 xpx0_0 F ro r) (l := xpx0_0) (f := (Value.int .u8)) isN isN hs_175 und22 siz5 agg5 rfl hx_174 ?_
      refine st_int (Q := F65.Post px0 apx0_0 cpx0_0 xpx0_0 F ro r) ?_
      have hs_176 := hs_175.dup
      have hs_177 := hs_176.pull 2 rfl
      obtain ⟨r_178, hx_179, hp⟩ := bindr_some hp
      have hc_185 := F52.ok hora (ro := ro) (px0 := px0) (apx0_0 := apx0_0) (cpx0_0 := cpx0_0) (xpx0_0 := xpx0_0) (F := .row apx0_0 cpx0_0 (xpx0_0.map (Value.int .u8)) :: F) r_67 (x_173 == 35) 9 _ hs_177 hx_179
      cases r_178 with
      | ok r_183 =>
        replace hp := bindr_ok hp
        obtain ⟨h_180, e_182, hs_181⟩ := hc_185
        refine st_ok (Q := F65.Post px0 apx0_0 cpx0_0 xpx0_0 F ro r) isO e_182 ?_
        refine st_tup (Q := F65.Post px0 apx0_0 cpx0_0 xpx0_0 F ro r) (l := []) ?_
        refine st_nil (Q := F65.Post px0 apx0_0 cpx0_0 xpx0_0 F ro r) ?_
        have hs_186 := hs_181.pull 1 rfl
        have hs_187 := hs_186.pull 1 rfl
        exact F65.J3_ok hora r_183 _ hs_187 hp
      | pan r_184 =>
        replace hp := bindr_pan hp
        obtain ⟨h_188, e_190, hs_189⟩ := hc_185
        refine st_pan (Q := F65.Post px0 apx0_0 cpx0_0 xpx0_0 F ro r) e_190 ?_
        have hs_191 := hs_189.pull 1 rfl
        have hs_192 := hs_191.tail
        cases hp
        exact ⟨_, rfl, hs_192⟩
  | pan r_68 =>
    replace hp := bindr_pan hp
    obtain ⟨h_193, e_195, hs_194⟩ := hc_69
    refine st_pan (Q := F65.Post px0 apx0_0 cpx0_0 xpx0_0 F ro r) e_195 ?_
    have hs_196 := hs_194.pull 1 rfl
    have hs_197 := hs_196.tail
    cases hp
    exact ⟨_, rfl, hs_197⟩

theorem F65.ok {ora : Ora} (hora : HOra ora) {lf ro : Nat} {F : List Ent} {r : (Res (Int × Int) (Int × Int))} {px0 : Nat} {apx0_0 : Option Addr} {cpx0_0 : Nat} {xpx0_0 : List Int} (mpx0_1 : Int) (h : Heap) (hs : Sat ro h (.own ro (some ⟨px0, 0, none⟩) 1 [.slice apx0_0 xpx0_0.length cpx0_0, .int .i64 mpx0_1] :: .row apx0_0 cpx0_0 (xpx0_0.map (Value.int .u8)) :: F)) (hp : F65.p lf xpx0_0 mpx0_1 = some r) : F65.Post px0 apx0_0 cpx0_0 xpx0_0 F ro r (callW Tryd.prog ora ro 65 [.pointer (some ⟨px0, 0, none⟩)] h) := by
  have h1 := F65.t_ok hora mpx0_1 h hs hp
  have h2 : callW Tryd.prog ora ro 65 [.pointer (some ⟨px0, 0, none⟩)] h = _ := callW_body (hora.none _ _ _ _ (by decide)) Tryd.func65 (F65.le (callW Tryd.prog ora) lf ro px0 0 h) (F65.Post.ne h1)
  rw [h2]; exact h1

def F53.Post (px0 : Nat) (apx0_0 : Option Addr) (cpx0_0 : Nat) (xpx0_0 : List Int) (F : List Ent) (ro : Nat) (r : (Res (Int × Int) (Int × Int))) (x : Out) : Prop := match r with
  | .ok r => ∃ h', x = .ok (.int .i64 r.1) h' ∧ Sat ro h' (.own ro (some ⟨px0, 0, none⟩) 1 [.slice apx0_0 xpx0_0.length cpx0_0, .int .i64 r.2] :: F)
  | .pan r => ∃ h', x = .panic (.iface 77 (.agg #[.int .i64 r.1])) h' ∧ Sat ro h' (.own ro (some ⟨px0, 0, none⟩) 1 [.slice apx0_0 xpx0_0.length cpx0_0, .int .i64 r.2] :: F)
theorem F53.Post.ne {px0 : Nat} {apx0_0 : Option Addr} {cpx0_0 : Nat} {xpx0_0 : List Int} {F : List Ent} {ro : Nat} {r : (Res (Int × Int) (Int × Int))} {x : Out} (hx : F53.Post px0 apx0_0 cpx0_0 xpx0_0 F ro r x) : x ≠ .fail := by
  cases r with
  | ok r => obtain ⟨h', rfl, _⟩ := hx; simp
  | pan r => obtain ⟨h', rfl, _⟩ := hx; simp

def F53.p (lf : Nat) (xpx0_0 : List Int) (mpx0_1 : Int) (x1 : Int) (x2 : Int) : Option (Res (Int × Int) (Int × Int)) :=
  bindr (F65.p lf xpx0_0 mpx0_1) (fun r_207 => some (.pan (r_207.1, r_207.2))) fun r_206 =>
  bindr (F52.p lf xpx0_0 r_206.2 (decide (r_206.2 < (xpx0_0.length : Int))) 10) (fun r_218 => some (.pan (r_218.1, r_218.2))) fun r_217 =>
  letJ (fun (mj32_0_1 : Int) => (
    some (.ok (r_206.1, mj32_0_1)) : Option (Res (Int × Int) (Int × Int)))) fun j32p =>
  ifp (decide (r_206.1 ≥ x1)) (
    bindr (F52.p lf xpx0_0 r_217 (decide (r_206.1 ≤ x2)) 3) (fun r_230 => some (.pan (r_230.1, r_230.2))) fun r_229 =>
    j32p r_229) (
    bindr (F52.p lf xpx0_0 r_217 false 3) (fun r_248 => some (.pan (r_248.1, r_248.2))) fun r_247 =>
    j32p r_247)

theorem F53.t_ok {ora : Ora} (hora : HOra ora) {lf ro : Nat} {F : List Ent} {r : (Res (Int × Int) (Int × Int))} {px0 : Nat} {apx0_0 : Option Addr} {cpx0_0 : Nat} {xpx0_0 : List Int} (mpx0_1 : Int) (x1 : Int) (x2 : Int) (h : Heap) (hs : Sat ro h (.own ro (some ⟨px0, 0, none⟩) 1 [.slice apx0_0 xpx0_0.length cpx0_0, .int .i64 mpx0_1] :: .row apx0_0 cpx0_0 (xpx0_0.map (Value.int .u8)) :: F)) (hp : F53.p lf xpx0_0 mpx0_1 x1 x2 = some r) : F53.Post px0 apx0_0 cpx0_0 xpx0_0 F ro r (F53.t (callW Tryd.prog ora) lf ro px0 0 x1 x2 h) := by
  unfold F53.t
  unfold F53.p at hp
  have hs_198 := hs.pull 1 rfl
  have hs_199 := hs_198.dup
  have hs_200 := hs_199.pull 2 rfl
  obtain ⟨r_201, hx_202, hp⟩ := bindr_some hp
  have hc_208 := F65.ok hora (ro := ro) (px0 := px0) (apx0_0 := apx0_0) (cpx0_0 := cpx0_0) (xpx0_0 := xpx0_0) (F := .row apx0_0 cpx0_0 (xpx0_0.map (Value.int .u8)) :: F) mpx0_1 _ hs_200 hx_202
  cases r_201 with
  | ok r_206 =>
    replace hp := bindr_ok hp
    obtain ⟨h_203, e_205, hs_204⟩ := hc_208
    refine st_ok (Q := F53.Post px0 apx0_0 cpx0_0 xpx0_0 F ro r) isO e_205 ?_
    refine st_int (Q := F53.Post px0 apx0_0 cpx0_0 xpx0_0 F ro r) ?_
    refine st_load (Q := F53.Post px0 apx0_0 cpx0_0 xpx0_0 F ro r) isN hs_204 agg3 rfl ?_
    refine st_int (Q := F53.Post px0 apx0_0 cpx0_0 xpx0_0 F ro r) ?_
    refine st_load (Q := F53.Post px0 apx0_0 cpx0_0 xpx0_0 F ro r) isN hs_204 agg22 rfl ?_
    refine st_slice (Q := F53.Post px0 apx0_0 cpx0_0 xpx0_0 F ro r) ?_
    have hs_209 := hs_204.pull 1 rfl
    have hs_210 := hs_209.dup
    have hs_211 := hs_210.pull 2 rfl
    obtain ⟨r_212, hx_213, hp⟩ := bindr_some hp
    have hc_219 := F52.ok hora (ro := ro) (px0 := px0) (apx0_0 := apx0_0) (cpx0_0 := cpx0_0) (xpx0_0 := xpx0_0) (F := .row apx0_0 cpx0_0 (xpx0_0.map (Value.int .u8)) :: F) r_206.2 (decide (r_206.2 < (xpx0_0.length : Int))) 10 _ hs_211 hx_213
    cases r_212 with
    | ok r_217 =>
      replace hp := bindr_ok hp
      obtain ⟨h_214, e_216, hs_215⟩ := hc_219
      refine st_ok (Q := F53.Post px0 apx0_0 cpx0_0 xpx0_0 F ro r) isO e_216 ?_
      refine st_tup (Q := F53.Post px0 apx0_0 cpx0_0 xpx0_0 F ro r) (l := []) ?_
      refine st_nil (Q := F53.Post px0 apx0_0 cpx0_0 xpx0_0 F ro r) ?_
      refine st_letJ hp (fun j32p j32 => ∀ (mj32_0_1 : Int) (h_257 : Heap), Sat ro h_257 (.own ro (some ⟨px0, 0, none⟩) 1 [.slice apx0_0 xpx0_0.length cpx0_0, .int .i64 mj32_0_1] :: .row apx0_0 cpx0_0 (xpx0_0.map (Value.int .u8)) :: F) → j32p mj32_0_1 = some r → F53.Post px0 apx0_0 cpx0_0 xpx0_0 F ro r (j32 h_257)) ?_ ?_
      · intro mj32_0_1 h_257 hs hp
        have hs_258 := hs.pull 1 rfl
        have hs_259 := hs_258.tail
        cases hp
        exact ⟨_, rfl, hs_259⟩
      · intro j32p j32 hj32 hp
        refine st_if (Q := F53.Post px0 apx0_0 cpx0_0 xpx0_0 F ro r) (fun hc_220 => ?_) (fun hc_220 => ?_)
        · replace hp := ifp_t hc_220 hp
          have hs_221 := hs_215.pull 1 rfl
          have hs_222 := hs_221.dup
          have hs_223 := hs_222.pull 2 rfl
          obtain ⟨r_224, hx_225, hp⟩ := bindr_some hp
          have hc_231 := F52.ok hora (ro := ro) (px0 := px0) (apx0_0 := apx0_0) (cpx0_0 := cpx0_0) (xpx0_0 := xpx0_0) (F := .row apx0_0 cpx0_0 (xpx0_0.map (Value.int .u8)) :: F) r_217 (decide (r_206.1 ≤ x2)) 3 _ hs_223 hx_225
          cases r_224 with
          | ok r_229 =>
            replace hp := bindr_ok hp
            obtain ⟨h_226, e_228, hs_227⟩ := hc_231
            refine st_ok (Q := F53.Post px0 apx0_0 cpx0_0 xpx0_0 F ro r) isO e_228 ?_
            refine st_tup (Q := F53.Post px0 apx0_0 cpx0_0 xpx0_0 F ro r) (l := []) ?_
            refine st_nil (Q := F53.Post px0 apx0_0 cpx0_0 xpx0_0 F ro r) ?_
            have hs_232 := hs_227.pull 1 rfl
            have hs_233 := hs_232.pull 1 rfl
            exact hj32 r_229 _ hs_233 hp
          | pan r_230 =>
            replace hp := bindr_pan hp
            obtain ⟨h_234, e_236, hs_235⟩ := hc_231
            refine st_pan (Q := F53.Post px0 apx0_0 cpx0_0 xpx0_0 F ro r) e_236 ?_
            have hs_237 := hs_235.pull 1 rfl
            have hs_238 := hs_237.tail
            cases hp
            exact ⟨_, rfl, hs_238⟩
        · replace hp := ifp_f hc_220 hp
          have hs_239 := hs_215.pull 1 rfl
          have hs_240 := hs_239.dup
          have hs_241 := hs_240.pull 2 rfl
          obtain ⟨r_242, hx_243, hp⟩ := bindr_some hp
          have hc_249 := F52.ok hora (ro := ro) (px0 := px0) (apx0_0 := apx0_0) (cpx0_0 := cpx0_0) (xpx0_0 := xpx0_0) (F := .row apx0_0 cpx0_0 (xpx0_0.map (Value.int .u8)) :: F) r_217 false 3 _ hs_241 hx_243
          cases r_242 with
          | ok r_247 =>
            replace hp := bindr_ok hp
            obtain ⟨h_244, e_246, hs_245⟩ := hc_249
            refine st_ok (Q := F53.Post px0 apx0_0 cpx0_0 xpx0_0 F ro r) isO e_246 ?_
            refine st_tup (Q := F53.Post px0 apx0_0 cpx0_0 xpx0_0 F ro r) (l := []) ?_
            refine st_nil (Q := F53.Post px0 apx0_0 cpx0_0 xpx0_0 F ro r) ?_
            have hs_250 := hs_245.pull 1 rfl
            have hs_251 := hs_250.pull 1 rfl
            exact hj32 r_247 _ hs_251 hp
          | pan r_248 =>
            replace hp := bindr_pan hp
            obtain ⟨h_252, e_254, hs_253⟩ := hc_249
            refine st_pan (Q := F53.Post px0 apx0_0 cpx0_0 xpx0_0 F ro r) e_254 ?_
            have hs_255 := hs_253.pull 1 rfl
            have hs_256 := hs_255.tail
            cases hp
            exact ⟨_, rfl, hs_256⟩
    | pan r_218 =>
      replace hp := bindr_pan hp
      obtain ⟨h_260, e_262, hs_261⟩ := hc_219
      refine st_pan (Q := F53.Post px0 apx0_0 cpx0_0 xpx0_0 F ro r) e_262 ?_
      have hs_263 := hs_261.pull 1 rfl
      have hs_264 := hs_263.tail
      cases hp
      exact ⟨_, rfl, hs_264⟩
  | pan r_207 =>
    replace hp := bindr_pan hp
    obtain ⟨h_265, e_267, hs_266⟩ := hc_208
    refine st_pan (Q := F53.Post px0 apx0_0 cpx0_0 xpx0_0 F ro r) e_267 ?_
    have hs_268 := hs_266.pull 1 rfl
    have hs_269 := hs_268.tail
    cases hp
    exact ⟨_, rfl, hs_269⟩

theorem F53.ok {ora : Ora} (hora : HOra ora) {lf ro : Nat} {F : List Ent} {r : (Res (Int × Int) (Int × Int))} {px0 : Nat} {apx0_0 : Option Addr} {cpx0_0 : Nat} {xpx0_0 : List Int} (mpx0_1 : Int) (x1 : Int) (x2 : Int) (h : Heap) (hs : Sat ro h (.own ro (some ⟨px0, 0, none⟩) 1 [.slice apx0_0 xpx0_0.length cpx0_0, .int .i64 mpx0_1] :: .row apx0_0 cpx0_0 (xpx0_0.map (Value.int .u8)) :: F)) (hp : F53.p lf xpx0_0 mpx0_1 x1 x2 = some r) : F53.Post px0 apx0_0 cpx0_0 xpx0_0 F ro r (callW Tryd.prog ora ro 53 [.pointer (some ⟨px0, 0, none⟩), .int .i64 x1, .int .i64 x2] h) := by
  have h1 := F53.t_ok hora mpx0_1 x1 x2 h hs hp
  have h2 : callW Tryd.prog ora ro 53 [.pointer (some ⟨px0, 0, none⟩), .int .i64 x1, .int .i64 x2] h = _ := callW_body (hora.none _ _ _ _ (by decide)) Tryd.func53 (F53.le (callW Tryd.prog ora) lf ro px0 0 x1 x2 h) (F53.Post.ne h1)
  rw [h2]; exact h1

def F66.Post (F : List Ent) (ro : Nat) (r : (Int)) (x : Out) : Prop := ∃ h', x = .ok (.int .u8 r) h' ∧ Sat ro h' (F)
theorem F66.Post.ne {F : List Ent} {ro : Nat} {r : (Int)} {x : Out} (hx : F66.Post F ro r x) : x ≠ .fail := by
  obtain ⟨h', rfl, _⟩ := hx
  simp

def F66.p (lf : Nat) (x0 : Int) (x1 : Int) : Option (Int) :=
  bindp (quop .i64 (IntKind.i64.wrap ((IntKind.i64.wrap (255 * x0)) + (IntKind.i64.wrap (Int.tdiv x1 2)))) x1) fun n_270 =>
  some (IntKind.u8.wrap n_270)

theorem F66.t_ok {ora : Ora} (hora : HOra ora) {lf ro : Nat} {F : List Ent} {r : (Int)} (x0 : Int) (x1 : Int) (h : Heap) (hs : Sat ro h (F)) (hp : F66.p lf x0 x1 = some r) : F66.Post F ro r (F66.t (callW Tryd.prog ora) lf ro x0 x1 h) := by
  unfold F66.t
  unfold F66.p at hp
  obtain ⟨n_270, hx_271, hp⟩ := bindp_some hp
  refine st_quo (Q := F66.Post F ro r) isO hx_271 ?_
  refine st_int (Q := F66.Post F ro r) ?_
  cases hp
  exact ⟨_, rfl, hs⟩

theorem F66.ok {ora : Ora} (hora : HOra ora) {lf ro : Nat} {F : List Ent} {r : (Int)} (x0 : Int) (x1 : Int) (h : Heap) (hs : Sat ro h (F)) (hp : F66.p lf x0 x1 = some r) : F66.Post F ro r (callW Tryd.prog ora ro 66 [.int .i64 x0, .int .i64 x1] h) := by
  have h1 := F66.t_ok hora x0 x1 h hs hp
  have h2 : callW Tryd.prog ora ro 66 [.int .i64 x0, .int .i64 x1] h = _ := callW_body (hora.none _ _ _ _ (by decide)) Tryd.func66 (F66.le (callW Tryd.prog ora) lf ro x0 x1 h) (F66.Post.ne h1)
  rw [h2]; exact h1

def F68.Post (F : List Ent) (ro : Nat) (r : (Int)) (x : Out) : Prop := ∃ h', x = .ok (.int .u8 r) h' ∧ Sat ro h' (F)
theorem F68.Post.ne {F : List Ent} {ro : Nat} {r : (Int)} {x : Out} (hx : F68.Post F ro r x) : x ≠ .fail := by
  obtain ⟨h', rfl, _⟩ := hx
  simp

def F68.p (lf : Nat) (x0 : Bool) : Option (Int) :=
  ifp x0 (
    some 0) (
    some 255)

theorem F68.t_ok {ora : Ora} (hora : HOra ora) {lf ro : Nat} {F : List Ent} {r : (Int)} (x0 : Bool) (h : Heap) (hs : Sat ro h (F)) (hp : F68.p lf x0 = some r) : F68.Post F ro r (F68.t (callW Tryd.prog ora) lf ro x0 h) := by
  unfold F68.t
  unfold F68.p at hp
  refine st_if (Q := F68.Post F ro r) (fun hc_272 => ?_) (fun hc_272 => ?_)
  · replace hp := ifp_t hc_272 hp
    cases hp
    exact ⟨_, rfl, hs⟩
  · replace hp := ifp_f hc_272 hp
    cases hp
    exact ⟨_, rfl, hs⟩

theorem F68.ok {ora : Ora} (hora : HOra ora) {lf ro : Nat} {F : List Ent} {r : (Int)} (x0 : Bool) (h : Heap) (hs : Sat ro h (F)) (hp : F68.p lf x0 = some r) : F68.Post F ro r (callW Tryd.prog ora ro 68 [.bool x0] h) := by
  have h1 := F68.t_ok hora x0 h hs hp
  have h2 : callW Tryd.prog ora ro 68 [.bool x0] h = _ := callW_body (hora.none _ _ _ _ (by decide)) Tryd.func68 (F68.le (callW Tryd.prog ora) lf ro x0 h) (F68.Post.ne h1)
  rw [h2]; exact h1

def F56.Post (px0 : Nat) (apx0_0 : Option Addr) (cpx0_0 : Nat) (xpx0_0 : List Int) (px1 : Nat) (F : List Ent) (ro : Nat) (r : (Res (Int × Int × Int × List Int) (Int × Int × Int × Int × List Int))) (x : Out) : Prop := match r with
  | .ok r => ∃ bpx1_2 h', x = .ok (.tuple #[]) h' ∧ Sat ro h' (.own ro (some ⟨px0, 0, none⟩) 1 [.slice apx0_0 xpx0_0.length cpx0_0, .int .i64 r.1] :: .own ro (some ⟨px1, 0, none⟩) 1 [.int .i64 r.2.1, .int .i64 r.2.2.1, .slice bpx1_2 r.2.2.2.length r.2.2.2.length] :: .own ro bpx1_2 1 (r.2.2.2.map (Value.int .u8)) :: F)
  | .pan r => ∃ bpx1_2 h', x = .panic (.iface 77 (.agg #[.int .i64 r.1])) h' ∧ Sat ro h' (.own ro (some ⟨px0, 0, none⟩) 1 [.slice apx0_0 xpx0_0.length cpx0_0, .int .i64 r.2.1] :: .own ro (some ⟨px1, 0, none⟩) 1 [.int .i64 r.2.2.1, .int .i64 r.2.2.2.1, .slice bpx1_2 r.2.2.2.2.length r.2.2.2.2.length] :: .own ro bpx1_2 1 (r.2.2.2.2.map (Value.int .u8)) :: F)
theorem F56.Post.ne {px0 : Nat} {apx0_0 : Option Addr} {cpx0_0 : Nat} {xpx0_0 : List Int} {px1 : Nat} {F : List Ent} {ro : Nat} {r : (Res (Int × Int × Int × List Int) (Int × Int × Int × Int × List Int))} {x : Out} (hx : F56.Post px0 apx0_0 cpx0_0 xpx0_0 px1 F ro r x) : x ≠ .fail := by
  cases r with
  | ok r => obtain ⟨bpx1_2, h', rfl, _⟩ := hx; simp
  | pan r => obtain ⟨bpx1_2, h', rfl, _⟩ := hx; simp

def F56.J8p (lf : Nat) (kb7p : List Int → Int → Int → Int → List Int → Int → Int → Int → Int → Int → Option (Res (Int × Int × Int × List Int) (Int × Int × Int × Int × List Int))) (xpx0_0 : List Int) (mpx0_1 : Int) (mpx1_0 : Int) (mpx1_1 : Int) (xpx1_2 : List Int) (n100 : Int) (n101 : Int) (n102 : Int) (n103 : Int) (n104 : Int) : Option (Res (Int × Int × Int × List Int) (Int × Int × Int × Int × List Int)) :=
  letJ (fun (mj583_0_1 : Int) (mj583_2_0 : Int) (mj583_2_1 : Int) (xj583_2_2 : List Int) => (
    kb7p xpx0_0 mj583_0_1 mj583_2_0 mj583_2_1 xj583_2_2 n100 n101 n102 n103 (IntKind.i64.wrap (n104 + 1)) : Option (Res (Int × Int × Int × List Int) (Int × Int × Int × Int × List Int)))) fun j583p =>
  bindp (remp n104 mpx1_0) fun n_310 =>
  bindp (quop .i64 n104 mpx1_0) fun n_312 =>
  ifp (n100 == 4) (
    bindp (idxp xpx0_0 (IntKind.i64.wrap ((IntKind.i64.wrap (mpx0_1 + (IntKind.i64.wrap (n_312 * n102)))) + (IntKind.i64.wrap (Int.tdiv n_310 8))))) fun x_316 =>
    bindp (shrp .u8 x_316 (IntKind.u64.wrap (IntKind.i64.wrap (7 - (Int.tmod n_310 8))))) fun n_319 =>
    bindp (F68.p lf ((bAnd .u8 n_319 1) == 1)) fun r_321 =>
    bindp (setp xpx1_2 n104 r_321) fun x_326 =>
    j583p mpx0_1 mpx1_0 mpx1_1 x_326) (
    bindp (idxp xpx0_0 (IntKind.i64.wrap (mpx0_1 + n104))) fun x_336 =>
    bindr (F52.p lf xpx0_0 mpx0_1 (decide (IntKind.i64.wrap x_336 ≤ n101)) 3) (fun r_347 => some (.pan (r_347.1, r_347.2, mpx1_0, mpx1_1, xpx1_2))) fun r_346 =>
    bindp (F66.p lf (IntKind.i64.wrap x_336) n101) fun r_350 =>
    bindp (setp xpx1_2 n104 r_350) fun x_355 =>
    j583p r_346 mpx1_0 mpx1_1 x_355)

theorem F56.J8_ok {ora : Ora} (hora : HOra ora) {lf ro : Nat} {F : List Ent} {r : (Res (Int × Int × Int × List Int) (Int × Int × Int × Int × List Int))} {px0 : Nat} {apx0_0 : Option Addr} {cpx0_0 : Nat} {xpx0_0 : List Int} {px1 : Nat} {kb7p : List Int → Int → Int → Int → List Int → Int → Int → Int → Int → Int → Option (Res (Int × Int × Int × List Int) (Int × Int × Int × Int × List Int))} {kb7 : Nat → Nat → Nat → Nat → Int → Int → Int → Int → Int → Heap → Out} (hkb7 : ∀ (mpx0_1 : Int) (mpx1_0 : Int) (mpx1_1 : Int) (apx1_2 : Option Addr) (xpx1_2 : List Int) (n92 : Int) (n93 : Int) (n94 : Int) (n95 : Int) (n96 : Int) (h : Heap), Sat ro h (.own ro (some ⟨px0, 0, none⟩) 1 [.slice apx0_0 xpx0_0.length cpx0_0, .int .i64 mpx0_1] :: .row apx0_0 cpx0_0 (xpx0_0.map (Value.int .u8)) :: .own ro (some ⟨px1, 0, none⟩) 1 [.int .i64 mpx1_0, .int .i64 mpx1_1, .slice apx1_2 xpx1_2.length xpx1_2.length] :: .own ro apx1_2 1 (xpx1_2.map (Value.int .u8)) :: F) → kb7p xpx0_0 mpx0_1 mpx1_0 mpx1_1 xpx1_2 n92 n93 n94 n95 n96 = some r → F56.Post px0 apx0_0 cpx0_0 xpx0_0 px1 F ro r (kb7 px0 0 px1 0 n92 n93 n94 n95 n96 h)) (mpx0_1 : Int) (mpx1_0 : Int) (mpx1_1 : Int) (apx1_2 : Option Addr) (xpx1_2 : List Int) (n100 : Int) (n101 : Int) (n102 : Int) (n103 : Int) (n104 : Int) (h : Heap) (hs : Sat ro h (.own ro (some ⟨px0, 0, none⟩) 1 [.slice apx0_0 xpx0_0.length cpx0_0, .int .i64 mpx0_1] :: .row apx0_0 cpx0_0 (xpx0_0.map (Value.int .u8)) :: .own ro (some ⟨px1, 0, none⟩) 1 [.int .i64 mpx1_0, .int .i64 mpx1_1, .slice apx1_2 xpx1_2.length xpx1_2.length] :: .own ro apx1_2 1 (xpx1_2.map (Value.int .u8)) :: F)) (hp : F56.J8p lf kb7p xpx0_0 mpx0_1 mpx1_0 mpx1_1 xpx1_2 n100 n101 n102 n103 n104 = some r) : F56.Post px0 apx0_0 cpx0_0 xpx0_0 px1 F ro r (F56.J8 (callW Tryd.prog ora) lf ro kb7 px0 0 px1 0 n100 n101 n102 n103 n104 h) := by
  unfold F56.J8
  unfold F56.J8p at hp
  refine st_letJ hp (fun j583p j583 => ∀ (mj583_0_1 : Int) (mj583_2_0 : Int) (mj583_2_1 : Int) (aj583_2_2 : Option Addr) (xj583_2_2 : List Int) (h_372 : Heap), Sat ro h_372 (.own ro (some ⟨px0, 0, none⟩) 1 [.slice apx0_0 xpx0_0.length cpx0_0, .int .i64 mj583_0_1] :: .row apx0_0 cpx0_0 (xpx0_0.map (Value.int .u8)) :: .own ro (some ⟨px1, 0, none⟩) 1 [.int .i64 mj583_2_0, .int .i64 mj583_2_1, .slice aj583_2_2 xj583_2_2.length xj583_2_2.length] :: .own ro aj583_2_2 1 (xj583_2_2.map (Value.int .u8)) :: F) → j583p mj583_0_1 mj583_2_0 mj583_2_1 xj583_2_2 = some r → F56.Post px0 apx0_0 cpx0_0 xpx0_0 px1 F ro r (j583 h_372)) ?_ ?_
  · intro mj583_0_1 mj583_2_0 mj583_2_1 aj583_2_2 xj583_2_2 h_372 hs hp
    have hs_373 := hs.pull 3 rfl
    have hs_374 := hs_373.pull 3 rfl
    have hs_375 := hs_374.pull 3 rfl
    have hs_376 := hs_375.pull 3 rfl
    exact hkb7 mj583_0_1 mj583_2_0 mj583_2_1 aj583_2_2 xj583_2_2 n100 n101 n102 n103 (IntKind.i64.wrap (n104 + 1)) _ hs_376 hp
  · intro j583p j583 hj583 hp
    have hs_309 := hs.pull 2 rfl
    refine st_load (Q := F56.Post px0 apx0_0 cpx0_0 xpx0_0 px1 F ro r) isN hs_309 agg3 rfl ?_
    refine st_int (Q := F56.Post px0 apx0_0 cpx0_0 xpx0_0 px1 F ro r) ?_
    obtain ⟨n_310, hx_311, hp⟩ := bindp_some hp
    refine st_rem (Q := F56.Post px0 apx0_0 cpx0_0 xpx0_0 px1 F ro r) isN hx_311 ?_
    refine st_int (Q := F56.Post px0 apx0_0 cpx0_0 xpx0_0 px1 F ro r) ?_
    refine st_load (Q := F56.Post px0 apx0_0 cpx0_0 xpx0_0 px1 F ro r) isN hs_309 agg3 rfl ?_
    refine st_int (Q := F56.Post px0 apx0_0 cpx0_0 xpx0_0 px1 F ro r) ?_
    obtain ⟨n_312, hx_313, hp⟩ := bindp_some hp
    refine st_quo (Q := F56.Post px0 apx0_0 cpx0_0 xpx0_0 px1 F ro r) isN hx_313 ?_
    refine st_int (Q := F56.Post px0 apx0_0 cpx0_0 xpx0_0 px1 F ro r) ?_
    refine st_if (Q := F56.Post px0 apx0_0 cpx0_0 xpx0_0 px1 F ro r) (fun hc_314 => ?_) (fun hc_314 => ?_)
    · replace hp := ifp_t hc_314 hp
      refine st_load (Q := F56.Post px0 apx0_0 cpx0_0 xpx0_0 px1 F ro r) isN hs_309 agg22 rfl ?_
      refine st_slice (Q := F56.Post px0 apx0_0 cpx0_0 xpx0_0 px1 F ro r) ?_
      have hs_315 := hs_309.pull 1 rfl
      refine st_load (Q := F56.Post px0 apx0_0 cpx0_0 xpx0_0 px1 F ro r) isN hs_315 agg22 rfl ?_
      refine st_slice (Q := F56.Post px0 apx0_0 cpx0_0 xpx0_0 px1 F ro r) ?_
      refine st_load (Q := F56.Post px0 apx0_0 cpx0_0 xpx0_0 px1 F ro r) isN hs_315 agg3 rfl ?_
      refine st_int (Q := F56.Post px0 apx0_0 cpx0_0 xpx0_0 px1 F ro r) ?_
      have hs_318 := hs_315.pull 2 rfl
      obtain ⟨x_316, hx_317, hp⟩ := bindp_some hp
      refine st_idxR (Q := F56.Post px0 apx0_0 cpx0_0 xpx0_0 px1 F ro r) (l := xpx0_0) (f := (Value.int .u8)) isN isN hs_318 und22 siz5 agg5 rfl hx_317 ?_
      refine st_int (Q := F56.Post px0 apx0_0 cpx0_0 xpx0_0 px1 F ro r) ?_
      obtain ⟨n_319, hx_320, hp⟩ := bindp_some hp
      refine st_shr (Q := F56.Post px0 apx0_0 cpx0_0 xpx0_0 px1 F ro r) isN hx_320 ?_
      refine st_int (Q := F56.Post px0 apx0_0 cpx0_0 xpx0_0 px1 F ro r) ?_
      obtain ⟨r_321, hx_322, hp⟩ := bindp_some hp
      obtain ⟨h_323, e_325, hs_324⟩ := F68.ok hora (ro := h.next) (F := .row apx0_0 cpx0_0 (xpx0_0.map (Value.int .u8)) :: .own ro (some ⟨px0, 0, none⟩) 1 [.slice apx0_0 xpx0_0.length cpx0_0, .int .i64 mpx0_1] :: .own ro (some ⟨px1, 0, none⟩) 1 [.int .i64 mpx1_0, .int .i64 mpx1_1, .slice apx1_2 xpx1_2.length xpx1_2.length] :: .own ro apx1_2 1 (xpx1_2.map (Value.int .u8)) :: F) ((bAnd .u8 n_319 1) == 1) _ (hs_318.ro' (Nat.le_refl _)) hx_322
      refine st_ok (Q := F56.Post px0 apx0_0 cpx0_0 xpx0_0 px1 F ro r) isN e_325 ?_
      replace hs_324 := hs_324.ro' (Nat.le_trans hs_318.low hs_324.low)
      refine st_int (Q := F56.Post px0 apx0_0 cpx0_0 xpx0_0 px1 F ro r) ?_
      have hs_328 := hs_324.pull 3 rfl
      obtain ⟨x_326, hx_327, hp⟩ := bindp_some hp
      refine st_idxS (Q := F56.Post px0 apx0_0 cpx0_0 xpx0_0 px1 F ro r) (l := xpx1_2) (f := (Value.int .u8)) isO isO hs_328 und22 siz5 siz5 (fun _ => rfl) rfl hx_327 fun h_329 hs_330 => ?_
      have hl_331 := setp_len hx_327
      try simp only [hl_331] at hs_330 hp ⊢
      have hs_332 := hs_330.pull 3 rfl
      have hs_333 := hs_332.pull 2 rfl
      have hs_334 := hs_333.pull 3 rfl
      exact hj583 mpx0_1 mpx1_0 mpx1_1 apx1_2 x_326 _ hs_334 hp
    · replace hp := ifp_f hc_314 hp
      have hs_335 := hs_309.pull 1 rfl
      refine st_load (Q := F56.Post px0 apx0_0 cpx0_0 xpx0_0 px1 F ro r) isN hs_335 agg22 rfl ?_
      refine st_slice (Q := F56.Post px0 apx0_0 cpx0_0 xpx0_0 px1 F ro r) ?_
      refine st_load (Q := F56.Post px0 apx0_0 cpx0_0 xpx0_0 px1 F ro r) isN hs_335 agg3 rfl ?_
      refine st_int (Q := F56.Post px0 apx0_0 cpx0_0 xpx0_0 px1 F ro r) ?_
      have hs_338 := hs_335.pull 2 rfl
      obtain ⟨x_336, hx_337, hp⟩ := bindp_some hp
      refine st_idxR (Q := F56.Post px0 apx0_0 cpx0_0 xpx0_0 px1 F ro r) (l := xpx0_0) (f := (Value.int .u8)) isO isO hs_338 und22 siz5 agg5 rfl hx_337 ?_
      refine st_int (Q := F56.Post px0 apx0_0 cpx0_0 xpx0_0 px1 F ro r) ?_
      have hs_339 := hs_338.dup
      have hs_340 := hs_339.pull 2 rfl
      obtain ⟨r_341, hx_342, hp⟩ := bindr_some hp
      have hc_348 := F52.ok hora (ro := ro) (px0 := px0) (apx0_0 := apx0_0) (cpx0_0 := cpx0_0) (xpx0_0 := xpx0_0) (F := .row apx0_0 cpx0_0 (xpx0_0.map (Value.int .u8)) :: .own ro (some ⟨px1, 0, none⟩) 1 [.int .i64 mpx1_0, .int .i64 mpx1_1, .slice apx1_2 xpx1_2.length xpx1_2.length] :: .own ro apx1_2 1 (xpx1_2.map (Value.int .u8)) :: F) mpx0_1 (decide (IntKind.i64.wrap x_336 ≤ n101)) 3 _ hs_340 hx_342
      cases r_341 with
      | ok r_346 =>
        replace hp := bindr_ok hp
        obtain ⟨h_343, e_345, hs_344⟩ := hc_348
        refine st_ok (Q := F56.Post px0 apx0_0 cpx0_0 xpx0_0 px1 F ro r) isO e_345 ?_
        refine st_tup (Q := F56.Post px0 apx0_0 cpx0_0 xpx0_0 px1 F ro r) (l := []) ?_
        refine st_nil (Q := F56.Post px0 apx0_0 cpx0_0 xpx0_0 px1 F ro r) ?_
        have hs_349 := hs_344.pull 2 rfl
        refine st_load (Q := F56.Post px0 apx0_0 cpx0_0 xpx0_0 px1 F ro r) isN hs_349 agg22 rfl ?_
        refine st_slice (Q := F56.Post px0 apx0_0 cpx0_0 xpx0_0 px1 F ro r) ?_
        obtain ⟨r_350, hx_351, hp⟩ := bindp_some hp
        obtain ⟨h_352, e_354, hs_353⟩ := F66.ok hora (ro := h_343.next) (F := .own ro (some ⟨px1, 0, none⟩) 1 [.int .i64 mpx1_0, .int .i64 mpx1_1, .slice apx1_2 xpx1_2.length xpx1_2.length] :: .own ro (some ⟨px0, 0, none⟩) 1 [.slice apx0_0 xpx0_0.length cpx0_0, .int .i64 r_346] :: .row apx0_0 cpx0_0 (xpx0_0.map (Value.int .u8)) :: .own ro apx1_2 1 (xpx1_2.map (Value.int .u8)) :: F) (IntKind.i64.wrap x_336) n101 _ (hs_349.ro' (Nat.le_refl _)) hx_351
        refine st_ok (Q := F56.Post px0 apx0_0 cpx0_0 xpx0_0 px1 F ro r) isN e_354 ?_
        replace hs_353 := hs_353.ro' (Nat.le_trans hs_349.low hs_353.low)
        refine st_int (Q := F56.Post px0 apx0_0 cpx0_0 xpx0_0 px1 F ro r) ?_
        have hs_357 := hs_353.pull 3 rfl
        obtain ⟨x_355, hx_356, hp⟩ := bindp_some hp
        refine st_idxS (Q := F56.Post px0 apx0_0 cpx0_0 xpx0_0 px1 F ro r) (l := xpx1_2) (f := (Value.int .u8)) isO isO hs_357 und22 siz5 siz5 (fun _ => rfl) rfl hx_356 fun h_358 hs_359 => ?_
        have hl_360 := setp_len hx_356
        try simp only [hl_360] at hs_359 hp ⊢
        have hs_361 := hs_359.pull 1 rfl
        have hs_362 := hs_361.pull 3 rfl
        have hs_363 := hs_362.pull 3 rfl
        exact hj583 r_346 mpx1_0 mpx1_1 apx1_2 x_355 _ hs_363 hp
      | pan r_347 =>
        replace hp := bindr_pan hp
        obtain ⟨h_364, e_366, hs_365⟩ := hc_348
        refine st_pan (Q := F56.Post px0 apx0_0 cpx0_0 xpx0_0 px1 F ro r) e_366 ?_
        have hs_367 := hs_365.pull 1 rfl
        have hs_368 := hs_367.tail
        have hs_369 := hs_368.pull 2 rfl
        have hs_370 := hs_369.pull 2 rfl
        have hs_371 := hs_370.pull 2 rfl
        cases hp
        exact ⟨apx1_2, _, rfl, hs_371⟩

def F56.L7p (lf : Nat) : Nat → List Int → Int → Int → Int → List Int → Int → Int → Int → Int → Int → Option (Res (Int × Int × Int × List Int) (Int × Int × Int × Int × List Int))
  | 0, _, _, _, _, _, _, _, _, _, _ => none
  | n + 1, xpx0_0, mpx0_1, mpx1_0, mpx1_1, xpx1_2, n92, n93, n94, n95, n96 =>
  ifp (decide (n96 < n95)) (
    F56.J8p lf (F56.L7p lf n) xpx0_0 mpx0_1 mpx1_0 mpx1_1 xpx1_2 n92 n93 n94 n95 n96) (
    some (.ok (IntKind.i64.wrap (mpx0_1 + (IntKind.i64.wrap (n94 * mpx1_1))), mpx1_0, mpx1_1, xpx1_2)))

theorem F56.L7_ok {ora : Ora} (hora : HOra ora) {lf ro : Nat} {F : List Ent} {r : (Res (Int × Int × Int × List Int) (Int × Int × Int × Int × List Int))} {px0 : Nat} {apx0_0 : Option Addr} {cpx0_0 : Nat} {xpx0_0 : List Int} {px1 : Nat} : ∀ (n : Nat) (mpx0_1 : Int) (mpx1_0 : Int) (mpx1_1 : Int) (apx1_2 : Option Addr) (xpx1_2 : List Int) (n92 : Int) (n93 : Int) (n94 : Int) (n95 : Int) (n96 : Int) (h : Heap), Sat ro h (.own ro (some ⟨px0, 0, none⟩) 1 [.slice apx0_0 xpx0_0.length cpx0_0, .int .i64 mpx0_1] :: .row apx0_0 cpx0_0 (xpx0_0.map (Value.int .u8)) :: .own ro (some ⟨px1, 0, none⟩) 1 [.int .i64 mpx1_0, .int .i64 mpx1_1, .slice apx1_2 xpx1_2.length xpx1_2.length] :: .own ro apx1_2 1 (xpx1_2.map (Value.int .u8)) :: F) → F56.L7p lf n xpx0_0 mpx0_1 mpx1_0 mpx1_1 xpx1_2 n92 n93 n94 n95 n96 = some r → F56.Post px0 apx0_0 cpx0_0 xpx0_0 px1 F ro r (F56.L7 (callW Tryd.prog ora) lf ro n px0 0 px1 0 n92 n93 n94 n95 n96 h) := by
  intro n
  induction n with
  | zero => intro mpx0_1 mpx1_0 mpx1_1 apx1_2 xpx1_2 n92 n93 n94 n95 n96 h hs hp; cases hp
  | succ n ih =>
    intro mpx0_1 mpx1_0 mpx1_1 apx1_2 xpx1_2 n92 n93 n94 n95 n96 h hs hp
    unfold F56.L7
    unfold F56.L7p at hp
    refine st_if (Q := F56.Post px0 apx0_0 cpx0_0 xpx0_0 px1 F ro r) (fun hc_308 => ?_) (fun hc_308 => ?_)
    · replace hp := ifp_t hc_308 hp
      have hs_377 := hs.pull 3 rfl
      have hs_378 := hs_377.pull 3 rfl
      have hs_379 := hs_378.pull 3 rfl
      have hs_380 := hs_379.pull 3 rfl
      exact F56.J8_ok hora ih mpx0_1 mpx1_0 mpx1_1 apx1_2 xpx1_2 n92 n93 n94 n95 n96 _ hs_380 hp
    · replace hp := ifp_f hc_308 hp
      refine st_load (Q := F56.Post px0 apx0_0 cpx0_0 xpx0_0 px1 F ro r) isN hs agg3 rfl ?_
      refine st_int (Q := F56.Post px0 apx0_0 cpx0_0 xpx0_0 px1 F ro r) ?_
      have hs_381 := hs.pull 2 rfl
      refine st_load (Q := F56.Post px0 apx0_0 cpx0_0 xpx0_0 px1 F ro r) isN hs_381 agg3 rfl ?_
      refine st_int (Q := F56.Post px0 apx0_0 cpx0_0 xpx0_0 px1 F ro r) ?_
      have hs_382 := hs_381.pull 1 rfl
      refine st_store (Q := F56.Post px0 apx0_0 cpx0_0 xpx0_0 px1 F ro r) isO hs_382 siz3 rfl (Nat.le_of_ble_eq_true rfl) fun h_383 hs_384 => ?_
      have hs_385 := hs_384.pull 2 rfl
      have hs_386 := hs_385.tail
      have hs_387 := hs_386.pull 2 rfl
      have hs_388 := hs_387.pull 2 rfl
      have hs_389 := hs_388.pull 2 rfl
      cases hp
      exact ⟨apx1_2, _, rfl, hs_389⟩

def F56.J5p (lf : Nat) (xpx0_0 : List Int) (mpx0_1 : Int) (mpx1_0 : Int) (mpx1_1 : Int) (xpx1_2 : List Int) (n56 : Int) (n57 : Int) (n58 : Int) : Option (Res (Int × Int × Int × List Int) (Int × Int × Int × Int × List Int)) :=
  bindr (F52.p lf xpx0_0 mpx0_1 (decide (IntKind.i64.wrap ((xpx0_0.length : Int) - mpx0_1) ≥ IntKind.i64.wrap (n58 * mpx1_1))) 10) (fun r_305 => some (.pan (r_305.1, r_305.2, mpx1_0, mpx1_1, xpx1_2))) fun r_304 =>
  F56.L7p lf lf xpx0_0 r_304 mpx1_0 mpx1_1 xpx1_2 n56 n57 n58 (xpx1_2.length : Int) 0

theorem F56.J5_ok {ora : Ora} (hora : HOra ora) {lf ro : Nat} {F : List Ent} {r : (Res (Int × Int × Int × List Int) (Int × Int × Int × Int × List Int))} {px0 : Nat} {apx0_0 : Option Addr} {cpx0_0 : Nat} {xpx0_0 : List Int} {px1 : Nat} (mpx0_1 : Int) (mpx1_0 : Int) (mpx1_1 : Int) (apx1_2 : Option Addr) (xpx1_2 : List Int) (n56 : Int) (n57 : Int) (n58 : Int) (h : Heap) (hs : Sat ro h (.own ro (some ⟨px0, 0, none⟩) 1 [.slice apx0_0 xpx0_0.length cpx0_0, .int .i64 mpx0_1] :: .row apx0_0 cpx0_0 (xpx0_0.map (Value.int .u8)) :: .own ro (some ⟨px1, 0, none⟩) 1 [.int .i64 mpx1_0, .int .i64 mpx1_1, .slice apx1_2 xpx1_2.length xpx1_2.length] :: .own ro apx1_2 1 (xpx1_2.map (Value.int .u8)) :: F)) (hp : F56.J5p lf xpx0_0 mpx0_1 mpx1_0 mpx1_1 xpx1_2 n56 n57 n58 = some r) : F56.Post px0 apx0_0 cpx0_0 xpx0_0 px1 F ro r (F56.J5 (callW Tryd.prog ora) lf ro px0 0 px1 0 n56 n57 n58 h) := by
  unfold F56.J5
  unfold F56.J5p at hp
  refine st_load (Q := F56.Post px0 apx0_0 cpx0_0 xpx0_0 px1 F ro r) isN hs agg22 rfl ?_
  refine st_slice (Q := F56.Post px0 apx0_0 cpx0_0 xpx0_0 px1 F ro r) ?_
  refine st_load (Q := F56.Post px0 apx0_0 cpx0_0 xpx0_0 px1 F ro r) isN hs agg3 rfl ?_
  refine st_int (Q := F56.Post px0 apx0_0 cpx0_0 xpx0_0 px1 F ro r) ?_
  have hs_295 := hs.pull 2 rfl
  refine st_load (Q := F56.Post px0 apx0_0 cpx0_0 xpx0_0 px1 F ro r) isN hs_295 agg3 rfl ?_
  refine st_int (Q := F56.Post px0 apx0_0 cpx0_0 xpx0_0 px1 F ro r) ?_
  have hs_296 := hs_295.pull 2 rfl
  have hs_297 := hs_296.dup
  have hs_298 := hs_297.pull 3 rfl
  obtain ⟨r_299, hx_300, hp⟩ := bindr_some hp
  have hc_306 := F52.ok hora (ro := ro) (px0 := px0) (apx0_0 := apx0_0) (cpx0_0 := cpx0_0) (xpx0_0 := xpx0_0) (F := .row apx0_0 cpx0_0 (xpx0_0.map (Value.int .u8)) :: .own ro (some ⟨px1, 0, none⟩) 1 [.int .i64 mpx1_0, .int .i64 mpx1_1, .slice apx1_2 xpx1_2.length xpx1_2.length] :: .own ro apx1_2 1 (xpx1_2.map (Value.int .u8)) :: F) mpx0_1 (decide (IntKind.i64.wrap ((xpx0_0.length : Int) - mpx0_1) ≥ IntKind.i64.wrap (n58 * mpx1_1))) 10 _ hs_298 hx_300
  cases r_299 with
  | ok r_304 =>
    replace hp := bindr_ok hp
    obtain ⟨h_301, e_303, hs_302⟩ := hc_306
    refine st_ok (Q := F56.Post px0 apx0_0 cpx0_0 xpx0_0 px1 F ro r) isO e_303 ?_
    refine st_tup (Q := F56.Post px0 apx0_0 cpx0_0 xpx0_0 px1 F ro r) (l := []) ?_
    refine st_nil (Q := F56.Post px0 apx0_0 cpx0_0 xpx0_0 px1 F ro r) ?_
    have hs_307 := hs_302.pull 2 rfl
    refine st_load (Q := F56.Post px0 apx0_0 cpx0_0 xpx0_0 px1 F ro r) isO hs_307 agg22 rfl ?_
    refine st_slice (Q := F56.Post px0 apx0_0 cpx0_0 xpx0_0 px1 F ro r) ?_
    have hs_390 := hs_307.pull 3 rfl
    have hs_391 := hs_390.pull 1 rfl
    have hs_392 := hs_391.pull 3 rfl
    have hs_393 := hs_392.pull 3 rfl
    exact F56.L7_ok hora lf r_304 mpx1_0 mpx1_1 apx1_2 xpx1_2 n56 n57 n58 (xpx1_2.length : Int) 0 _ hs_393 hp
  | pan r_305 =>
    replace hp := bindr_pan hp
    obtain ⟨h_394, e_396, hs_395⟩ := hc_306
    refine st_pan (Q := F56.Post px0 apx0_0 cpx0_0 xpx0_0 px1 F ro r) e_396 ?_
    have hs_397 := hs_395.pull 1 rfl
    have hs_398 := hs_397.tail
    have hs_399 := hs_398.pull 2 rfl
    have hs_400 := hs_399.pull 2 rfl
    have hs_401 := hs_400.pull 2 rfl
    cases hp
    exact ⟨apx1_2, _, rfl, hs_401⟩

def F56.p (lf : Nat) (xpx0_0 : List Int) (mpx0_1 : Int) (mpx1_0 : Int) (mpx1_1 : Int) (xpx1_2 : List Int) (x2 : Int) (x3 : Int) : Option (Res (Int × Int × Int × List Int) (Int × Int × Int × Int × List Int)) :=
  bindp (idxp xpx0_0 mpx0_1) fun x_273 =>
  bindp (F36.p lf x_273) fun r_276 =>
  bindr (F52.p lf xpx0_0 mpx0_1 r_276 9) (fun r_289 => some (.pan (r_289.1, r_289.2, mpx1_0, mpx1_1, xpx1_2))) fun r_288 =>
  ifp (x2 == 4) (
    F56.J5p lf xpx0_0 (IntKind.i64.wrap (r_288 + 1)) mpx1_0 mpx1_1 xpx1_2 x2 x3 (IntKind.i64.wrap (Int.tdiv (IntKind.i64.wrap (mpx1_0 + 7)) 8))) (
    F56.J5p lf xpx0_0 (IntKind.i64.wrap (r_288 + 1)) mpx1_0 mpx1_1 xpx1_2 x2 x3 mpx1_0)

theorem F56.t_ok {ora : Ora} (hora : HOra ora) {lf ro : Nat} {F : List Ent} {r : (Res (Int × Int × Int × List Int) (Int × Int × Int × Int × List Int))} {px0 : Nat} {apx0_0 : Option Addr} {cpx0_0 : Nat} {xpx0_0 : List Int} {px1 : Nat} (mpx0_1 : Int) (mpx1_0 : Int) (mpx1_1 : Int) (apx1_2 : Option Addr) (xpx1_2 : List Int) (x2 : Int) (x3 : Int) (h : Heap) (hs : Sat ro h (.own ro (some ⟨px0, 0, none⟩) 1 [.slice apx0_0 xpx0_0.length cpx0_0, .int .i64 mpx0_1] :: .row apx0_0 cpx0_0 (xpx0_0.map (Value.int .u8)) :: .own ro (some ⟨px1, 0, none⟩) 1 [.int .i64 mpx1_0, .int .i64 mpx1_1, .slice apx1_2 xpx1_2.length xpx1_2.length] :: .own ro apx1_2 1 (xpx1_2.map (Value.int .u8)) :: F)) (hp : F56.p lf xpx0_0 mpx0_1 mpx1_0 mpx1_1 xpx1_2 x2 x3 = some r) : F56.Post px0 apx0_0 cpx0_0 xpx0_0 px1 F ro r (F56.t (callW Tryd.prog ora) lf ro px0 0 px1 0 x2 x3 h) := by
  unfold F56.t
  unfold F56.p at hp
  refine st_load (Q := F56.Post px0 apx0_0 cpx0_0 xpx0_0 px1 F ro r) isN hs agg22 rfl ?_
  refine st_slice (Q := F56.Post px0 apx0_0 cpx0_0 xpx0_0 px1 F ro r) ?_
  refine st_load (Q := F56.Post px0 apx0_0 cpx0_0 xpx0_0 px1 F ro r) isN hs agg3 rfl ?_
  refine st_int (Q := F56.Post px0 apx0_0 cpx0_0 xpx0_0 px1 F ro r) ?_
  have hs_275 := hs.pull 1 rfl
  obtain ⟨x_273, hx_274, hp⟩ := bindp_some hp
  refine st_idxR (Q := F56.Post px0 apx0_0 cpx0_0 xpx0_0 px1 F ro r) (l := xpx0_0) (f := (Value.int .u8)) isN isN hs_275 und22 siz5 agg5 rfl hx_274 ?_
  refine st_int (Q := F56.Post px0 apx0_0 cpx0_0 xpx0_0 px1 F ro r) ?_
  obtain ⟨r_276, hx_277, hp⟩ := bindp_some hp
  obtain ⟨h_278, e_280, hs_279⟩ := F36.ok hora (ro := ro) (F := .row apx0_0 cpx0_0 (xpx0_0.map (Value.int .u8)) :: .own ro (some ⟨px0, 0, none⟩) 1 [.slice apx0_0 xpx0_0.length cpx0_0, .int .i64 mpx0_1] :: .own ro (some ⟨px1, 0, none⟩) 1 [.int .i64 mpx1_0, .int .i64 mpx1_1, .slice apx1_2 xpx1_2.length xpx1_2.length] :: .own ro apx1_2 1 (xpx1_2.map (Value.int .u8)) :: F) x_273 _ hs_275 hx_277
  refine st_ok (Q := F56.Post px0 apx0_0 cpx0_0 xpx0_0 px1 F ro r) isN e_280 ?_
  refine st_bool (Q := F56.Post px0 apx0_0 cpx0_0 xpx0_0 px1 F ro r) ?_
  have hs_281 := hs_279.dup
  have hs_282 := hs_281.pull 2 rfl
  obtain ⟨r_283, hx_284, hp⟩ := bindr_some hp
  have hc_290 := F52.ok hora (ro := ro) (px0 := px0) (apx0_0 := apx0_0) (cpx0_0 := cpx0_0) (xpx0_0 := xpx0_0) (F := .row apx0_0 cpx0_0 (xpx0_0.map (Value.int .u8)) :: .own ro (some ⟨px1, 0, none⟩) 1 [.int .i64 mpx1_0, .int .i64 mpx1_1, .slice apx1_2 xpx1_2.length xpx1_2.length] :: .own ro apx1_2 1 (xpx1_2.map (Value.int .u8)) :: F) mpx0_1 r_276 9 _ hs_282 hx_284
  cases r_283 with
  | ok r_288 =>
    replace hp := bindr_ok hp
    obtain ⟨h_285, e_287, hs_286⟩ := hc_290
    refine st_ok (Q := F56.Post px0 apx0_0 cpx0_0 xpx0_0 px1 F ro r) isO e_287 ?_
    refine st_tup (Q := F56.Post px0 apx0_0 cpx0_0 xpx0_0 px1 F ro r) (l := []) ?_
    refine st_nil (Q := F56.Post px0 apx0_0 cpx0_0 xpx0_0 px1 F ro r) ?_
    refine st_load (Q := F56.Post px0 apx0_0 cpx0_0 xpx0_0 px1 F ro r) isO hs_286 agg3 rfl ?_
    refine st_int (Q := F56.Post px0 apx0_0 cpx0_0 xpx0_0 px1 F ro r) ?_
    refine st_store (Q := F56.Post px0 apx0_0 cpx0_0 xpx0_0 px1 F ro r) isO hs_286 siz3 rfl (Nat.le_of_ble_eq_true rfl) fun h_291 hs_292 => ?_
    have hs_293 := hs_292.pull 2 rfl
    refine st_load (Q := F56.Post px0 apx0_0 cpx0_0 xpx0_0 px1 F ro r) isO hs_293 agg3 rfl ?_
    refine st_int (Q := F56.Post px0 apx0_0 cpx0_0 xpx0_0 px1 F ro r) ?_
    refine st_if (Q := F56.Post px0 apx0_0 cpx0_0 xpx0_0 px1 F ro r) (fun hc_294 => ?_) (fun hc_294 => ?_)
    · replace hp := ifp_t hc_294 hp
      refine st_load (Q := F56.Post px0 apx0_0 cpx0_0 xpx0_0 px1 F ro r) isO hs_293 agg3 rfl ?_
      refine st_int (Q := F56.Post px0 apx0_0 cpx0_0 xpx0_0 px1 F ro r) ?_
      have hs_402 := hs_293.pull 3 rfl
      have hs_403 := hs_402.pull 1 rfl
      have hs_404 := hs_403.pull 3 rfl
      have hs_405 := hs_404.pull 3 rfl
      exact F56.J5_ok hora (IntKind.i64.wrap (r_288 + 1)) mpx1_0 mpx1_1 apx1_2 xpx1_2 x2 x3 (IntKind.i64.wrap (Int.tdiv (IntKind.i64.wrap (mpx1_0 + 7)) 8)) _ hs_405 hp
    · replace hp := ifp_f hc_294 hp
      have hs_406 := hs_293.pull 3 rfl
      have hs_407 := hs_406.pull 1 rfl
      have hs_408 := hs_407.pull 3 rfl
      have hs_409 := hs_408.pull 3 rfl
      exact F56.J5_ok hora (IntKind.i64.wrap (r_288 + 1)) mpx1_0 mpx1_1 apx1_2 xpx1_2 x2 x3 mpx1_0 _ hs_409 hp
  | pan r_289 =>
    replace hp := bindr_pan hp
    obtain ⟨h_410, e_412, hs_411⟩ := hc_290
    refine st_pan (Q := F56.Post px0 apx0_0 cpx0_0 xpx0_0 px1 F ro r) e_412 ?_
    have hs_413 := hs_411.pull 1 rfl
    have hs_414 := hs_413.tail
    have hs_415 := hs_414.pull 2 rfl
    have hs_416 := hs_415.pull 2 rfl
    have hs_417 := hs_416.pull 2 rfl
    cases hp
    exact ⟨apx1_2, _, rfl, hs_417⟩

theorem F56.ok {ora : Ora} (hora : HOra ora) {lf ro : Nat} {F : List Ent} {r : (Res (Int × Int × Int × List Int) (Int × Int × Int × Int × List Int))} {px0 : Nat} {apx0_0 : Option Addr} {cpx0_0 : Nat} {xpx0_0 : List Int} {px1 : Nat} (mpx0_1 : Int) (mpx1_0 : Int) (mpx1_1 : Int) (apx1_2 : Option Addr) (xpx1_2 : List Int) (x2 : Int) (x3 : Int) (h : Heap) (hs : Sat ro h (.own ro (some ⟨px0, 0, none⟩) 1 [.slice apx0_0 xpx0_0.length cpx0_0, .int .i64 mpx0_1] :: .row apx0_0 cpx0_0 (xpx0_0.map (Value.int .u8)) :: .own ro (some ⟨px1, 0, none⟩) 1 [.int .i64 mpx1_0, .int .i64 mpx1_1, .slice apx1_2 xpx1_2.length xpx1_2.length] :: .own ro apx1_2 1 (xpx1_2.map (Value.int .u8)) :: F)) (hp : F56.p lf xpx0_0 mpx0_1 mpx1_0 mpx1_1 xpx1_2 x2 x3 = some r) : F56.Post px0 apx0_0 cpx0_0 xpx0_0 px1 F ro r (callW Tryd.prog ora ro 56 [.pointer (some ⟨px0, 0, none⟩), .pointer (some ⟨px1, 0, none⟩), .int .i64 x2, .int .i64 x3] h) := by
  have h1 := F56.t_ok hora mpx0_1 mpx1_0 mpx1_1 apx1_2 xpx1_2 x2 x3 h hs hp
  have h2 : callW Tryd.prog ora ro 56 [.pointer (some ⟨px0, 0, none⟩), .pointer (some ⟨px1, 0, none⟩), .int .i64 x2, .int .i64 x3] h = _ := callW_body (hora.none _ _ _ _ (by decide)) Tryd.func56 (F56.le (callW Tryd.prog ora) lf ro px0 0 px1 0 x2 x3 h) (F56.Post.ne h1)
  rw [h2]; exact h1

def F55.Post (px0 : Nat) (apx0_0 : Option Addr) (cpx0_0 : Nat) (xpx0_0 : List Int) (px1 : Nat) (F : List Ent) (ro : Nat) (r : (Res (Int × Int × Int × List Int) (Int × Int × Int × Int × List Int))) (x : Out) : Prop := match r with
  | .ok r => ∃ bpx1_2 h', x = .ok (.tuple #[]) h' ∧ Sat ro h' (.own ro (some ⟨px0, 0, none⟩) 1 [.slice apx0_0 xpx0_0.length cpx0_0, .int .i64 r.1] :: .own ro (some ⟨px1, 0, none⟩) 1 [.int .i64 r.2.1, .int .i64 r.2.2.1, .slice bpx1_2 r.2.2.2.length r.2.2.2.length] :: .own ro bpx1_2 1 (r.2.2.2.map (Value.int .u8)) :: F)
  | .pan r => ∃ bpx1_2 h', x = .panic (.iface 77 (.agg #[.int .i64 r.1])) h' ∧ Sat ro h' (.own ro (some ⟨px0, 0, none⟩) 1 [.slice apx0_0 xpx0_0.length cpx0_0, .int .i64 r.2.1] :: .own ro (some ⟨px1, 0, none⟩) 1 [.int .i64 r.2.2.1, .int .i64 r.2.2.2.1, .slice bpx1_2 r.2.2.2.2.length r.2.2.2.2.length] :: .own ro bpx1_2 1 (r.2.2.2.2.map (Value.int .u8)) :: F)
theorem F55.Post.ne {px0 : Nat} {apx0_0 : Option Addr} {cpx0_0 : Nat} {xpx0_0 : List Int} {px1 : Nat} {F : List Ent} {ro : Nat} {r : (Res (Int × Int × Int × List Int) (Int × Int × Int × Int × List Int))} {x : Out} (hx : F55.Post px0 apx0_0 cpx0_0 xpx0_0 px1 F ro r x) : x ≠ .fail := by
  cases r with
  | ok r => obtain ⟨bpx1_2, h', rfl, _⟩ := hx; simp
  | pan r => obtain ⟨bpx1_2, h', rfl, _⟩ := hx; simp

def F55.J7p (lf : Nat) (kb1p : List Int → Int → Int → Int → List Int → Int → Int → Int → Int → Option (Res (Int × Int × Int × List Int) (Int × Int × Int × Int × List Int))) (xpx0_0 : List Int) (mpx0_1 : Int) (mpx1_0 : Int) (mpx1_1 : Int) (xpx1_2 : List Int) (n55 : Int) (n56 : Int) (n57 : Int) (n58 : Int) (n59 : Int) : Option (Res (Int × Int × Int × List Int) (Int × Int × Int × Int × List Int)) :=
  letJ (fun (mj232_0_1 : Int) (mj232_2_0 : Int) (mj232_2_1 : Int) (xj232_2_2 : List Int) => (
    kb1p xpx0_0 mj232_0_1 mj232_2_0 mj232_2_1 xj232_2_2 n55 n56 n58 (IntKind.i64.wrap (n59 + 1)) : Option (Res (Int × Int × Int × List Int) (Int × Int × Int × Int × List Int)))) fun j232p =>
  bindp (F67.p lf xpx0_0 mpx0_1) fun r_477 =>
  bindr (F52.p lf xpx0_0 r_477 (decide (r_477 < (xpx0_0.length : Int))) 10) (fun r_491 => some (.pan (r_491.1, r_491.2, mpx1_0, mpx1_1, xpx1_2))) fun r_490 =>
  bindp (idxp xpx0_0 r_490) fun x_493 =>
  letJ (fun (mj371_1_1 : Int) => (
    bindp (F68.p lf (x_493 == 49)) fun r_543 =>
    bindp (setp xpx1_2 n57 r_543) fun x_548 =>
    j232p (IntKind.i64.wrap (mj371_1_1 + 1)) mpx1_0 mpx1_1 x_548 : Option (Res (Int × Int × Int × List Int) (Int × Int × Int × Int × List Int)))) fun j371p =>
  ifp (x_493 == 48) (
    bindr (F52.p lf xpx0_0 r_490 true 9) (fun r_505 => some (.pan (r_505.1, r_505.2, mpx1_0, mpx1_1, xpx1_2))) fun r_504 =>
    j371p r_504) (
    bindr (F52.p lf xpx0_0 r_490 (x_493 == 49) 9) (fun r_527 => some (.pan (r_527.1, r_527.2, mpx1_0, mpx1_1, xpx1_2))) fun r_526 =>
    j371p r_526)

theorem F55.J7_ok {ora : Ora} (hora : HOra ora) {lf ro : Nat} {F : List Ent} {r : (Res (Int × Int × Int × List Int) (Int × Int × Int × Int × List Int))} {px0 : Nat} {apx0_0 : Option Addr} {cpx0_0 : Nat} {xpx0_0 : List Int} {px1 : Nat} {kb1p : List Int → Int → Int → Int → List Int → Int → Int → Int → Int → Option (Res (Int × Int × Int × List Int) (Int × Int × Int × Int × List Int))} {kb1 : Nat → Nat → Nat → Nat → Int → Int → Int → Int → Heap → Out} (hkb1 : ∀ (mpx0_1 : Int) (mpx1_0 : Int) (mpx1_1 : Int) (apx1_2 : Option Addr) (xpx1_2 : List Int) (n9 : Int) (n10 : Int) (n11 : Int) (n12 : Int) (h : Heap), Sat ro h (.own ro (some ⟨px0, 0, none⟩) 1 [.slice apx0_0 xpx0_0.length cpx0_0, .int .i64 mpx0_1] :: .row apx0_0 cpx0_0 (xpx0_0.map (Value.int .u8)) :: .own ro (some ⟨px1, 0, none⟩) 1 [.int .i64 mpx1_0, .int .i64 mpx1_1, .slice apx1_2 xpx1_2.length xpx1_2.length] :: .own ro apx1_2 1 (xpx1_2.map (Value.int .u8)) :: F) → kb1p xpx0_0 mpx0_1 mpx1_0 mpx1_1 xpx1_2 n9 n10 n11 n12 = some r → F55.Post px0 apx0_0 cpx0_0 xpx0_0 px1 F ro r (kb1 px0 0 px1 0 n9 n10 n11 n12 h)) (mpx0_1 : Int) (mpx1_0 : Int) (mpx1_1 : Int) (apx1_2 : Option Addr) (xpx1_2 : List Int) (n55 : Int) (n56 : Int) (n57 : Int) (n58 : Int) (n59 : Int) (h : Heap) (hs : Sat ro h (.own ro (some ⟨px0, 0, none⟩) 1 [.slice apx0_0 xpx0_0.length cpx0_0, .int .i64 mpx0_1] :: .row apx0_0 cpx0_0 (xpx0_0.map (Value.int .u8)) :: .own ro (some ⟨px1, 0, none⟩) 1 [.int .i64 mpx1_0, .int .i64 mpx1_1, .slice apx1_2 xpx1_2.length xpx1_2.length] :: .own ro apx1_2 1 (xpx1_2.map (Value.int .u8)) :: F)) (hp : F55.J7p lf kb1p xpx0_0 mpx0_1 mpx1_0 mpx1_1 xpx1_2 n55 n56 n57 n58 n59 = some r) : F55.Post px0 apx0_0 cpx0_0 xpx0_0 px1 F ro r (F55.J7 (callW Tryd.prog ora) lf ro kb1 px0 0 px1 0 n55 n56 n57 n58 n59 h) := by
  unfold F55.J7
  unfold F55.J7p at hp
  refine st_letJ hp (fun j232p j232 => ∀ (mj232_0_1 : Int) (mj232_2_0 : Int) (mj232_2_1 : Int) (aj232_2_2 : Option Addr) (xj232_2_2 : List Int) (h_569 : Heap), Sat ro h_569 (.own ro (some ⟨px0, 0, none⟩) 1 [.slice apx0_0 xpx0_0.length cpx0_0, .int .i64 mj232_0_1] :: .row apx0_0 cpx0_0 (xpx0_0.map (Value.int .u8)) :: .own ro (some ⟨px1, 0, none⟩) 1 [.int .i64 mj232_2_0, .int .i64 mj232_2_1, .slice aj232_2_2 xj232_2_2.length xj232_2_2.length] :: .own ro aj232_2_2 1 (xj232_2_2.map (Value.int .u8)) :: F) → j232p mj232_0_1 mj232_2_0 mj232_2_1 xj232_2_2 = some r → F55.Post px0 apx0_0 cpx0_0 xpx0_0 px1 F ro r (j232 h_569)) ?_ ?_
  · intro mj232_0_1 mj232_2_0 mj232_2_1 aj232_2_2 xj232_2_2 h_569 hs hp
    have hs_570 := hs.pull 3 rfl
    have hs_571 := hs_570.pull 3 rfl
    have hs_572 := hs_571.pull 3 rfl
    have hs_573 := hs_572.pull 3 rfl
    exact hkb1 mj232_0_1 mj232_2_0 mj232_2_1 aj232_2_2 xj232_2_2 n55 n56 n58 (IntKind.i64.wrap (n59 + 1)) _ hs_573 hp
  · intro j232p j232 hj232 hp
    have hs_474 := hs.pull 1 rfl
    have hs_475 := hs_474.dup
    have hs_476 := hs_475.pull 2 rfl
    obtain ⟨r_477, hx_478, hp⟩ := bindp_some hp
    obtain ⟨h_479, e_481, hs_480⟩ := F67.ok hora (ro := ro) (px0 := px0) (apx0_0 := apx0_0) (cpx0_0 := cpx0_0) (xpx0_0 := xpx0_0) (F := .row apx0_0 cpx0_0 (xpx0_0.map (Value.int .u8)) :: .own ro (some ⟨px1, 0, none⟩) 1 [.int .i64 mpx1_0, .int .i64 mpx1_1, .slice apx1_2 xpx1_2.length xpx1_2.length] :: .own ro apx1_2 1 (xpx1_2.map (Value.int .u8)) :: F) mpx0_1 _ hs_476 hx_478
    refine st_ok (Q := F55.Post px0 apx0_0 cpx0_0 xpx0_0 px1 F ro r) isO e_481 ?_
    refine st_tup (Q := F55.Post px0 apx0_0 cpx0_0 xpx0_0 px1 F ro r) (l := []) ?_
    refine st_nil (Q := F55.Post px0 apx0_0 cpx0_0 xpx0_0 px1 F ro r) ?_
    refine st_load (Q := F55.Post px0 apx0_0 cpx0_0 xpx0_0 px1 F ro r) isN hs_480 agg3 rfl ?_
    refine st_int (Q := F55.Post px0 apx0_0 cpx0_0 xpx0_0 px1 F ro r) ?_
    refine st_load (Q := F55.Post px0 apx0_0 cpx0_0 xpx0_0 px1 F ro r) isN hs_480 agg22 rfl ?_
    refine st_slice (Q := F55.Post px0 apx0_0 cpx0_0 xpx0_0 px1 F ro r) ?_
    have hs_482 := hs_480.pull 1 rfl
    have hs_483 := hs_482.dup
    have hs_484 := hs_483.pull 2 rfl
    obtain ⟨r_485, hx_486, hp⟩ := bindr_some hp
    have hc_492 := F52.ok hora (ro := ro) (px0 := px0) (apx0_0 := apx0_0) (cpx0_0 := cpx0_0) (xpx0_0 := xpx0_0) (F := .row apx0_0 cpx0_0 (xpx0_0.map (Value.int .u8)) :: .own ro (some ⟨px1, 0, none⟩) 1 [.int .i64 mpx1_0, .int .i64 mpx1_1, .slice apx1_2 xpx1_2.length xpx1_2.length] :: .own ro apx1_2 1 (xpx1_2.map (Value.int .u8)) :: F) r_477 (decide (r_477 < (xpx0_0.length : Int))) 10 _ hs_484 hx_486
    cases r_485 with
    | ok r_490 =>
      replace hp := bindr_ok hp
      obtain ⟨h_487, e_489, hs_488⟩ := hc_492
      refine st_ok (Q := F55.Post px0 apx0_0 cpx0_0 xpx0_0 px1 F ro r) isO e_489 ?_
      refine st_tup (Q := F55.Post px0 apx0_0 cpx0_0 xpx0_0 px1 F ro r) (l := []) ?_
      refine st_nil (Q := F55.Post px0 apx0_0 cpx0_0 xpx0_0 px1 F ro r) ?_
      refine st_load (Q := F55.Post px0 apx0_0 cpx0_0 xpx0_0 px1 F ro r) isN hs_488 agg22 rfl ?_
      refine st_slice (Q := F55.Post px0 apx0_0 cpx0_0 xpx0_0 px1 F ro r) ?_
      refine st_load (Q := F55.Post px0 apx0_0 cpx0_0 xpx0_0 px1 F ro r) isN hs_488 agg3 rfl ?_
      refine st_int (Q := F55.Post px0 apx0_0 cpx0_0 xpx0_0 px1 F ro r) ?_
      have hs_495 := hs_488.pull 1 rfl
      obtain ⟨x_493, hx_494, hp⟩ := bindp_some hp
      refine st_idxR (Q := F55.Post px0 apx0_0 cpx0_0 xpx0_0 px1 F ro r) (l := xpx0_0) (f := (Value.int .u8)) isO isO hs_495 und22 siz5 agg5 rfl hx_494 ?_
      refine st_int (Q := F55.Post px0 apx0_0 cpx0_0 xpx0_0 px1 F ro r) ?_
      refine st_letJ hp (fun j371p j371 => ∀ (mj371_1_1 : Int) (h_541 : Heap), Sat ro h_541 (.row apx0_0 cpx0_0 (xpx0_0.map (Value.int .u8)) :: .own ro (some ⟨px0, 0, none⟩) 1 [.slice apx0_0 xpx0_0.length cpx0_0, .int .i64 mj371_1_1] :: .own ro (some ⟨px1, 0, none⟩) 1 [.int .i64 mpx1_0, .int .i64 mpx1_1, .slice apx1_2 xpx1_2.length xpx1_2.length] :: .own ro apx1_2 1 (xpx1_2.map (Value.int .u8)) :: F) → j371p mj371_1_1 = some r → F55.Post px0 apx0_0 cpx0_0 xpx0_0 px1 F ro r (j371 h_541)) ?_ ?_
      · intro mj371_1_1 h_541 hs hp
        have hs_542 := hs.pull 2 rfl
        refine st_load (Q := F55.Post px0 apx0_0 cpx0_0 xpx0_0 px1 F ro r) isN hs_542 agg22 rfl ?_
        refine st_slice (Q := F55.Post px0 apx0_0 cpx0_0 xpx0_0 px1 F ro r) ?_
        obtain ⟨r_543, hx_544, hp⟩ := bindp_some hp
        obtain ⟨h_545, e_547, hs_546⟩ := F68.ok hora (ro := h_541.next) (F := .own ro (some ⟨px1, 0, none⟩) 1 [.int .i64 mpx1_0, .int .i64 mpx1_1, .slice apx1_2 xpx1_2.length xpx1_2.length] :: .row apx0_0 cpx0_0 (xpx0_0.map (Value.int .u8)) :: .own ro (some ⟨px0, 0, none⟩) 1 [.slice apx0_0 xpx0_0.length cpx0_0, .int .i64 mj371_1_1] :: .own ro apx1_2 1 (xpx1_2.map (Value.int .u8)) :: F) (x_493 == 49) _ (hs_542.ro' (Nat.le_refl _)) hx_544
        refine st_ok (Q := F55.Post px0 apx0_0 cpx0_0 xpx0_0 px1 F ro r) isN e_547 ?_
        replace hs_546 := hs_546.ro' (Nat.le_trans hs_542.low hs_546.low)
        refine st_int (Q := F55.Post px0 apx0_0 cpx0_0 xpx0_0 px1 F ro r) ?_
        have hs_550 := hs_546.pull 3 rfl
        obtain ⟨x_548, hx_549, hp⟩ := bindp_some hp
        refine st_idxS (Q := F55.Post px0 apx0_0 cpx0_0 xpx0_0 px1 F ro r) (l := xpx1_2) (f := (Value.int .u8)) isO isO hs_550 und22 siz5 siz5 (fun _ => rfl) rfl hx_549 fun h_551 hs_552 => ?_
        have hl_553 := setp_len hx_549
        try simp only [hl_553] at hs_552 hp ⊢
        have hs_554 := hs_552.pull 3 rfl
        refine st_load (Q := F55.Post px0 apx0_0 cpx0_0 xpx0_0 px1 F ro r) isO hs_554 agg3 rfl ?_
        refine st_int (Q := F55.Post px0 apx0_0 cpx0_0 xpx0_0 px1 F ro r) ?_
        refine st_store (Q := F55.Post px0 apx0_0 cpx0_0 xpx0_0 px1 F ro r) isO hs_554 siz3 rfl (Nat.le_of_ble_eq_true rfl) fun h_555 hs_556 => ?_
        have hs_557 := hs_556.pull 1 rfl
        have hs_558 := hs_557.pull 2 rfl
        have hs_559 := hs_558.pull 3 rfl
        have hs_560 := hs_559.pull 3 rfl
        exact hj232 (IntKind.i64.wrap (mj371_1_1 + 1)) mpx1_0 mpx1_1 apx1_2 x_548 _ hs_560 hp
      · intro j371p j371 hj371 hp
        refine st_if (Q := F55.Post px0 apx0_0 cpx0_0 xpx0_0 px1 F ro r) (fun hc_496 => ?_) (fun hc_496 => ?_)
        · replace hp := ifp_t hc_496 hp
          have hs_497 := hs_495.dup
          have hs_498 := hs_497.pull 2 rfl
          obtain ⟨r_499, hx_500, hp⟩ := bindr_some hp
          have hc_506 := F52.ok hora (ro := ro) (px0 := px0) (apx0_0 := apx0_0) (cpx0_0 := cpx0_0) (xpx0_0 := xpx0_0) (F := .row apx0_0 cpx0_0 (xpx0_0.map (Value.int .u8)) :: .own ro (some ⟨px1, 0, none⟩) 1 [.int .i64 mpx1_0, .int .i64 mpx1_1, .slice apx1_2 xpx1_2.length xpx1_2.length] :: .own ro apx1_2 1 (xpx1_2.map (Value.int .u8)) :: F) r_490 true 9 _ hs_498 hx_500
          cases r_499 with
          | ok r_504 =>
            replace hp := bindr_ok hp
            obtain ⟨h_501, e_503, hs_502⟩ := hc_506
            refine st_ok (Q := F55.Post px0 apx0_0 cpx0_0 xpx0_0 px1 F ro r) isO e_503 ?_
            refine st_tup (Q := F55.Post px0 apx0_0 cpx0_0 xpx0_0 px1 F ro r) (l := []) ?_
            refine st_nil (Q := F55.Post px0 apx0_0 cpx0_0 xpx0_0 px1 F ro r) ?_
            have hs_507 := hs_502.pull 3 rfl
            have hs_508 := hs_507.pull 3 rfl
            have hs_509 := hs_508.pull 2 rfl
            have hs_510 := hs_509.pull 3 rfl
            exact hj371 r_504 _ hs_510 hp
          | pan r_505 =>
            replace hp := bindr_pan hp
            obtain ⟨h_511, e_513, hs_512⟩ := hc_506
            refine st_pan (Q := F55.Post px0 apx0_0 cpx0_0 xpx0_0 px1 F ro r) e_513 ?_
            have hs_514 := hs_512.pull 1 rfl
            have hs_515 := hs_514.tail
            have hs_516 := hs_515.pull 2 rfl
            have hs_517 := hs_516.pull 2 rfl
            have hs_518 := hs_517.pull 2 rfl
            cases hp
            exact ⟨apx1_2, _, rfl, hs_518⟩
        · replace hp := ifp_f hc_496 hp
          have hs_519 := hs_495.dup
          have hs_520 := hs_519.pull 2 rfl
          obtain ⟨r_521, hx_522, hp⟩ := bindr_some hp
          have hc_528 := F52.ok hora (ro := ro) (px0 := px0) (apx0_0 := apx0_0) (cpx0_0 := cpx0_0) (xpx0_0 := xpx0_0) (F := .row apx0_0 cpx0_0 (xpx0_0.map (Value.int .u8)) :: .own ro (some ⟨px1, 0, none⟩) 1 [.int .i64 mpx1_0, .int .i64 mpx1_1, .slice apx1_2 xpx1_2.length xpx1_2.length] :: .own ro apx1_2 1 (xpx1_2.map (Value.int .u8)) :: F) r_490 (x_493 == 49) 9 _ hs_520 hx_522
          cases r_521 with
          | ok r_526 =>
            replace hp := bindr_ok hp
            obtain ⟨h_523, e_525, hs_524⟩ := hc_528
            refine st_ok (Q := F55.Post px0 apx0_0 cpx0_0 xpx0_0 px1 F ro r) isO e_525 ?_
            refine st_tup (Q := F55.Post px0 apx0_0 cpx0_0 xpx0_0 px1 F ro r) (l := []) ?_
            refine st_nil (Q := F55.Post px0 apx0_0 cpx0_0 xpx0_0 px1 F ro r) ?_
            have hs_529 := hs_524.pull 3 rfl
            have hs_530 := hs_529.pull 3 rfl
            have hs_531 := hs_530.pull 2 rfl
            have hs_532 := hs_531.pull 3 rfl
            exact hj371 r_526 _ hs_532 hp
          | pan r_527 =>
            replace hp := bindr_pan hp
            obtain ⟨h_533, e_535, hs_534⟩ := hc_528
            refine st_pan (Q := F55.Post px0 apx0_0 cpx0_0 xpx0_0 px1 F ro r) e_535 ?_
            have hs_536 := hs_534.pull 1 rfl
            have hs_537 := hs_536.tail
            have hs_538 := hs_537.pull 2 rfl
            have hs_539 := hs_538.pull 2 rfl
            have hs_540 := hs_539.pull 2 rfl
            cases hp
            exact ⟨apx1_2, _, rfl, hs_540⟩
    | pan r_491 =>
      replace hp := bindr_pan hp
      obtain ⟨h_561, e_563, hs_562⟩ := hc_492
      refine st_pan (Q := F55.Post px0 apx0_0 cpx0_0 xpx0_0 px1 F ro r) e_563 ?_
      have hs_564 := hs_562.pull 1 rfl
      have hs_565 := hs_564.tail
      have hs_566 := hs_565.pull 2 rfl
      have hs_567 := hs_566.pull 2 rfl
      have hs_568 := hs_567.pull 2 rfl
      cases hp
      exact ⟨apx1_2, _, rfl, hs_568⟩

def F55.J2p (lf : Nat) (kb1p : List Int → Int → Int → Int → List Int → Int → Int → Int → Int → Option (Res (Int × Int × Int × List Int) (Int × Int × Int × Int × List Int))) (xpx0_0 : List Int) (mpx0_1 : Int) (mpx1_0 : Int) (mpx1_1 : Int) (xpx1_2 : List Int) (n16 : Int) (n17 : Int) (n18 : Int) (n19 : Int) : Option (Res (Int × Int × Int × List Int) (Int × Int × Int × Int × List Int)) :=
  ifp (n16 == 2) (
    bindr (F65.p lf xpx0_0 mpx0_1) (fun r_430 => some (.pan (r_430.1, r_430.2, mpx1_0, mpx1_1, xpx1_2))) fun r_429 =>
    bindr (F52.p lf xpx0_0 r_429.2 (decide (r_429.1 ≤ n17)) 3) (fun r_441 => some (.pan (r_441.1, r_441.2, mpx1_0, mpx1_1, xpx1_2))) fun r_440 =>
    bindp (F66.p lf r_429.1 n17) fun r_444 =>
    bindp (setp xpx1_2 n19 r_444) fun x_449 =>
    kb1p xpx0_0 r_440 mpx1_0 mpx1_1 x_449 n16 n17 n18 (IntKind.i64.wrap (n19 + 1))) (
    F55.J7p lf kb1p xpx0_0 mpx0_1 mpx1_0 mpx1_1 xpx1_2 n16 n17 n19 n18 n19)

theorem F55.J2_ok {ora : Ora} (hora : HOra ora) {lf ro : Nat} {F : List Ent} {r : (Res (Int × Int × Int × List Int) (Int × Int × Int × Int × List Int))} {px0 : Nat} {apx0_0 : Option Addr} {cpx0_0 : Nat} {xpx0_0 : List Int} {px1 : Nat} {kb1p : List Int → Int → Int → Int → List Int → Int → Int → Int → Int → Option (Res (Int × Int × Int × List Int) (Int × Int × Int × Int × List Int))} {kb1 : Nat → Nat → Nat → Nat → Int → Int → Int → Int → Heap → Out} (hkb1 : ∀ (mpx0_1 : Int) (mpx1_0 : Int) (mpx1_1 : Int) (apx1_2 : Option Addr) (xpx1_2 : List Int) (n9 : Int) (n10 : Int) (n11 : Int) (n12 : Int) (h : Heap), Sat ro h (.own ro (some ⟨px0, 0, none⟩) 1 [.slice apx0_0 xpx0_0.length cpx0_0, .int .i64 mpx0_1] :: .row apx0_0 cpx0_0 (xpx0_0.map (Value.int .u8)) :: .own ro (some ⟨px1, 0, none⟩) 1 [.int .i64 mpx1_0, .int .i64 mpx1_1, .slice apx1_2 xpx1_2.length xpx1_2.length] :: .own ro apx1_2 1 (xpx1_2.map (Value.int .u8)) :: F) → kb1p xpx0_0 mpx0_1 mpx1_0 mpx1_1 xpx1_2 n9 n10 n11 n12 = some r → F55.Post px0 apx0_0 cpx0_0 xpx0_0 px1 F ro r (kb1 px0 0 px1 0 n9 n10 n11 n12 h)) (mpx0_1 : Int) (mpx1_0 : Int) (mpx1_1 : Int) (apx1_2 : Option Addr) (xpx1_2 : List Int) (n16 : Int) (n17 : Int) (n18 : Int) (n19 : Int) (h : Heap) (hs : Sat ro h (.own ro (some ⟨px0, 0, none⟩) 1 [.slice apx0_0 xpx0_0.length cpx0_0, .int .i64 mpx0_1] :: .row apx0_0 cpx0_0 (xpx0_0.map (Value.int .u8)) :: .own ro (some ⟨px1, 0, none⟩) 1 [.int .i64 mpx1_0, .int .i64 mpx1_1, .slice apx1_2 xpx1_2.length xpx1_2.length] :: .own ro apx1_2 1 (xpx1_2.map (Value.int .u8)) :: F)) (hp : F55.J2p lf kb1p xpx0_0 mpx0_1 mpx1_0 mpx1_1 xpx1_2 n16 n17 n18 n19 = some r) : F55.Post px0 apx0_0 cpx0_0 xpx0_0 px1 F ro r (F55.J2 (callW Tryd.prog ora) lf ro kb1 px0 0 px1 0 n16 n17 n18 n19 h) := by
  unfold F55.J2
  unfold F55.J2p at hp
  refine st_if (Q := F55.Post px0 apx0_0 cpx0_0 xpx0_0 px1 F ro r) (fun hc_420 => ?_) (fun hc_420 => ?_)
  · replace hp := ifp_t hc_420 hp
    have hs_421 := hs.pull 1 rfl
    have hs_422 := hs_421.dup
    have hs_423 := hs_422.pull 2 rfl
    obtain ⟨r_424, hx_425, hp⟩ := bindr_some hp
    have hc_431 := F65.ok hora (ro := ro) (px0 := px0) (apx0_0 := apx0_0) (cpx0_0 := cpx0_0) (xpx0_0 := xpx0_0) (F := .row apx0_0 cpx0_0 (xpx0_0.map (Value.int .u8)) :: .own ro (some ⟨px1, 0, none⟩) 1 [.int .i64 mpx1_0, .int .i64 mpx1_1, .slice apx1_2 xpx1_2.length xpx1_2.length] :: .own ro apx1_2 1 (xpx1_2.map (Value.int .u8)) :: F) mpx0_1 _ hs_423 hx_425
    cases r_424 with
    | ok r_429 =>
      replace hp := bindr_ok hp
      obtain ⟨h_426, e_428, hs_427⟩ := hc_431
      refine st_ok (Q := F55.Post px0 apx0_0 cpx0_0 xpx0_0 px1 F ro r) isO e_428 ?_
      refine st_int (Q := F55.Post px0 apx0_0 cpx0_0 xpx0_0 px1 F ro r) ?_
      have hs_432 := hs_427.pull 1 rfl
      have hs_433 := hs_432.dup
      have hs_434 := hs_433.pull 2 rfl
      obtain ⟨r_435, hx_436, hp⟩ := bindr_some hp
      have hc_442 := F52.ok hora (ro := ro) (px0 := px0) (apx0_0 := apx0_0) (cpx0_0 := cpx0_0) (xpx0_0 := xpx0_0) (F := .row apx0_0 cpx0_0 (xpx0_0.map (Value.int .u8)) :: .own ro (some ⟨px1, 0, none⟩) 1 [.int .i64 mpx1_0, .int .i64 mpx1_1, .slice apx1_2 xpx1_2.length xpx1_2.length] :: .own ro apx1_2 1 (xpx1_2.map (Value.int .u8)) :: F) r_429.2 (decide (r_429.1 ≤ n17)) 3 _ hs_434 hx_436
      cases r_435 with
      | ok r_440 =>
        replace hp := bindr_ok hp
        obtain ⟨h_437, e_439, hs_438⟩ := hc_442
        refine st_ok (Q := F55.Post px0 apx0_0 cpx0_0 xpx0_0 px1 F ro r) isO e_439 ?_
        refine st_tup (Q := F55.Post px0 apx0_0 cpx0_0 xpx0_0 px1 F ro r) (l := []) ?_
        refine st_nil (Q := F55.Post px0 apx0_0 cpx0_0 xpx0_0 px1 F ro r) ?_
        have hs_443 := hs_438.pull 2 rfl
        refine st_load (Q := F55.Post px0 apx0_0 cpx0_0 xpx0_0 px1 F ro r) isN hs_443 agg22 rfl ?_
        refine st_slice (Q := F55.Post px0 apx0_0 cpx0_0 xpx0_0 px1 F ro r) ?_
        obtain ⟨r_444, hx_445, hp⟩ := bindp_some hp
        obtain ⟨h_446, e_448, hs_447⟩ := F66.ok hora (ro := h_437.next) (F := .own ro (some ⟨px1, 0, none⟩) 1 [.int .i64 mpx1_0, .int .i64 mpx1_1, .slice apx1_2 xpx1_2.length xpx1_2.length] :: .own ro (some ⟨px0, 0, none⟩) 1 [.slice apx0_0 xpx0_0.length cpx0_0, .int .i64 r_440] :: .row apx0_0 cpx0_0 (xpx0_0.map (Value.int .u8)) :: .own ro apx1_2 1 (xpx1_2.map (Value.int .u8)) :: F) r_429.1 n17 _ (hs_443.ro' (Nat.le_refl _)) hx_445
        refine st_ok (Q := F55.Post px0 apx0_0 cpx0_0 xpx0_0 px1 F ro r) isN e_448 ?_
        replace hs_447 := hs_447.ro' (Nat.le_trans hs_443.low hs_447.low)
        refine st_int (Q := F55.Post px0 apx0_0 cpx0_0 xpx0_0 px1 F ro r) ?_
        have hs_451 := hs_447.pull 3 rfl
        obtain ⟨x_449, hx_450, hp⟩ := bindp_some hp
        refine st_idxS (Q := F55.Post px0 apx0_0 cpx0_0 xpx0_0 px1 F ro r) (l := xpx1_2) (f := (Value.int .u8)) isO isO hs_451 und22 siz5 siz5 (fun _ => rfl) rfl hx_450 fun h_452 hs_453 => ?_
        have hl_454 := setp_len hx_450
        try simp only [hl_454] at hs_453 hp ⊢
        have hs_455 := hs_453.pull 1 rfl
        have hs_456 := hs_455.pull 3 rfl
        have hs_457 := hs_456.pull 3 rfl
        exact hkb1 r_440 mpx1_0 mpx1_1 apx1_2 x_449 n16 n17 n18 (IntKind.i64.wrap (n19 + 1)) _ hs_457 hp
      | pan r_441 =>
        replace hp := bindr_pan hp
        obtain ⟨h_458, e_460, hs_459⟩ := hc_442
        refine st_pan (Q := F55.Post px0 apx0_0 cpx0_0 xpx0_0 px1 F ro r) e_460 ?_
        have hs_461 := hs_459.pull 1 rfl
        have hs_462 := hs_461.tail
        have hs_463 := hs_462.pull 2 rfl
        have hs_464 := hs_463.pull 2 rfl
        have hs_465 := hs_464.pull 2 rfl
        cases hp
        exact ⟨apx1_2, _, rfl, hs_465⟩
    | pan r_430 =>
      replace hp := bindr_pan hp
      obtain ⟨h_466, e_468, hs_467⟩ := hc_431
      refine st_pan (Q := F55.Post px0 apx0_0 cpx0_0 xpx0_0 px1 F ro r) e_468 ?_
      have hs_469 := hs_467.pull 1 rfl
      have hs_470 := hs_469.tail
      have hs_471 := hs_470.pull 2 rfl
      have hs_472 := hs_471.pull 2 rfl
      have hs_473 := hs_472.pull 2 rfl
      cases hp
      exact ⟨apx1_2, _, rfl, hs_473⟩
  · replace hp := ifp_f hc_420 hp
    have hs_574 := hs.pull 3 rfl
    have hs_575 := hs_574.pull 3 rfl
    have hs_576 := hs_575.pull 3 rfl
    have hs_577 := hs_576.pull 3 rfl
    exact F55.J7_ok hora hkb1 mpx0_1 mpx1_0 mpx1_1 apx1_2 xpx1_2 n16 n17 n19 n18 n19 _ hs_577 hp

def F55.J15p (lf : Nat) (xpx0_0 : List Int) (mpx0_1 : Int) (b458 : Bool) (mpx1_0 : Int) (mpx1_1 : Int) (xpx1_2 : List Int) : Option (Res (Int × Int × Int × List Int) (Int × Int × Int × Int × List Int)) :=
  ifp b458 (
    bindp (idxp xpx0_0 mpx0_1) fun x_584 =>
    bindp (F36.p lf x_584) fun r_587 =>
    ifp r_587 (
      bindr (F52.p lf xpx0_0 mpx0_1 true 9) (fun r_601 => some (.pan (r_601.1, r_601.2, mpx1_0, mpx1_1, xpx1_2))) fun r_600 =>
      some (.ok (r_600, mpx1_0, mpx1_1, xpx1_2))) (
      bindp (idxp xpx0_0 mpx0_1) fun x_617 =>
      bindr (F52.p lf xpx0_0 mpx0_1 (x_617 == 35) 9) (fun r_628 => some (.pan (r_628.1, r_628.2, mpx1_0, mpx1_1, xpx1_2))) fun r_627 =>
      some (.ok (r_627, mpx1_0, mpx1_1, xpx1_2)))) (
    some (.ok (mpx0_1, mpx1_0, mpx1_1, xpx1_2)))

theorem F55.J15_ok {ora : Ora} (hora : HOra ora) {lf ro : Nat} {F : List Ent} {r : (Res (Int × Int × Int × List Int) (Int × Int × Int × Int × List Int))} {px0 : Nat} {apx0_0 : Option Addr} {cpx0_0 : Nat} {xpx0_0 : List Int} {px1 : Nat} (mpx0_1 : Int) (b458 : Bool) (mpx1_0 : Int) (mpx1_1 : Int) (apx1_2 : Option Addr) (xpx1_2 : List Int) (h : Heap) (hs : Sat ro h (.own ro (some ⟨px0, 0, none⟩) 1 [.slice apx0_0 xpx0_0.length cpx0_0, .int .i64 mpx0_1] :: .row apx0_0 cpx0_0 (xpx0_0.map (Value.int .u8)) :: .own ro (some ⟨px1, 0, none⟩) 1 [.int .i64 mpx1_0, .int .i64 mpx1_1, .slice apx1_2 xpx1_2.length xpx1_2.length] :: .own ro apx1_2 1 (xpx1_2.map (Value.int .u8)) :: F)) (hp : F55.J15p lf xpx0_0 mpx0_1 b458 mpx1_0 mpx1_1 xpx1_2 = some r) : F55.Post px0 apx0_0 cpx0_0 xpx0_0 px1 F ro r (F55.J15 (callW Tryd.prog ora) lf ro px0 0 b458 h) := by
  unfold F55.J15
  unfold F55.J15p at hp
  refine st_if (Q := F55.Post px0 apx0_0 cpx0_0 xpx0_0 px1 F ro r) (fun hc_583 => ?_) (fun hc_583 => ?_)
  · replace hp := ifp_t hc_583 hp
    refine st_load (Q := F55.Post px0 apx0_0 cpx0_0 xpx0_0 px1 F ro r) isN hs agg22 rfl ?_
    refine st_slice (Q := F55.Post px0 apx0_0 cpx0_0 xpx0_0 px1 F ro r) ?_
    refine st_load (Q := F55.Post px0 apx0_0 cpx0_0 xpx0_0 px1 F ro r) isN hs agg3 rfl ?_
    refine st_int (Q := F55.Post px0 apx0_0 cpx0_0 xpx0_0 px1 F ro r) ?_
    have hs_586 := hs.pull 1 rfl
    obtain ⟨x_584, hx_585, hp⟩ := bindp_some hp
    refine st_idxR (Q := F55.Post px0 apx0_0 cpx0_0 xpx0_0 px1 F ro r) (l := xpx0_0) (f := (Value.int .u8)) isN isN hs_586 und22 siz5 agg5 rfl hx_585 ?_
    refine st_int (Q := F55.Post px0 apx0_0 cpx0_0 xpx0_0 px1 F ro r) ?_
    obtain ⟨r_587, hx_588, hp⟩ := bindp_some hp
    obtain ⟨h_589, e_591, hs_590⟩ := F36.ok hora (ro := ro) (F := .row apx0_0 cpx0_0 (xpx0_0.map (Value.int .u8)) :: .own ro (some ⟨px0, 0, none⟩) 1 [.slice apx0_0 xpx0_0.length cpx0_0, .int .i64 mpx0_1] :: .own ro (some ⟨px1, 0, none⟩) 1 [.int .i64 mpx1_0, .int .i64 mpx1_1, .slice apx1_2 xpx1_2.length xpx1_2.length] :: .own ro apx1_2 1 (xpx1_2.map (Value.int .u8)) :: F) x_584 _ hs_586 hx_588
    refine st_ok (Q := F55.Post px0 apx0_0 cpx0_0 xpx0_0 px1 F ro r) isN e_591 ?_
    refine st_bool (Q := F55.Post px0 apx0_0 cpx0_0 xpx0_0 px1 F ro r) ?_
    refine st_if (Q := F55.Post px0 apx0_0 cpx0_0 xpx0_0 px1 F ro r) (fun hc_592 => ?_) (fun hc_592 => ?_)
    · replace hp := ifp_t hc_592 hp
      have hs_593 := hs_590.dup
      have hs_594 := hs_593.pull 2 rfl
      obtain ⟨r_595, hx_596, hp⟩ := bindr_some hp
      have hc_602 := F52.ok hora (ro := ro) (px0 := px0) (apx0_0 := apx0_0) (cpx0_0 := cpx0_0) (xpx0_0 := xpx0_0) (F := .row apx0_0 cpx0_0 (xpx0_0.map (Value.int .u8)) :: .own ro (some ⟨px1, 0, none⟩) 1 [.int .i64 mpx1_0, .int .i64 mpx1_1, .slice apx1_2 xpx1_2.length xpx1_2.length] :: .own ro apx1_2 1 (xpx1_2.map (Value.int .u8)) :: F) mpx0_1 true 9 _ hs_594 hx_596
      cases r_595 with
      | ok r_600 =>
        replace hp := bindr_ok hp
        obtain ⟨h_597, e_599, hs_598⟩ := hc_602
        refine st_ok (Q := F55.Post px0 apx0_0 cpx0_0 xpx0_0 px1 F ro r) isO e_599 ?_
        refine st_tup (Q := F55.Post px0 apx0_0 cpx0_0 xpx0_0 px1 F ro r) (l := []) ?_
        refine st_nil (Q := F55.Post px0 apx0_0 cpx0_0 xpx0_0 px1 F ro r) ?_
        have hs_603 := hs_598.pull 1 rfl
        have hs_604 := hs_603.tail
        have hs_605 := hs_604.pull 2 rfl
        have hs_606 := hs_605.pull 2 rfl
        have hs_607 := hs_606.pull 2 rfl
        cases hp
        exact ⟨apx1_2, _, rfl, hs_607⟩
      | pan r_601 =>
        replace hp := bindr_pan hp
        obtain ⟨h_608, e_610, hs_609⟩ := hc_602
        refine st_pan (Q := F55.Post px0 apx0_0 cpx0_0 xpx0_0 px1 F ro r) e_610 ?_
        have hs_611 := hs_609.pull 1 rfl
        have hs_612 := hs_611.tail
        have hs_613 := hs_612.pull 2 rfl
        have hs_614 := hs_613.pull 2 rfl
        have hs_615 := hs_614.pull 2 rfl
        cases hp
        exact ⟨apx1_2, _, rfl, hs_615⟩
    · replace hp := ifp_f hc_592 hp
      have hs_616 := hs_590.pull 1 rfl
      refine st_load (Q := F55.Post px0 apx0_0 cpx0_0 xpx0_0 px1 F ro r) isN hs_616 agg22 rfl ?_
      refine st_slice (Q := F55.Post px0 apx0_0 cpx0_0 xpx0_0 px1 F ro r) ?_
      refine st_load (Q := F55.Post px0 apx0_0 cpx0_0 xpx0_0 px1 F ro r) isN hs_616 agg3 rfl ?_
      refine st_int (Q := F55.Post px0 apx0_0 cpx0_0 xpx0_0 px1 F ro r) ?_
      have hs_619 := hs_616.pull 1 rfl
      obtain ⟨x_617, hx_618, hp⟩ := bindp_some hp
      refine st_idxR (Q := F55.Post px0 apx0_0 cpx0_0 xpx0_0 px1 F ro r) (l := xpx0_0) (f := (Value.int .u8)) isN isN hs_619 und22 siz5 agg5 rfl hx_618 ?_
      refine st_int (Q := F55.Post px0 apx0_0 cpx0_0 xpx0_0 px1 F ro r) ?_
      have hs_620 := hs_619.dup
      have hs_621 := hs_620.pull 2 rfl
      obtain ⟨r_622, hx_623, hp⟩ := bindr_some hp
      have hc_629 := F52.ok hora (ro := ro) (px0 := px0) (apx0_0 := apx0_0) (cpx0_0 := cpx0_0) (xpx0_0 := xpx0_0) (F := .row apx0_0 cpx0_0 (xpx0_0.map (Value.int .u8)) :: .own ro (some ⟨px1, 0, none⟩) 1 [.int .i64 mpx1_0, .int .i64 mpx1_1, .slice apx1_2 xpx1_2.length xpx1_2.length] :: .own ro apx1_2 1 (xpx1_2.map (Value.int .u8)) :: F) mpx0_1 (x_617 == 35) 9 _ hs_621 hx_623
      cases r_622 with
      | ok r_627 =>
        replace hp := bindr_ok hp
        obtain ⟨h_624, e_626, hs_625⟩ := hc_629
        refine st_ok (Q := F55.Post px0 apx0_0 cpx0_0 xpx0_0 px1 F ro r) isO e_626 ?_
        refine st_tup (Q := F55.Post px0 apx0_0 cpx0_0 xpx0_0 px1 F ro r) (l := []) ?_
        refine st_nil (Q := F55.Post px0 apx0_0 cpx0_0 xpx0_0 px1 F ro r) ?_
        have hs_630 := hs_625.pull 1 rfl
        have hs_631 := hs_630.tail
        have hs_632 := hs_631.pull 2 rfl
        have hs_633 := hs_632.pull 2 rfl
        have hs_634 := hs_633.pull 2 rfl
        cases hp
        exact ⟨apx1_2, _, rfl, hs_634⟩
      | pan r_628 =>
        replace hp := bindr_pan hp
        obtain ⟨h_635, e_637, hs_636⟩ := hc_629
        refine st_pan (Q := F55.Post px0 apx0_0 cpx0_0 xpx0_0 px1 F ro r) e_637 ?_
        have hs_638 := hs_636.pull 1 rfl
        have hs_639 := hs_638.tail
        have hs_640 := hs_639.pull 2 rfl
        have hs_641 := hs_640.pull 2 rfl
        have hs_642 := hs_641.pull 2 rfl
        cases hp
        exact ⟨apx1_2, _, rfl, hs_642⟩
  · replace hp := ifp_f hc_583 hp
    have hs_643 := hs.pull 1 rfl
    have hs_644 := hs_643.tail
    have hs_645 := hs_644.pull 2 rfl
    have hs_646 := hs_645.pull 2 rfl
    have hs_647 := hs_646.pull 2 rfl
    cases hp
    exact ⟨apx1_2, _, rfl, hs_647⟩

def F55.J14p (lf : Nat) (xpx0_0 : List Int) (mpx0_1 : Int) (n449 : Int) (mpx1_0 : Int) (mpx1_1 : Int) (xpx1_2 : List Int) : Option (Res (Int × Int × Int × List Int) (Int × Int × Int × Int × List Int)) :=
  ifp (n449 == 2) (
    F55.J15p lf xpx0_0 mpx0_1 (decide (mpx0_1 < (xpx0_0.length : Int))) mpx1_0 mpx1_1 xpx1_2) (
    F55.J15p lf xpx0_0 mpx0_1 false mpx1_0 mpx1_1 xpx1_2)

theorem F55.J14_ok {ora : Ora} (hora : HOra ora) {lf ro : Nat} {F : List Ent} {r : (Res (Int × Int × Int × List Int) (Int × Int × Int × Int × List Int))} {px0 : Nat} {apx0_0 : Option Addr} {cpx0_0 : Nat} {xpx0_0 : List Int} {px1 : Nat} (mpx0_1 : Int) (n449 : Int) (mpx1_0 : Int) (mpx1_1 : Int) (apx1_2 : Option Addr) (xpx1_2 : List Int) (h : Heap) (hs : Sat ro h (.own ro (some ⟨px0, 0, none⟩) 1 [.slice apx0_0 xpx0_0.length cpx0_0, .int .i64 mpx0_1] :: .row apx0_0 cpx0_0 (xpx0_0.map (Value.int .u8)) :: .own ro (some ⟨px1, 0, none⟩) 1 [.int .i64 mpx1_0, .int .i64 mpx1_1, .slice apx1_2 xpx1_2.length xpx1_2.length] :: .own ro apx1_2 1 (xpx1_2.map (Value.int .u8)) :: F)) (hp : F55.J14p lf xpx0_0 mpx0_1 n449 mpx1_0 mpx1_1 xpx1_2 = some r) : F55.Post px0 apx0_0 cpx0_0 xpx0_0 px1 F ro r (F55.J14 (callW Tryd.prog ora) lf ro px0 0 n449 h) := by
  unfold F55.J14
  unfold F55.J14p at hp
  refine st_if (Q := F55.Post px0 apx0_0 cpx0_0 xpx0_0 px1 F ro r) (fun hc_582 => ?_) (fun hc_582 => ?_)
  · replace hp := ifp_t hc_582 hp
    refine st_load (Q := F55.Post px0 apx0_0 cpx0_0 xpx0_0 px1 F ro r) isN hs agg3 rfl ?_
    refine st_int (Q := F55.Post px0 apx0_0 cpx0_0 xpx0_0 px1 F ro r) ?_
    refine st_load (Q := F55.Post px0 apx0_0 cpx0_0 xpx0_0 px1 F ro r) isN hs agg22 rfl ?_
    refine st_slice (Q := F55.Post px0 apx0_0 cpx0_0 xpx0_0 px1 F ro r) ?_
    have hs_648 := hs.pull 3 rfl
    have hs_649 := hs_648.pull 3 rfl
    have hs_650 := hs_649.pull 3 rfl
    have hs_651 := hs_650.pull 3 rfl
    exact F55.J15_ok hora mpx0_1 (decide (mpx0_1 < (xpx0_0.length : Int))) mpx1_0 mpx1_1 apx1_2 xpx1_2 _ hs_651 hp
  · replace hp := ifp_f hc_582 hp
    have hs_652 := hs.pull 3 rfl
    have hs_653 := hs_652.pull 3 rfl
    have hs_654 := hs_653.pull 3 rfl
    have hs_655 := hs_654.pull 3 rfl
    exact F55.J15_ok hora mpx0_1 false mpx1_0 mpx1_1 apx1_2 xpx1_2 _ hs_655 hp

def F55.L1p (lf : Nat) : Nat → List Int → Int → Int → Int → List Int → Int → Int → Int → Int → Option (Res (Int × Int × Int × List Int) (Int × Int × Int × Int × List Int))
  | 0, _, _, _, _, _, _, _, _, _ => none
  | n + 1, xpx0_0, mpx0_1, mpx1_0, mpx1_1, xpx1_2, n9, n10, n11, n12 =>
  ifp (decide (n12 < n11)) (
    F55.J2p lf (F55.L1p lf n) xpx0_0 mpx0_1 mpx1_0 mpx1_1 xpx1_2 n9 n10 n11 n12) (
    F55.J14p lf xpx0_0 mpx0_1 n9 mpx1_0 mpx1_1 xpx1_2)

theorem F55.L1_ok {ora : Ora} (hora : HOra ora) {lf ro : Nat} {F : List Ent} {r : (Res (Int × Int × Int × List Int) (Int × Int × Int × Int × List Int))} {px0 : Nat} {apx0_0 : Option Addr} {cpx0_0 : Nat} {xpx0_0 : List Int} {px1 : Nat} : ∀ (n : Nat) (mpx0_1 : Int) (mpx1_0 : Int) (mpx1_1 : Int) (apx1_2 : Option Addr) (xpx1_2 : List Int) (n9 : Int) (n10 : Int) (n11 : Int) (n12 : Int) (h : Heap), Sat ro h (.own ro (some ⟨px0, 0, none⟩) 1 [.slice apx0_0 xpx0_0.length cpx0_0, .int .i64 mpx0_1] :: .row apx0_0 cpx0_0 (xpx0_0.map (Value.int .u8)) :: .own ro (some ⟨px1, 0, none⟩) 1 [.int .i64 mpx1_0, .int .i64 mpx1_1, .slice apx1_2 xpx1_2.length xpx1_2.length] :: .own ro apx1_2 1 (xpx1_2.map (Value.int .u8)) :: F) → F55.L1p lf n xpx0_0 mpx0_1 mpx1_0 mpx1_1 xpx1_2 n9 n10 n11 n12 = some r → F55.Post px0 apx0_0 cpx0_0 xpx0_0 px1 F ro r (F55.L1 (callW Tryd.prog ora) lf ro n px0 0 px1 0 n9 n10 n11 n12 h) := by
  intro n
  induction n with
  | zero => intro mpx0_1 mpx1_0 mpx1_1 apx1_2 xpx1_2 n9 n10 n11 n12 h hs hp; cases hp
  | succ n ih =>
    intro mpx0_1 mpx1_0 mpx1_1 apx1_2 xpx1_2 n9 n10 n11 n12 h hs hp
    unfold F55.L1
    unfold F55.L1p at hp
    refine st_if (Q := F55.Post px0 apx0_0 cpx0_0 xpx0_0 px1 F ro r) (fun hc_419 => ?_) (fun hc_419 => ?_)
    · replace hp := ifp_t hc_419 hp
      have hs_578 := hs.pull 3 rfl
      have hs_579 := hs_578.pull 3 rfl
      have hs_580 := hs_579.pull 3 rfl
      have hs_581 := hs_580.pull 3 rfl
      exact F55.J2_ok hora ih mpx0_1 mpx1_0 mpx1_1 apx1_2 xpx1_2 n9 n10 n11 n12 _ hs_581 hp
    · replace hp := ifp_f hc_419 hp
      have hs_656 := hs.pull 3 rfl
      have hs_657 := hs_656.pull 3 rfl
      have hs_658 := hs_657.pull 3 rfl
      have hs_659 := hs_658.pull 3 rfl
      exact F55.J14_ok hora mpx0_1 n9 mpx1_0 mpx1_1 apx1_2 xpx1_2 _ hs_659 hp

def F55.p (lf : Nat) (xpx0_0 : List Int) (mpx0_1 : Int) (mpx1_0 : Int) (mpx1_1 : Int) (xpx1_2 : List Int) (x2 : Int) (x3 : Int) : Option (Res (Int × Int × Int × List Int) (Int × Int × Int × Int × List Int)) :=
  F55.L1p lf lf xpx0_0 mpx0_1 mpx1_0 mpx1_1 xpx1_2 x2 x3 (xpx1_2.length : Int) 0

theorem F55.t_ok {ora : Ora} (hora : HOra ora) {lf ro : Nat} {F : List Ent} {r : (Res (Int × Int × Int × List Int) (Int × Int × Int × Int × List Int))} {px0 : Nat} {apx0_0 : Option Addr} {cpx0_0 : Nat} {xpx0_0 : List Int} {px1 : Nat} (mpx0_1 : Int) (mpx1_0 : Int) (mpx1_1 : Int) (apx1_2 : Option Addr) (xpx1_2 : List Int) (x2 : Int) (x3 : Int) (h : Heap) (hs : Sat ro h (.own ro (some ⟨px0, 0, none⟩) 1 [.slice apx0_0 xpx0_0.length cpx0_0, .int .i64 mpx0_1] :: .row apx0_0 cpx0_0 (xpx0_0.map (Value.int .u8)) :: .own ro (some ⟨px1, 0, none⟩) 1 [.int .i64 mpx1_0, .int .i64 mpx1_1, .slice apx1_2 xpx1_2.length xpx1_2.length] :: .own ro apx1_2 1 (xpx1_2.map (Value.int .u8)) :: F)) (hp : F55.p lf xpx0_0 mpx0_1 mpx1_0 mpx1_1 xpx1_2 x2 x3 = some r) : F55.Post px0 apx0_0 cpx0_0 xpx0_0 px1 F ro r (F55.t (callW Tryd.prog ora) lf ro px0 0 px1 0 x2 x3 h) := by
  unfold F55.t
  unfold F55.p at hp
  have hs_418 := hs.pull 2 rfl
  refine st_load (Q := F55.Post px0 apx0_0 cpx0_0 xpx0_0 px1 F ro r) isO hs_418 agg22 rfl ?_
  refine st_slice (Q := F55.Post px0 apx0_0 cpx0_0 xpx0_0 px1 F ro r) ?_
  have hs_660 := hs_418.pull 3 rfl
  have hs_661 := hs_660.pull 1 rfl
  have hs_662 := hs_661.pull 3 rfl
  have hs_663 := hs_662.pull 3 rfl
  exact F55.L1_ok hora lf mpx0_1 mpx1_0 mpx1_1 apx1_2 xpx1_2 x2 x3 (xpx1_2.length : Int) 0 _ hs_663 hp

theorem F55.ok {ora : Ora} (hora : HOra ora) {lf ro : Nat} {F : List Ent} {r : (Res (Int × Int × Int × List Int) (Int × Int × Int × Int × List Int))} {px0 : Nat} {apx0_0 : Option Addr} {cpx0_0 : Nat} {xpx0_0 : List Int} {px1 : Nat} (mpx0_1 : Int) (mpx1_0 : Int) (mpx1_1 : Int) (apx1_2 : Option Addr) (xpx1_2 : List Int) (x2 : Int) (x3 : Int) (h : Heap) (hs : Sat ro h (.own ro (some ⟨px0, 0, none⟩) 1 [.slice apx0_0 xpx0_0.length cpx0_0, .int .i64 mpx0_1] :: .row apx0_0 cpx0_0 (xpx0_0.map (Value.int .u8)) :: .own ro (some ⟨px1, 0, none⟩) 1 [.int .i64 mpx1_0, .int .i64 mpx1_1, .slice apx1_2 xpx1_2.length xpx1_2.length] :: .own ro apx1_2 1 (xpx1_2.map (Value.int .u8)) :: F)) (hp : F55.p lf xpx0_0 mpx0_1 mpx1_0 mpx1_1 xpx1_2 x2 x3 = some r) : F55.Post px0 apx0_0 cpx0_0 xpx0_0 px1 F ro r (callW Tryd.prog ora ro 55 [.pointer (some ⟨px0, 0, none⟩), .pointer (some ⟨px1, 0, none⟩), .int .i64 x2, .int .i64 x3] h) := by
  have h1 := F55.t_ok hora mpx0_1 mpx1_0 mpx1_1 apx1_2 xpx1_2 x2 x3 h hs hp
  have h2 : callW Tryd.prog ora ro 55 [.pointer (some ⟨px0, 0, none⟩), .pointer (some ⟨px1, 0, none⟩), .int .i64 x2, .int .i64 x3] h = _ := callW_body (hora.none _ _ _ _ (by decide)) Tryd.func55 (F55.le (callW Tryd.prog ora) lf ro px0 0 px1 0 x2 x3 h) (F55.Post.ne h1)
  rw [h2]; exact h1

def F44.Post (px0 : Nat) (apx0_0 : Option Addr) (cpx0_0 : Nat) (xpx0_0 : List Int) (F : List Ent) (ro : Nat) (r : (Res (Int × Int × List Int × Int × Int) (Int × Int))) (x : Out) : Prop := match r with
  | .ok r => ∃ a2 h', x = .ok (.tuple #[.agg #[.int .i64 r.1, .int .i64 r.2.1, .slice a2 r.2.2.1.length r.2.2.1.length], .int .i64 r.2.2.2.1]) h' ∧ Sat ro h' (.own ro a2 1 (r.2.2.1.map (Value.int .u8)) :: .own ro (some ⟨px0, 0, none⟩) 1 [.slice apx0_0 xpx0_0.length cpx0_0, .int .i64 r.2.2.2.2] :: F)
  | .pan r => ∃ h', x = .panic (.iface 77 (.agg #[.int .i64 r.1])) h' ∧ Sat ro h' (.own ro (some ⟨px0, 0, none⟩) 1 [.slice apx0_0 xpx0_0.length cpx0_0, .int .i64 r.2] :: F)
theorem F44.Post.ne {px0 : Nat} {apx0_0 : Option Addr} {cpx0_0 : Nat} {xpx0_0 : List Int} {F : List Ent} {ro : Nat} {r : (Res (Int × Int × List Int × Int × Int) (Int × Int))} {x : Out} (hx : F44.Post px0 apx0_0 cpx0_0 xpx0_0 F ro r x) : x ≠ .fail := by
  cases r with
  | ok r => obtain ⟨a2, h', rfl, _⟩ := hx; simp
  | pan r => obtain ⟨h', rfl, _⟩ := hx; simp

def F44.J13p (lf : Nat) (xpx0_0 : List Int) (mpx0_1 : Int) (mp138_0 : Int) (mp138_1 : Int) (n139 : Int) (mp140_0 : Int) (mp140_1 : Int) (n141 : Int) : Option (Res (Int × Int × List Int × Int × Int) (Int × Int)) :=
  bindp (repp 1 0 (IntKind.i64.wrap (mp140_0 * mp140_1))) fun x_768 =>
  bindp (F54.p lf n139) fun r_776 =>
  letJ (fun (mj178_0_0 : Int) (mj178_0_1 : Int) (xj178_0_2 : List Int) (mj178_2_1 : Int) => (
    some (.ok (mj178_0_0, mj178_0_1, xj178_0_2, n139, mj178_2_1)) : Option (Res (Int × Int × List Int × Int × Int) (Int × Int)))) fun j178p =>
  ifp r_776 (
    bindr (F55.p lf xpx0_0 mpx0_1 mp140_0 mp140_1 x_768 n139 n141) (fun r_794 => some (.pan (r_794.1, r_794.2.1))) fun r_793 =>
    j178p r_793.2.1 r_793.2.2.1 r_793.2.2.2 r_793.1) (
    bindr (F56.p lf xpx0_0 mpx0_1 mp140_0 mp140_1 x_768 n139 n141) (fun r_826 => some (.pan (r_826.1, r_826.2.1))) fun r_825 =>
    j178p r_825.2.1 r_825.2.2.1 r_825.2.2.2 r_825.1)

theorem F44.J13_ok {ora : Ora} (hora : HOra ora) {lf ro : Nat} {F : List Ent} {r : (Res (Int × Int × List Int × Int × Int) (Int × Int))} {px0 : Nat} {apx0_0 : Option Addr} {cpx0_0 : Nat} {xpx0_0 : List Int} (mpx0_1 : Int) (p138 : Nat) (mp138_0 : Int) (mp138_1 : Int) (n139 : Int) (p140 : Nat) (mp140_0 : Int) (mp140_1 : Int) (n141 : Int) (h : Heap) (hs : Sat ro h (.own ro (some ⟨px0, 0, none⟩) 1 [.slice apx0_0 xpx0_0.length cpx0_0, .int .i64 mpx0_1] :: .row apx0_0 cpx0_0 (xpx0_0.map (Value.int .u8)) :: .own ro (some ⟨p138, 0, none⟩) 1 [.int .i64 mp138_0, .int .i64 mp138_1, .slice none 0 0] :: .own ro (some ⟨p140, 0, none⟩) 1 [.int .i64 mp140_0, .int .i64 mp140_1, .slice none 0 0] :: F)) (hp : F44.J13p lf xpx0_0 mpx0_1 mp138_0 mp138_1 n139 mp140_0 mp140_1 n141 = some r) : F44.Post px0 apx0_0 cpx0_0 xpx0_0 F ro r (F44.J13 (callW Tryd.prog ora) lf ro px0 0 p138 0 n139 p140 0 n141 h) := by
  unfold F44.J13
  unfold F44.J13p at hp
  have hs_767 := hs.pull 3 rfl
  refine st_load (Q := F44.Post px0 apx0_0 cpx0_0 xpx0_0 F ro r) isO hs_767 agg3 rfl ?_
  refine st_int (Q := F44.Post px0 apx0_0 cpx0_0 xpx0_0 F ro r) ?_
  refine st_load (Q := F44.Post px0 apx0_0 cpx0_0 xpx0_0 F ro r) isO hs_767 agg3 rfl ?_
  refine st_int (Q := F44.Post px0 apx0_0 cpx0_0 xpx0_0 F ro r) ?_
  obtain ⟨x_768, hx_769, hp⟩ := bindp_some hp
  refine st_make (Q := F44.Post px0 apx0_0 cpx0_0 xpx0_0 F ro r) isO hs_767 (fun _ => rfl) und22 inf5 rfl rfl zer5 rfl hx_769 fun a_770 h_771 hs_772 => ?_
  refine st_slice (Q := F44.Post px0 apx0_0 cpx0_0 xpx0_0 F ro r) ?_
  have hs_773 := hs_772.pull 1 rfl
  refine st_store (Q := F44.Post px0 apx0_0 cpx0_0 xpx0_0 F ro r) isO hs_773 siz22 rfl (Nat.le_of_ble_eq_true rfl) fun h_774 hs_775 => ?_
  obtain ⟨r_776, hx_777, hp⟩ := bindp_some hp
  obtain ⟨h_778, e_780, hs_779⟩ := F54.ok hora (ro := ro) (F := .own ro (some ⟨p140, 0, none⟩) 1 [.int .i64 mp140_0, .int .i64 mp140_1, .slice a_770 x_768.length x_768.length] :: .own ro a_770 1 (x_768.map (Value.int .u8)) :: .own ro (some ⟨px0, 0, none⟩) 1 [.slice apx0_0 xpx0_0.length cpx0_0, .int .i64 mpx0_1] :: .row apx0_0 cpx0_0 (xpx0_0.map (Value.int .u8)) :: .own ro (some ⟨p138, 0, none⟩) 1 [.int .i64 mp138_0, .int .i64 mp138_1, .slice none 0 0] :: F) n139 _ hs_775 hx_777
  refine st_ok (Q := F44.Post px0 apx0_0 cpx0_0 xpx0_0 F ro r) isO e_780 ?_
  refine st_bool (Q := F44.Post px0 apx0_0 cpx0_0 xpx0_0 F ro r) ?_
  refine st_letJ hp (fun j178p j178 => ∀ (mj178_0_0 : Int) (mj178_0_1 : Int) (aj178_0_2 : Option Addr) (xj178_0_2 : List Int) (mj178_2_1 : Int) (h_846 : Heap), Sat ro h_846 (.own ro (some ⟨p140, 0, none⟩) 1 [.int .i64 mj178_0_0, .int .i64 mj178_0_1, .slice aj178_0_2 xj178_0_2.length xj178_0_2.length] :: .own ro (some ⟨px0, 0, none⟩) 1 [.slice apx0_0 xpx0_0.length cpx0_0, .int .i64 mj178_2_1] :: .row apx0_0 cpx0_0 (xpx0_0.map (Value.int .u8)) :: .own ro (some ⟨p138, 0, none⟩) 1 [.int .i64 mp138_0, .int .i64 mp138_1, .slice none 0 0] :: .own ro aj178_0_2 1 (xj178_0_2.map (Value.int .u8)) :: F) → j178p mj178_0_0 mj178_0_1 xj178_0_2 mj178_2_1 = some r → F44.Post px0 apx0_0 cpx0_0 xpx0_0 F ro r (j178 h_846)) ?_ ?_
  · intro mj178_0_0 mj178_0_1 aj178_0_2 xj178_0_2 mj178_2_1 h_846 hs hp
    refine st_loadA (Q := F44.Post px0 apx0_0 cpx0_0 xpx0_0 F ro r) isO hs agg24 siz24 rfl ?_
    refine st_agg (Q := F44.Post px0 apx0_0 cpx0_0 xpx0_0 F ro r) (l := [.int .i64 mj178_0_0, .int .i64 mj178_0_1, .slice aj178_0_2 xj178_0_2.length xj178_0_2.length]) ?_
    refine st_cons (Q := F44.Post px0 apx0_0 cpx0_0 xpx0_0 F ro r) ?_
    refine st_int (Q := F44.Post px0 apx0_0 cpx0_0 xpx0_0 F ro r) ?_
    refine st_cons (Q := F44.Post px0 apx0_0 cpx0_0 xpx0_0 F ro r) ?_
    refine st_int (Q := F44.Post px0 apx0_0 cpx0_0 xpx0_0 F ro r) ?_
    refine st_cons (Q := F44.Post px0 apx0_0 cpx0_0 xpx0_0 F ro r) ?_
    refine st_slice (Q := F44.Post px0 apx0_0 cpx0_0 xpx0_0 F ro r) ?_
    refine st_nil (Q := F44.Post px0 apx0_0 cpx0_0 xpx0_0 F ro r) ?_
    have hs_847 := hs.pull 3 rfl
    refine st_storeA (Q := F44.Post px0 apx0_0 cpx0_0 xpx0_0 F ro r) (vs := [.int .i64 mj178_0_0, .int .i64 mj178_0_1, .slice aj178_0_2 xj178_0_2.length xj178_0_2.length]) isO hs_847 siz24 rfl rfl rfl rfl fun h_848 hs_849 => ?_
    have hc_850 := readCells_at (o := 0) (n := 3) (cs := [.int .i64 mj178_0_0, .int .i64 mj178_0_1, .slice aj178_0_2 xj178_0_2.length xj178_0_2.length]) hs_849 rfl
    refine st_res (Q := F44.Post px0 apx0_0 cpx0_0 xpx0_0 F ro r) (show resVals _ _ _ _ = some [.agg #[.int .i64 mj178_0_0, .int .i64 mj178_0_1, .slice aj178_0_2 xj178_0_2.length xj178_0_2.length], .int .i64 n139] from res_cellA ((EF_get (by decide)).trans rfl) agg24 siz24 hc_850 (res_tmp ((EF_get (by decide)).trans rfl) (res_nil))) ?_
    have hs_851 := hs_849.tail
    have hs_852 := hs_851.tail
    have hs_853 := hs_852.pull 1 rfl
    have hs_854 := hs_853.tail
    have hs_855 := hs_854.pull 1 rfl
    cases hp
    exact ⟨aj178_0_2, _, rfl, hs_855⟩
  · intro j178p j178 hj178 hp
    refine st_if (Q := F44.Post px0 apx0_0 cpx0_0 xpx0_0 F ro r) (fun hc_781 => ?_) (fun hc_781 => ?_)
    · replace hp := ifp_t hc_781 hp
      have hs_782 := hs_779.pull 3 rfl
      have hs_783 := hs_782.dup
      have hs_784 := hs_783.pull 3 rfl
      have hs_785 := hs_784.pull 3 rfl
      have hs_786 := hs_785.pull 2 rfl
      have hs_787 := hs_786.pull 4 rfl
      obtain ⟨r_788, hx_789, hp⟩ := bindr_some hp
      have hc_795 := F55.ok hora (ro := ro) (px0 := px0) (apx0_0 := apx0_0) (cpx0_0 := cpx0_0) (xpx0_0 := xpx0_0) (px1 := p140) (F := .row apx0_0 cpx0_0 (xpx0_0.map (Value.int .u8)) :: .own ro (some ⟨p138, 0, none⟩) 1 [.int .i64 mp138_0, .int .i64 mp138_1, .slice none 0 0] :: F) mpx0_1 mp140_0 mp140_1 a_770 x_768 n139 n141 _ hs_787 hx_789
      cases r_788 with
      | ok r_793 =>
        replace hp := bindr_ok hp
        obtain ⟨a_796, h_790, e_792, hs_791⟩ := hc_795
        refine st_ok (Q := F44.Post px0 apx0_0 cpx0_0 xpx0_0 F ro r) isO e_792 ?_
        refine st_tup (Q := F44.Post px0 apx0_0 cpx0_0 xpx0_0 F ro r) (l := []) ?_
        refine st_nil (Q := F44.Post px0 apx0_0 cpx0_0 xpx0_0 F ro r) ?_
        have hs_797 := hs_791.pull 2 rfl
        have hs_798 := hs_797.pull 4 rfl
        have hs_799 := hs_798.pull 4 rfl
        have hs_800 := hs_799.pull 3 rfl
        have hs_801 := hs_800.pull 4 rfl
        exact hj178 r_793.2.1 r_793.2.2.1 a_796 r_793.2.2.2 r_793.1 _ hs_801 hp
      | pan r_794 =>
        replace hp := bindr_pan hp
        obtain ⟨a_802, h_803, e_805, hs_804⟩ := hc_795
        refine st_pan (Q := F44.Post px0 apx0_0 cpx0_0 xpx0_0 F ro r) e_805 ?_
        have hs_806 := hs_804.pull 1 rfl
        have hs_807 := hs_806.tail
        have hs_808 := hs_807.pull 1 rfl
        have hs_809 := hs_808.tail
        have hs_810 := hs_809.pull 1 rfl
        have hs_811 := hs_810.tail
        have hs_812 := hs_811.pull 1 rfl
        have hs_813 := hs_812.tail
        cases hp
        exact ⟨_, rfl, hs_813⟩
    · replace hp := ifp_f hc_781 hp
      have hs_814 := hs_779.pull 3 rfl
      have hs_815 := hs_814.dup
      have hs_816 := hs_815.pull 3 rfl
      have hs_817 := hs_816.pull 3 rfl
      have hs_818 := hs_817.pull 2 rfl
      have hs_819 := hs_818.pull 4 rfl
      obtain ⟨r_820, hx_821, hp⟩ := bindr_some hp
      have hc_827 := F56.ok hora (ro := ro) (px0 := px0) (apx0_0 := apx0_0) (cpx0_0 := cpx0_0) (xpx0_0 := xpx0_0) (px1 := p140) (F := .row apx0_0 cpx0_0 (xpx0_0.map (Value.int .u8)) :: .own ro (some ⟨p138, 0, none⟩) 1 [.int .i64 mp138_0, .int .i64 mp138_1, .slice none 0 0] :: F) mpx0_1 mp140_0 mp140_1 a_770 x_768 n139 n141 _ hs_819 hx_821
      cases r_820 with
      | ok r_825 =>
        replace hp := bindr_ok hp
        obtain ⟨a_828, h_822, e_824, hs_823⟩ := hc_827
        refine st_ok (Q := F44.Post px0 apx0_0 cpx0_0 xpx0_0 F ro r) isO e_824 ?_
        refine st_tup (Q := F44.Post px0 apx0_0 cpx0_0 xpx0_0 F ro r) (l := []) ?_
        refine st_nil (Q := F44.Post px0 apx0_0 cpx0_0 xpx0_0 F ro r) ?_
        have hs_829 := hs_823.pull 2 rfl
        have hs_830 := hs_829.pull 4 rfl
        have hs_831 := hs_830.pull 4 rfl
        have hs_832 := hs_831.pull 3 rfl
        have hs_833 := hs_832.pull 4 rfl
        exact hj178 r_825.2.1 r_825.2.2.1 a_828 r_825.2.2.2 r_825.1 _ hs_833 hp
      | pan r_826 =>
        replace hp := bindr_pan hp
        obtain ⟨a_834, h_835, e_837, hs_836⟩ := hc_827
        refine st_pan (Q := F44.Post px0 apx0_0 cpx0_0 xpx0_0 F ro r) e_837 ?_
        have hs_838 := hs_836.pull 1 rfl
        have hs_839 := hs_838.tail
        have hs_840 := hs_839.pull 1 rfl
        have hs_841 := hs_840.tail
        have hs_842 := hs_841.pull 1 rfl
        have hs_843 := hs_842.tail
        have hs_844 := hs_843.pull 1 rfl
        have hs_845 := hs_844.tail
        cases hp
        exact ⟨_, rfl, hs_845⟩

def F44.J10p (lf : Nat) (xpx0_0 : List Int) (mpx0_1 : Int) (mp124_0 : Int) (mp124_1 : Int) (n125 : Int) (mp126_0 : Int) (mp126_1 : Int) : Option (Res (Int × Int × List Int × Int × Int) (Int × Int)) :=
  bindp (F21.p lf n125) fun r_750 =>
  ifp (!r_750) (
    bindr (F53.p lf xpx0_0 mpx0_1 1 255) (fun r_765 => some (.pan (r_765.1, r_765.2))) fun r_764 =>
    F44.J13p lf xpx0_0 r_764.2 mp124_0 mp124_1 n125 mp126_0 mp126_1 r_764.1) (
    F44.J13p lf xpx0_0 mpx0_1 mp124_0 mp124_1 n125 mp126_0 mp126_1 1)

theorem F44.J10_ok {ora : Ora} (hora : HOra ora) {lf ro : Nat} {F : List Ent} {r : (Res (Int × Int × List Int × Int × Int) (Int × Int))} {px0 : Nat} {apx0_0 : Option Addr} {cpx0_0 : Nat} {xpx0_0 : List Int} (mpx0_1 : Int) (p124 : Nat) (mp124_0 : Int) (mp124_1 : Int) (n125 : Int) (p126 : Nat) (mp126_0 : Int) (mp126_1 : Int) (h : Heap) (hs : Sat ro h (.own ro (some ⟨px0, 0, none⟩) 1 [.slice apx0_0 xpx0_0.length cpx0_0, .int .i64 mpx0_1] :: .row apx0_0 cpx0_0 (xpx0_0.map (Value.int .u8)) :: .own ro (some ⟨p124, 0, none⟩) 1 [.int .i64 mp124_0, .int .i64 mp124_1, .slice none 0 0] :: .own ro (some ⟨p126, 0, none⟩) 1 [.int .i64 mp126_0, .int .i64 mp126_1, .slice none 0 0] :: F)) (hp : F44.J10p lf xpx0_0 mpx0_1 mp124_0 mp124_1 n125 mp126_0 mp126_1 = some r) : F44.Post px0 apx0_0 cpx0_0 xpx0_0 F ro r (F44.J10 (callW Tryd.prog ora) lf ro px0 0 p124 0 n125 p126 0 h) := by
  unfold F44.J10
  unfold F44.J10p at hp
  obtain ⟨r_750, hx_751, hp⟩ := bindp_some hp
  obtain ⟨h_752, e_754, hs_753⟩ := F21.ok hora (ro := ro) (F := .own ro (some ⟨px0, 0, none⟩) 1 [.slice apx0_0 xpx0_0.length cpx0_0, .int .i64 mpx0_1] :: .row apx0_0 cpx0_0 (xpx0_0.map (Value.int .u8)) :: .own ro (some ⟨p124, 0, none⟩) 1 [.int .i64 mp124_0, .int .i64 mp124_1, .slice none 0 0] :: .own ro (some ⟨p126, 0, none⟩) 1 [.int .i64 mp126_0, .int .i64 mp126_1, .slice none 0 0] :: F) n125 _ hs hx_751
  refine st_ok (Q := F44.Post px0 apx0_0 cpx0_0 xpx0_0 F ro r) isO e_754 ?_
  refine st_bool (Q := F44.Post px0 apx0_0 cpx0_0 xpx0_0 F ro r) ?_
  refine st_if (Q := F44.Post px0 apx0_0 cpx0_0 xpx0_0 F ro r) (fun hc_755 => ?_) (fun hc_755 => ?_)
  · replace hp := ifp_t hc_755 hp
    have hs_756 := hs_753.pull 1 rfl
    have hs_757 := hs_756.dup
    have hs_758 := hs_757.pull 2 rfl
    obtain ⟨r_759, hx_760, hp⟩ := bindr_some hp
    have hc_766 := F53.ok hora (ro := ro) (px0 := px0) (apx0_0 := apx0_0) (cpx0_0 := cpx0_0) (xpx0_0 := xpx0_0) (F := .row apx0_0 cpx0_0 (xpx0_0.map (Value.int .u8)) :: .own ro (some ⟨p124, 0, none⟩) 1 [.int .i64 mp124_0, .int .i64 mp124_1, .slice none 0 0] :: .own ro (some ⟨p126, 0, none⟩) 1 [.int .i64 mp126_0, .int .i64 mp126_1, .slice none 0 0] :: F) mpx0_1 1 255 _ hs_758 hx_760
    cases r_759 with
    | ok r_764 =>
      replace hp := bindr_ok hp
      obtain ⟨h_761, e_763, hs_762⟩ := hc_766
      refine st_ok (Q := F44.Post px0 apx0_0 cpx0_0 xpx0_0 F ro r) isO e_763 ?_
      refine st_int (Q := F44.Post px0 apx0_0 cpx0_0 xpx0_0 F ro r) ?_
      have hs_856 := hs_762.pull 3 rfl
      have hs_857 := hs_856.pull 3 rfl
      have hs_858 := hs_857.pull 3 rfl
      have hs_859 := hs_858.pull 3 rfl
      exact F44.J13_ok hora r_764.2 p124 mp124_0 mp124_1 n125 p126 mp126_0 mp126_1 r_764.1 _ hs_859 hp
    | pan r_765 =>
      replace hp := bindr_pan hp
      obtain ⟨h_860, e_862, hs_861⟩ := hc_766
      refine st_pan (Q := F44.Post px0 apx0_0 cpx0_0 xpx0_0 F ro r) e_862 ?_
      have hs_863 := hs_861.pull 1 rfl
      have hs_864 := hs_863.tail
      have hs_865 := hs_864.pull 1 rfl
      have hs_866 := hs_865.tail
      have hs_867 := hs_866.pull 1 rfl
      have hs_868 := hs_867.tail
      cases hp
      exact ⟨_, rfl, hs_868⟩
  · replace hp := ifp_f hc_755 hp
    have hs_869 := hs_753.pull 3 rfl
    have hs_870 := hs_869.pull 3 rfl
    have hs_871 := hs_870.pull 3 rfl
    have hs_872 := hs_871.pull 3 rfl
    exact F44.J13_ok hora mpx0_1 p124 mp124_0 mp124_1 n125 p126 mp126_0 mp126_1 1 _ hs_872 hp

def F44.J4p (lf : Nat) (xpx0_0 : List Int) (mpx0_1 : Int) (mp51_0 : Int) (mp51_1 : Int) (n52 : Int) : Option (Res (Int × Int × List Int × Int × Int) (Int × Int)) :=
  bindp (F20.p lf n52) fun r_685 =>
  bindr (F52.p lf xpx0_0 mpx0_1 r_685 25) (fun r_699 => some (.pan (r_699.1, r_699.2))) fun r_698 =>
  bindr (F53.p lf xpx0_0 (IntKind.i64.wrap (r_698 + 2)) 0 65535) (fun r_716 => some (.pan (r_716.1, r_716.2))) fun r_715 =>
  bindr (F53.p lf xpx0_0 r_715.2 0 65535) (fun r_730 => some (.pan (r_730.1, r_730.2))) fun r_729 =>
  ifp (decide (r_715.1 ≥ 1)) (
    ifp (decide (r_715.1 ≤ 4096)) (
      ifp (decide (r_729.1 ≥ 1)) (
        ifp (decide (r_729.1 ≤ 4096)) (
          bindr (F52.p lf xpx0_0 r_729.2 (decide (IntKind.i64.wrap (r_715.1 * r_729.1) ≤ 4194304)) 23) (fun r_748 => some (.pan (r_748.1, r_748.2))) fun r_747 =>
          F44.J10p lf xpx0_0 r_747 mp51_0 mp51_1 n52 r_715.1 r_729.1) (
          bindr (F52.p lf xpx0_0 r_729.2 false 23) (fun r_895 => some (.pan (r_895.1, r_895.2))) fun r_894 =>
          F44.J10p lf xpx0_0 r_894 mp51_0 mp51_1 n52 r_715.1 r_729.1)) (
        bindr (F52.p lf xpx0_0 r_729.2 false 23) (fun r_919 => some (.pan (r_919.1, r_919.2))) fun r_918 =>
        F44.J10p lf xpx0_0 r_918 mp51_0 mp51_1 n52 r_715.1 r_729.1)) (
      bindr (F52.p lf xpx0_0 r_729.2 false 23) (fun r_943 => some (.pan (r_943.1, r_943.2))) fun r_942 =>
      F44.J10p lf xpx0_0 r_942 mp51_0 mp51_1 n52 r_715.1 r_729.1)) (
    bindr (F52.p lf xpx0_0 r_729.2 false 23) (fun r_967 => some (.pan (r_967.1, r_967.2))) fun r_966 =>
    F44.J10p lf xpx0_0 r_966 mp51_0 mp51_1 n52 r_715.1 r_729.1)

theorem F44.J4_ok {ora : Ora} (hora : HOra ora) {lf ro : Nat} {F : List Ent} {r : (Res (Int × Int × List Int × Int × Int) (Int × Int))} {px0 : Nat} {apx0_0 : Option Addr} {cpx0_0 : Nat} {xpx0_0 : List Int} (mpx0_1 : Int) (p51 : Nat) (mp51_0 : Int) (mp51_1 : Int) (n52 : Int) (h : Heap) (hs : Sat ro h (.own ro (some ⟨px0, 0, none⟩) 1 [.slice apx0_0 xpx0_0.length cpx0_0, .int .i64 mpx0_1] :: .row apx0_0 cpx0_0 (xpx0_0.map (Value.int .u8)) :: .own ro (some ⟨p51, 0, none⟩) 1 [.int .i64 mp51_0, .int .i64 mp51_1, .slice none 0 0] :: F)) (hp : F44.J4p lf xpx0_0 mpx0_1 mp51_0 mp51_1 n52 = some r) : F44.Post px0 apx0_0 cpx0_0 xpx0_0 F ro r (F44.J4 (callW Tryd.prog ora) lf ro px0 0 p51 0 n52 h) := by
  unfold F44.J4
  unfold F44.J4p at hp
  obtain ⟨r_685, hx_686, hp⟩ := bindp_some hp
  obtain ⟨h_687, e_689, hs_688⟩ := F20.ok hora (ro := ro) (F := .own ro (some ⟨px0, 0, none⟩) 1 [.slice apx0_0 xpx0_0.length cpx0_0, .int .i64 mpx0_1] :: .row apx0_0 cpx0_0 (xpx0_0.map (Value.int .u8)) :: .own ro (some ⟨p51, 0, none⟩) 1 [.int .i64 mp51_0, .int .i64 mp51_1, .slice none 0 0] :: F) n52 _ hs hx_686
  refine st_ok (Q := F44.Post px0 apx0_0 cpx0_0 xpx0_0 F ro r) isO e_689 ?_
  refine st_bool (Q := F44.Post px0 apx0_0 cpx0_0 xpx0_0 F ro r) ?_
  have hs_690 := hs_688.pull 1 rfl
  have hs_691 := hs_690.dup
  have hs_692 := hs_691.pull 2 rfl
  obtain ⟨r_693, hx_694, hp⟩ := bindr_some hp
  have hc_700 := F52.ok hora (ro := ro) (px0 := px0) (apx0_0 := apx0_0) (cpx0_0 := cpx0_0) (xpx0_0 := xpx0_0) (F := .row apx0_0 cpx0_0 (xpx0_0.map (Value.int .u8)) :: .own ro (some ⟨p51, 0, none⟩) 1 [.int .i64 mp51_0, .int .i64 mp51_1, .slice none 0 0] :: F) mpx0_1 r_685 25 _ hs_692 hx_694
  cases r_693 with
  | ok r_698 =>
    replace hp := bindr_ok hp
    obtain ⟨h_695, e_697, hs_696⟩ := hc_700
    refine st_ok (Q := F44.Post px0 apx0_0 cpx0_0 xpx0_0 F ro r) isO e_697 ?_
    refine st_tup (Q := F44.Post px0 apx0_0 cpx0_0 xpx0_0 F ro r) (l := []) ?_
    refine st_nil (Q := F44.Post px0 apx0_0 cpx0_0 xpx0_0 F ro r) ?_
    refine st_load (Q := F44.Post px0 apx0_0 cpx0_0 xpx0_0 F ro r) isO hs_696 agg3 rfl ?_
    refine st_int (Q := F44.Post px0 apx0_0 cpx0_0 xpx0_0 F ro r) ?_
    refine st_store (Q := F44.Post px0 apx0_0 cpx0_0 xpx0_0 F ro r) isO hs_696 siz3 rfl (Nat.le_of_ble_eq_true rfl) fun h_701 hs_702 => ?_
    refine st_pushJ (Q := F44.Post px0 apx0_0 cpx0_0 xpx0_0 F ro r) hs_702 hs_702.low rfl fun h_703 _ hs_704 => ?_
    refine st_storeA (Q := F44.Post px0 apx0_0 cpx0_0 xpx0_0 F ro r) (vs := [.int .i64 0, .int .i64 0, .slice none 0 0]) isO hs_704 siz24 rfl rfl rfl rfl fun h_705 hs_706 => ?_
    have hs_707 := hs_706.pull 2 rfl
    have hs_708 := hs_707.dup
    have hs_709 := hs_708.pull 3 rfl
    obtain ⟨r_710, hx_711, hp⟩ := bindr_some hp
    have hc_717 := F53.ok hora (ro := ro) (px0 := px0) (apx0_0 := apx0_0) (cpx0_0 := cpx0_0) (xpx0_0 := xpx0_0) (F := .row apx0_0 cpx0_0 (xpx0_0.map (Value.int .u8)) :: .own ro (some ⟨h_701.next, 0, none⟩) 1 [.int .i64 0, .int .i64 0, .slice none 0 0] :: .own ro (some ⟨p51, 0, none⟩) 1 [.int .i64 mp51_0, .int .i64 mp51_1, .slice none 0 0] :: F) (IntKind.i64.wrap (r_698 + 2)) 0 65535 _ hs_709 hx_711
    cases r_710 with
    | ok r_715 =>
      replace hp := bindr_ok hp
      obtain ⟨h_712, e_714, hs_713⟩ := hc_717
      refine st_ok (Q := F44.Post px0 apx0_0 cpx0_0 xpx0_0 F ro r) isO e_714 ?_
      refine st_int (Q := F44.Post px0 apx0_0 cpx0_0 xpx0_0 F ro r) ?_
      have hs_718 := hs_713.pull 2 rfl
      refine st_store (Q := F44.Post px0 apx0_0 cpx0_0 xpx0_0 F ro r) isO hs_718 siz3 rfl (Nat.le_of_ble_eq_true rfl) fun h_719 hs_720 => ?_
      have hs_721 := hs_720.pull 2 rfl
      have hs_722 := hs_721.dup
      have hs_723 := hs_722.pull 3 rfl
      obtain ⟨r_724, hx_725, hp⟩ := bindr_some hp
      have hc_731 := F53.ok hora (ro := ro) (px0 := px0) (apx0_0 := apx0_0) (cpx0_0 := cpx0_0) (xpx0_0 := xpx0_0) (F := .row apx0_0 cpx0_0 (xpx0_0.map (Value.int .u8)) :: .own ro (some ⟨h_701.next, 0, none⟩) 1 [.int .i64 r_715.1, .int .i64 0, .slice none 0 0] :: .own ro (some ⟨p51, 0, none⟩) 1 [.int .i64 mp51_0, .int .i64 mp51_1, .slice none 0 0] :: F) r_715.2 0 65535 _ hs_723 hx_725
      cases r_724 with
      | ok r_729 =>
        replace hp := bindr_ok hp
        obtain ⟨h_726, e_728, hs_727⟩ := hc_731
        refine st_ok (Q := F44.Post px0 apx0_0 cpx0_0 xpx0_0 F ro r) isO e_728 ?_
        refine st_int (Q := F44.Post px0 apx0_0 cpx0_0 xpx0_0 F ro r) ?_
        have hs_732 := hs_727.pull 2 rfl
        refine st_store (Q := F44.Post px0 apx0_0 cpx0_0 xpx0_0 F ro r) isO hs_732 siz3 rfl (Nat.le_of_ble_eq_true rfl) fun h_733 hs_734 => ?_
        refine st_load (Q := F44.Post px0 apx0_0 cpx0_0 xpx0_0 F ro r) isO hs_734 agg3 rfl ?_
        refine st_int (Q := F44.Post px0 apx0_0 cpx0_0 xpx0_0 F ro r) ?_
        refine st_if (Q := F44.Post px0 apx0_0 cpx0_0 xpx0_0 F ro r) (fun hc_735 => ?_) (fun hc_735 => ?_)
        · replace hp := ifp_t hc_735 hp
          refine st_load (Q := F44.Post px0 apx0_0 cpx0_0 xpx0_0 F ro r) isO hs_734 agg3 rfl ?_
          refine st_int (Q := F44.Post px0 apx0_0 cpx0_0 xpx0_0 F ro r) ?_
          refine st_if (Q := F44.Post px0 apx0_0 cpx0_0 xpx0_0 F ro r) (fun hc_736 => ?_) (fun hc_736 => ?_)
          · replace hp := ifp_t hc_736 hp
            refine st_load (Q := F44.Post px0 apx0_0 cpx0_0 xpx0_0 F ro r) isO hs_734 agg3 rfl ?_
            refine st_int (Q := F44.Post px0 apx0_0 cpx0_0 xpx0_0 F ro r) ?_
            refine st_if (Q := F44.Post px0 apx0_0 cpx0_0 xpx0_0 F ro r) (fun hc_737 => ?_) (fun hc_737 => ?_)
            · replace hp := ifp_t hc_737 hp
              refine st_load (Q := F44.Post px0 apx0_0 cpx0_0 xpx0_0 F ro r) isO hs_734 agg3 rfl ?_
              refine st_int (Q := F44.Post px0 apx0_0 cpx0_0 xpx0_0 F ro r) ?_
              refine st_if (Q := F44.Post px0 apx0_0 cpx0_0 xpx0_0 F ro r) (fun hc_738 => ?_) (fun hc_738 => ?_)
              · replace hp := ifp_t hc_738 hp
                refine st_load (Q := F44.Post px0 apx0_0 cpx0_0 xpx0_0 F ro r) isO hs_734 agg3 rfl ?_
                refine st_int (Q := F44.Post px0 apx0_0 cpx0_0 xpx0_0 F ro r) ?_
                refine st_load (Q := F44.Post px0 apx0_0 cpx0_0 xpx0_0 F ro r) isO hs_734 agg3 rfl ?_
                refine st_int (Q := F44.Post px0 apx0_0 cpx0_0 xpx0_0 F ro r) ?_
                have hs_739 := hs_734.pull 2 rfl
                have hs_740 := hs_739.dup
                have hs_741 := hs_740.pull 3 rfl
                obtain ⟨r_742, hx_743, hp⟩ := bindr_some hp
                have hc_749 := F52.ok hora (ro := ro) (px0 := px0) (apx0_0 := apx0_0) (cpx0_0 := cpx0_0) (xpx0_0 := xpx0_0) (F := .row apx0_0 cpx0_0 (xpx0_0.map (Value.int .u8)) :: .own ro (some ⟨h_701.next, 0, none⟩) 1 [.int .i64 r_715.1, .int .i64 r_729.1, .slice none 0 0] :: .own ro (some ⟨p51, 0, none⟩) 1 [.int .i64 mp51_0, .int .i64 mp51_1, .slice none 0 0] :: F) r_729.2 (decide (IntKind.i64.wrap (r_715.1 * r_729.1) ≤ 4194304)) 23 _ hs_741 hx_743
                cases r_742 with
                | ok r_747 =>
                  replace hp := bindr_ok hp
                  obtain ⟨h_744, e_746, hs_745⟩ := hc_749
                  refine st_ok (Q := F44.Post px0 apx0_0 cpx0_0 xpx0_0 F ro r) isO e_746 ?_
                  refine st_tup (Q := F44.Post px0 apx0_0 cpx0_0 xpx0_0 F ro r) (l := []) ?_
                  refine st_nil (Q := F44.Post px0 apx0_0 cpx0_0 xpx0_0 F ro r) ?_
                  have hs_873 := hs_745.pull 2 rfl
                  have hs_874 := hs_873.pull 3 rfl
                  have hs_875 := hs_874.pull 3 rfl
                  have hs_876 := hs_875.pull 3 rfl
                  exact F44.J10_ok hora r_747 p51 mp51_0 mp51_1 n52 h_701.next r_715.1 r_729.1 _ hs_876 hp
                | pan r_748 =>
                  replace hp := bindr_pan hp
                  obtain ⟨h_877, e_879, hs_878⟩ := hc_749
                  refine st_pan (Q := F44.Post px0 apx0_0 cpx0_0 xpx0_0 F ro r) e_879 ?_
                  have hs_880 := hs_878.pull 1 rfl
                  have hs_881 := hs_880.tail
                  have hs_882 := hs_881.pull 1 rfl
                  have hs_883 := hs_882.tail
                  have hs_884 := hs_883.pull 1 rfl
                  have hs_885 := hs_884.tail
                  cases hp
                  exact ⟨_, rfl, hs_885⟩
              · replace hp := ifp_f hc_738 hp
                have hs_886 := hs_734.pull 2 rfl
                have hs_887 := hs_886.dup
                have hs_888 := hs_887.pull 3 rfl
                obtain ⟨r_889, hx_890, hp⟩ := bindr_some hp
                have hc_896 := F52.ok hora (ro := ro) (px0 := px0) (apx0_0 := apx0_0) (cpx0_0 := cpx0_0) (xpx0_0 := xpx0_0) (F := .row apx0_0 cpx0_0 (xpx0_0.map (Value.int .u8)) :: .own ro (some ⟨h_701.next, 0, none⟩) 1 [.int .i64 r_715.1, .int .i64 r_729.1, .slice none 0 0] :: .own ro (some ⟨p51, 0, none⟩) 1 [.int .i64 mp51_0, .int .i64 mp51_1, .slice none 0 0] :: F) r_729.2 false 23 _ hs_888 hx_890
                cases r_889 with
                | ok r_894 =>
                  replace hp := bindr_ok hp
                  obtain ⟨h_891, e_893, hs_892⟩ := hc_896
                  refine st_ok (Q := F44.Post px0 apx0_0 cpx0_0 xpx0_0 F ro r) isO e_893 ?_
                  refine st_tup (Q := F44.Post px0 apx0_0 cpx0_0 xpx0_0 F ro r) (l := []) ?_
                  refine st_nil (Q := F44.Post px0 apx0_0 cpx0_0 xpx0_0 F ro r) ?_
                  have hs_897 := hs_892.pull 2 rfl
                  have hs_898 := hs_897.pull 3 rfl
                  have hs_899 := hs_898.pull 3 rfl
                  have hs_900 := hs_899.pull 3 rfl
                  exact F44.J10_ok hora r_894 p51 mp51_0 mp51_1 n52 h_701.next r_715.1 r_729.1 _ hs_900 hp
                | pan r_895 =>
                  replace hp := bindr_pan hp
                  obtain ⟨h_901, e_903, hs_902⟩ := hc_896
                  refine st_pan (Q := F44.Post px0 apx0_0 cpx0_0 xpx0_0 F ro r) e_903 ?_
                  have hs_904 := hs_902.pull 1 rfl
                  have hs_905 := hs_904.tail
                  have hs_906 := hs_905.pull 1 rfl
                  have hs_907 := hs_906.tail
                  have hs_908 := hs_907.pull 1 rfl
                  have hs_909 := hs_908.tail
                  cases hp
                  exact ⟨_, rfl, hs_909⟩
            · replace hp := ifp_f hc_737 hp
              have hs_910 := hs_734.pull 2 rfl
              have hs_911 := hs_910.dup
              have hs_912 := hs_911.pull 3 rfl
              obtain ⟨r_913, hx_914, hp⟩ := bindr_some hp
              have hc_920 := F52.ok hora (ro := ro) (px0 := px0) (apx0_0 := apx0_0) (cpx0_0 := cpx0_0) (xpx0_0 := xpx0_0) (F := .row apx0_0 cpx0_0 (xpx0_0.map (Value.int .u8)) :: .own ro (some ⟨h_701.next, 0, none⟩) 1 [.int .i64 r_715.1, .int .i64 r_729.1, .slice none 0 0] :: .own ro (some ⟨p51, 0, none⟩) 1 [.int .i64 mp51_0, .int .i64 mp51_1, .slice none 0 0] :: F) r_729.2 false 23 _ hs_912 hx_914
              cases r_913 with
              | ok r_918 =>
                replace hp := bindr_ok hp
                obtain ⟨h_915, e_917, hs_916⟩ := hc_920
                refine st_ok (Q := F44.Post px0 apx0_0 cpx0_0 xpx0_0 F ro r) isO e_917 ?_
                refine st_tup (Q := F44.Post px0 apx0_0 cpx0_0 xpx0_0 F ro r) (l := []) ?_
                refine st_nil (Q := F44.Post px0 apx0_0 cpx0_0 xpx0_0 F ro r) ?_
                have hs_921 := hs_916.pull 2 rfl
                have hs_922 := hs_921.pull 3 rfl
                have hs_923 := hs_922.pull 3 rfl
                have hs_924 := hs_923.pull 3 rfl
                exact F44.J10_ok hora r_918 p51 mp51_0 mp51_1 n52 h_701.next r_715.1 r_729.1 _ hs_924 hp
              | pan r_919 =>
                replace hp := bindr_pan hp
                obtain ⟨h_925, e_927, hs_926⟩ := hc_920
                refine st_pan (Q := F44.Post px0 apx0_0 cpx0_0 xpx0_0 F ro r) e_927 ?_
                have hs_928 := hs_926.pull 1 rfl
                have hs_929 := hs_928.tail
                have hs_930 := hs_929.pull 1 rfl
                have hs_931 := hs_930.tail
                have hs_932 := hs_931.pull 1 rfl
                have hs_933 := hs_932.tail
                cases hp
                exact ⟨_, rfl, hs_933⟩
          · replace hp := ifp_f hc_736 hp
            have hs_934 := hs_734.pull 2 rfl
            have hs_935 := hs_934.dup
            have hs_936 := hs_935.pull 3 rfl
            obtain ⟨r_937, hx_938, hp⟩ := bindr_some hp
            have hc_944 := F52.ok hora (ro := ro) (px0 := px0) (apx0_0 := apx0_0) (cpx0_0 := cpx0_0) (xpx0_0 := xpx0_0) (F := .row apx0_0 cpx0_0 (xpx0_0.map (Value.int .u8)) :: .own ro (some ⟨h_701.next, 0, none⟩) 1 [.int .i64 r_715.1, .int .i64 r_729.1, .slice none 0 0] :: .own ro (some ⟨p51, 0, none⟩) 1 [.int .i64 mp51_0, .int .i64 mp51_1, .slice none 0 0] :: F) r_729.2 false 23 _ hs_936 hx_938
            cases r_937 with
            | ok r_942 =>
              replace hp := bindr_ok hp
              obtain ⟨h_939, e_941, hs_940⟩ := hc_944
              refine st_ok (Q := F44.Post px0 apx0_0 cpx0_0 xpx0_0 F ro r) isO e_941 ?_
              refine st_tup (Q := F44.Post px0 apx0_0 cpx0_0 xpx0_0 F ro r) (l := []) ?_
              refine st_nil (Q := F44.Post px0 apx0_0 cpx0_0 xpx0_0 F ro r) ?_
              have hs_945 := hs_940.pull 2 rfl
              have hs_946 := hs_945.pull 3 rfl
              have hs_947 := hs_946.pull 3 rfl
              have hs_948 := hs_947.pull 3 rfl
              exact F44.J10_ok hora r_942 p51 mp51_0 mp51_1 n52 h_701.next r_715.1 r_729.1 _ hs_948 hp
            | pan r_943 =>
              replace hp := bindr_pan hp
              obtain ⟨h_949, e_951, hs_950⟩ := hc_944
              refine st_pan (Q := F44.Post px0 apx0_0 cpx0_0 xpx0_0 F ro r) e_951 ?_
              have hs_952 := hs_950.pull 1 rfl
              have hs_953 := hs_952.tail
              have hs_954 := hs_953.pull 1 rfl
              have hs_955 := hs_954.tail
              have hs_956 := hs_955.pull 1 rfl
              have hs_957 := hs_956.tail
              cases hp
              exact ⟨_, rfl, hs_957⟩
        · replace hp := ifp_f hc_735 hp
          have hs_958 := hs_734.pull 2 rfl
          have hs_959 := hs_958.dup
          have hs_960 := hs_959.pull 3 rfl
          obtain ⟨r_961, hx_962, hp⟩ := bindr_some hp
          have hc_968 := F52.ok hora (ro := ro) (px0 := px0) (apx0_0 := apx0_0) (cpx0_0 := cpx0_0) (xpx0_0 := xpx0_0) (F := .row apx0_0 cpx0_0 (xpx0_0.map (Value.int .u8)) :: .own ro (some ⟨h_701.next, 0, none⟩) 1 [.int .i64 r_715.1, .int .i64 r_729.1, .slice none 0 0] :: .own ro (some ⟨p51, 0, none⟩) 1 [.int .i64 mp51_0, .int .i64 mp51_1, .slice none 0 0] :: F) r_729.2 false 23 _ hs_960 hx_962
          cases r_961 with
          | ok r_966 =>
            replace hp := bindr_ok hp
            obtain ⟨h_963, e_965, hs_964⟩ := hc_968
            refine st_ok (Q := F44.Post px0 apx0_0 cpx0_0 xpx0_0 F ro r) isO e_965 ?_
            refine st_tup (Q := F44.Post px0 apx0_0 cpx0_0 xpx0_0 F ro r) (l := []) ?_
            refine st_nil (Q := F44.Post px0 apx0_0 cpx0_0 xpx0_0 F ro r) ?_
            have hs_969 := hs_964.pull 2 rfl
            have hs_970 := hs_969.pull 3 rfl
            have hs_971 := hs_970.pull 3 rfl
            have hs_972 := hs_971.pull 3 rfl
            exact F44.J10_ok hora r_966 p51 mp51_0 mp51_1 n52 h_701.next r_715.1 r_729.1 _ hs_972 hp
          | pan r_967 =>
            replace hp := bindr_pan hp
            obtain ⟨h_973, e_975, hs_974⟩ := hc_968
            refine st_pan (Q := F44.Post px0 apx0_0 cpx0_0 xpx0_0 F ro r) e_975 ?_
            have hs_976 := hs_974.pull 1 rfl
            have hs_977 := hs_976.tail
            have hs_978 := hs_977.pull 1 rfl
            have hs_979 := hs_978.tail
            have hs_980 := hs_979.pull 1 rfl
            have hs_981 := hs_980.tail
            cases hp
            exact ⟨_, rfl, hs_981⟩
      | pan r_730 =>
        replace hp := bindr_pan hp
        obtain ⟨h_982, e_984, hs_983⟩ := hc_731
        refine st_pan (Q := F44.Post px0 apx0_0 cpx0_0 xpx0_0 F ro r) e_984 ?_
        have hs_985 := hs_983.pull 1 rfl
        have hs_986 := hs_985.tail
        have hs_987 := hs_986.pull 1 rfl
        have hs_988 := hs_987.tail
        have hs_989 := hs_988.pull 1 rfl
        have hs_990 := hs_989.tail
        cases hp
        exact ⟨_, rfl, hs_990⟩
    | pan r_716 =>
      replace hp := bindr_pan hp
      obtain ⟨h_991, e_993, hs_992⟩ := hc_717
      refine st_pan (Q := F44.Post px0 apx0_0 cpx0_0 xpx0_0 F ro r) e_993 ?_
      have hs_994 := hs_992.pull 1 rfl
      have hs_995 := hs_994.tail
      have hs_996 := hs_995.pull 1 rfl
      have hs_997 := hs_996.tail
      have hs_998 := hs_997.pull 1 rfl
      have hs_999 := hs_998.tail
      cases hp
      exact ⟨_, rfl, hs_999⟩
  | pan r_699 =>
    replace hp := bindr_pan hp
    obtain ⟨h_1000, e_1002, hs_1001⟩ := hc_700
    refine st_pan (Q := F44.Post px0 apx0_0 cpx0_0 xpx0_0 F ro r) e_1002 ?_
    have hs_1003 := hs_1001.pull 1 rfl
    have hs_1004 := hs_1003.tail
    have hs_1005 := hs_1004.pull 1 rfl
    have hs_1006 := hs_1005.tail
    cases hp
    exact ⟨_, rfl, hs_1006⟩

def F44.J3p (lf : Nat) (xpx0_0 : List Int) (mpx0_1 : Int) (mp35_0 : Int) (mp35_1 : Int) (n36 : Int) (b37 : Bool) : Option (Res (Int × Int × List Int × Int × Int) (Int × Int)) :=
  ifp b37 (
    bindp (idxp xpx0_0 (IntKind.i64.wrap (mpx0_1 + 1))) fun x_682 =>
    F44.J4p lf xpx0_0 mpx0_1 mp35_0 mp35_1 (IntKind.i64.wrap (IntKind.u8.wrap (x_682 - 48)))) (
    F44.J4p lf xpx0_0 mpx0_1 mp35_0 mp35_1 n36)

theorem F44.J3_ok {ora : Ora} (hora : HOra ora) {lf ro : Nat} {F : List Ent} {r : (Res (Int × Int × List Int × Int × Int) (Int × Int))} {px0 : Nat} {apx0_0 : Option Addr} {cpx0_0 : Nat} {xpx0_0 : List Int} (mpx0_1 : Int) (p35 : Nat) (mp35_0 : Int) (mp35_1 : Int) (n36 : Int) (b37 : Bool) (h : Heap) (hs : Sat ro h (.own ro (some ⟨px0, 0, none⟩) 1 [.slice apx0_0 xpx0_0.length cpx0_0, .int .i64 mpx0_1] :: .row apx0_0 cpx0_0 (xpx0_0.map (Value.int .u8)) :: .own ro (some ⟨p35, 0, none⟩) 1 [.int .i64 mp35_0, .int .i64 mp35_1, .slice none 0 0] :: F)) (hp : F44.J3p lf xpx0_0 mpx0_1 mp35_0 mp35_1 n36 b37 = some r) : F44.Post px0 apx0_0 cpx0_0 xpx0_0 F ro r (F44.J3 (callW Tryd.prog ora) lf ro px0 0 p35 0 n36 b37 h) := by
  unfold F44.J3
  unfold F44.J3p at hp
  refine st_if (Q := F44.Post px0 apx0_0 cpx0_0 xpx0_0 F ro r) (fun hc_681 => ?_) (fun hc_681 => ?_)
  · replace hp := ifp_t hc_681 hp
    refine st_load (Q := F44.Post px0 apx0_0 cpx0_0 xpx0_0 F ro r) isN hs agg22 rfl ?_
    refine st_slice (Q := F44.Post px0 apx0_0 cpx0_0 xpx0_0 F ro r) ?_
    refine st_load (Q := F44.Post px0 apx0_0 cpx0_0 xpx0_0 F ro r) isN hs agg3 rfl ?_
    refine st_int (Q := F44.Post px0 apx0_0 cpx0_0 xpx0_0 F ro r) ?_
    have hs_684 := hs.pull 1 rfl
    obtain ⟨x_682, hx_683, hp⟩ := bindp_some hp
    refine st_idxR (Q := F44.Post px0 apx0_0 cpx0_0 xpx0_0 F ro r) (l := xpx0_0) (f := (Value.int .u8)) isO isO hs_684 und22 siz5 agg5 rfl hx_683 ?_
    refine st_int (Q := F44.Post px0 apx0_0 cpx0_0 xpx0_0 F ro r) ?_
    have hs_1007 := hs_684.pull 2 rfl
    have hs_1008 := hs_1007.pull 1 rfl
    have hs_1009 := hs_1008.pull 2 rfl
    exact F44.J4_ok hora mpx0_1 p35 mp35_0 mp35_1 (IntKind.i64.wrap (IntKind.u8.wrap (x_682 - 48))) _ hs_1009 hp
  · replace hp := ifp_f hc_681 hp
    have hs_1010 := hs.pull 2 rfl
    have hs_1011 := hs_1010.pull 2 rfl
    have hs_1012 := hs_1011.pull 2 rfl
    exact F44.J4_ok hora mpx0_1 p35 mp35_0 mp35_1 n36 _ hs_1012 hp

def F44.p (lf : Nat) (xpx0_0 : List Int) (mpx0_1 : Int) : Option (Res (Int × Int × List Int × Int × Int) (Int × Int)) :=
  ifp (decide (IntKind.i64.wrap ((xpx0_0.length : Int) - mpx0_1) ≥ 2)) (
    bindp (idxp xpx0_0 mpx0_1) fun x_668 =>
    ifp (x_668 == 80) (
      bindp (idxp xpx0_0 (IntKind.i64.wrap (mpx0_1 + 1))) fun x_673 =>
      bindp (F51.p lf x_673) fun r_676 =>
      F44.J3p lf xpx0_0 mpx0_1 0 0 0 r_676) (
      F44.J3p lf xpx0_0 mpx0_1 0 0 0 false)) (
    F44.J3p lf xpx0_0 mpx0_1 0 0 0 false)

theorem F44.t_ok {ora : Ora} (hora : HOra ora) {lf ro : Nat} {F : List Ent} {r : (Res (Int × Int × List Int × Int × Int) (Int × Int))} {px0 : Nat} {apx0_0 : Option Addr} {cpx0_0 : Nat} {xpx0_0 : List Int} (mpx0_1 : Int) (h : Heap) (hs : Sat ro h (.own ro (some ⟨px0, 0, none⟩) 1 [.slice apx0_0 xpx0_0.length cpx0_0, .int .i64 mpx0_1] :: .row apx0_0 cpx0_0 (xpx0_0.map (Value.int .u8)) :: F)) (hp : F44.p lf xpx0_0 mpx0_1 = some r) : F44.Post px0 apx0_0 cpx0_0 xpx0_0 F ro r (F44.t (callW Tryd.prog ora) lf ro px0 0 h) := by
  unfold F44.t
  unfold F44.p at hp
  refine st_pushJ (Q := F44.Post px0 apx0_0 cpx0_0 xpx0_0 F ro r) hs hs.low rfl fun h_664 _ hs_665 => ?_
  have hs_666 := hs_665.pull 1 rfl
  refine st_load (Q := F44.Post px0 apx0_0 cpx0_0 xpx0_0 F ro r) isN hs_666 agg22 rfl ?_
  refine st_slice (Q := F44.Post px0 apx0_0 cpx0_0 xpx0_0 F ro r) ?_
  refine st_load (Q := F44.Post px0 apx0_0 cpx0_0 xpx0_0 F ro r) isN hs_666 agg3 rfl ?_
  refine st_int (Q := F44.Post px0 apx0_0 cpx0_0 xpx0_0 F ro r) ?_
  refine st_if (Q := F44.Post px0 apx0_0 cpx0_0 xpx0_0 F ro r) (fun hc_667 => ?_) (fun hc_667 => ?_)
  · replace hp := ifp_t hc_667 hp
    refine st_load (Q := F44.Post px0 apx0_0 cpx0_0 xpx0_0 F ro r) isN hs_666 agg22 rfl ?_
    refine st_slice (Q := F44.Post px0 apx0_0 cpx0_0 xpx0_0 F ro r) ?_
    refine st_load (Q := F44.Post px0 apx0_0 cpx0_0 xpx0_0 F ro r) isN hs_666 agg3 rfl ?_
    refine st_int (Q := F44.Post px0 apx0_0 cpx0_0 xpx0_0 F ro r) ?_
    have hs_670 := hs_666.pull 2 rfl
    obtain ⟨x_668, hx_669, hp⟩ := bindp_some hp
    refine st_idxR (Q := F44.Post px0 apx0_0 cpx0_0 xpx0_0 F ro r) (l := xpx0_0) (f := (Value.int .u8)) isN isN hs_670 und22 siz5 agg5 rfl hx_669 ?_
    refine st_int (Q := F44.Post px0 apx0_0 cpx0_0 xpx0_0 F ro r) ?_
    refine st_if (Q := F44.Post px0 apx0_0 cpx0_0 xpx0_0 F ro r) (fun hc_671 => ?_) (fun hc_671 => ?_)
    · replace hp := ifp_t hc_671 hp
      have hs_672 := hs_670.pull 1 rfl
      refine st_load (Q := F44.Post px0 apx0_0 cpx0_0 xpx0_0 F ro r) isN hs_672 agg22 rfl ?_
      refine st_slice (Q := F44.Post px0 apx0_0 cpx0_0 xpx0_0 F ro r) ?_
      refine st_load (Q := F44.Post px0 apx0_0 cpx0_0 xpx0_0 F ro r) isN hs_672 agg3 rfl ?_
      refine st_int (Q := F44.Post px0 apx0_0 cpx0_0 xpx0_0 F ro r) ?_
      have hs_675 := hs_672.pull 1 rfl
      obtain ⟨x_673, hx_674, hp⟩ := bindp_some hp
      refine st_idxR (Q := F44.Post px0 apx0_0 cpx0_0 xpx0_0 F ro r) (l := xpx0_0) (f := (Value.int .u8)) isO isO hs_675 und22 siz5 agg5 rfl hx_674 ?_
      refine st_int (Q := F44.Post px0 apx0_0 cpx0_0 xpx0_0 F ro r) ?_
      obtain ⟨r_676, hx_677, hp⟩ := bindp_some hp
      obtain ⟨h_678, e_680, hs_679⟩ := F51.ok hora (ro := ro) (F := .row apx0_0 cpx0_0 (xpx0_0.map (Value.int .u8)) :: .own ro (some ⟨px0, 0, none⟩) 1 [.slice apx0_0 xpx0_0.length cpx0_0, .int .i64 mpx0_1] :: .own ro (some ⟨h.next, 0, none⟩) 1 [.int .i64 0, .int .i64 0, .slice none 0 0] :: F) x_673 _ hs_675 hx_677
      refine st_ok (Q := F44.Post px0 apx0_0 cpx0_0 xpx0_0 F ro r) isO e_680 ?_
      refine st_bool (Q := F44.Post px0 apx0_0 cpx0_0 xpx0_0 F ro r) ?_
      have hs_1013 := hs_679.pull 2 rfl
      have hs_1014 := hs_1013.pull 1 rfl
      have hs_1015 := hs_1014.pull 2 rfl
      exact F44.J3_ok hora mpx0_1 h.next 0 0 0 r_676 _ hs_1015 hp
    · replace hp := ifp_f hc_671 hp
      have hs_1016 := hs_670.pull 2 rfl
      have hs_1017 := hs_1016.pull 1 rfl
      have hs_1018 := hs_1017.pull 2 rfl
      exact F44.J3_ok hora mpx0_1 h.next 0 0 0 false _ hs_1018 hp
  · replace hp := ifp_f hc_667 hp
    have hs_1019 := hs_666.pull 1 rfl
    have hs_1020 := hs_1019.pull 2 rfl
    have hs_1021 := hs_1020.pull 2 rfl
    exact F44.J3_ok hora mpx0_1 h.next 0 0 0 false _ hs_1021 hp

theorem F44.ok {ora : Ora} (hora : HOra ora) {lf ro : Nat} {F : List Ent} {r : (Res (Int × Int × List Int × Int × Int) (Int × Int))} {px0 : Nat} {apx0_0 : Option Addr} {cpx0_0 : Nat} {xpx0_0 : List Int} (mpx0_1 : Int) (h : Heap) (hs : Sat ro h (.own ro (some ⟨px0, 0, none⟩) 1 [.slice apx0_0 xpx0_0.length cpx0_0, .int .i64 mpx0_1] :: .row apx0_0 cpx0_0 (xpx0_0.map (Value.int .u8)) :: F)) (hp : F44.p lf xpx0_0 mpx0_1 = some r) : F44.Post px0 apx0_0 cpx0_0 xpx0_0 F ro r (callW Tryd.prog ora ro 44 [.pointer (some ⟨px0, 0, none⟩)] h) := by
  have h1 := F44.t_ok hora mpx0_1 h hs hp
  have h2 : callW Tryd.prog ora ro 44 [.pointer (some ⟨px0, 0, none⟩)] h = _ := callW_body (hora.none _ _ _ _ (by decide)) Tryd.func44 (F44.le (callW Tryd.prog ora) lf ro px0 0 h) (F44.Post.ne h1)
  rw [h2]; exact h1

end Go.Proofs.YtgpnjdldpehidaaDoor

open Go Go.Abs Go.Proofs
set_option maxRecDepth 100000
set_option linter.unusedVariables false
set_option linter.unusedSimpArgs false
namespace Go.Proofs.YtgpnjdldpehidaaDoor
/-! ### 'next': the guarded reading of an image -/
def F35.Post (px0 : Nat) (apx0_0 : Option Addr) (cpx0_0 : Nat) (xpx0_0 : List Int) (F : List Ent) (ro : Nat) (r : (Int × Int × List Int × Int × Int × Int)) (x : Out) : Prop :=
  ∃ a2 h', x = .ok (.tuple #[.agg #[.int .i64 r.1, .int .i64 r.2.1, .slice a2 r.2.2.1.length r.2.2.1.length], .int .i64 r.2.2.2.1, .int .i64 r.2.2.2.2.1]) h' ∧ Sat ro h' (.own ro a2 1 (r.2.2.1.map (Value.int .u8)) :: .own ro (some ⟨px0, 0, none⟩) 1 [.slice apx0_0 xpx0_0.length cpx0_0, .int .i64 r.2.2.2.2.2] :: F)
def F35.p (lf : Nat) (x : List Int) (at_ : Int) : Option (Int × Int × List Int × Int × Int × Int) := match F44.p lf x at_ with
  | some (.ok r) => some (r.1, r.2.1, r.2.2.1, r.2.2.2.1, 0, r.2.2.2.2)
  | some (.pan r) => some (0, 0, [], 0, r.1, r.2)
  | none => none
theorem zer24 : zeroOf Tryd.prog 24 = some (.agg #[.int .i64 0, .int .i64 0, .slice none 0 0]) := by kernel_rfl
theorem zer26 : zeroOf Tryd.prog 26 = some (.int .i64 0) := by kernel_rfl
theorem zer77 : zeroOf Tryd.prog 77 = some (.agg #[.int .i64 0]) := by kernel_rfl
theorem sz26 : sizeOf? Tryd.prog 26 = some 1 := by kernel_rfl
theorem sz77 : sizeOf? Tryd.prog 77 = some 1 := by kernel_rfl
theorem ag26 : isAgg? Tryd.prog 26 = some false := by kernel_rfl
theorem un20 : eqOp Tryd.prog 20 true .nilIface .nilIface = some true := by kernel_rfl
noncomputable def GA : Code := sub (codeOf Tryd.f35) [false]
noncomputable def GB : Code := sub (codeOf Tryd.f35) [true, true]
noncomputable def GC : Code := sub (codeOf Tryd.f43) [true]
variable {ro : Nat}
/-- The frame of 'next' before it reads. -/
def f35A (b : Nat) (h : Heap) : Nat → Option Value := updF (updF (updF (updF (fun _ => none) 0 (some (.pointer (some ⟨b, 0, none⟩)))) 2 (some (ptrTo h.next))) 3 (some (.int .i64 0))) 4 (some (ptrTo (h.next + 1)))
theorem env35 (v : Value) : envOf0 [v] 12 = EF 12 (updF (fun _ => none) 0 (some v)) := by rfl
theorem a35_run (b : Nat) (h : Heap) : EvC Tryd.prog noOra ro GA (envOf0 [.pointer (some ⟨b, 0, none⟩)] 12) h (fun r => r = .normal (EF 12 (f35A b h)) ((h.push (.cells 1 [.int .i64 0, .int .i64 0, .slice none 0 0])).push (.cells 1 [.int .i64 0]))) := by
  rw [env35]
  refine ev_region ?_
  refine ev1 (stp_alloc zer24) (by decide) ?_
  refine ev1 (stp_assignC rfl) (by decide) ?_
  refine ev1 (stp_alloc zer26) (by decide) ?_
  exact evr_nil rfl
/-- What lies behind: the image's block, the error's cell. -/
def mCell (b : Nat) (l : List Value) (ro : Nat) : Ent := .own ro (some ⟨b, 0, none⟩) 1 l
theorem after_ok {e : Env} {d : Option Tmp} {next : Env → Heap → Prop} {Q : COut → Prop} {x : Out} {v : Value} {h : Heap} (hx : x = .ok v h) (hk : ∃ e', putA e d v = some e' ∧ next e' h) : After e d next Q x := by subst hx; exact hk
theorem after_pan {e : Env} {d : Option Tmp} {next : Env → Heap → Prop} {Q : COut → Prop} {x : Out} {v : Value} {h : Heap} (hx : x = .panic v h) (hk : Q (.panic v e h)) : After e d next Q x := by subst hx; exact hk
theorem evf_callW {P : Program} {ora : Ora} {f : FuncId} {args : List Value} {h : Heap} {Q : Out → Prop} (hn : callW P ora ro f args h ≠ .fail) (hq : Q (callW P ora ro f args h)) : EvF P ora ro f args h Q :=
  (callW_good ro f args h hn).mono fun r hr => by
    have hr : r = _ := hr
    rw [hr]; exact hq
theorem evf_eq {P : Program} {ora : Ora} {f : FuncId} {args : List Value} {h : Heap} {Q : Out → Prop} {r : Out} (he : callW P ora ro f args h = r) (hr : r ≠ .fail) (hq : Q r) : EvF P ora ro f args h Q := by
  subst he; exact evf_callW hr hq
theorem enter44 : enterB Tryd.prog 44 = true := by kernel_rfl
/-- The reading succeeds. -/
theorem b35_ok (b : Nat) (h h3 : Heap) {R : List Ent} {w x f : Int} {a : Option Addr} {n c : Nat} (hc : callW Tryd.prog noOra ro 44 [.pointer (some ⟨b, 0, none⟩)] ((h.push (.cells 1 [.int .i64 0, .int .i64 0, .slice none 0 0])).push (.cells 1 [.int .i64 0])) = .ok (.tuple #[.agg #[.int .i64 w, .int .i64 x, .slice a n c], .int .i64 f]) h3)
    (hs : Sat ro h3 (.own ro (some ⟨h.next, 0, none⟩) 1 [.int .i64 0, .int .i64 0, .slice none 0 0] :: .own ro (some ⟨h.next + 1, 0, none⟩) 1 [.int .i64 0] :: R)) :
    EvC Tryd.prog noOra ro GB (EF 12 (f35A b h)) ((h.push (.cells 1 [.int .i64 0, .int .i64 0, .slice none 0 0])).push (.cells 1 [.int .i64 0])) (fun r => ∃ g h5, r = .ret (EF 12 g) h5 ∧ g 2 = some (ptrTo h.next) ∧ g 3 = some (.int .i64 f) ∧ g 4 = some (ptrTo (h.next + 1)) ∧
      Sat ro h5 (.own ro (some ⟨h.next, 0, none⟩) 1 [.int .i64 w, .int .i64 x, .slice a n c] :: .own ro (some ⟨h.next + 1, 0, none⟩) 1 [.int .i64 0] :: R)) := by
  obtain ⟨h4, e4, s4⟩ := storeA_eq (P := Tryd.prog) (t := 24) (o := 0) (vs := [.int .i64 w, .int .i64 x, .slice a n c]) hs siz24 rfl rfl rfl rfl
  have l4 := loadA_eq (P := Tryd.prog) (t := 24) (o := 0) (vs := [.int .i64 w, .int .i64 x, .slice a n c]) s4 agg24 siz24 rfl
  obtain ⟨h5, e5, s5⟩ := storeA_eq (P := Tryd.prog) (t := 24) (o := 0) (vs := [.int .i64 w, .int .i64 x, .slice a n c]) s4 siz24 rfl rfl rfl rfl
  obtain ⟨h6, e6, s6⟩ := store_eq (P := Tryd.prog) (t := 26) (o := 0) (v := .int .i64 0) (s5.pull 1 rfl) sz26 rfl (Nat.le_of_ble_eq_true rfl)
  · refine ev_seq (ev_region ?_)
    refine ev1 (stp_move (by decide) rfl) (by decide) ?_
    refine evr_call rfl rfl rfl enter44 (evf_eq hc (by simp) ⟨_, putA_EF (by decide), ?_⟩)
    refine ev1 (stp_move (by decide) rfl) (by decide) ?_
    refine ev1 (stp_extract (cs := [.agg #[.int .i64 w, .int .i64 x, .slice a n c], .int .i64 f]) (by decide) rfl rfl) (by decide) ?_
    refine ev1 (stp_extract (cs := [.agg #[.int .i64 w, .int .i64 x, .slice a n c], .int .i64 f]) (by decide) rfl rfl) (by decide) ?_
    refine ev0 (stp_store (by decide) (by decide) rfl rfl e4) ?_
    refine ev1 (stp_assign (by decide) rfl) (by decide) ?_
    refine evr_nil (ev_seq (ev_region ?_))
    refine ev1 (stp_load (by decide) rfl l4) (by decide) ?_
    refine ev1 (stp_move (by decide) rfl) (by decide) ?_
    refine ev0 (stp_store (by decide) (by decide) rfl rfl e5) ?_
    refine ev1 (stp_assign (by decide) rfl) (by decide) ?_
    refine ev0 (stp_storeC (by decide) rfl rfl e6) ?_
    exact evr_nil (ev_ret ⟨_, _, rfl, rfl, rfl, rfl, s6.pull 1 rfl⟩)
/-- The reading panics. -/
theorem b35_pan (b : Nat) (h h3 : Heap) {v : Value} (hc : callW Tryd.prog noOra ro 44 [.pointer (some ⟨b, 0, none⟩)] ((h.push (.cells 1 [.int .i64 0, .int .i64 0, .slice none 0 0])).push (.cells 1 [.int .i64 0])) = .panic v h3) :
    EvC Tryd.prog noOra ro GB (EF 12 (f35A b h)) ((h.push (.cells 1 [.int .i64 0, .int .i64 0, .slice none 0 0])).push (.cells 1 [.int .i64 0])) (fun r => ∃ g, r = .panic v (EF 12 g) h3 ∧ g 2 = some (ptrTo h.next) ∧ g 3 = some (.int .i64 0) ∧ g 4 = some (ptrTo (h.next + 1))) := by
  refine ev_seq (ev_region ?_)
  refine ev1 (stp_move (by decide) rfl) (by decide) ?_
  exact evr_call rfl rfl rfl enter44 (evf_eq hc (by simp) ⟨_, rfl, rfl, rfl, rfl⟩)
theorem env43 (v x : Value) : putA (envOf0 [v] 15) (some 5) x = some (EF 15 (updF (updF (fun _ => none) 0 (some v)) 5 (some x))) := by rfl
theorem c43_nil (v : Value) (h : Heap) : EvC Tryd.prog noOra ro GC (EF 15 (updF (updF (fun _ => none) 0 (some v)) 5 (some .nilIface))) h (fun r => ∃ e, r = .normal e h) := by
  refine ev_block (ev_seq (ev_region ?_))
  refine ev1 (stp_binC (r := .bool true) (by decide) rfl rfl (by simp [binop, un20])) (by decide) ?_
  refine evr_nil (ev_cond (b := true) rfl (fun _ => ev_region ?_) (fun hf => by cases hf))
  refine ev1 (stp_assign (by decide) rfl) (by decide) ?_
  exact evr_nil ⟨_, rfl⟩
theorem un20f (t : TypeId) (v : Value) : eqOp Tryd.prog 20 true (.iface t v) .nilIface = some false := by
  have : ∃ ms, Tryd.prog.underlying 20 = some (.interface ms) := ⟨_, Tryd.underlying20⟩
  obtain ⟨ms, hms⟩ := this
  simp [eqOp, hms]
theorem as77 (v : Value) (h : Heap) : typeAssertOp Tryd.prog (.iface 77 v) 77 true h = .ok (.tuple #[v, .bool true]) h := by
  have : ∃ fs, Tryd.prog.underlying 77 = some (.struct fs) := ⟨_, Tryd.underlying77⟩
  obtain ⟨fs, hfs⟩ := this
  simp [typeAssertOp, hfs]
theorem fa77 (b : Nat) (h : Heap) : faddrO Tryd.prog 77 (.pointer (some ⟨b, 0, none⟩)) 0 h = .ok (.pointer (some ⟨b, 0, none⟩)) h := by
  have : ∃ f, Tryd.prog.underlying 77 = some (.struct #[f]) ∧ f.offset = 0 ∧ f.type = 26 := ⟨_, Tryd.underlying77, rfl, rfl⟩
  obtain ⟨f, hf, ho, ht⟩ := this
  simp [faddrO, opO, stepOp, ev, E3, Env.get, T.get, hf, ht, sz26, ho, addr_add]
theorem c43_fault (be e : Int) (bm bc : Nat) (h3 : Heap) {R : List Ent} {lm : List Value} (hs : Sat ro h3 (.own ro (some ⟨bm, 0, none⟩) 1 lm :: .own ro (some ⟨bc, 0, none⟩) 1 [.int .i64 0] :: R)) :
    EvC Tryd.prog noOra ro GC (EF 15 (updF (updF (fun _ => none) 0 (some (ptrTo bc))) 5 (some (.iface 77 (.agg #[.int .i64 e]))))) h3 (fun r => ∃ e' h6, r = .normal e' h6 ∧ Sat ro h6 (.own ro (some ⟨bm, 0, none⟩) 1 lm :: .own ro (some ⟨bc, 0, none⟩) 1 [.int .i64 e] :: R)) := by
  have s4 := hs.push (lo := ro) hs.low (sz := 1) (l := [.int .i64 0]) rfl
  obtain ⟨h5, e5, s5⟩ := storeA_eq (P := Tryd.prog) (t := 77) (o := 0) (vs := [.int .i64 e]) s4 sz77 rfl rfl rfl rfl
  have l5 := load_eq (P := Tryd.prog) (t := 26) (o := 0) (v := .int .i64 e) s5 ag26 rfl
  obtain ⟨h6, e6, s6⟩ := store_eq (P := Tryd.prog) (t := 26) (o := 0) (v := .int .i64 e) (s5.pull 2 rfl) sz26 rfl (Nat.le_of_ble_eq_true rfl)
  refine ev_block (ev_seq (ev_region ?_))
  refine ev1 (stp_binC (r := .bool false) (by decide) rfl rfl (by simp [binop, un20f])) (by decide) ?_
  refine evr_nil (ev_cond (b := false) rfl (fun hf => by cases hf) (fun _ => ev_seq (ev_region ?_)))
  refine ev1 (stp_assert (by decide) rfl (as77 _ _)) (by decide) ?_
  refine ev1 (stp_extract (cs := [.agg #[.int .i64 e], .bool true]) (by decide) rfl rfl) (by decide) ?_
  refine ev1 (stp_extract (cs := [.agg #[.int .i64 e], .bool true]) (by decide) rfl rfl) (by decide) ?_
  refine evr_nil (ev_cond (b := true) rfl (fun _ => ev_seq (ev_region ?_)) (fun hf => by cases hf))
  refine ev1 (stp_alloc zer77) (by decide) ?_
  refine ev0 (stp_store (by decide) (by decide) rfl rfl e5) ?_
  refine evr_nil (ev_region ?_)
  refine ev1 (stp_move (by decide) rfl) (by decide) ?_
  refine ev1 (stp_faddr (by decide) rfl (fa77 _ _)) (by decide) ?_
  refine ev1 (stp_load (by decide) rfl l5) (by decide) ?_
  refine ev1 (stp_nil (by decide) rfl) (by decide) ?_
  refine ev0 (stp_store (by decide) (by decide) rfl rfl e6) ?_
  exact evr_nil ⟨_, _, rfl, ((s6.pull 1 rfl).tail).pull 1 rfl⟩
theorem res35 {h : Heap} {g : Nat → Option Value} {bm bc : Nat} {w x f e : Int} {a : Option Addr} {n c : Nat} {R : List Ent} (h2 : g 2 = some (ptrTo bm)) (h3 : g 3 = some (.int .i64 f)) (h4 : g 4 = some (ptrTo bc))
    (hs : Sat ro h (.own ro (some ⟨bm, 0, none⟩) 1 [.int .i64 w, .int .i64 x, .slice a n c] :: .own ro (some ⟨bc, 0, none⟩) 1 [.int .i64 e] :: R)) :
    resOf Tryd.prog Tryd.f35 (EF 12 g) h = .ok (.tuple #[.agg #[.int .i64 w, .int .i64 x, .slice a n c], .int .i64 f, .int .i64 e]) h := by
  have c1 := readCells_at (o := 0) (n := 3) (cs := [.int .i64 w, .int .i64 x, .slice a n c]) hs rfl
  have c2 := readCells_at (o := 0) (n := 1) (cs := [.int .i64 e]) (hs.pull 1 rfl) rfl
  refine st_res (Q := fun o => o = .ok (.tuple #[.agg #[.int .i64 w, .int .i64 x, .slice a n c], .int .i64 f, .int .i64 e]) h) (show resVals _ _ _ _ = some [.agg #[.int .i64 w, .int .i64 x, .slice a n c], .int .i64 f, .int .i64 e] from res_cellA ((EF_get (by decide)).trans h2) agg24 siz24 c1 (res_tmp ((EF_get (by decide)).trans h3) (res_cell ((EF_get (by decide)).trans h4) ag26 c2 res_nil))) rfl
theorem ev_of {c : Code} {e : Env} {h : Heap} {r : COut} (hc : EvC Tryd.prog noOra ro c e h (fun x => x = r)) : ∃ n, ∀ m, n ≤ m → runCode Tryd.prog noOra m ro c e h = r := by
  obtain ⟨r', _, rfl, h2⟩ := hc; exact h2
theorem ev_ofQ {c : Code} {e : Env} {h : Heap} {Q : COut → Prop} (hc : EvC Tryd.prog noOra ro c e h Q) : ∃ r, Q r ∧ ∃ n, ∀ m, n ≤ m → runCode Tryd.prog noOra m ro c e h = r := by
  obtain ⟨r', _, h1, h2⟩ := hc; exact ⟨r', h1, h2⟩
/-- 'next' answers what the reading answers; a fault becomes its error. -/
theorem F35.ok {ora : Ora} (hora : HOra9 ora) {lf : Nat} {F : List Ent} {r : (Int × Int × List Int × Int × Int × Int)} {px0 : Nat} {apx0_0 : Option Addr} {cpx0_0 : Nat} {xpx0_0 : List Int} (mpx0_1 : Int) (h : Heap) (hs : Sat ro h (.own ro (some ⟨px0, 0, none⟩) 1 [.slice apx0_0 xpx0_0.length cpx0_0, .int .i64 mpx0_1] :: .row apx0_0 cpx0_0 (xpx0_0.map (Value.int .u8)) :: F)) (hp : F35.p lf xpx0_0 mpx0_1 = some r) :
    F35.Post px0 apx0_0 cpx0_0 xpx0_0 F ro r (callW Tryd.prog ora ro 35 [.pointer (some ⟨px0, 0, none⟩)] h) := by
  have nora : HOra noOra := ⟨fun _ _ _ _ _ => rfl⟩
  have s1 := hs.push (lo := ro) hs.low (sz := 1) (l := [.int .i64 0, .int .i64 0, .slice none 0 0]) rfl
  have s2 := s1.push (lo := ro) s1.low (sz := 1) (l := [.int .i64 0]) rfl
  have s3 := (s2.pull 3 rfl).pull 3 rfl
  have s3 := (s3.pull 1 rfl).pull 1 rfl
  have s4 := (s2.pull 2 rfl)
  have s5 := (s4.pull 3 rfl).pull 1 rfl
  have key : ∀ (v : Value) (h' : Heap), (∃ N, guardRun Tryd.prog noOra N ro Tryd.f35 Tryd.f43 GA GB GC 4 5 [.pointer (some ⟨px0, 0, none⟩)] h = .ok v h') → callW Tryd.prog ora ro 35 [.pointer (some ⟨px0, 0, none⟩)] h = .ok v h' := fun v h' hN =>
    callW_ora (hora.next ro _ h _ (by simp) hN) (by simp)
  obtain ⟨nA, hA⟩ := ev_of (a35_run (ro := ro) px0 h)
  unfold F35.p at hp
  split at hp
  · rename_i r' hr
    cases hp
    obtain ⟨a2, h3, e3, t3⟩ := F44.ok nora (ro := ro) (F := .own ro (some ⟨h.next + 1, 0, none⟩) 1 [.int .i64 0] :: .own ro (some ⟨h.next, 0, none⟩) 1 [.int .i64 0, .int .i64 0, .slice none 0 0] :: F) mpx0_1 _ s5 hr
    obtain ⟨rB, ⟨g, h5, rfl, g2, g3, g4, t5⟩, nB, hB⟩ := ev_ofQ (b35_ok px0 h h3 e3 ((t3.pull 2 rfl).pull 3 rfl))
    obtain ⟨rC, ⟨eC, rfl⟩, nC, hC⟩ := ev_ofQ (c43_nil (ro := ro) (ptrTo (h.next + 1)) h5)
    refine ⟨a2, h5, key _ _ ⟨max nA (max nB nC), ?_⟩, ((t5.tail).tail)⟩
    unfold guardRun
    rw [show runCode Tryd.prog noOra (max nA (max nB nC)) ro GA (envOf0 [.pointer (some ⟨px0, 0, none⟩)] Tryd.f35.ntmps) h = _ from hA _ (by omega)]
    simp only
    rw [show (EF 12 (f35A px0 h)).get 4 = some (ptrTo (h.next + 1)) from (EF_get (by decide)).trans rfl]
    simp only
    rw [hB _ (by omega)]
    simp only
    unfold afterD
    rw [show putA (envOf0 [ptrTo (h.next + 1)] Tryd.f43.ntmps) (some 5) .nilIface = _ from env43 _ _]
    simp only
    rw [hC _ (by omega)]
    exact res35 g2 g3 g4 t5
  · rename_i r' hr
    cases hp
    obtain ⟨h3, e3, t3⟩ := F44.ok nora (ro := ro) (F := .own ro (some ⟨h.next + 1, 0, none⟩) 1 [.int .i64 0] :: .own ro (some ⟨h.next, 0, none⟩) 1 [.int .i64 0, .int .i64 0, .slice none 0 0] :: F) mpx0_1 _ s5 hr
    obtain ⟨rB, ⟨g, rfl, g2, g3, g4⟩, nB, hB⟩ := ev_ofQ (b35_pan px0 h h3 e3)
    obtain ⟨rC, ⟨eC, h6, rfl, t6⟩, nC, hC⟩ := ev_ofQ (c43_fault 0 r'.1 h.next (h.next + 1) h3 ((t3.pull 1 rfl).pull 2 rfl))
    refine ⟨none, h6, key _ _ ⟨max nA (max nB nC), ?_⟩, ((t6.tail).tail).nilOwn ro 1⟩
    unfold guardRun
    rw [show runCode Tryd.prog noOra (max nA (max nB nC)) ro GA (envOf0 [.pointer (some ⟨px0, 0, none⟩)] Tryd.f35.ntmps) h = _ from hA _ (by omega)]
    simp only
    rw [show (EF 12 (f35A px0 h)).get 4 = some (ptrTo (h.next + 1)) from (EF_get (by decide)).trans rfl]
    simp only
    rw [hB _ (by omega)]
    simp only
    unfold afterD
    rw [show putA (envOf0 [ptrTo (h.next + 1)] Tryd.f43.ntmps) (some 5) (.iface 77 (.agg #[.int .i64 r'.1])) = _ from env43 _ _]
    simp only
    rw [hC _ (by omega)]
    exact res35 g2 g3 g4 t6
  · cases hp
end Go.Proofs.YtgpnjdldpehidaaDoor

open Go Go.Abs Go.Proofs
set_option maxRecDepth 100000
set_option linter.unusedVariables false
set_option linter.unusedSimpArgs false
namespace Go.Proofs.YtgpnjdldpehidaaDoor

theorem many24 : Many Tryd.prog 24 3 40 := ⟨Tryd.t24, _, by kernel_rfl, rfl, rfl, rfl, rfl⟩
theorem und41 : Tryd.prog.underlying 41 = some (.slice 24) := by kernel_rfl

def F12.Post (F : List Ent) (ro : Nat) (r : (List Int × Int)) (x : Out) : Prop := ∃ a0 h', x = .ok (.tuple #[.slice a0 r.1.length r.1.length, .int .i64 r.2]) h' ∧ Sat ro h' (.own ro a0 1 (r.1.map (Value.int .u8)) :: F)
theorem F12.Post.ne {F : List Ent} {ro : Nat} {r : (List Int × Int)} {x : Out} (hx : F12.Post F ro r x) : x ≠ .fail := by
  obtain ⟨a0, h', rfl, _⟩ := hx
  simp

def F12.J6p (lf : Nat) (mp7_0 : Int) (mp7_1 : Int) (xp7_2 : List Int) (n8 : Int) : Option (List Int × Int) :=
  bindp (F10.p lf mp7_0 mp7_1 xp7_2 n8) fun r_10 =>
  letJ (fun (b55 : Bool) => (
    ifp b55 (
      some ([], 0)) (
      some (r_10.1, n8)) : Option (List Int × Int))) fun j57p =>
  ifp (r_10.2 != 0) (
    j57p true) (
    j57p (decide ((xp7_2.length : Int) > 2000)))

theorem F12.J6_ok {ora : Ora} (hora : HOra ora) {lf ro : Nat} {F : List Ent} {r : (List Int × Int)} (p7 : Nat) (mp7_0 : Int) (mp7_1 : Int) (ap7_2 : Option Addr) (cp7_2 : Nat) (xp7_2 : List Int) (n8 : Int) (h : Heap) (hs : Sat ro h (.own ro (some ⟨p7, 0, none⟩) 1 [.int .i64 mp7_0, .int .i64 mp7_1, .slice ap7_2 xp7_2.length cp7_2] :: .row ap7_2 cp7_2 (xp7_2.map (Value.int .u8)) :: .row (some ⟨0, 0, none⟩) 20 (gl0.map (Value.int .u64)) :: F)) (hp : F12.J6p lf mp7_0 mp7_1 xp7_2 n8 = some r) : F12.Post F ro r (F12.J6 (callW Tryd.prog ora) lf ro p7 0 n8 h) := by
  unfold F12.J6
  unfold F12.J6p at hp
  refine st_loadA (Q := F12.Post F ro r) isO hs agg24 siz24 rfl ?_
  refine st_agg (Q := F12.Post F ro r) (l := [.int .i64 mp7_0, .int .i64 mp7_1, .slice ap7_2 xp7_2.length cp7_2]) ?_
  refine st_cons (Q := F12.Post F ro r) ?_
  refine st_int (Q := F12.Post F ro r) ?_
  refine st_cons (Q := F12.Post F ro r) ?_
  refine st_int (Q := F12.Post F ro r) ?_
  refine st_cons (Q := F12.Post F ro r) ?_
  refine st_slice (Q := F12.Post F ro r) ?_
  refine st_nil (Q := F12.Post F ro r) ?_
  have hs_5 := hs.pull 1 rfl
  have hs_6 := hs_5.dup
  have hs_7 := hs_6.pull 3 rfl
  have hs_8 := hs_7.dup
  have hs_9 := hs_8.pull 2 rfl
  obtain ⟨r_10, hx_11, hp⟩ := bindp_some hp
  obtain ⟨a_15, h_12, e_14, hs_13⟩ := F10.ok hora (ro := ro) (F := .row (some ⟨0, 0, none⟩) 20 (gl0.map (Value.int .u64)) :: .row ap7_2 cp7_2 (xp7_2.map (Value.int .u8)) :: .own ro (some ⟨p7, 0, none⟩) 1 [.int .i64 mp7_0, .int .i64 mp7_1, .slice ap7_2 xp7_2.length cp7_2] :: F) mp7_0 mp7_1 ap7_2 cp7_2 xp7_2 n8 _ hs_9 hx_11
  refine st_ok (Q := F12.Post F ro r) isO e_14 ?_
  refine st_tup (Q := F12.Post F ro r) (l := [.slice a_15 (r_10.1).length (r_10.1).length, .int .i64 r_10.2]) ?_
  refine st_cons (Q := F12.Post F ro r) ?_
  refine st_slice (Q := F12.Post F ro r) ?_
  refine st_cons (Q := F12.Post F ro r) ?_
  refine st_int (Q := F12.Post F ro r) ?_
  refine st_nil (Q := F12.Post F ro r) ?_
  refine st_letJ hp (fun j57p j57 => ∀ (b55 : Bool) (h_29 : Heap), Sat ro h_29 (.own ro a_15 1 (r_10.1.map (Value.int .u8)) :: .row (some ⟨0, 0, none⟩) 20 (gl0.map (Value.int .u64)) :: F) → j57p b55 = some r → F12.Post F ro r (j57 b55 h_29)) ?_ ?_
  · intro b55 h_29 hs hp
    refine st_if (Q := F12.Post F ro r) (fun hc_30 => ?_) (fun hc_30 => ?_)
    · replace hp := ifp_t hc_30 hp
      have hs_31 := hs.nilOwn ro 1
      have hs_32 := hs_31.pull 1 rfl
      have hs_33 := hs_32.tail
      have hs_34 := hs_33.pull 1 rfl
      have hs_35 := hs_34.tail
      cases hp
      exact ⟨none, _, rfl, hs_35⟩
    · replace hp := ifp_f hc_30 hp
      have hs_36 := hs.pull 1 rfl
      have hs_37 := hs_36.tail
      cases hp
      exact ⟨a_15, _, rfl, hs_37⟩
  · intro j57p j57 hj57 hp
    refine st_if (Q := F12.Post F ro r) (fun hc_16 => ?_) (fun hc_16 => ?_)
    · replace hp := ifp_t hc_16 hp
      have hs_17 := hs_13.pull 2 rfl
      have hs_18 := hs_17.tail
      have hs_19 := hs_18.pull 2 rfl
      have hs_20 := hs_19.tail
      have hs_21 := hs_20.pull 1 rfl
      have hs_22 := hs_21.pull 1 rfl
      exact hj57 true _ hs_22 hp
    · replace hp := ifp_f hc_16 hp
      have hs_23 := hs_13.pull 3 rfl
      refine st_load (Q := F12.Post F ro r) isO hs_23 agg22 rfl ?_
      refine st_slice (Q := F12.Post F ro r) ?_
      have hs_24 := hs_23.tail
      have hs_25 := hs_24.pull 2 rfl
      have hs_26 := hs_25.tail
      have hs_27 := hs_26.pull 1 rfl
      have hs_28 := hs_27.pull 1 rfl
      exact hj57 (decide ((xp7_2.length : Int) > 2000)) _ hs_28 hp

def F12.J4p (lf : Nat) (n3 : Int) (mp4_0 : Int) (mp4_1 : Int) (xp4_2 : List Int) (n5 : Int) : Option (List Int × Int) :=
  ifp (decide (Int.tmod n3 4 > 1)) (
    F12.J6p lf mp4_0 mp4_1 xp4_2 (IntKind.i64.wrap (n5 + 3))) (
    F12.J6p lf mp4_0 mp4_1 xp4_2 n5)

theorem F12.J4_ok {ora : Ora} (hora : HOra ora) {lf ro : Nat} {F : List Ent} {r : (List Int × Int)} (n3 : Int) (p4 : Nat) (mp4_0 : Int) (mp4_1 : Int) (ap4_2 : Option Addr) (cp4_2 : Nat) (xp4_2 : List Int) (n5 : Int) (h : Heap) (hs : Sat ro h (.own ro (some ⟨p4, 0, none⟩) 1 [.int .i64 mp4_0, .int .i64 mp4_1, .slice ap4_2 xp4_2.length cp4_2] :: .row ap4_2 cp4_2 (xp4_2.map (Value.int .u8)) :: .row (some ⟨0, 0, none⟩) 20 (gl0.map (Value.int .u64)) :: F)) (hp : F12.J4p lf n3 mp4_0 mp4_1 xp4_2 n5 = some r) : F12.Post F ro r (F12.J4 (callW Tryd.prog ora) lf ro n3 p4 0 n5 h) := by
  unfold F12.J4
  unfold F12.J4p at hp
  refine st_if (Q := F12.Post F ro r) (fun hc_4 => ?_) (fun hc_4 => ?_)
  · replace hp := ifp_t hc_4 hp
    have hs_38 := hs.pull 2 rfl
    have hs_39 := hs_38.pull 2 rfl
    have hs_40 := hs_39.pull 2 rfl
    exact F12.J6_ok hora p4 mp4_0 mp4_1 ap4_2 _ xp4_2 (IntKind.i64.wrap (n5 + 3)) _ hs_40 hp
  · replace hp := ifp_f hc_4 hp
    have hs_41 := hs.pull 2 rfl
    have hs_42 := hs_41.pull 2 rfl
    have hs_43 := hs_42.pull 2 rfl
    exact F12.J6_ok hora p4 mp4_0 mp4_1 ap4_2 _ xp4_2 n5 _ hs_43 hp

def F12.p (lf : Nat) (x0_0 : Int) (x0_1 : Int) (xax0_2 : List Int) (x1 : Int) : Option (List Int × Int) :=
  ifp ((Int.tmod x1 2) == 1) (
    F12.J4p lf x1 x0_0 x0_1 xax0_2 2) (
    F12.J4p lf x1 x0_0 x0_1 xax0_2 1)

theorem F12.t_ok {ora : Ora} (hora : HOra ora) {lf ro : Nat} {F : List Ent} {r : (List Int × Int)} (x0_0 : Int) (x0_1 : Int) (ax0_2 : Option Addr) (cx0_2 : Nat) (xax0_2 : List Int) (x1 : Int) (h : Heap) (hs : Sat ro h (.row ax0_2 cx0_2 (xax0_2.map (Value.int .u8)) :: .row (some ⟨0, 0, none⟩) 20 (gl0.map (Value.int .u64)) :: F)) (hp : F12.p lf x0_0 x0_1 xax0_2 x1 = some r) : F12.Post F ro r (F12.t (callW Tryd.prog ora) lf ro x0_0 x0_1 ax0_2 xax0_2.length cx0_2 x1 h) := by
  unfold F12.t
  unfold F12.p at hp
  refine st_pushJ (Q := F12.Post F ro r) hs hs.low rfl fun h_1 _ hs_2 => ?_
  refine st_if (Q := F12.Post F ro r) (fun hc_3 => ?_) (fun hc_3 => ?_)
  · replace hp := ifp_t hc_3 hp
    have hs_44 := hs_2.pull 2 rfl
    have hs_45 := hs_44.pull 2 rfl
    have hs_46 := hs_45.pull 2 rfl
    exact F12.J4_ok hora x1 h.next x0_0 x0_1 ax0_2 _ xax0_2 2 _ hs_46 hp
  · replace hp := ifp_f hc_3 hp
    have hs_47 := hs_2.pull 2 rfl
    have hs_48 := hs_47.pull 2 rfl
    have hs_49 := hs_48.pull 2 rfl
    exact F12.J4_ok hora x1 h.next x0_0 x0_1 ax0_2 _ xax0_2 1 _ hs_49 hp

theorem F12.ok {ora : Ora} (hora : HOra ora) {lf ro : Nat} {F : List Ent} {r : (List Int × Int)} (x0_0 : Int) (x0_1 : Int) (ax0_2 : Option Addr) (cx0_2 : Nat) (xax0_2 : List Int) (x1 : Int) (h : Heap) (hs : Sat ro h (.row ax0_2 cx0_2 (xax0_2.map (Value.int .u8)) :: .row (some ⟨0, 0, none⟩) 20 (gl0.map (Value.int .u64)) :: F)) (hp : F12.p lf x0_0 x0_1 xax0_2 x1 = some r) : F12.Post F ro r (callW Tryd.prog ora ro 12 [.agg #[.int .i64 x0_0, .int .i64 x0_1, .slice ax0_2 xax0_2.length cx0_2], .int .u8 x1] h) := by
  have h1 := F12.t_ok hora x0_0 x0_1 ax0_2 cx0_2 xax0_2 x1 h hs hp
  have h2 : callW Tryd.prog ora ro 12 [.agg #[.int .i64 x0_0, .int .i64 x0_1, .slice ax0_2 xax0_2.length cx0_2], .int .u8 x1] h = _ := callW_body (hora.none _ _ _ _ (by decide)) Tryd.func12 (F12.le (callW Tryd.prog ora) lf ro x0_0 x0_1 ax0_2 xax0_2.length cx0_2 x1 h) (F12.Post.ne h1)
  rw [h2]; exact h1

def F15.Post (F : List Ent) (ro : Nat) (r : (Bool)) (x : Out) : Prop := ∃ h', x = .ok (.bool r) h' ∧ Sat ro h' (F)
theorem F15.Post.ne {F : List Ent} {ro : Nat} {r : (Bool)} {x : Out} (hx : F15.Post F ro r x) : x ≠ .fail := by
  obtain ⟨h', rfl, _⟩ := hx
  simp

def F15.J6p (lf : Nat) (kb4p : Int → Int → List Int → Int → Int → List Int → Int → Option (Bool)) (mp39_0 : Int) (mp39_1 : Int) (xp39_2 : List Int) (mp40_0 : Int) (mp40_1 : Int) (xp40_2 : List Int) (n41 : Int) : Option (Bool) :=
  bindp (idxp xp39_2 n41) fun x_81 =>
  bindp (idxp xp40_2 n41) fun x_85 =>
  ifp (x_81 != x_85) (
    some false) (
    kb4p mp39_0 mp39_1 xp39_2 mp40_0 mp40_1 xp40_2 (IntKind.i64.wrap (n41 + 1)))

theorem F15.J6_ok {ora : Ora} (hora : HOra ora) {lf ro : Nat} {F : List Ent} {r : (Bool)} {kb4p : Int → Int → List Int → Int → Int → List Int → Int → Option (Bool)} {kb4 : Nat → Nat → Nat → Nat → Int → Heap → Out} (hkb4 : ∀ (p29 : Nat) (mp29_0 : Int) (mp29_1 : Int) (ap29_2 : Option Addr) (cp29_2 : Nat) (xp29_2 : List Int) (p30 : Nat) (mp30_0 : Int) (mp30_1 : Int) (ap30_2 : Option Addr) (cp30_2 : Nat) (xp30_2 : List Int) (n31 : Int) (h : Heap), Sat ro h (.own ro (some ⟨p29, 0, none⟩) 1 [.int .i64 mp29_0, .int .i64 mp29_1, .slice ap29_2 xp29_2.length cp29_2] :: .row ap29_2 cp29_2 (xp29_2.map (Value.int .u8)) :: .own ro (some ⟨p30, 0, none⟩) 1 [.int .i64 mp30_0, .int .i64 mp30_1, .slice ap30_2 xp30_2.length cp30_2] :: .row ap30_2 cp30_2 (xp30_2.map (Value.int .u8)) :: F) → kb4p mp29_0 mp29_1 xp29_2 mp30_0 mp30_1 xp30_2 n31 = some r → F15.Post F ro r (kb4 p29 0 p30 0 n31 h)) (p39 : Nat) (mp39_0 : Int) (mp39_1 : Int) (ap39_2 : Option Addr) (cp39_2 : Nat) (xp39_2 : List Int) (p40 : Nat) (mp40_0 : Int) (mp40_1 : Int) (ap40_2 : Option Addr) (cp40_2 : Nat) (xp40_2 : List Int) (n41 : Int) (h : Heap) (hs : Sat ro h (.own ro (some ⟨p39, 0, none⟩) 1 [.int .i64 mp39_0, .int .i64 mp39_1, .slice ap39_2 xp39_2.length cp39_2] :: .row ap39_2 cp39_2 (xp39_2.map (Value.int .u8)) :: .own ro (some ⟨p40, 0, none⟩) 1 [.int .i64 mp40_0, .int .i64 mp40_1, .slice ap40_2 xp40_2.length cp40_2] :: .row ap40_2 cp40_2 (xp40_2.map (Value.int .u8)) :: F)) (hp : F15.J6p lf kb4p mp39_0 mp39_1 xp39_2 mp40_0 mp40_1 xp40_2 n41 = some r) : F15.Post F ro r (F15.J6 (callW Tryd.prog ora) lf ro kb4 p39 0 p40 0 n41 h) := by
  unfold F15.J6
  unfold F15.J6p at hp
  refine st_load (Q := F15.Post F ro r) isN hs agg22 rfl ?_
  refine st_slice (Q := F15.Post F ro r) ?_
  have hs_83 := hs.pull 1 rfl
  obtain ⟨x_81, hx_82, hp⟩ := bindp_some hp
  refine st_idxR (Q := F15.Post F ro r) (l := xp39_2) (f := (Value.int .u8)) isN isN hs_83 und22 siz5 agg5 rfl hx_82 ?_
  refine st_int (Q := F15.Post F ro r) ?_
  have hs_84 := hs_83.pull 2 rfl
  refine st_load (Q := F15.Post F ro r) isN hs_84 agg22 rfl ?_
  refine st_slice (Q := F15.Post F ro r) ?_
  have hs_87 := hs_84.pull 3 rfl
  obtain ⟨x_85, hx_86, hp⟩ := bindp_some hp
  refine st_idxR (Q := F15.Post F ro r) (l := xp40_2) (f := (Value.int .u8)) isN isN hs_87 und22 siz5 agg5 rfl hx_86 ?_
  refine st_int (Q := F15.Post F ro r) ?_
  refine st_if (Q := F15.Post F ro r) (fun hc_88 => ?_) (fun hc_88 => ?_)
  · replace hp := ifp_t hc_88 hp
    have hs_89 := hs_87.tail
    have hs_90 := hs_89.tail
    have hs_91 := hs_90.tail
    have hs_92 := hs_91.tail
    cases hp
    exact ⟨_, rfl, hs_92⟩
  · replace hp := ifp_f hc_88 hp
    have hs_93 := hs_87.pull 1 rfl
    have hs_94 := hs_93.pull 2 rfl
    have hs_95 := hs_94.pull 3 rfl
    exact hkb4 p39 mp39_0 mp39_1 ap39_2 _ xp39_2 p40 mp40_0 mp40_1 ap40_2 _ xp40_2 (IntKind.i64.wrap (n41 + 1)) _ hs_95 hp

def F15.L4p (lf : Nat) : Nat → Int → Int → List Int → Int → Int → List Int → Int → Option (Bool)
  | 0, _, _, _, _, _, _, _ => none
  | n + 1, mp29_0, mp29_1, xp29_2, mp30_0, mp30_1, xp30_2, n31 =>
  ifp (decide (n31 < (xp29_2.length : Int))) (
    F15.J6p lf (F15.L4p lf n) mp29_0 mp29_1 xp29_2 mp30_0 mp30_1 xp30_2 n31) (
    some true)

theorem F15.L4_ok {ora : Ora} (hora : HOra ora) {lf ro : Nat} {F : List Ent} {r : (Bool)} : ∀ (n : Nat) (p29 : Nat) (mp29_0 : Int) (mp29_1 : Int) (ap29_2 : Option Addr) (cp29_2 : Nat) (xp29_2 : List Int) (p30 : Nat) (mp30_0 : Int) (mp30_1 : Int) (ap30_2 : Option Addr) (cp30_2 : Nat) (xp30_2 : List Int) (n31 : Int) (h : Heap), Sat ro h (.own ro (some ⟨p29, 0, none⟩) 1 [.int .i64 mp29_0, .int .i64 mp29_1, .slice ap29_2 xp29_2.length cp29_2] :: .row ap29_2 cp29_2 (xp29_2.map (Value.int .u8)) :: .own ro (some ⟨p30, 0, none⟩) 1 [.int .i64 mp30_0, .int .i64 mp30_1, .slice ap30_2 xp30_2.length cp30_2] :: .row ap30_2 cp30_2 (xp30_2.map (Value.int .u8)) :: F) → F15.L4p lf n mp29_0 mp29_1 xp29_2 mp30_0 mp30_1 xp30_2 n31 = some r → F15.Post F ro r (F15.L4 (callW Tryd.prog ora) lf ro n p29 0 p30 0 n31 h) := by
  intro n
  induction n with
  | zero => intro p29 mp29_0 mp29_1 ap29_2 cp29_2 xp29_2 p30 mp30_0 mp30_1 ap30_2 cp30_2 xp30_2 n31 h hs hp; cases hp
  | succ n ih =>
    intro p29 mp29_0 mp29_1 ap29_2 cp29_2 xp29_2 p30 mp30_0 mp30_1 ap30_2 cp30_2 xp30_2 n31 h hs hp
    unfold F15.L4
    unfold F15.L4p at hp
    refine st_load (Q := F15.Post F ro r) isO hs agg22 rfl ?_
    refine st_slice (Q := F15.Post F ro r) ?_
    refine st_if (Q := F15.Post F ro r) (fun hc_80 => ?_) (fun hc_80 => ?_)
    · replace hp := ifp_t hc_80 hp
      have hs_96 := hs.pull 3 rfl
      have hs_97 := hs_96.pull 3 rfl
      have hs_98 := hs_97.pull 3 rfl
      have hs_99 := hs_98.pull 3 rfl
      exact F15.J6_ok hora ih p29 mp29_0 mp29_1 ap29_2 _ xp29_2 p30 mp30_0 mp30_1 ap30_2 _ xp30_2 n31 _ hs_99 hp
    · replace hp := ifp_f hc_80 hp
      have hs_100 := hs.tail
      have hs_101 := hs_100.tail
      have hs_102 := hs_101.tail
      have hs_103 := hs_102.tail
      cases hp
      exact ⟨_, rfl, hs_103⟩

def F15.J3p (lf : Nat) (mp26_0 : Int) (mp26_1 : Int) (xp26_2 : List Int) (mp27_0 : Int) (mp27_1 : Int) (xp27_2 : List Int) : Option (Bool) :=
  F15.L4p lf lf mp26_0 mp26_1 xp26_2 mp27_0 mp27_1 xp27_2 0

theorem F15.J3_ok {ora : Ora} (hora : HOra ora) {lf ro : Nat} {F : List Ent} {r : (Bool)} (p26 : Nat) (mp26_0 : Int) (mp26_1 : Int) (ap26_2 : Option Addr) (cp26_2 : Nat) (xp26_2 : List Int) (p27 : Nat) (mp27_0 : Int) (mp27_1 : Int) (ap27_2 : Option Addr) (cp27_2 : Nat) (xp27_2 : List Int) (h : Heap) (hs : Sat ro h (.own ro (some ⟨p26, 0, none⟩) 1 [.int .i64 mp26_0, .int .i64 mp26_1, .slice ap26_2 xp26_2.length cp26_2] :: .row ap26_2 cp26_2 (xp26_2.map (Value.int .u8)) :: .own ro (some ⟨p27, 0, none⟩) 1 [.int .i64 mp27_0, .int .i64 mp27_1, .slice ap27_2 xp27_2.length cp27_2] :: .row ap27_2 cp27_2 (xp27_2.map (Value.int .u8)) :: F)) (hp : F15.J3p lf mp26_0 mp26_1 xp26_2 mp27_0 mp27_1 xp27_2 = some r) : F15.Post F ro r (F15.J3 (callW Tryd.prog ora) lf ro p26 0 p27 0 h) := by
  unfold F15.J3
  unfold F15.J3p at hp
  have hs_104 := hs.pull 3 rfl
  have hs_105 := hs_104.pull 3 rfl
  have hs_106 := hs_105.pull 3 rfl
  have hs_107 := hs_106.pull 3 rfl
  exact F15.L4_ok hora lf p26 mp26_0 mp26_1 ap26_2 _ xp26_2 p27 mp27_0 mp27_1 ap27_2 _ xp27_2 0 _ hs_107 hp

def F15.p (lf : Nat) (x0_0 : Int) (x0_1 : Int) (xax0_2 : List Int) (x1_0 : Int) (x1_1 : Int) (xax1_2 : List Int) : Option (Bool) :=
  letJ (fun (b23 : Bool) => (
    ifp b23 (
      some false) (
      F15.J3p lf x0_0 x0_1 xax0_2 x1_0 x1_1 xax1_2) : Option (Bool))) fun j25p =>
  ifp (x0_0 != x1_0) (
    j25p true) (
    ifp (x0_1 != x1_1) (
      j25p true) (
      j25p ((xax0_2.length : Int) != (xax1_2.length : Int))))

theorem F15.t_ok {ora : Ora} (hora : HOra ora) {lf ro : Nat} {F : List Ent} {r : (Bool)} (x0_0 : Int) (x0_1 : Int) (ax0_2 : Option Addr) (cx0_2 : Nat) (xax0_2 : List Int) (x1_0 : Int) (x1_1 : Int) (ax1_2 : Option Addr) (cx1_2 : Nat) (xax1_2 : List Int) (h : Heap) (hs : Sat ro h (.row ax0_2 cx0_2 (xax0_2.map (Value.int .u8)) :: .row ax1_2 cx1_2 (xax1_2.map (Value.int .u8)) :: F)) (hp : F15.p lf x0_0 x0_1 xax0_2 x1_0 x1_1 xax1_2 = some r) : F15.Post F ro r (F15.t (callW Tryd.prog ora) lf ro x0_0 x0_1 ax0_2 xax0_2.length cx0_2 x1_0 x1_1 ax1_2 xax1_2.length cx1_2 h) := by
  unfold F15.t
  unfold F15.p at hp
  refine st_pushJ (Q := F15.Post F ro r) hs hs.low rfl fun h_50 _ hs_51 => ?_
  refine st_pushJ (Q := F15.Post F ro r) hs_51 hs_51.low rfl fun h_52 _ hs_53 => ?_
  refine st_letJ hp (fun j25p j25 => ∀ (b23 : Bool) (h_74 : Heap), Sat ro h_74 (.own ro (some ⟨h_50.next, 0, none⟩) 1 [.int .i64 x1_0, .int .i64 x1_1, .slice ax1_2 xax1_2.length cx1_2] :: .own ro (some ⟨h.next, 0, none⟩) 1 [.int .i64 x0_0, .int .i64 x0_1, .slice ax0_2 xax0_2.length cx0_2] :: .row ax0_2 cx0_2 (xax0_2.map (Value.int .u8)) :: .row ax1_2 cx1_2 (xax1_2.map (Value.int .u8)) :: F) → j25p b23 = some r → F15.Post F ro r (j25 b23 h_74)) ?_ ?_
  · intro b23 h_74 hs hp
    refine st_if (Q := F15.Post F ro r) (fun hc_75 => ?_) (fun hc_75 => ?_)
    · replace hp := ifp_t hc_75 hp
      have hs_76 := hs.tail
      have hs_77 := hs_76.tail
      have hs_78 := hs_77.tail
      have hs_79 := hs_78.tail
      cases hp
      exact ⟨_, rfl, hs_79⟩
    · replace hp := ifp_f hc_75 hp
      have hs_108 := hs.pull 3 rfl
      have hs_109 := hs_108.pull 1 rfl
      have hs_110 := hs_109.pull 3 rfl
      have hs_111 := hs_110.pull 3 rfl
      exact F15.J3_ok hora h.next x0_0 x0_1 ax0_2 _ xax0_2 h_50.next x1_0 x1_1 ax1_2 _ xax1_2 _ hs_111 hp
  · intro j25p j25 hj25 hp
    have hs_54 := hs_53.pull 1 rfl
    refine st_load (Q := F15.Post F ro r) isO hs_54 agg3 rfl ?_
    refine st_int (Q := F15.Post F ro r) ?_
    have hs_55 := hs_54.pull 1 rfl
    refine st_load (Q := F15.Post F ro r) isO hs_55 agg3 rfl ?_
    refine st_int (Q := F15.Post F ro r) ?_
    refine st_if (Q := F15.Post F ro r) (fun hc_56 => ?_) (fun hc_56 => ?_)
    · replace hp := ifp_t hc_56 hp
      have hs_57 := hs_55.pull 3 rfl
      have hs_58 := hs_57.pull 3 rfl
      have hs_59 := hs_58.pull 3 rfl
      have hs_60 := hs_59.pull 3 rfl
      exact hj25 true _ hs_60 hp
    · replace hp := ifp_f hc_56 hp
      have hs_61 := hs_55.pull 1 rfl
      refine st_load (Q := F15.Post F ro r) isO hs_61 agg3 rfl ?_
      refine st_int (Q := F15.Post F ro r) ?_
      have hs_62 := hs_61.pull 1 rfl
      refine st_load (Q := F15.Post F ro r) isO hs_62 agg3 rfl ?_
      refine st_int (Q := F15.Post F ro r) ?_
      refine st_if (Q := F15.Post F ro r) (fun hc_63 => ?_) (fun hc_63 => ?_)
      · replace hp := ifp_t hc_63 hp
        have hs_64 := hs_62.pull 3 rfl
        have hs_65 := hs_64.pull 3 rfl
        have hs_66 := hs_65.pull 3 rfl
        have hs_67 := hs_66.pull 3 rfl
        exact hj25 true _ hs_67 hp
      · replace hp := ifp_f hc_63 hp
        have hs_68 := hs_62.pull 1 rfl
        refine st_load (Q := F15.Post F ro r) isO hs_68 agg22 rfl ?_
        refine st_slice (Q := F15.Post F ro r) ?_
        have hs_69 := hs_68.pull 1 rfl
        refine st_load (Q := F15.Post F ro r) isO hs_69 agg22 rfl ?_
        refine st_slice (Q := F15.Post F ro r) ?_
        have hs_70 := hs_69.pull 3 rfl
        have hs_71 := hs_70.pull 3 rfl
        have hs_72 := hs_71.pull 3 rfl
        have hs_73 := hs_72.pull 3 rfl
        exact hj25 ((xax0_2.length : Int) != (xax1_2.length : Int)) _ hs_73 hp

theorem F15.ok {ora : Ora} (hora : HOra ora) {lf ro : Nat} {F : List Ent} {r : (Bool)} (x0_0 : Int) (x0_1 : Int) (ax0_2 : Option Addr) (cx0_2 : Nat) (xax0_2 : List Int) (x1_0 : Int) (x1_1 : Int) (ax1_2 : Option Addr) (cx1_2 : Nat) (xax1_2 : List Int) (h : Heap) (hs : Sat ro h (.row ax0_2 cx0_2 (xax0_2.map (Value.int .u8)) :: .row ax1_2 cx1_2 (xax1_2.map (Value.int .u8)) :: F)) (hp : F15.p lf x0_0 x0_1 xax0_2 x1_0 x1_1 xax1_2 = some r) : F15.Post F ro r (callW Tryd.prog ora ro 15 [.agg #[.int .i64 x0_0, .int .i64 x0_1, .slice ax0_2 xax0_2.length cx0_2], .agg #[.int .i64 x1_0, .int .i64 x1_1, .slice ax1_2 xax1_2.length cx1_2]] h) := by
  have h1 := F15.t_ok hora x0_0 x0_1 ax0_2 cx0_2 xax0_2 x1_0 x1_1 ax1_2 cx1_2 xax1_2 h hs hp
  have h2 : callW Tryd.prog ora ro 15 [.agg #[.int .i64 x0_0, .int .i64 x0_1, .slice ax0_2 xax0_2.length cx0_2], .agg #[.int .i64 x1_0, .int .i64 x1_1, .slice ax1_2 xax1_2.length cx1_2]] h = _ := callW_body (hora.none _ _ _ _ (by decide)) Tryd.func15 (F15.le (callW Tryd.prog ora) lf ro x0_0 x0_1 ax0_2 xax0_2.length cx0_2 x1_0 x1_1 ax1_2 xax1_2.length cx1_2 h) (F15.Post.ne h1)
  rw [h2]; exact h1

def F17.Post (F : List Ent) (ro : Nat) (r : (List Img × Int)) (x : Out) : Prop := ∃ a0 y0 h', x = .ok (.tuple #[.slice a0 r.1.length r.1.length, .int .i64 r.2]) h' ∧ Sat ro h' (.own ro a0 3 (imgC y0 0 r.1) :: .rows (imgR y0 0 r.1) :: F)
theorem F17.Post.ne {F : List Ent} {ro : Nat} {r : (List Img × Int)} {x : Out} (hx : F17.Post F ro r x) : x ≠ .fail := by
  obtain ⟨a0, y0, h', rfl, _⟩ := hx
  simp

def F17.L12p (lf : Nat) (kb6p : List Int → List Img → List Int → Int → Bool → Option (List Img × Int)) : Nat → List Int → List Img → List Int → Int → Option (List Img × Int)
  | 0, _, _, _, _ => none
  | n + 1, xa99, xa100, xp101_0, mp101_1 =>
  letJ ((
    kb6p xa99 xa100 xp101_0 mp101_1 (decide (mp101_1 < (xa99.length : Int))) : Option (List Img × Int))) fun j371p =>
  letJ (fun (b389 : Bool) => (
    ifp b389 (
      F17.L12p lf kb6p n xa99 xa100 xp101_0 (IntKind.i64.wrap (mp101_1 + 1))) (
      j371p) : Option (List Img × Int))) fun j391p =>
  ifp (decide (mp101_1 < (xa99.length : Int))) (
    bindp (idxp xa99 mp101_1) fun x_168 =>
    bindp (F36.p lf x_168) fun r_171 =>
    j391p r_171) (
    j391p false)

theorem F17.L12_ok {ora : Ora} (hora : HOra9 ora) {lf ro : Nat} {F : List Ent} {r : (List Img × Int)} {kb6p : List Int → List Img → List Int → Int → Bool → Option (List Img × Int)} {kb6 : (Option Addr) → Nat → Nat → (Option Addr) → Nat → Nat → Nat → Nat → Bool → Heap → Out} (hkb6 : ∀ (a5 : Option Addr) (c5 : Nat) (xa5 : List Int) (a6 : Option Addr) (ya6 : Dec) (xa6 : List Img) (p7 : Nat) (ap7_0 : Option Addr) (cp7_0 : Nat) (xp7_0 : List Int) (mp7_1 : Int) (b8 : Bool) (h : Heap), Sat ro h (.row a5 c5 (xa5.map (Value.int .u8)) :: .own ro a6 3 (imgC ya6 0 xa6) :: .rows (imgR ya6 0 xa6) :: .own ro (some ⟨p7, 0, none⟩) 1 [.slice ap7_0 xp7_0.length cp7_0, .int .i64 mp7_1] :: .row ap7_0 cp7_0 (xp7_0.map (Value.int .u8)) :: F) → kb6p xa5 xa6 xp7_0 mp7_1 b8 = some r → F17.Post F ro r (kb6 a5 xa5.length c5 a6 xa6.length xa6.length p7 0 b8 h)) : ∀ (n : Nat) (a99 : Option Addr) (c99 : Nat) (xa99 : List Int) (a100 : Option Addr) (ya100 : Dec) (xa100 : List Img) (p101 : Nat) (ap101_0 : Option Addr) (cp101_0 : Nat) (xp101_0 : List Int) (mp101_1 : Int) (h : Heap), Sat ro h (.row a99 c99 (xa99.map (Value.int .u8)) :: .own ro a100 3 (imgC ya100 0 xa100) :: .rows (imgR ya100 0 xa100) :: .own ro (some ⟨p101, 0, none⟩) 1 [.slice ap101_0 xp101_0.length cp101_0, .int .i64 mp101_1] :: .row ap101_0 cp101_0 (xp101_0.map (Value.int .u8)) :: F) → F17.L12p lf kb6p n xa99 xa100 xp101_0 mp101_1 = some r → F17.Post F ro r (F17.L12 (callW Tryd.prog ora) lf ro kb6 n a99 xa99.length c99 a100 xa100.length xa100.length p101 0 h) := by
  intro n
  induction n with
  | zero => intro a99 c99 xa99 a100 ya100 xa100 p101 ap101_0 cp101_0 xp101_0 mp101_1 h hs hp; cases hp
  | succ n ih =>
    intro a99 c99 xa99 a100 ya100 xa100 p101 ap101_0 cp101_0 xp101_0 mp101_1 h hs hp
    unfold F17.L12
    unfold F17.L12p at hp
    refine st_letJ hp (fun j371p j371 => ∀  (h_201 : Heap), Sat ro h_201 (.row a99 c99 (xa99.map (Value.int .u8)) :: .own ro a100 3 (imgC ya100 0 xa100) :: .rows (imgR ya100 0 xa100) :: .own ro (some ⟨p101, 0, none⟩) 1 [.slice ap101_0 xp101_0.length cp101_0, .int .i64 mp101_1] :: .row ap101_0 cp101_0 (xp101_0.map (Value.int .u8)) :: F) → j371p = some r → F17.Post F ro r (j371 h_201)) ?_ ?_
    · intro  h_201 hs hp
      have hs_202 := hs.pull 3 rfl
      refine st_load (Q := F17.Post F ro r) isO hs_202 agg3 rfl ?_
      refine st_int (Q := F17.Post F ro r) ?_
      have hs_203 := hs_202.pull 4 rfl
      have hs_204 := hs_203.pull 1 rfl
      have hs_205 := hs_204.pull 4 rfl
      have hs_206 := hs_205.pull 4 rfl
      have hs_207 := hs_206.pull 4 rfl
      exact hkb6 a99 _ xa99 a100 ya100 xa100 p101 ap101_0 _ xp101_0 mp101_1 (decide (mp101_1 < (xa99.length : Int))) _ hs_207 hp
    · intro j371p j371 hj371 hp
      refine st_letJ hp (fun j391p j391 => ∀ (b389 : Bool) (h_186 : Heap), Sat ro h_186 (.row a99 c99 (xa99.map (Value.int .u8)) :: .own ro a100 3 (imgC ya100 0 xa100) :: .rows (imgR ya100 0 xa100) :: .own ro (some ⟨p101, 0, none⟩) 1 [.slice ap101_0 xp101_0.length cp101_0, .int .i64 mp101_1] :: .row ap101_0 cp101_0 (xp101_0.map (Value.int .u8)) :: F) → j391p b389 = some r → F17.Post F ro r (j391 b389 h_186)) ?_ ?_
      · intro b389 h_186 hs hp
        refine st_if (Q := F17.Post F ro r) (fun hc_187 => ?_) (fun hc_187 => ?_)
        · replace hp := ifp_t hc_187 hp
          have hs_188 := hs.pull 3 rfl
          refine st_load (Q := F17.Post F ro r) isO hs_188 agg3 rfl ?_
          refine st_int (Q := F17.Post F ro r) ?_
          refine st_store (Q := F17.Post F ro r) isO hs_188 siz3 rfl (Nat.le_of_ble_eq_true rfl) fun h_189 hs_190 => ?_
          have hs_191 := hs_190.pull 4 rfl
          have hs_192 := hs_191.pull 1 rfl
          have hs_193 := hs_192.pull 4 rfl
          have hs_194 := hs_193.pull 4 rfl
          have hs_195 := hs_194.pull 4 rfl
          exact ih a99 _ xa99 a100 ya100 xa100 p101 ap101_0 _ xp101_0 (IntKind.i64.wrap (mp101_1 + 1)) _ hs_195 hp
        · replace hp := ifp_f hc_187 hp
          have hs_196 := hs.pull 4 rfl
          have hs_197 := hs_196.pull 4 rfl
          have hs_198 := hs_197.pull 4 rfl
          have hs_199 := hs_198.pull 4 rfl
          have hs_200 := hs_199.pull 4 rfl
          exact hj371 _ hs_200 hp
      · intro j391p j391 hj391 hp
        have hs_166 := hs.pull 3 rfl
        refine st_load (Q := F17.Post F ro r) isO hs_166 agg3 rfl ?_
        refine st_int (Q := F17.Post F ro r) ?_
        refine st_if (Q := F17.Post F ro r) (fun hc_167 => ?_) (fun hc_167 => ?_)
        · replace hp := ifp_t hc_167 hp
          refine st_load (Q := F17.Post F ro r) isO hs_166 agg3 rfl ?_
          refine st_int (Q := F17.Post F ro r) ?_
          have hs_170 := hs_166.pull 1 rfl
          obtain ⟨x_168, hx_169, hp⟩ := bindp_some hp
          refine st_idxR (Q := F17.Post F ro r) (l := xa99) (f := (Value.int .u8)) isO isO hs_170 und22 siz5 agg5 rfl hx_169 ?_
          refine st_int (Q := F17.Post F ro r) ?_
          obtain ⟨r_171, hx_172, hp⟩ := bindp_some hp
          obtain ⟨h_173, e_175, hs_174⟩ := F36.ok hora.toHOra (ro := ro) (F := .row a99 c99 (xa99.map (Value.int .u8)) :: .own ro (some ⟨p101, 0, none⟩) 1 [.slice ap101_0 xp101_0.length cp101_0, .int .i64 mp101_1] :: .own ro a100 3 (imgC ya100 0 xa100) :: .rows (imgR ya100 0 xa100) :: .row ap101_0 cp101_0 (xp101_0.map (Value.int .u8)) :: F) x_168 _ hs_170 hx_172
          refine st_ok (Q := F17.Post F ro r) isO e_175 ?_
          refine st_bool (Q := F17.Post F ro r) ?_
          have hs_176 := hs_174.pull 4 rfl
          have hs_177 := hs_176.pull 2 rfl
          have hs_178 := hs_177.pull 4 rfl
          have hs_179 := hs_178.pull 4 rfl
          have hs_180 := hs_179.pull 4 rfl
          exact hj391 r_171 _ hs_180 hp
        · replace hp := ifp_f hc_167 hp
          have hs_181 := hs_166.pull 4 rfl
          have hs_182 := hs_181.pull 1 rfl
          have hs_183 := hs_182.pull 4 rfl
          have hs_184 := hs_183.pull 4 rfl
          have hs_185 := hs_184.pull 4 rfl
          exact hj391 false _ hs_185 hp

def F17.J11p (lf : Nat) (kb6p : List Int → List Img → List Int → Int → Bool → Option (List Img × Int)) (xa62 : List Int) (xa63 : List Img) (xp64_0 : List Int) (mp64_1 : Int) (mp65_0 : Int) (mp65_1 : Int) (xp65_2 : List Int) : Option (List Img × Int) :=
  bindp (appp 40 xa63 [(mp65_0, mp65_1, xp65_2)]) fun x_160 =>
  F17.L12p lf kb6p lf xa62 x_160 xp64_0 mp64_1

theorem F17.J11_ok {ora : Ora} (hora : HOra9 ora) {lf ro : Nat} {F : List Ent} {r : (List Img × Int)} {kb6p : List Int → List Img → List Int → Int → Bool → Option (List Img × Int)} {kb6 : (Option Addr) → Nat → Nat → (Option Addr) → Nat → Nat → Nat → Nat → Bool → Heap → Out} (hkb6 : ∀ (a5 : Option Addr) (c5 : Nat) (xa5 : List Int) (a6 : Option Addr) (ya6 : Dec) (xa6 : List Img) (p7 : Nat) (ap7_0 : Option Addr) (cp7_0 : Nat) (xp7_0 : List Int) (mp7_1 : Int) (b8 : Bool) (h : Heap), Sat ro h (.row a5 c5 (xa5.map (Value.int .u8)) :: .own ro a6 3 (imgC ya6 0 xa6) :: .rows (imgR ya6 0 xa6) :: .own ro (some ⟨p7, 0, none⟩) 1 [.slice ap7_0 xp7_0.length cp7_0, .int .i64 mp7_1] :: .row ap7_0 cp7_0 (xp7_0.map (Value.int .u8)) :: F) → kb6p xa5 xa6 xp7_0 mp7_1 b8 = some r → F17.Post F ro r (kb6 a5 xa5.length c5 a6 xa6.length xa6.length p7 0 b8 h)) (a62 : Option Addr) (c62 : Nat) (xa62 : List Int) (a63 : Option Addr) (ya63 : Dec) (xa63 : List Img) (p64 : Nat) (ap64_0 : Option Addr) (cp64_0 : Nat) (xp64_0 : List Int) (mp64_1 : Int) (p65 : Nat) (mp65_0 : Int) (mp65_1 : Int) (ap65_2 : Option Addr) (xp65_2 : List Int) (h : Heap) (hs : Sat ro h (.row a62 c62 (xa62.map (Value.int .u8)) :: .own ro a63 3 (imgC ya63 0 xa63) :: .rows (imgR ya63 0 xa63) :: .own ro (some ⟨p64, 0, none⟩) 1 [.slice ap64_0 xp64_0.length cp64_0, .int .i64 mp64_1] :: .row ap64_0 cp64_0 (xp64_0.map (Value.int .u8)) :: .own ro (some ⟨p65, 0, none⟩) 1 [.int .i64 mp65_0, .int .i64 mp65_1, .slice ap65_2 xp65_2.length xp65_2.length] :: .own ro ap65_2 1 (xp65_2.map (Value.int .u8)) :: F)) (hp : F17.J11p lf kb6p xa62 xa63 xp64_0 mp64_1 mp65_0 mp65_1 xp65_2 = some r) : F17.Post F ro r (F17.J11 (callW Tryd.prog ora) lf ro kb6 a62 xa62.length c62 a63 xa63.length xa63.length p64 0 p65 0 h) := by
  unfold F17.J11
  unfold F17.J11p at hp
  have hs_152 := hs.pull 5 rfl
  refine st_loadA (Q := F17.Post F ro r) isO hs_152 agg24 siz24 rfl ?_
  refine st_agg (Q := F17.Post F ro r) (l := [.int .i64 mp65_0, .int .i64 mp65_1, .slice ap65_2 xp65_2.length xp65_2.length]) ?_
  refine st_cons (Q := F17.Post F ro r) ?_
  refine st_int (Q := F17.Post F ro r) ?_
  refine st_cons (Q := F17.Post F ro r) ?_
  refine st_int (Q := F17.Post F ro r) ?_
  refine st_cons (Q := F17.Post F ro r) ?_
  refine st_slice (Q := F17.Post F ro r) ?_
  refine st_nil (Q := F17.Post F ro r) ?_
  refine st_pushJ (Q := F17.Post F ro r) hs_152 hs_152.low rfl fun h_153 _ hs_154 => ?_
  have hs_155 := hs_154.pull 7 rfl
  have hs_156 := Sat.weakM (x := xp65_2) (f := (Value.int .u8)) hs_155
  have hs_157 := hs_156.pull 1 rfl
  have hs_158 := hs_157.pull 5 rfl
  have hs_159 := hs_158.pull 5 rfl
  obtain ⟨x_160, hx_161, hp⟩ := bindp_some hp
  refine st_imgA (Q := F17.Post F ro r) isO hs_159 und41 und41 many24 rfl rfl hx_161 fun a_162 h_163 y_164 hs_165 => ?_
  refine st_slice (Q := F17.Post F ro r) ?_
  have hs_208 := hs_165.pull 2 rfl
  have hs_209 := hs_208.tail
  have hs_210 := hs_209.pull 2 rfl
  have hs_211 := hs_210.tail
  have hs_212 := hs_211.pull 4 rfl
  have hs_213 := hs_212.pull 4 rfl
  have hs_214 := hs_213.pull 3 rfl
  have hs_215 := hs_214.pull 3 rfl
  have hs_216 := hs_215.pull 4 rfl
  exact F17.L12_ok hora hkb6 lf a62 _ xa62 a_162 y_164 x_160 p64 ap64_0 _ xp64_0 mp64_1 _ hs_216 hp

def F17.J8p (lf : Nat) (kb6p : List Int → List Img → List Int → Int → Bool → Option (List Img × Int)) (xa10 : List Int) (xa11 : List Img) (xp12_0 : List Int) (mp12_1 : Int) : Option (List Img × Int) :=
  bindp (F35.p lf xp12_0 mp12_1) fun r_124 =>
  ifp (r_124.2.2.2.2.1 != 0) (
    some ([], r_124.2.2.2.2.1)) (
    F17.J11p lf kb6p xa10 xa11 xp12_0 r_124.2.2.2.2.2 r_124.1 r_124.2.1 r_124.2.2.1)

theorem F17.J8_ok {ora : Ora} (hora : HOra9 ora) {lf ro : Nat} {F : List Ent} {r : (List Img × Int)} {kb6p : List Int → List Img → List Int → Int → Bool → Option (List Img × Int)} {kb6 : (Option Addr) → Nat → Nat → (Option Addr) → Nat → Nat → Nat → Nat → Bool → Heap → Out} (hkb6 : ∀ (a5 : Option Addr) (c5 : Nat) (xa5 : List Int) (a6 : Option Addr) (ya6 : Dec) (xa6 : List Img) (p7 : Nat) (ap7_0 : Option Addr) (cp7_0 : Nat) (xp7_0 : List Int) (mp7_1 : Int) (b8 : Bool) (h : Heap), Sat ro h (.row a5 c5 (xa5.map (Value.int .u8)) :: .own ro a6 3 (imgC ya6 0 xa6) :: .rows (imgR ya6 0 xa6) :: .own ro (some ⟨p7, 0, none⟩) 1 [.slice ap7_0 xp7_0.length cp7_0, .int .i64 mp7_1] :: .row ap7_0 cp7_0 (xp7_0.map (Value.int .u8)) :: F) → kb6p xa5 xa6 xp7_0 mp7_1 b8 = some r → F17.Post F ro r (kb6 a5 xa5.length c5 a6 xa6.length xa6.length p7 0 b8 h)) (a10 : Option Addr) (c10 : Nat) (xa10 : List Int) (a11 : Option Addr) (ya11 : Dec) (xa11 : List Img) (p12 : Nat) (ap12_0 : Option Addr) (cp12_0 : Nat) (xp12_0 : List Int) (mp12_1 : Int) (h : Heap) (hs : Sat ro h (.row a10 c10 (xa10.map (Value.int .u8)) :: .own ro a11 3 (imgC ya11 0 xa11) :: .rows (imgR ya11 0 xa11) :: .own ro (some ⟨p12, 0, none⟩) 1 [.slice ap12_0 xp12_0.length cp12_0, .int .i64 mp12_1] :: .row ap12_0 cp12_0 (xp12_0.map (Value.int .u8)) :: F)) (hp : F17.J8p lf kb6p xa10 xa11 xp12_0 mp12_1 = some r) : F17.Post F ro r (F17.J8 (callW Tryd.prog ora) lf ro kb6 a10 xa10.length c10 a11 xa11.length xa11.length p12 0 h) := by
  unfold F17.J8
  unfold F17.J8p at hp
  have hs_121 := hs.pull 4 rfl
  have hs_122 := hs_121.dup
  have hs_123 := hs_122.pull 5 rfl
  obtain ⟨r_124, hx_125, hp⟩ := bindp_some hp
  obtain ⟨a_129, h_126, e_128, hs_127⟩ := F35.ok hora (ro := ro) (px0 := p12) (apx0_0 := ap12_0) (cpx0_0 := cp12_0) (xpx0_0 := xp12_0) (F := .row ap12_0 cp12_0 (xp12_0.map (Value.int .u8)) :: .row a10 c10 (xa10.map (Value.int .u8)) :: .own ro a11 3 (imgC ya11 0 xa11) :: .rows (imgR ya11 0 xa11) :: F) mp12_1 _ hs_123 hx_125
  refine st_ok (Q := F17.Post F ro r) isO e_128 ?_
  refine st_tup (Q := F17.Post F ro r) (l := [.agg #[.int .i64 r_124.1, .int .i64 r_124.2.1, .slice a_129 (r_124.2.2.1).length (r_124.2.2.1).length], .int .i64 r_124.2.2.2.1, .int .i64 r_124.2.2.2.2.1]) ?_
  refine st_cons (Q := F17.Post F ro r) ?_
  refine st_agg (Q := F17.Post F ro r) (l := [.int .i64 r_124.1, .int .i64 r_124.2.1, .slice a_129 (r_124.2.2.1).length (r_124.2.2.1).length]) ?_
  refine st_cons (Q := F17.Post F ro r) ?_
  refine st_int (Q := F17.Post F ro r) ?_
  refine st_cons (Q := F17.Post F ro r) ?_
  refine st_int (Q := F17.Post F ro r) ?_
  refine st_cons (Q := F17.Post F ro r) ?_
  refine st_slice (Q := F17.Post F ro r) ?_
  refine st_nil (Q := F17.Post F ro r) ?_
  refine st_cons (Q := F17.Post F ro r) ?_
  refine st_int (Q := F17.Post F ro r) ?_
  refine st_cons (Q := F17.Post F ro r) ?_
  refine st_int (Q := F17.Post F ro r) ?_
  refine st_nil (Q := F17.Post F ro r) ?_
  refine st_pushJ (Q := F17.Post F ro r) hs_127 hs_127.low rfl fun h_130 _ hs_131 => ?_
  refine st_storeA (Q := F17.Post F ro r) (vs := [.int .i64 r_124.1, .int .i64 r_124.2.1, .slice a_129 (r_124.2.2.1).length (r_124.2.2.1).length]) isO hs_131 siz24 rfl rfl rfl rfl fun h_132 hs_133 => ?_
  refine st_if (Q := F17.Post F ro r) (fun hc_134 => ?_) (fun hc_134 => ?_)
  · replace hp := ifp_t hc_134 hp
    have hs_135 := hs_133.nilImgs
    have hs_136 := hs_135.pull 2 rfl
    have hs_137 := hs_136.tail
    have hs_138 := hs_137.pull 2 rfl
    have hs_139 := hs_138.tail
    have hs_140 := hs_139.pull 2 rfl
    have hs_141 := hs_140.tail
    have hs_142 := hs_141.pull 2 rfl
    have hs_143 := hs_142.tail
    have hs_144 := hs_143.pull 2 rfl
    have hs_145 := hs_144.tail
    have hs_146 := hs_145.pull 2 rfl
    have hs_147 := hs_146.tail
    have hs_148 := hs_147.pull 2 rfl
    have hs_149 := hs_148.tail
    have hs_150 := hs_149.pull 1 rfl
    have hs_151 := hs_150.pull 1 rfl
    cases hp
    exact ⟨none, nilD, _, rfl, hs_151⟩
  · replace hp := ifp_f hc_134 hp
    have hs_217 := hs_133.pull 1 rfl
    have hs_218 := hs_217.pull 1 rfl
    have hs_219 := hs_218.pull 3 rfl
    have hs_220 := hs_219.pull 3 rfl
    have hs_221 := hs_220.pull 6 rfl
    have hs_222 := hs_221.pull 6 rfl
    have hs_223 := hs_222.pull 6 rfl
    exact F17.J11_ok hora hkb6 a10 _ xa10 a11 ya11 xa11 p12 ap12_0 _ xp12_0 r_124.2.2.2.2.2 h_126.next r_124.1 r_124.2.1 a_129 r_124.2.2.1 _ hs_223 hp

def F17.L6p (lf : Nat) : Nat → List Int → List Img → List Int → Int → Bool → Option (List Img × Int)
  | 0, _, _, _, _, _ => none
  | n + 1, xa5, xa6, xp7_0, mp7_1, b8 =>
  ifp b8 (
    F17.J8p lf (F17.L6p lf n) xa5 xa6 xp7_0 mp7_1) (
    some (xa6, 0))

theorem F17.L6_ok {ora : Ora} (hora : HOra9 ora) {lf ro : Nat} {F : List Ent} {r : (List Img × Int)} : ∀ (n : Nat) (a5 : Option Addr) (c5 : Nat) (xa5 : List Int) (a6 : Option Addr) (ya6 : Dec) (xa6 : List Img) (p7 : Nat) (ap7_0 : Option Addr) (cp7_0 : Nat) (xp7_0 : List Int) (mp7_1 : Int) (b8 : Bool) (h : Heap), Sat ro h (.row a5 c5 (xa5.map (Value.int .u8)) :: .own ro a6 3 (imgC ya6 0 xa6) :: .rows (imgR ya6 0 xa6) :: .own ro (some ⟨p7, 0, none⟩) 1 [.slice ap7_0 xp7_0.length cp7_0, .int .i64 mp7_1] :: .row ap7_0 cp7_0 (xp7_0.map (Value.int .u8)) :: F) → F17.L6p lf n xa5 xa6 xp7_0 mp7_1 b8 = some r → F17.Post F ro r (F17.L6 (callW Tryd.prog ora) lf ro n a5 xa5.length c5 a6 xa6.length xa6.length p7 0 b8 h) := by
  intro n
  induction n with
  | zero => intro a5 c5 xa5 a6 ya6 xa6 p7 ap7_0 cp7_0 xp7_0 mp7_1 b8 h hs hp; cases hp
  | succ n ih =>
    intro a5 c5 xa5 a6 ya6 xa6 p7 ap7_0 cp7_0 xp7_0 mp7_1 b8 h hs hp
    unfold F17.L6
    unfold F17.L6p at hp
    refine st_if (Q := F17.Post F ro r) (fun hc_120 => ?_) (fun hc_120 => ?_)
    · replace hp := ifp_t hc_120 hp
      have hs_224 := hs.pull 4 rfl
      have hs_225 := hs_224.pull 4 rfl
      have hs_226 := hs_225.pull 4 rfl
      have hs_227 := hs_226.pull 4 rfl
      have hs_228 := hs_227.pull 4 rfl
      exact F17.J8_ok hora ih a5 _ xa5 a6 ya6 xa6 p7 ap7_0 _ xp7_0 mp7_1 _ hs_228 hp
    · replace hp := ifp_f hc_120 hp
      have hs_229 := hs.tail
      have hs_230 := hs_229.pull 2 rfl
      have hs_231 := hs_230.tail
      have hs_232 := hs_231.pull 2 rfl
      have hs_233 := hs_232.tail
      have hs_234 := hs_233.pull 1 rfl
      have hs_235 := hs_234.pull 1 rfl
      cases hp
      exact ⟨a6, ya6, _, rfl, hs_235⟩

def F17.J3p (lf : Nat) (xa1 : List Int) : Option (List Img × Int) :=
  F17.L6p lf lf xa1 [] xa1 0 true

theorem F17.J3_ok {ora : Ora} (hora : HOra9 ora) {lf ro : Nat} {F : List Ent} {r : (List Img × Int)} (a1 : Option Addr) (c1 : Nat) (xa1 : List Int) (h : Heap) (hs : Sat ro h (.row a1 c1 (xa1.map (Value.int .u8)) :: F)) (hp : F17.J3p lf xa1 = some r) : F17.Post F ro r (F17.J3 (callW Tryd.prog ora) lf ro a1 xa1.length c1 h) := by
  unfold F17.J3
  unfold F17.J3p at hp
  refine st_pushJ (Q := F17.Post F ro r) hs hs.low rfl fun h_118 _ hs_119 => ?_
  have hs_236 := hs_119.nilImgs
  have hs_237 := hs_236.pull 3 rfl
  have hs_238 := hs_237.dup
  have hs_239 := hs_238.pull 4 rfl
  have hs_240 := hs_239.pull 4 rfl
  have hs_241 := hs_240.pull 4 rfl
  have hs_242 := hs_241.pull 4 rfl
  exact F17.L6_ok hora lf a1 _ xa1 none nilD [] h.next a1 _ xa1 0 true _ hs_242 hp

def F17.p (lf : Nat) (xax0 : List Int) : Option (List Img × Int) :=
  ifp (decide ((xax0.length : Int) > 4194304)) (
    some ([], 4)) (
    F17.J3p lf xax0)

theorem F17.t_ok {ora : Ora} (hora : HOra9 ora) {lf ro : Nat} {F : List Ent} {r : (List Img × Int)} (ax0 : Option Addr) (cx0 : Nat) (xax0 : List Int) (h : Heap) (hs : Sat ro h (.row ax0 cx0 (xax0.map (Value.int .u8)) :: F)) (hp : F17.p lf xax0 = some r) : F17.Post F ro r (F17.t (callW Tryd.prog ora) lf ro ax0 xax0.length cx0 h) := by
  unfold F17.t
  unfold F17.p at hp
  refine st_if (Q := F17.Post F ro r) (fun hc_112 => ?_) (fun hc_112 => ?_)
  · replace hp := ifp_t hc_112 hp
    have hs_113 := hs.nilImgs
    have hs_114 := hs_113.pull 2 rfl
    have hs_115 := hs_114.tail
    have hs_116 := hs_115.pull 1 rfl
    have hs_117 := hs_116.pull 1 rfl
    cases hp
    exact ⟨none, nilD, _, rfl, hs_117⟩
  · replace hp := ifp_f hc_112 hp
    exact F17.J3_ok hora ax0 _ xax0 _ hs hp

theorem F17.ok {ora : Ora} (hora : HOra9 ora) {lf ro : Nat} {F : List Ent} {r : (List Img × Int)} (ax0 : Option Addr) (cx0 : Nat) (xax0 : List Int) (h : Heap) (hs : Sat ro h (.row ax0 cx0 (xax0.map (Value.int .u8)) :: F)) (hp : F17.p lf xax0 = some r) : F17.Post F ro r (callW Tryd.prog ora ro 17 [.slice ax0 xax0.length cx0] h) := by
  have h1 := F17.t_ok hora ax0 cx0 xax0 h hs hp
  have h2 : callW Tryd.prog ora ro 17 [.slice ax0 xax0.length cx0] h = _ := callW_body (hora.none _ _ _ _ (by decide)) Tryd.func17 (F17.le (callW Tryd.prog ora) lf ro ax0 xax0.length cx0 h) (F17.Post.ne h1)
  rw [h2]; exact h1

def F8.Post (F : List Ent) (ro : Nat) (r : (Bool)) (x : Out) : Prop := ∃ h', x = .ok (.bool r) h' ∧ Sat ro h' (F)
theorem F8.Post.ne {F : List Ent} {ro : Nat} {r : (Bool)} {x : Out} (hx : F8.Post F ro r x) : x ≠ .fail := by
  obtain ⟨h', rfl, _⟩ := hx
  simp

def F8.J8p (lf : Nat) (kb6p : List Img → List Int → List Int → List Img → Int → Option (Bool)) (xa18 : List Img) (xa19 : List Int) (xa20 : List Int) (xa21 : List Img) (n22 : Int) : Option (Bool) :=
  letJ (fun (xa104 : List Int) (xa105 : List Img) => (
    kb6p xa18 xa19 xa104 xa105 (IntKind.i64.wrap (n22 + 1)) : Option (Bool))) fun j107p =>
  bindp (idxp xa18 n22) fun x_270 =>
  bindp (idxp xa19 n22) fun x_277 =>
  bindp (F12.p lf x_270.1 x_270.2.1 x_270.2.2 x_277) fun r_285 =>
  ifp (decide (((r_285.1).length : Int) > 0)) (
    bindp (appp 1 xa20 r_285.1) fun x_292 =>
    bindp (idxp xa18 n22) fun x_298 =>
    bindp (appp 40 xa21 [(x_298.1, x_298.2.1, x_298.2.2)]) fun x_311 =>
    j107p x_292 x_311) (
    j107p xa20 xa21)

theorem F8.J8_ok {ora : Ora} (hora : HOra9 ora) {lf ro : Nat} {F : List Ent} {r : (Bool)} {kb6p : List Img → List Int → List Int → List Img → Int → Option (Bool)} {kb6 : (Option Addr) → Nat → Nat → (Option Addr) → Nat → Nat → (Option Addr) → Nat → Nat → (Option Addr) → Nat → Nat → Int → Heap → Out} (hkb6 : ∀ (a10 : Option Addr) (c10 : Nat) (ya10 : Dec) (xa10 : List Img) (a11 : Option Addr) (c11 : Nat) (xa11 : List Int) (a12 : Option Addr) (xa12 : List Int) (a13 : Option Addr) (ya13 : Dec) (xa13 : List Img) (n14 : Int) (h : Heap), Sat ro h (.rows [⟨3, a10, c10, imgC ya10 0 xa10⟩] :: .rows (imgR ya10 0 xa10) :: .row a11 c11 (xa11.map (Value.int .u8)) :: .own ro a12 1 (xa12.map (Value.int .u8)) :: .own ro a13 3 (imgC ya13 0 xa13) :: .rows (imgR ya13 0 xa13) :: .row (some ⟨0, 0, none⟩) 20 (gl0.map (Value.int .u64)) :: F) → kb6p xa10 xa11 xa12 xa13 n14 = some r → F8.Post F ro r (kb6 a10 xa10.length c10 a11 xa11.length c11 a12 xa12.length xa12.length a13 xa13.length xa13.length n14 h)) (a18 : Option Addr) (c18 : Nat) (ya18 : Dec) (xa18 : List Img) (a19 : Option Addr) (c19 : Nat) (xa19 : List Int) (a20 : Option Addr) (xa20 : List Int) (a21 : Option Addr) (ya21 : Dec) (xa21 : List Img) (n22 : Int) (h : Heap) (hs : Sat ro h (.rows [⟨3, a18, c18, imgC ya18 0 xa18⟩] :: .rows (imgR ya18 0 xa18) :: .row a19 c19 (xa19.map (Value.int .u8)) :: .own ro a20 1 (xa20.map (Value.int .u8)) :: .own ro a21 3 (imgC ya21 0 xa21) :: .rows (imgR ya21 0 xa21) :: .row (some ⟨0, 0, none⟩) 20 (gl0.map (Value.int .u64)) :: F)) (hp : F8.J8p lf kb6p xa18 xa19 xa20 xa21 n22 = some r) : F8.Post F ro r (F8.J8 (callW Tryd.prog ora) lf ro kb6 a18 xa18.length c18 a19 xa19.length c19 a20 xa20.length xa20.length a21 xa21.length xa21.length n22 h) := by
  unfold F8.J8
  unfold F8.J8p at hp
  refine st_letJ hp (fun j107p j107 => ∀ (a104 : Option Addr) (xa104 : List Int) (a105 : Option Addr) (ya105 : Dec) (xa105 : List Img) (h_339 : Heap), Sat ro h_339 (.own ro a104 1 (xa104.map (Value.int .u8)) :: .own ro a105 3 (imgC ya105 0 xa105) :: .rows (imgR ya105 0 xa105) :: .rows [⟨3, a18, c18, imgC ya18 0 xa18⟩] :: .rows (imgR ya18 0 xa18) :: .row a19 c19 (xa19.map (Value.int .u8)) :: .row (some ⟨0, 0, none⟩) 20 (gl0.map (Value.int .u64)) :: F) → j107p xa104 xa105 = some r → F8.Post F ro r (j107 a104 xa104.length xa104.length a105 xa105.length xa105.length h_339)) ?_ ?_
  · intro a104 xa104 a105 ya105 xa105 h_339 hs hp
    have hs_340 := hs.pull 6 rfl
    have hs_341 := hs_340.pull 3 rfl
    have hs_342 := hs_341.pull 3 rfl
    have hs_343 := hs_342.pull 3 rfl
    have hs_344 := hs_343.pull 6 rfl
    have hs_345 := hs_344.pull 6 rfl
    have hs_346 := hs_345.pull 6 rfl
    exact hkb6 a18 _ ya18 xa18 a19 _ xa19 a104 xa104 a105 ya105 xa105 (IntKind.i64.wrap (n22 + 1)) _ hs_346 hp
  · intro j107p j107 hj107 hp
    have hs_275 := hs.pull 1 rfl
    have hs_276 := hs_275.pull 1 rfl
    obtain ⟨x_270, hx_271, hp⟩ := bindp_some hp
    refine st_imgR (Q := F8.Post F ro r) isN isN hs_276 und41 siz24 agg24 siz24 rfl hx_271 fun a_272 c_273 hs_274 => ?_
    refine st_agg (Q := F8.Post F ro r) (l := [.int .i64 x_270.1, .int .i64 x_270.2.1, .slice a_272 (x_270.2.2).length c_273]) ?_
    refine st_cons (Q := F8.Post F ro r) ?_
    refine st_int (Q := F8.Post F ro r) ?_
    refine st_cons (Q := F8.Post F ro r) ?_
    refine st_int (Q := F8.Post F ro r) ?_
    refine st_cons (Q := F8.Post F ro r) ?_
    refine st_slice (Q := F8.Post F ro r) ?_
    refine st_nil (Q := F8.Post F ro r) ?_
    have hs_279 := hs_274.pull 3 rfl
    obtain ⟨x_277, hx_278, hp⟩ := bindp_some hp
    refine st_idxR (Q := F8.Post F ro r) (l := xa19) (f := (Value.int .u8)) isN isN hs_279 und22 siz5 agg5 rfl hx_278 ?_
    refine st_int (Q := F8.Post F ro r) ?_
    have hs_280 := hs_279.pull 1 rfl
    have hs_281 := hs_280.dup
    have hs_282 := hs_281.pull 8 rfl
    have hs_283 := hs_282.dup
    have hs_284 := hs_283.pull 2 rfl
    obtain ⟨r_285, hx_286, hp⟩ := bindp_some hp
    obtain ⟨a_290, h_287, e_289, hs_288⟩ := F12.ok hora.toHOra (ro := ro) (F := .row (some ⟨0, 0, none⟩) 20 (gl0.map (Value.int .u64)) :: .row a_272 c_273 (x_270.2.2.map (Value.int .u8)) :: .row a19 c19 (xa19.map (Value.int .u8)) :: .rows [⟨3, a18, c18, imgC ya18 0 xa18⟩] :: .rows (imgR ya18 0 xa18) :: .own ro a20 1 (xa20.map (Value.int .u8)) :: .own ro a21 3 (imgC ya21 0 xa21) :: .rows (imgR ya21 0 xa21) :: F) x_270.1 x_270.2.1 a_272 c_273 x_270.2.2 x_277 _ hs_284 hx_286
    refine st_ok (Q := F8.Post F ro r) isN e_289 ?_
    refine st_tup (Q := F8.Post F ro r) (l := [.slice a_290 (r_285.1).length (r_285.1).length, .int .i64 r_285.2]) ?_
    refine st_cons (Q := F8.Post F ro r) ?_
    refine st_slice (Q := F8.Post F ro r) ?_
    refine st_cons (Q := F8.Post F ro r) ?_
    refine st_int (Q := F8.Post F ro r) ?_
    refine st_nil (Q := F8.Post F ro r) ?_
    refine st_if (Q := F8.Post F ro r) (fun hc_291 => ?_) (fun hc_291 => ?_)
    · replace hp := ifp_t hc_291 hp
      have hs_297 := hs_288.pull 6 rfl
      obtain ⟨x_292, hx_293, hp⟩ := bindp_some hp
      refine st_appO (Q := F8.Post F ro r) isO (l := xa20) (x := r_285.1) (f := (Value.int .u8)) hs_297 (fun _ => rfl) und22 und22 one5 rfl rfl rfl hx_293 fun a_294 h_295 hs_296 => ?_
      refine st_slice (Q := F8.Post F ro r) ?_
      have hs_303 := hs_296.pull 6 rfl
      have hs_304 := hs_303.pull 6 rfl
      obtain ⟨x_298, hx_299, hp⟩ := bindp_some hp
      refine st_imgR (Q := F8.Post F ro r) isO isO hs_304 und41 siz24 agg24 siz24 rfl hx_299 fun a_300 c_301 hs_302 => ?_
      refine st_agg (Q := F8.Post F ro r) (l := [.int .i64 x_298.1, .int .i64 x_298.2.1, .slice a_300 (x_298.2.2).length c_301]) ?_
      refine st_cons (Q := F8.Post F ro r) ?_
      refine st_int (Q := F8.Post F ro r) ?_
      refine st_cons (Q := F8.Post F ro r) ?_
      refine st_int (Q := F8.Post F ro r) ?_
      refine st_cons (Q := F8.Post F ro r) ?_
      refine st_slice (Q := F8.Post F ro r) ?_
      refine st_nil (Q := F8.Post F ro r) ?_
      refine st_pushJ (Q := F8.Post F ro r) hs_302 hs_302.low rfl fun h_305 _ hs_306 => ?_
      have hs_307 := hs_306.pull 1 rfl
      have hs_308 := hs_307.pull 1 rfl
      have hs_309 := hs_308.pull 10 rfl
      have hs_310 := hs_309.pull 10 rfl
      obtain ⟨x_311, hx_312, hp⟩ := bindp_some hp
      refine st_imgA (Q := F8.Post F ro r) isO hs_310 und41 und41 many24 rfl rfl hx_312 fun a_313 h_314 y_315 hs_316 => ?_
      refine st_slice (Q := F8.Post F ro r) ?_
      have hs_317 := hs_316.pull 2 rfl
      have hs_318 := hs_317.tail
      have hs_319 := hs_318.pull 5 rfl
      have hs_320 := hs_319.tail
      have hs_321 := hs_320.pull 6 rfl
      have hs_322 := hs_321.tail
      have hs_323 := hs_322.pull 5 rfl
      have hs_324 := hs_323.pull 6 rfl
      have hs_325 := hs_324.pull 5 rfl
      have hs_326 := hs_325.pull 5 rfl
      have hs_327 := hs_326.pull 5 rfl
      have hs_328 := hs_327.pull 5 rfl
      have hs_329 := hs_328.pull 6 rfl
      exact hj107 a_294 x_292 a_313 y_315 x_311 _ hs_329 hp
    · replace hp := ifp_f hc_291 hp
      have hs_330 := hs_288.tail
      have hs_331 := hs_330.pull 1 rfl
      have hs_332 := hs_331.tail
      have hs_333 := hs_332.pull 1 rfl
      have hs_334 := hs_333.pull 3 rfl
      have hs_335 := hs_334.pull 3 rfl
      have hs_336 := hs_335.pull 6 rfl
      have hs_337 := hs_336.pull 6 rfl
      have hs_338 := hs_337.pull 6 rfl
      exact hj107 a20 xa20 a21 ya21 xa21 _ hs_338 hp

def F8.J20p (lf : Nat) (kb18p : List Img → List Img → Int → Option (Bool)) (xa236 : List Img) (xa237 : List Img) (n238 : Int) : Option (Bool) :=
  bindp (idxp xa237 n238) fun x_407 =>
  bindp (idxp xa236 n238) fun x_414 =>
  bindp (F15.p lf x_407.1 x_407.2.1 x_407.2.2 x_414.1 x_414.2.1 x_414.2.2) fun r_426 =>
  ifp (!r_426) (
    some false) (
    kb18p xa236 xa237 (IntKind.i64.wrap (n238 + 1)))

theorem F8.J20_ok {ora : Ora} (hora : HOra9 ora) {lf ro : Nat} {F : List Ent} {r : (Bool)} {kb18p : List Img → List Img → Int → Option (Bool)} {kb18 : (Option Addr) → Nat → Nat → (Option Addr) → Nat → Nat → Int → Heap → Out} (hkb18 : ∀ (a232 : Option Addr) (ya232 : Dec) (xa232 : List Img) (a233 : Option Addr) (ya233 : Dec) (xa233 : List Img) (n234 : Int) (h : Heap), Sat ro h (.own ro a232 3 (imgC ya232 0 xa232) :: .rows (imgR ya232 0 xa232) :: .own ro a233 3 (imgC ya233 0 xa233) :: .rows (imgR ya233 0 xa233) :: .row (some ⟨0, 0, none⟩) 20 (gl0.map (Value.int .u64)) :: F) → kb18p xa232 xa233 n234 = some r → F8.Post F ro r (kb18 a232 xa232.length xa232.length a233 xa233.length xa233.length n234 h)) (a236 : Option Addr) (ya236 : Dec) (xa236 : List Img) (a237 : Option Addr) (ya237 : Dec) (xa237 : List Img) (n238 : Int) (h : Heap) (hs : Sat ro h (.own ro a236 3 (imgC ya236 0 xa236) :: .rows (imgR ya236 0 xa236) :: .own ro a237 3 (imgC ya237 0 xa237) :: .rows (imgR ya237 0 xa237) :: .row (some ⟨0, 0, none⟩) 20 (gl0.map (Value.int .u64)) :: F)) (hp : F8.J20p lf kb18p xa236 xa237 n238 = some r) : F8.Post F ro r (F8.J20 (callW Tryd.prog ora) lf ro kb18 a236 xa236.length xa236.length a237 xa237.length xa237.length n238 h) := by
  unfold F8.J20
  unfold F8.J20p at hp
  have hs_412 := hs.pull 3 rfl
  have hs_413 := hs_412.pull 3 rfl
  obtain ⟨x_407, hx_408, hp⟩ := bindp_some hp
  refine st_imgO (Q := F8.Post F ro r) isN isN hs_413 und41 siz24 agg24 siz24 rfl hx_408 fun a_409 c_410 hs_411 => ?_
  refine st_agg (Q := F8.Post F ro r) (l := [.int .i64 x_407.1, .int .i64 x_407.2.1, .slice a_409 (x_407.2.2).length c_410]) ?_
  refine st_cons (Q := F8.Post F ro r) ?_
  refine st_int (Q := F8.Post F ro r) ?_
  refine st_cons (Q := F8.Post F ro r) ?_
  refine st_int (Q := F8.Post F ro r) ?_
  refine st_cons (Q := F8.Post F ro r) ?_
  refine st_slice (Q := F8.Post F ro r) ?_
  refine st_nil (Q := F8.Post F ro r) ?_
  have hs_419 := hs_411.pull 4 rfl
  have hs_420 := hs_419.pull 4 rfl
  obtain ⟨x_414, hx_415, hp⟩ := bindp_some hp
  refine st_imgO (Q := F8.Post F ro r) isN isN hs_420 und41 siz24 agg24 siz24 rfl hx_415 fun a_416 c_417 hs_418 => ?_
  refine st_agg (Q := F8.Post F ro r) (l := [.int .i64 x_414.1, .int .i64 x_414.2.1, .slice a_416 (x_414.2.2).length c_417]) ?_
  refine st_cons (Q := F8.Post F ro r) ?_
  refine st_int (Q := F8.Post F ro r) ?_
  refine st_cons (Q := F8.Post F ro r) ?_
  refine st_int (Q := F8.Post F ro r) ?_
  refine st_cons (Q := F8.Post F ro r) ?_
  refine st_slice (Q := F8.Post F ro r) ?_
  refine st_nil (Q := F8.Post F ro r) ?_
  have hs_421 := hs_418.pull 3 rfl
  have hs_422 := hs_421.dup
  have hs_423 := hs_422.pull 2 rfl
  have hs_424 := hs_423.dup
  have hs_425 := hs_424.pull 2 rfl
  obtain ⟨r_426, hx_427, hp⟩ := bindp_some hp
  obtain ⟨h_428, e_430, hs_429⟩ := F15.ok hora.toHOra (ro := ro) (F := .row a_416 c_417 (x_414.2.2.map (Value.int .u8)) :: .row a_409 c_410 (x_407.2.2.map (Value.int .u8)) :: .own ro a236 3 (imgC ya236 0 xa236) :: .rows (imgR ya236 0 xa236) :: .own ro a237 3 (imgC ya237 0 xa237) :: .rows (imgR ya237 0 xa237) :: .row (some ⟨0, 0, none⟩) 20 (gl0.map (Value.int .u64)) :: F) x_407.1 x_407.2.1 a_409 c_410 x_407.2.2 x_414.1 x_414.2.1 a_416 c_417 x_414.2.2 _ hs_425 hx_427
  refine st_ok (Q := F8.Post F ro r) isO e_430 ?_
  refine st_bool (Q := F8.Post F ro r) ?_
  refine st_if (Q := F8.Post F ro r) (fun hc_431 => ?_) (fun hc_431 => ?_)
  · replace hp := ifp_t hc_431 hp
    have hs_432 := hs_429.tail
    have hs_433 := hs_432.tail
    have hs_434 := hs_433.tail
    have hs_435 := hs_434.tail
    have hs_436 := hs_435.tail
    have hs_437 := hs_436.tail
    have hs_438 := hs_437.tail
    cases hp
    exact ⟨_, rfl, hs_438⟩
  · replace hp := ifp_f hc_431 hp
    have hs_439 := hs_429.tail
    have hs_440 := hs_439.tail
    have hs_441 := hs_440.pull 4 rfl
    have hs_442 := hs_441.pull 4 rfl
    have hs_443 := hs_442.pull 4 rfl
    have hs_444 := hs_443.pull 4 rfl
    have hs_445 := hs_444.pull 4 rfl
    exact hkb18 a236 ya236 xa236 a237 ya237 xa237 (IntKind.i64.wrap (n238 + 1)) _ hs_445 hp

def F8.L18p (lf : Nat) : Nat → List Img → List Img → Int → Option (Bool)
  | 0, _, _, _ => none
  | n + 1, xa232, xa233, n234 =>
  ifp (decide (n234 < (xa232.length : Int))) (
    F8.J20p lf (F8.L18p lf n) xa232 xa233 n234) (
    bindp (F9.p lf) fun r_451 =>
    some r_451)

theorem F8.L18_ok {ora : Ora} (hora : HOra9 ora) {lf ro : Nat} {F : List Ent} {r : (Bool)} : ∀ (n : Nat) (a232 : Option Addr) (ya232 : Dec) (xa232 : List Img) (a233 : Option Addr) (ya233 : Dec) (xa233 : List Img) (n234 : Int) (h : Heap), Sat ro h (.own ro a232 3 (imgC ya232 0 xa232) :: .rows (imgR ya232 0 xa232) :: .own ro a233 3 (imgC ya233 0 xa233) :: .rows (imgR ya233 0 xa233) :: .row (some ⟨0, 0, none⟩) 20 (gl0.map (Value.int .u64)) :: F) → F8.L18p lf n xa232 xa233 n234 = some r → F8.Post F ro r (F8.L18 (callW Tryd.prog ora) lf ro n a232 xa232.length xa232.length a233 xa233.length xa233.length n234 h) := by
  intro n
  induction n with
  | zero => intro a232 ya232 xa232 a233 ya233 xa233 n234 h hs hp; cases hp
  | succ n ih =>
    intro a232 ya232 xa232 a233 ya233 xa233 n234 h hs hp
    unfold F8.L18
    unfold F8.L18p at hp
    refine st_if (Q := F8.Post F ro r) (fun hc_406 => ?_) (fun hc_406 => ?_)
    · replace hp := ifp_t hc_406 hp
      have hs_446 := hs.pull 4 rfl
      have hs_447 := hs_446.pull 4 rfl
      have hs_448 := hs_447.pull 4 rfl
      have hs_449 := hs_448.pull 4 rfl
      have hs_450 := hs_449.pull 4 rfl
      exact F8.J20_ok hora ih a232 ya232 xa232 a233 ya233 xa233 n234 _ hs_450 hp
    · replace hp := ifp_f hc_406 hp
      obtain ⟨r_451, hx_452, hp⟩ := bindp_some hp
      obtain ⟨h_453, e_455, hs_454⟩ := F9.ok hora (ro := ro) (F := .own ro a232 3 (imgC ya232 0 xa232) :: .rows (imgR ya232 0 xa232) :: .own ro a233 3 (imgC ya233 0 xa233) :: .rows (imgR ya233 0 xa233) :: .row (some ⟨0, 0, none⟩) 20 (gl0.map (Value.int .u64)) :: F)  _ hs hx_452
      refine st_ok (Q := F8.Post F ro r) isO e_455 ?_
      refine st_bool (Q := F8.Post F ro r) ?_
      have hs_456 := hs_454.tail
      have hs_457 := hs_456.tail
      have hs_458 := hs_457.tail
      have hs_459 := hs_458.tail
      have hs_460 := hs_459.tail
      cases hp
      exact ⟨_, rfl, hs_460⟩

def F8.J17p (lf : Nat) (xa229 : List Img) (xa230 : List Img) : Option (Bool) :=
  F8.L18p lf lf xa229 xa230 0

theorem F8.J17_ok {ora : Ora} (hora : HOra9 ora) {lf ro : Nat} {F : List Ent} {r : (Bool)} (a229 : Option Addr) (ya229 : Dec) (xa229 : List Img) (a230 : Option Addr) (ya230 : Dec) (xa230 : List Img) (h : Heap) (hs : Sat ro h (.own ro a229 3 (imgC ya229 0 xa229) :: .rows (imgR ya229 0 xa229) :: .own ro a230 3 (imgC ya230 0 xa230) :: .rows (imgR ya230 0 xa230) :: .row (some ⟨0, 0, none⟩) 20 (gl0.map (Value.int .u64)) :: F)) (hp : F8.J17p lf xa229 xa230 = some r) : F8.Post F ro r (F8.J17 (callW Tryd.prog ora) lf ro a229 xa229.length xa229.length a230 xa230.length xa230.length h) := by
  unfold F8.J17
  unfold F8.J17p at hp
  have hs_461 := hs.pull 4 rfl
  have hs_462 := hs_461.pull 4 rfl
  have hs_463 := hs_462.pull 4 rfl
  have hs_464 := hs_463.pull 4 rfl
  have hs_465 := hs_464.pull 4 rfl
  exact F8.L18_ok hora lf a229 ya229 xa229 a230 ya230 xa230 0 _ hs_465 hp

def F8.J15p (lf : Nat) (xa223 : List Img) (xa224 : List Img) (n225 : Int) : Option (Bool) :=
  letJ (fun (b227 : Bool) => (
    ifp b227 (
      some false) (
      F8.J17p lf xa223 xa224) : Option (Bool))) fun j228p =>
  ifp (n225 != 0) (
    j228p true) (
    j228p ((xa224.length : Int) != (xa223.length : Int)))

theorem F8.J15_ok {ora : Ora} (hora : HOra9 ora) {lf ro : Nat} {F : List Ent} {r : (Bool)} (a223 : Option Addr) (ya223 : Dec) (xa223 : List Img) (a224 : Option Addr) (ya224 : Dec) (xa224 : List Img) (n225 : Int) (h : Heap) (hs : Sat ro h (.own ro a223 3 (imgC ya223 0 xa223) :: .rows (imgR ya223 0 xa223) :: .own ro a224 3 (imgC ya224 0 xa224) :: .rows (imgR ya224 0 xa224) :: .row (some ⟨0, 0, none⟩) 20 (gl0.map (Value.int .u64)) :: F)) (hp : F8.J15p lf xa223 xa224 n225 = some r) : F8.Post F ro r (F8.J15 (callW Tryd.prog ora) lf ro a223 xa223.length xa223.length a224 xa224.length xa224.length n225 h) := by
  unfold F8.J15
  unfold F8.J15p at hp
  refine st_letJ hp (fun j228p j228 => ∀ (b227 : Bool), Sat ro h (.own ro a223 3 (imgC ya223 0 xa223) :: .rows (imgR ya223 0 xa223) :: .own ro a224 3 (imgC ya224 0 xa224) :: .rows (imgR ya224 0 xa224) :: .row (some ⟨0, 0, none⟩) 20 (gl0.map (Value.int .u64)) :: F) → j228p b227 = some r → F8.Post F ro r (j228 b227)) ?_ ?_
  · intro b227 hs hp
    refine st_if (Q := F8.Post F ro r) (fun hc_400 => ?_) (fun hc_400 => ?_)
    · replace hp := ifp_t hc_400 hp
      have hs_401 := hs.tail
      have hs_402 := hs_401.tail
      have hs_403 := hs_402.tail
      have hs_404 := hs_403.tail
      have hs_405 := hs_404.tail
      cases hp
      exact ⟨_, rfl, hs_405⟩
    · replace hp := ifp_f hc_400 hp
      have hs_466 := hs.pull 4 rfl
      have hs_467 := hs_466.pull 4 rfl
      have hs_468 := hs_467.pull 4 rfl
      have hs_469 := hs_468.pull 4 rfl
      have hs_470 := hs_469.pull 4 rfl
      exact F8.J17_ok hora a223 ya223 xa223 a224 ya224 xa224 _ hs_470 hp
  · intro j228p j228 hj228 hp
    refine st_if (Q := F8.Post F ro r) (fun hc_388 => ?_) (fun hc_388 => ?_)
    · replace hp := ifp_t hc_388 hp
      have hs_389 := hs.pull 4 rfl
      have hs_390 := hs_389.pull 4 rfl
      have hs_391 := hs_390.pull 4 rfl
      have hs_392 := hs_391.pull 4 rfl
      have hs_393 := hs_392.pull 4 rfl
      exact hj228 true hs_393 hp
    · replace hp := ifp_f hc_388 hp
      have hs_394 := hs.pull 4 rfl
      have hs_395 := hs_394.pull 4 rfl
      have hs_396 := hs_395.pull 4 rfl
      have hs_397 := hs_396.pull 4 rfl
      have hs_398 := hs_397.pull 4 rfl
      exact hj228 ((xa224.length : Int) != (xa223.length : Int)) hs_398 hp

def F8.J12p (lf : Nat) (xa193 : List Int) (xa194 : List Img) : Option (Bool) :=
  bindp (F17.p lf xa193) fun r_356 =>
  ifp ((xa194.length : Int) == 0) (
    letJ (fun (b217 : Bool) => (
      some b217 : Option (Bool))) fun j219p =>
    ifp (r_356.2 == 25) (
      ifp (((r_356.1).length : Int) == 0) (
        bindp (F9.p lf) fun r_366 =>
        j219p r_366) (
        j219p false)) (
      j219p false)) (
    F8.J15p lf xa194 r_356.1 r_356.2)

theorem F8.J12_ok {ora : Ora} (hora : HOra9 ora) {lf ro : Nat} {F : List Ent} {r : (Bool)} (a193 : Option Addr) (xa193 : List Int) (a194 : Option Addr) (ya194 : Dec) (xa194 : List Img) (h : Heap) (hs : Sat ro h (.own ro a193 1 (xa193.map (Value.int .u8)) :: .own ro a194 3 (imgC ya194 0 xa194) :: .rows (imgR ya194 0 xa194) :: .row (some ⟨0, 0, none⟩) 20 (gl0.map (Value.int .u64)) :: F)) (hp : F8.J12p lf xa193 xa194 = some r) : F8.Post F ro r (F8.J12 (callW Tryd.prog ora) lf ro a193 xa193.length xa193.length a194 xa194.length xa194.length h) := by
  unfold F8.J12
  unfold F8.J12p at hp
  have hs_354 := Sat.weakM (x := xa193) (f := (Value.int .u8)) hs
  have hs_355 := hs_354.dup
  obtain ⟨r_356, hx_357, hp⟩ := bindp_some hp
  obtain ⟨a_361, a_362, h_358, e_360, hs_359⟩ := F17.ok hora (ro := ro) (F := .row a193 xa193.length (xa193.map (Value.int .u8)) :: .own ro a194 3 (imgC ya194 0 xa194) :: .rows (imgR ya194 0 xa194) :: .row (some ⟨0, 0, none⟩) 20 (gl0.map (Value.int .u64)) :: F) a193 xa193.length xa193 _ hs_355 hx_357
  refine st_ok (Q := F8.Post F ro r) isO e_360 ?_
  refine st_tup (Q := F8.Post F ro r) (l := [.slice a_361 (r_356.1).length (r_356.1).length, .int .i64 r_356.2]) ?_
  refine st_cons (Q := F8.Post F ro r) ?_
  refine st_slice (Q := F8.Post F ro r) ?_
  refine st_cons (Q := F8.Post F ro r) ?_
  refine st_int (Q := F8.Post F ro r) ?_
  refine st_nil (Q := F8.Post F ro r) ?_
  refine st_if (Q := F8.Post F ro r) (fun hc_363 => ?_) (fun hc_363 => ?_)
  · replace hp := ifp_t hc_363 hp
    refine st_letJ hp (fun j219p j219 => ∀ (b217 : Bool) (h_386 : Heap), Sat ro h_386 (.row (some ⟨0, 0, none⟩) 20 (gl0.map (Value.int .u64)) :: F) → j219p b217 = some r → F8.Post F ro r (j219 b217 h_386)) ?_ ?_
    · intro b217 h_386 hs hp
      have hs_387 := hs.tail
      cases hp
      exact ⟨_, rfl, hs_387⟩
    · intro j219p j219 hj219 hp
      refine st_if (Q := F8.Post F ro r) (fun hc_364 => ?_) (fun hc_364 => ?_)
      · replace hp := ifp_t hc_364 hp
        refine st_if (Q := F8.Post F ro r) (fun hc_365 => ?_) (fun hc_365 => ?_)
        · replace hp := ifp_t hc_365 hp
          obtain ⟨r_366, hx_367, hp⟩ := bindp_some hp
          obtain ⟨h_368, e_370, hs_369⟩ := F9.ok hora (ro := ro) (F := .own ro a_361 3 (imgC a_362 0 r_356.1) :: .rows (imgR a_362 0 r_356.1) :: .row a193 xa193.length (xa193.map (Value.int .u8)) :: .own ro a194 3 (imgC ya194 0 xa194) :: .rows (imgR ya194 0 xa194) :: .row (some ⟨0, 0, none⟩) 20 (gl0.map (Value.int .u64)) :: F)  _ hs_359 hx_367
          refine st_ok (Q := F8.Post F ro r) isO e_370 ?_
          refine st_bool (Q := F8.Post F ro r) ?_
          have hs_371 := hs_369.tail
          have hs_372 := hs_371.tail
          have hs_373 := hs_372.tail
          have hs_374 := hs_373.tail
          have hs_375 := hs_374.tail
          exact hj219 r_366 _ hs_375 hp
        · replace hp := ifp_f hc_365 hp
          have hs_376 := hs_359.tail
          have hs_377 := hs_376.tail
          have hs_378 := hs_377.tail
          have hs_379 := hs_378.tail
          have hs_380 := hs_379.tail
          exact hj219 false _ hs_380 hp
      · replace hp := ifp_f hc_364 hp
        have hs_381 := hs_359.tail
        have hs_382 := hs_381.tail
        have hs_383 := hs_382.tail
        have hs_384 := hs_383.tail
        have hs_385 := hs_384.tail
        exact hj219 false _ hs_385 hp
  · replace hp := ifp_f hc_363 hp
    have hs_471 := hs_359.pull 2 rfl
    have hs_472 := hs_471.tail
    have hs_473 := hs_472.pull 4 rfl
    have hs_474 := hs_473.pull 2 rfl
    have hs_475 := hs_474.pull 2 rfl
    have hs_476 := hs_475.pull 4 rfl
    have hs_477 := hs_476.pull 4 rfl
    exact F8.J15_ok hora a194 ya194 xa194 a_361 a_362 r_356.1 r_356.2 _ hs_477 hp

def F8.L6p (lf : Nat) : Nat → List Img → List Int → List Int → List Img → Int → Option (Bool)
  | 0, _, _, _, _, _ => none
  | n + 1, xa10, xa11, xa12, xa13, n14 =>
  letJ (fun (b16 : Bool) => (
    ifp b16 (
      F8.J8p lf (F8.L6p lf n) xa10 xa11 xa12 xa13 n14) (
      F8.J12p lf xa12 xa13) : Option (Bool))) fun j17p =>
  ifp (decide (n14 < (xa10.length : Int))) (
    j17p (decide (n14 < (xa11.length : Int)))) (
    j17p false)

theorem F8.L6_ok {ora : Ora} (hora : HOra9 ora) {lf ro : Nat} {F : List Ent} {r : (Bool)} : ∀ (n : Nat) (a10 : Option Addr) (c10 : Nat) (ya10 : Dec) (xa10 : List Img) (a11 : Option Addr) (c11 : Nat) (xa11 : List Int) (a12 : Option Addr) (xa12 : List Int) (a13 : Option Addr) (ya13 : Dec) (xa13 : List Img) (n14 : Int) (h : Heap), Sat ro h (.rows [⟨3, a10, c10, imgC ya10 0 xa10⟩] :: .rows (imgR ya10 0 xa10) :: .row a11 c11 (xa11.map (Value.int .u8)) :: .own ro a12 1 (xa12.map (Value.int .u8)) :: .own ro a13 3 (imgC ya13 0 xa13) :: .rows (imgR ya13 0 xa13) :: .row (some ⟨0, 0, none⟩) 20 (gl0.map (Value.int .u64)) :: F) → F8.L6p lf n xa10 xa11 xa12 xa13 n14 = some r → F8.Post F ro r (F8.L6 (callW Tryd.prog ora) lf ro n a10 xa10.length c10 a11 xa11.length c11 a12 xa12.length xa12.length a13 xa13.length xa13.length n14 h) := by
  intro n
  induction n with
  | zero => intro a10 c10 ya10 xa10 a11 c11 xa11 a12 xa12 a13 ya13 xa13 n14 h hs hp; cases hp
  | succ n ih =>
    intro a10 c10 ya10 xa10 a11 c11 xa11 a12 xa12 a13 ya13 xa13 n14 h hs hp
    unfold F8.L6
    unfold F8.L6p at hp
    refine st_letJ hp (fun j17p j17 => ∀ (b16 : Bool), Sat ro h (.rows [⟨3, a10, c10, imgC ya10 0 xa10⟩] :: .rows (imgR ya10 0 xa10) :: .row a11 c11 (xa11.map (Value.int .u8)) :: .own ro a12 1 (xa12.map (Value.int .u8)) :: .own ro a13 3 (imgC ya13 0 xa13) :: .rows (imgR ya13 0 xa13) :: .row (some ⟨0, 0, none⟩) 20 (gl0.map (Value.int .u64)) :: F) → j17p b16 = some r → F8.Post F ro r (j17 b16)) ?_ ?_
    · intro b16 hs hp
      refine st_if (Q := F8.Post F ro r) (fun hc_269 => ?_) (fun hc_269 => ?_)
      · replace hp := ifp_t hc_269 hp
        have hs_347 := hs.pull 6 rfl
        have hs_348 := hs_347.pull 6 rfl
        have hs_349 := hs_348.pull 6 rfl
        have hs_350 := hs_349.pull 6 rfl
        have hs_351 := hs_350.pull 6 rfl
        have hs_352 := hs_351.pull 6 rfl
        have hs_353 := hs_352.pull 6 rfl
        exact F8.J8_ok hora ih a10 _ ya10 xa10 a11 _ xa11 a12 xa12 a13 ya13 xa13 n14 _ hs_353 hp
      · replace hp := ifp_f hc_269 hp
        have hs_478 := hs.tail
        have hs_479 := hs_478.tail
        have hs_480 := hs_479.tail
        have hs_481 := hs_480.pull 3 rfl
        have hs_482 := hs_481.pull 3 rfl
        have hs_483 := hs_482.pull 3 rfl
        have hs_484 := hs_483.pull 3 rfl
        exact F8.J12_ok hora a12 xa12 a13 ya13 xa13 _ hs_484 hp
    · intro j17p j17 hj17 hp
      refine st_if (Q := F8.Post F ro r) (fun hc_253 => ?_) (fun hc_253 => ?_)
      · replace hp := ifp_t hc_253 hp
        have hs_254 := hs.pull 6 rfl
        have hs_255 := hs_254.pull 6 rfl
        have hs_256 := hs_255.pull 6 rfl
        have hs_257 := hs_256.pull 6 rfl
        have hs_258 := hs_257.pull 6 rfl
        have hs_259 := hs_258.pull 6 rfl
        have hs_260 := hs_259.pull 6 rfl
        exact hj17 (decide (n14 < (xa11.length : Int))) hs_260 hp
      · replace hp := ifp_f hc_253 hp
        have hs_261 := hs.pull 6 rfl
        have hs_262 := hs_261.pull 6 rfl
        have hs_263 := hs_262.pull 6 rfl
        have hs_264 := hs_263.pull 6 rfl
        have hs_265 := hs_264.pull 6 rfl
        have hs_266 := hs_265.pull 6 rfl
        have hs_267 := hs_266.pull 6 rfl
        exact hj17 false hs_267 hp

def F8.J3p (lf : Nat) (xa7 : List Img) (xa8 : List Int) : Option (Bool) :=
  F8.L6p lf lf xa7 xa8 [] [] 0

theorem F8.J3_ok {ora : Ora} (hora : HOra9 ora) {lf ro : Nat} {F : List Ent} {r : (Bool)} (a7 : Option Addr) (c7 : Nat) (ya7 : Dec) (xa7 : List Img) (a8 : Option Addr) (c8 : Nat) (xa8 : List Int) (h : Heap) (hs : Sat ro h (.rows [⟨3, a7, c7, imgC ya7 0 xa7⟩] :: .rows (imgR ya7 0 xa7) :: .row a8 c8 (xa8.map (Value.int .u8)) :: .row (some ⟨0, 0, none⟩) 20 (gl0.map (Value.int .u64)) :: F)) (hp : F8.J3p lf xa7 xa8 = some r) : F8.Post F ro r (F8.J3 (callW Tryd.prog ora) lf ro a7 xa7.length c7 a8 xa8.length c8 h) := by
  unfold F8.J3
  unfold F8.J3p at hp
  have hs_485 := hs.nilOwn ro 1
  have hs_486 := hs_485.nilImgs
  have hs_487 := hs_486.pull 6 rfl
  have hs_488 := hs_487.pull 2 rfl
  have hs_489 := hs_488.pull 2 rfl
  have hs_490 := hs_489.pull 3 rfl
  have hs_491 := hs_490.pull 6 rfl
  have hs_492 := hs_491.pull 6 rfl
  have hs_493 := hs_492.pull 6 rfl
  exact F8.L6_ok hora lf a7 _ ya7 xa7 a8 _ xa8 none [] none nilD [] 0 _ hs_493 hp

def F8.p (lf : Nat) (xax0 : List Img) (xax1 : List Int) : Option (Bool) :=
  ifp (decide ((xax0.length : Int) > 5)) (
    bindp (F9.p lf) fun r_244 =>
    some r_244) (
    F8.J3p lf xax0 xax1)

theorem F8.t_ok {ora : Ora} (hora : HOra9 ora) {lf ro : Nat} {F : List Ent} {r : (Bool)} (ax0 : Option Addr) (cx0 : Nat) (yax0 : Dec) (xax0 : List Img) (ax1 : Option Addr) (cx1 : Nat) (xax1 : List Int) (h : Heap) (hs : Sat ro h (.rows [⟨3, ax0, cx0, imgC yax0 0 xax0⟩] :: .rows (imgR yax0 0 xax0) :: .row ax1 cx1 (xax1.map (Value.int .u8)) :: .row (some ⟨0, 0, none⟩) 20 (gl0.map (Value.int .u64)) :: F)) (hp : F8.p lf xax0 xax1 = some r) : F8.Post F ro r (F8.t (callW Tryd.prog ora) lf ro ax0 xax0.length cx0 ax1 xax1.length cx1 h) := by
  unfold F8.t
  unfold F8.p at hp
  refine st_if (Q := F8.Post F ro r) (fun hc_243 => ?_) (fun hc_243 => ?_)
  · replace hp := ifp_t hc_243 hp
    obtain ⟨r_244, hx_245, hp⟩ := bindp_some hp
    obtain ⟨h_246, e_248, hs_247⟩ := F9.ok hora (ro := ro) (F := .rows [⟨3, ax0, cx0, imgC yax0 0 xax0⟩] :: .rows (imgR yax0 0 xax0) :: .row ax1 cx1 (xax1.map (Value.int .u8)) :: .row (some ⟨0, 0, none⟩) 20 (gl0.map (Value.int .u64)) :: F)  _ hs hx_245
    refine st_ok (Q := F8.Post F ro r) isO e_248 ?_
    refine st_bool (Q := F8.Post F ro r) ?_
    have hs_249 := hs_247.tail
    have hs_250 := hs_249.tail
    have hs_251 := hs_250.tail
    have hs_252 := hs_251.tail
    cases hp
    exact ⟨_, rfl, hs_252⟩
  · replace hp := ifp_f hc_243 hp
    have hs_494 := hs.pull 3 rfl
    have hs_495 := hs_494.pull 3 rfl
    have hs_496 := hs_495.pull 3 rfl
    have hs_497 := hs_496.pull 3 rfl
    exact F8.J3_ok hora ax0 _ yax0 xax0 ax1 _ xax1 _ hs_497 hp

theorem F8.ok {ora : Ora} (hora : HOra9 ora) {lf ro : Nat} {F : List Ent} {r : (Bool)} (ax0 : Option Addr) (cx0 : Nat) (yax0 : Dec) (xax0 : List Img) (ax1 : Option Addr) (cx1 : Nat) (xax1 : List Int) (h : Heap) (hs : Sat ro h (.rows [⟨3, ax0, cx0, imgC yax0 0 xax0⟩] :: .rows (imgR yax0 0 xax0) :: .row ax1 cx1 (xax1.map (Value.int .u8)) :: .row (some ⟨0, 0, none⟩) 20 (gl0.map (Value.int .u64)) :: F)) (hp : F8.p lf xax0 xax1 = some r) : F8.Post F ro r (callW Tryd.prog ora ro 8 [.slice ax0 xax0.length cx0, .slice ax1 xax1.length cx1] h) := by
  have h1 := F8.t_ok hora ax0 cx0 yax0 xax0 ax1 cx1 xax1 h hs hp
  have h2 : callW Tryd.prog ora ro 8 [.slice ax0 xax0.length cx0, .slice ax1 xax1.length cx1] h = _ := callW_body (hora.none _ _ _ _ (by decide)) Tryd.func8 (F8.le (callW Tryd.prog ora) lf ro ax0 xax0.length cx0 ax1 xax1.length cx1 h) (F8.Post.ne h1)
  rw [h2]; exact h1

end Go.Proofs.YtgpnjdldpehidaaDoor
