/-
  The functions that read as plain functions of numbers and lists, and that they answer as the program does where they answer at all; no statement of the seat is proved in this file.
-/
import Derived.Test.YtgpnjdldpehidaaDoorSevTextI
import Derived.Test.YtgpnjdldpehidaaDoorAbsE
open Go Go.Abs Go.Proofs
set_option maxRecDepth 100000
set_option linter.unusedVariables false
namespace Go.Proofs.YtgpnjdldpehidaaDoor
/-- What the proofs ask of the oracle: it leaves the calls to the code, but for functions 9 and 35. -/
structure HOra (ora : Ora) : Prop where
  none : ∀ ro f args h, f ∉ [9, 35] → ora ro f args h = none
/-- It answers for the examples (9), and for 'next' (35) as the guarded run does. -/
structure HOra9 (ora : Ora) : Prop extends HOra ora where
  nine : ∀ ro h, ora ro 9 [] h = some (.ok (.bool true) h)
  next : ∀ ro args h r, r ≠ .fail → (∃ N, guardRun Tryd.prog noOra N ro Tryd.f35 Tryd.f43 (sub (codeOf Tryd.f35) [false]) (sub (codeOf Tryd.f35) [true, true]) (sub (codeOf Tryd.f43) [true]) 4 5 args h = r) → ora ro 35 args h = some r
def gl0 : List Int := [1, 10, 100, 1000, 10000, 100000, 1000000, 10000000, 100000000, 1000000000, 10000000000, 100000000000, 1000000000000, 10000000000000, 100000000000000, 1000000000000000, 10000000000000000, 100000000000000000, 1000000000000000000, 10000000000000000000]
def F9.Post (F : List Ent) (ro : Nat) (r : Bool) (x : Out) : Prop := ∃ h', x = .ok (.bool r) h' ∧ Sat ro h' F
def F9.p (lf : Nat) : Option Bool := some true
theorem F9.ok {ora : Ora} (hora : HOra9 ora) {lf ro : Nat} {F : List Ent} {r : Bool} (h : Heap) (hs : Sat ro h F) (hp : F9.p lf = some r) : F9.Post F ro r (callW Tryd.prog ora ro 9 [] h) := by
  cases hp
  exact ⟨h, callW_ora (hora.nine ro h) (by simp), hs⟩
end Go.Proofs.YtgpnjdldpehidaaDoor

open Go Go.Abs Go.Proofs
set_option maxRecDepth 100000
set_option linter.unusedVariables false
set_option linter.unusedSimpArgs false
namespace Go.Proofs.YtgpnjdldpehidaaDoor

theorem agg22 : isAgg? Tryd.prog 22 = some false := by kernel_rfl
theorem agg24 : isAgg? Tryd.prog 24 = some true := by kernel_rfl
theorem agg3 : isAgg? Tryd.prog 3 = some false := by kernel_rfl
theorem agg5 : isAgg? Tryd.prog 5 = some false := by kernel_rfl
theorem inf5 : Tryd.prog.info? 5 = some Tryd.t5 := by kernel_rfl
theorem siz22 : sizeOf? Tryd.prog 22 = some 1 := by kernel_rfl
theorem siz24 : sizeOf? Tryd.prog 24 = some 3 := by kernel_rfl
theorem siz3 : sizeOf? Tryd.prog 3 = some 1 := by kernel_rfl
theorem siz5 : sizeOf? Tryd.prog 5 = some 1 := by kernel_rfl
theorem und22 : Tryd.prog.underlying 22 = some (.slice 5) := by kernel_rfl
theorem zer5 : zeroOf Tryd.prog 5 = some (Value.int .u8 0) := by kernel_rfl

def F21.Post (F : List Ent) (ro : Nat) (r : (Bool)) (x : Out) : Prop := ∃ h', x = .ok (.bool r) h' ∧ Sat ro h' (F)
theorem F21.Post.ne {F : List Ent} {ro : Nat} {r : (Bool)} {x : Out} (hx : F21.Post F ro r x) : x ≠ .fail := by
  obtain ⟨h', rfl, _⟩ := hx
  simp

def F21.p (lf : Nat) (x0 : Int) : Option (Bool) :=
  letJ (fun (b1 : Bool) => (
    some b1 : Option (Bool))) fun j2p =>
  ifp (x0 == 1) (
    j2p true) (
    j2p (x0 == 4))

theorem F21.t_ok {ora : Ora} (hora : HOra ora) {lf ro : Nat} {F : List Ent} {r : (Bool)} (x0 : Int) (h : Heap) (hs : Sat ro h (F)) (hp : F21.p lf x0 = some r) : F21.Post F ro r (F21.t (callW Tryd.prog ora) lf ro x0 h) := by
  unfold F21.t
  unfold F21.p at hp
  refine st_letJ hp (fun j2p j2 => ∀ (b1 : Bool), Sat ro h (F) → j2p b1 = some r → F21.Post F ro r (j2 b1)) ?_ ?_
  · intro b1 hs hp
    cases hp
    exact ⟨_, rfl, hs⟩
  · intro j2p j2 hj2 hp
    refine st_if (Q := F21.Post F ro r) (fun hc_1 => ?_) (fun hc_1 => ?_)
    · replace hp := ifp_t hc_1 hp
      exact hj2 true hs hp
    · replace hp := ifp_f hc_1 hp
      exact hj2 (x0 == 4) hs hp

theorem F21.ok {ora : Ora} (hora : HOra ora) {lf ro : Nat} {F : List Ent} {r : (Bool)} (x0 : Int) (h : Heap) (hs : Sat ro h (F)) (hp : F21.p lf x0 = some r) : F21.Post F ro r (callW Tryd.prog ora ro 21 [.int .i64 x0] h) := by
  have h1 := F21.t_ok hora x0 h hs hp
  have h2 : callW Tryd.prog ora ro 21 [.int .i64 x0] h = _ := callW_body (hora.none _ _ _ _ (by decide)) Tryd.func21 (F21.le (callW Tryd.prog ora) lf ro x0 h) (F21.Post.ne h1)
  rw [h2]; exact h1

def F20.Post (F : List Ent) (ro : Nat) (r : (Bool)) (x : Out) : Prop := ∃ h', x = .ok (.bool r) h' ∧ Sat ro h' (F)
theorem F20.Post.ne {F : List Ent} {ro : Nat} {r : (Bool)} {x : Out} (hx : F20.Post F ro r x) : x ≠ .fail := by
  obtain ⟨h', rfl, _⟩ := hx
  simp

def F20.p (lf : Nat) (x0 : Int) : Option (Bool) :=
  letJ (fun (b4 : Bool) => (
    some b4 : Option (Bool))) fun j6p =>
  bindp (F21.p lf x0) fun r_3 =>
  ifp r_3 (
    j6p true) (
    ifp (x0 == 2) (
      j6p true) (
      j6p (x0 == 5)))

theorem F20.t_ok {ora : Ora} (hora : HOra ora) {lf ro : Nat} {F : List Ent} {r : (Bool)} (x0 : Int) (h : Heap) (hs : Sat ro h (F)) (hp : F20.p lf x0 = some r) : F20.Post F ro r (F20.t (callW Tryd.prog ora) lf ro x0 h) := by
  unfold F20.t
  unfold F20.p at hp
  refine st_letJ hp (fun j6p j6 => ∀ (b4 : Bool) (h_10 : Heap), Sat ro h_10 (F) → j6p b4 = some r → F20.Post F ro r (j6 b4 h_10)) ?_ ?_
  · intro b4 h_10 hs hp
    cases hp
    exact ⟨_, rfl, hs⟩
  · intro j6p j6 hj6 hp
    obtain ⟨r_3, hx_4, hp⟩ := bindp_some hp
    obtain ⟨h_5, e_7, hs_6⟩ := F21.ok hora (ro := ro) (F := F) x0 _ hs hx_4
    refine st_ok (Q := F20.Post F ro r) isO e_7 ?_
    refine st_bool (Q := F20.Post F ro r) ?_
    refine st_if (Q := F20.Post F ro r) (fun hc_8 => ?_) (fun hc_8 => ?_)
    · replace hp := ifp_t hc_8 hp
      exact hj6 true _ hs_6 hp
    · replace hp := ifp_f hc_8 hp
      refine st_if (Q := F20.Post F ro r) (fun hc_9 => ?_) (fun hc_9 => ?_)
      · replace hp := ifp_t hc_9 hp
        exact hj6 true _ hs_6 hp
      · replace hp := ifp_f hc_9 hp
        exact hj6 (x0 == 5) _ hs_6 hp

theorem F20.ok {ora : Ora} (hora : HOra ora) {lf ro : Nat} {F : List Ent} {r : (Bool)} (x0 : Int) (h : Heap) (hs : Sat ro h (F)) (hp : F20.p lf x0 = some r) : F20.Post F ro r (callW Tryd.prog ora ro 20 [.int .i64 x0] h) := by
  have h1 := F20.t_ok hora x0 h hs hp
  have h2 : callW Tryd.prog ora ro 20 [.int .i64 x0] h = _ := callW_body (hora.none _ _ _ _ (by decide)) Tryd.func20 (F20.le (callW Tryd.prog ora) lf ro x0 h) (F20.Post.ne h1)
  rw [h2]; exact h1

def F36.Post (F : List Ent) (ro : Nat) (r : (Bool)) (x : Out) : Prop := ∃ h', x = .ok (.bool r) h' ∧ Sat ro h' (F)
theorem F36.Post.ne {F : List Ent} {ro : Nat} {r : (Bool)} {x : Out} (hx : F36.Post F ro r x) : x ≠ .fail := by
  obtain ⟨h', rfl, _⟩ := hx
  simp

def F36.p (lf : Nat) (x0 : Int) : Option (Bool) :=
  letJ (fun (b1 : Bool) => (
    some b1 : Option (Bool))) fun j2p =>
  ifp (x0 == 32) (
    j2p true) (
    ifp (x0 == 9) (
      j2p true) (
      ifp (x0 == 10) (
        j2p true) (
        j2p (x0 == 13))))

theorem F36.t_ok {ora : Ora} (hora : HOra ora) {lf ro : Nat} {F : List Ent} {r : (Bool)} (x0 : Int) (h : Heap) (hs : Sat ro h (F)) (hp : F36.p lf x0 = some r) : F36.Post F ro r (F36.t (callW Tryd.prog ora) lf ro x0 h) := by
  unfold F36.t
  unfold F36.p at hp
  refine st_letJ hp (fun j2p j2 => ∀ (b1 : Bool), Sat ro h (F) → j2p b1 = some r → F36.Post F ro r (j2 b1)) ?_ ?_
  · intro b1 hs hp
    cases hp
    exact ⟨_, rfl, hs⟩
  · intro j2p j2 hj2 hp
    refine st_if (Q := F36.Post F ro r) (fun hc_11 => ?_) (fun hc_11 => ?_)
    · replace hp := ifp_t hc_11 hp
      exact hj2 true hs hp
    · replace hp := ifp_f hc_11 hp
      refine st_if (Q := F36.Post F ro r) (fun hc_12 => ?_) (fun hc_12 => ?_)
      · replace hp := ifp_t hc_12 hp
        exact hj2 true hs hp
      · replace hp := ifp_f hc_12 hp
        refine st_if (Q := F36.Post F ro r) (fun hc_13 => ?_) (fun hc_13 => ?_)
        · replace hp := ifp_t hc_13 hp
          exact hj2 true hs hp
        · replace hp := ifp_f hc_13 hp
          exact hj2 (x0 == 13) hs hp

theorem F36.ok {ora : Ora} (hora : HOra ora) {lf ro : Nat} {F : List Ent} {r : (Bool)} (x0 : Int) (h : Heap) (hs : Sat ro h (F)) (hp : F36.p lf x0 = some r) : F36.Post F ro r (callW Tryd.prog ora ro 36 [.int .u8 x0] h) := by
  have h1 := F36.t_ok hora x0 h hs hp
  have h2 : callW Tryd.prog ora ro 36 [.int .u8 x0] h = _ := callW_body (hora.none _ _ _ _ (by decide)) Tryd.func36 (F36.le (callW Tryd.prog ora) lf ro x0 h) (F36.Post.ne h1)
  rw [h2]; exact h1

def F51.Post (F : List Ent) (ro : Nat) (r : (Bool)) (x : Out) : Prop := ∃ h', x = .ok (.bool r) h' ∧ Sat ro h' (F)
theorem F51.Post.ne {F : List Ent} {ro : Nat} {r : (Bool)} {x : Out} (hx : F51.Post F ro r x) : x ≠ .fail := by
  obtain ⟨h', rfl, _⟩ := hx
  simp

def F51.p (lf : Nat) (x0 : Int) : Option (Bool) :=
  letJ (fun (b1 : Bool) => (
    some b1 : Option (Bool))) fun j2p =>
  ifp (decide (x0 ≥ 48)) (
    j2p (decide (x0 ≤ 57))) (
    j2p false)

theorem F51.t_ok {ora : Ora} (hora : HOra ora) {lf ro : Nat} {F : List Ent} {r : (Bool)} (x0 : Int) (h : Heap) (hs : Sat ro h (F)) (hp : F51.p lf x0 = some r) : F51.Post F ro r (F51.t (callW Tryd.prog ora) lf ro x0 h) := by
  unfold F51.t
  unfold F51.p at hp
  refine st_letJ hp (fun j2p j2 => ∀ (b1 : Bool), Sat ro h (F) → j2p b1 = some r → F51.Post F ro r (j2 b1)) ?_ ?_
  · intro b1 hs hp
    cases hp
    exact ⟨_, rfl, hs⟩
  · intro j2p j2 hj2 hp
    refine st_if (Q := F51.Post F ro r) (fun hc_15 => ?_) (fun hc_15 => ?_)
    · replace hp := ifp_t hc_15 hp
      exact hj2 (decide (x0 ≤ 57)) hs hp
    · replace hp := ifp_f hc_15 hp
      exact hj2 false hs hp

theorem F51.ok {ora : Ora} (hora : HOra ora) {lf ro : Nat} {F : List Ent} {r : (Bool)} (x0 : Int) (h : Heap) (hs : Sat ro h (F)) (hp : F51.p lf x0 = some r) : F51.Post F ro r (callW Tryd.prog ora ro 51 [.int .u8 x0] h) := by
  have h1 := F51.t_ok hora x0 h hs hp
  have h2 : callW Tryd.prog ora ro 51 [.int .u8 x0] h = _ := callW_body (hora.none _ _ _ _ (by decide)) Tryd.func51 (F51.le (callW Tryd.prog ora) lf ro x0 h) (F51.Post.ne h1)
  rw [h2]; exact h1

def F54.Post (F : List Ent) (ro : Nat) (r : (Bool)) (x : Out) : Prop := ∃ h', x = .ok (.bool r) h' ∧ Sat ro h' (F)
theorem F54.Post.ne {F : List Ent} {ro : Nat} {r : (Bool)} {x : Out} (hx : F54.Post F ro r x) : x ≠ .fail := by
  obtain ⟨h', rfl, _⟩ := hx
  simp

def F54.p (lf : Nat) (x0 : Int) : Option (Bool) :=
  letJ (fun (b1 : Bool) => (
    some b1 : Option (Bool))) fun j2p =>
  ifp (x0 == 1) (
    j2p true) (
    j2p (x0 == 2))

theorem F54.t_ok {ora : Ora} (hora : HOra ora) {lf ro : Nat} {F : List Ent} {r : (Bool)} (x0 : Int) (h : Heap) (hs : Sat ro h (F)) (hp : F54.p lf x0 = some r) : F54.Post F ro r (F54.t (callW Tryd.prog ora) lf ro x0 h) := by
  unfold F54.t
  unfold F54.p at hp
  refine st_letJ hp (fun j2p j2 => ∀ (b1 : Bool), Sat ro h (F) → j2p b1 = some r → F54.Post F ro r (j2 b1)) ?_ ?_
  · intro b1 hs hp
    cases hp
    exact ⟨_, rfl, hs⟩
  · intro j2p j2 hj2 hp
    refine st_if (Q := F54.Post F ro r) (fun hc_17 => ?_) (fun hc_17 => ?_)
    · replace hp := ifp_t hc_17 hp
      exact hj2 true hs hp
    · replace hp := ifp_f hc_17 hp
      exact hj2 (x0 == 2) hs hp

theorem F54.ok {ora : Ora} (hora : HOra ora) {lf ro : Nat} {F : List Ent} {r : (Bool)} (x0 : Int) (h : Heap) (hs : Sat ro h (F)) (hp : F54.p lf x0 = some r) : F54.Post F ro r (callW Tryd.prog ora ro 54 [.int .i64 x0] h) := by
  have h1 := F54.t_ok hora x0 h hs hp
  have h2 : callW Tryd.prog ora ro 54 [.int .i64 x0] h = _ := callW_body (hora.none _ _ _ _ (by decide)) Tryd.func54 (F54.le (callW Tryd.prog ora) lf ro x0 h) (F54.Post.ne h1)
  rw [h2]; exact h1

def F52.Post (px0 : Nat) (apx0_0 : Option Addr) (cpx0_0 : Nat) (xpx0_0 : List Int) (F : List Ent) (ro : Nat) (r : (Res (Int) (Int × Int))) (x : Out) : Prop := match r with
  | .ok r => ∃ h', x = .ok (.tuple #[]) h' ∧ Sat ro h' (.own ro (some ⟨px0, 0, none⟩) 1 [.slice apx0_0 xpx0_0.length cpx0_0, .int .i64 r] :: F)
  | .pan r => ∃ h', x = .panic (.iface 77 (.agg #[.int .i64 r.1])) h' ∧ Sat ro h' (.own ro (some ⟨px0, 0, none⟩) 1 [.slice apx0_0 xpx0_0.length cpx0_0, .int .i64 r.2] :: F)
theorem F52.Post.ne {px0 : Nat} {apx0_0 : Option Addr} {cpx0_0 : Nat} {xpx0_0 : List Int} {F : List Ent} {ro : Nat} {r : (Res (Int) (Int × Int))} {x : Out} (hx : F52.Post px0 apx0_0 cpx0_0 xpx0_0 F ro r x) : x ≠ .fail := by
  cases r with
  | ok r => obtain ⟨h', rfl, _⟩ := hx; simp
  | pan r => obtain ⟨h', rfl, _⟩ := hx; simp

def F52.p (lf : Nat) (xpx0_0 : List Int) (mpx0_1 : Int) (x1 : Bool) (x2 : Int) : Option (Res (Int) (Int × Int)) :=
  ifp (!x1) (
    some (.pan (x2, mpx0_1))) (
    some (.ok mpx0_1))

theorem F52.t_ok {ora : Ora} (hora : HOra ora) {lf ro : Nat} {F : List Ent} {r : (Res (Int) (Int × Int))} {px0 : Nat} {apx0_0 : Option Addr} {cpx0_0 : Nat} {xpx0_0 : List Int} (mpx0_1 : Int) (x1 : Bool) (x2 : Int) (h : Heap) (hs : Sat ro h (.own ro (some ⟨px0, 0, none⟩) 1 [.slice apx0_0 xpx0_0.length cpx0_0, .int .i64 mpx0_1] :: .row apx0_0 cpx0_0 (xpx0_0.map (Value.int .u8)) :: F)) (hp : F52.p lf xpx0_0 mpx0_1 x1 x2 = some r) : F52.Post px0 apx0_0 cpx0_0 xpx0_0 F ro r (F52.t (callW Tryd.prog ora) lf ro px0 0 x1 x2 h) := by
  unfold F52.t
  unfold F52.p at hp
  refine st_if (Q := F52.Post px0 apx0_0 cpx0_0 xpx0_0 F ro r) (fun hc_19 => ?_) (fun hc_19 => ?_)
  · replace hp := ifp_t hc_19 hp
    have hs_20 := hs.pull 1 rfl
    have hs_21 := hs_20.tail
    cases hp
    exact ⟨_, rfl, hs_21⟩
  · replace hp := ifp_f hc_19 hp
    have hs_22 := hs.pull 1 rfl
    have hs_23 := hs_22.tail
    cases hp
    exact ⟨_, rfl, hs_23⟩

theorem F52.ok {ora : Ora} (hora : HOra ora) {lf ro : Nat} {F : List Ent} {r : (Res (Int) (Int × Int))} {px0 : Nat} {apx0_0 : Option Addr} {cpx0_0 : Nat} {xpx0_0 : List Int} (mpx0_1 : Int) (x1 : Bool) (x2 : Int) (h : Heap) (hs : Sat ro h (.own ro (some ⟨px0, 0, none⟩) 1 [.slice apx0_0 xpx0_0.length cpx0_0, .int .i64 mpx0_1] :: .row apx0_0 cpx0_0 (xpx0_0.map (Value.int .u8)) :: F)) (hp : F52.p lf xpx0_0 mpx0_1 x1 x2 = some r) : F52.Post px0 apx0_0 cpx0_0 xpx0_0 F ro r (callW Tryd.prog ora ro 52 [.pointer (some ⟨px0, 0, none⟩), .bool x1, .int .i64 x2] h) := by
  have h1 := F52.t_ok hora mpx0_1 x1 x2 h hs hp
  have h2 : callW Tryd.prog ora ro 52 [.pointer (some ⟨px0, 0, none⟩), .bool x1, .int .i64 x2] h = _ := callW_body (hora.none _ _ _ _ (by decide)) Tryd.func52 (F52.le (callW Tryd.prog ora) lf ro px0 0 x1 x2 h) (F52.Post.ne h1)
  rw [h2]; exact h1

def F67.Post (px0 : Nat) (apx0_0 : Option Addr) (cpx0_0 : Nat) (xpx0_0 : List Int) (F : List Ent) (ro : Nat) (r : (Int)) (x : Out) : Prop := ∃ h', x = .ok (.tuple #[]) h' ∧ Sat ro h' (.own ro (some ⟨px0, 0, none⟩) 1 [.slice apx0_0 xpx0_0.length cpx0_0, .int .i64 r] :: F)
theorem F67.Post.ne {px0 : Nat} {apx0_0 : Option Addr} {cpx0_0 : Nat} {xpx0_0 : List Int} {F : List Ent} {ro : Nat} {r : (Int)} {x : Out} (hx : F67.Post px0 apx0_0 cpx0_0 xpx0_0 F ro r x) : x ≠ .fail := by
  obtain ⟨h', rfl, _⟩ := hx
  simp

def F67.L5p (lf : Nat) (kb0p : List Int → Int → Option (Int)) : Nat → List Int → Int → Option (Int)
  | 0, _, _ => none
  | n + 1, xpx0_0, mpx0_1 =>
  letJ (fun (b80 : Bool) => (
    ifp b80 (
      F67.L5p lf kb0p n xpx0_0 (IntKind.i64.wrap (mpx0_1 + 1))) (
      kb0p xpx0_0 mpx0_1) : Option (Int))) fun j82p =>
  ifp (decide (mpx0_1 < (xpx0_0.length : Int))) (
    bindp (idxp xpx0_0 mpx0_1) fun x_41 =>
    ifp (x_41 != 10) (
      bindp (idxp xpx0_0 mpx0_1) fun x_46 =>
      j82p (x_46 != 13)) (
      j82p false)) (
    j82p false)

theorem F67.L5_ok {ora : Ora} (hora : HOra ora) {lf ro : Nat} {F : List Ent} {r : (Int)} {px0 : Nat} {apx0_0 : Option Addr} {cpx0_0 : Nat} {xpx0_0 : List Int} {kb0p : List Int → Int → Option (Int)} {kb0 : Nat → Nat → Heap → Out} (hkb0 : ∀ (mpx0_1 : Int) (h : Heap), Sat ro h (.own ro (some ⟨px0, 0, none⟩) 1 [.slice apx0_0 xpx0_0.length cpx0_0, .int .i64 mpx0_1] :: .row apx0_0 cpx0_0 (xpx0_0.map (Value.int .u8)) :: F) → kb0p xpx0_0 mpx0_1 = some r → F67.Post px0 apx0_0 cpx0_0 xpx0_0 F ro r (kb0 px0 0 h)) : ∀ (n : Nat) (mpx0_1 : Int) (h : Heap), Sat ro h (.own ro (some ⟨px0, 0, none⟩) 1 [.slice apx0_0 xpx0_0.length cpx0_0, .int .i64 mpx0_1] :: .row apx0_0 cpx0_0 (xpx0_0.map (Value.int .u8)) :: F) → F67.L5p lf kb0p n xpx0_0 mpx0_1 = some r → F67.Post px0 apx0_0 cpx0_0 xpx0_0 F ro r (F67.L5 (callW Tryd.prog ora) lf ro kb0 n px0 0 h) := by
  intro n
  induction n with
  | zero => intro mpx0_1 h hs hp; cases hp
  | succ n ih =>
    intro mpx0_1 h hs hp
    unfold F67.L5
    unfold F67.L5p at hp
    refine st_letJ hp (fun j82p j82 => ∀ (b80 : Bool) (h_53 : Heap), Sat ro h_53 (.own ro (some ⟨px0, 0, none⟩) 1 [.slice apx0_0 xpx0_0.length cpx0_0, .int .i64 mpx0_1] :: .row apx0_0 cpx0_0 (xpx0_0.map (Value.int .u8)) :: F) → j82p b80 = some r → F67.Post px0 apx0_0 cpx0_0 xpx0_0 F ro r (j82 b80 h_53)) ?_ ?_
    · intro b80 h_53 hs hp
      refine st_if (Q := F67.Post px0 apx0_0 cpx0_0 xpx0_0 F ro r) (fun hc_54 => ?_) (fun hc_54 => ?_)
      · replace hp := ifp_t hc_54 hp
        refine st_load (Q := F67.Post px0 apx0_0 cpx0_0 xpx0_0 F ro r) isO hs agg3 rfl ?_
        refine st_int (Q := F67.Post px0 apx0_0 cpx0_0 xpx0_0 F ro r) ?_
        refine st_store (Q := F67.Post px0 apx0_0 cpx0_0 xpx0_0 F ro r) isO hs siz3 rfl (Nat.le_of_ble_eq_true rfl) fun h_55 hs_56 => ?_
        have hs_57 := hs_56.pull 1 rfl
        have hs_58 := hs_57.pull 1 rfl
        exact ih (IntKind.i64.wrap (mpx0_1 + 1)) _ hs_58 hp
      · replace hp := ifp_f hc_54 hp
        have hs_59 := hs.pull 1 rfl
        have hs_60 := hs_59.pull 1 rfl
        exact hkb0 mpx0_1 _ hs_60 hp
    · intro j82p j82 hj82 hp
      refine st_load (Q := F67.Post px0 apx0_0 cpx0_0 xpx0_0 F ro r) isN hs agg3 rfl ?_
      refine st_int (Q := F67.Post px0 apx0_0 cpx0_0 xpx0_0 F ro r) ?_
      refine st_load (Q := F67.Post px0 apx0_0 cpx0_0 xpx0_0 F ro r) isN hs agg22 rfl ?_
      refine st_slice (Q := F67.Post px0 apx0_0 cpx0_0 xpx0_0 F ro r) ?_
      refine st_if (Q := F67.Post px0 apx0_0 cpx0_0 xpx0_0 F ro r) (fun hc_40 => ?_) (fun hc_40 => ?_)
      · replace hp := ifp_t hc_40 hp
        refine st_load (Q := F67.Post px0 apx0_0 cpx0_0 xpx0_0 F ro r) isN hs agg22 rfl ?_
        refine st_slice (Q := F67.Post px0 apx0_0 cpx0_0 xpx0_0 F ro r) ?_
        refine st_load (Q := F67.Post px0 apx0_0 cpx0_0 xpx0_0 F ro r) isN hs agg3 rfl ?_
        refine st_int (Q := F67.Post px0 apx0_0 cpx0_0 xpx0_0 F ro r) ?_
        have hs_43 := hs.pull 1 rfl
        obtain ⟨x_41, hx_42, hp⟩ := bindp_some hp
        refine st_idxR (Q := F67.Post px0 apx0_0 cpx0_0 xpx0_0 F ro r) (l := xpx0_0) (f := (Value.int .u8)) isN isN hs_43 und22 siz5 agg5 rfl hx_42 ?_
        refine st_int (Q := F67.Post px0 apx0_0 cpx0_0 xpx0_0 F ro r) ?_
        refine st_if (Q := F67.Post px0 apx0_0 cpx0_0 xpx0_0 F ro r) (fun hc_44 => ?_) (fun hc_44 => ?_)
        · replace hp := ifp_t hc_44 hp
          have hs_45 := hs_43.pull 1 rfl
          refine st_load (Q := F67.Post px0 apx0_0 cpx0_0 xpx0_0 F ro r) isN hs_45 agg22 rfl ?_
          refine st_slice (Q := F67.Post px0 apx0_0 cpx0_0 xpx0_0 F ro r) ?_
          refine st_load (Q := F67.Post px0 apx0_0 cpx0_0 xpx0_0 F ro r) isN hs_45 agg3 rfl ?_
          refine st_int (Q := F67.Post px0 apx0_0 cpx0_0 xpx0_0 F ro r) ?_
          have hs_48 := hs_45.pull 1 rfl
          obtain ⟨x_46, hx_47, hp⟩ := bindp_some hp
          refine st_idxR (Q := F67.Post px0 apx0_0 cpx0_0 xpx0_0 F ro r) (l := xpx0_0) (f := (Value.int .u8)) isO isO hs_48 und22 siz5 agg5 rfl hx_47 ?_
          refine st_int (Q := F67.Post px0 apx0_0 cpx0_0 xpx0_0 F ro r) ?_
          have hs_49 := hs_48.pull 1 rfl
          exact hj82 (x_46 != 13) _ hs_49 hp
        · replace hp := ifp_f hc_44 hp
          have hs_50 := hs_43.pull 1 rfl
          exact hj82 false _ hs_50 hp
      · replace hp := ifp_f hc_40 hp
        have hs_51 := hs.pull 1 rfl
        have hs_52 := hs_51.pull 1 rfl
        exact hj82 false _ hs_52 hp

def F67.J1p (lf : Nat) (kb0p : List Int → Int → Option (Int)) (xpx0_0 : List Int) (mpx0_1 : Int) : Option (Int) :=
  bindp (idxp xpx0_0 mpx0_1) fun x_25 =>
  bindp (F36.p lf x_25) fun r_28 =>
  ifp r_28 (
    kb0p xpx0_0 (IntKind.i64.wrap (mpx0_1 + 1))) (
    ifp (x_25 == 35) (
      F67.L5p lf kb0p lf xpx0_0 mpx0_1) (
      some mpx0_1))

theorem F67.J1_ok {ora : Ora} (hora : HOra ora) {lf ro : Nat} {F : List Ent} {r : (Int)} {px0 : Nat} {apx0_0 : Option Addr} {cpx0_0 : Nat} {xpx0_0 : List Int} {kb0p : List Int → Int → Option (Int)} {kb0 : Nat → Nat → Heap → Out} (hkb0 : ∀ (mpx0_1 : Int) (h : Heap), Sat ro h (.own ro (some ⟨px0, 0, none⟩) 1 [.slice apx0_0 xpx0_0.length cpx0_0, .int .i64 mpx0_1] :: .row apx0_0 cpx0_0 (xpx0_0.map (Value.int .u8)) :: F) → kb0p xpx0_0 mpx0_1 = some r → F67.Post px0 apx0_0 cpx0_0 xpx0_0 F ro r (kb0 px0 0 h)) (mpx0_1 : Int) (h : Heap) (hs : Sat ro h (.own ro (some ⟨px0, 0, none⟩) 1 [.slice apx0_0 xpx0_0.length cpx0_0, .int .i64 mpx0_1] :: .row apx0_0 cpx0_0 (xpx0_0.map (Value.int .u8)) :: F)) (hp : F67.J1p lf kb0p xpx0_0 mpx0_1 = some r) : F67.Post px0 apx0_0 cpx0_0 xpx0_0 F ro r (F67.J1 (callW Tryd.prog ora) lf ro kb0 px0 0 h) := by
  unfold F67.J1
  unfold F67.J1p at hp
  refine st_load (Q := F67.Post px0 apx0_0 cpx0_0 xpx0_0 F ro r) isN hs agg22 rfl ?_
  refine st_slice (Q := F67.Post px0 apx0_0 cpx0_0 xpx0_0 F ro r) ?_
  refine st_load (Q := F67.Post px0 apx0_0 cpx0_0 xpx0_0 F ro r) isN hs agg3 rfl ?_
  refine st_int (Q := F67.Post px0 apx0_0 cpx0_0 xpx0_0 F ro r) ?_
  have hs_27 := hs.pull 1 rfl
  obtain ⟨x_25, hx_26, hp⟩ := bindp_some hp
  refine st_idxR (Q := F67.Post px0 apx0_0 cpx0_0 xpx0_0 F ro r) (l := xpx0_0) (f := (Value.int .u8)) isO isO hs_27 und22 siz5 agg5 rfl hx_26 ?_
  refine st_int (Q := F67.Post px0 apx0_0 cpx0_0 xpx0_0 F ro r) ?_
  obtain ⟨r_28, hx_29, hp⟩ := bindp_some hp
  obtain ⟨h_30, e_32, hs_31⟩ := F36.ok hora (ro := ro) (F := .row apx0_0 cpx0_0 (xpx0_0.map (Value.int .u8)) :: .own ro (some ⟨px0, 0, none⟩) 1 [.slice apx0_0 xpx0_0.length cpx0_0, .int .i64 mpx0_1] :: F) x_25 _ hs_27 hx_29
  refine st_ok (Q := F67.Post px0 apx0_0 cpx0_0 xpx0_0 F ro r) isO e_32 ?_
  refine st_bool (Q := F67.Post px0 apx0_0 cpx0_0 xpx0_0 F ro r) ?_
  refine st_if (Q := F67.Post px0 apx0_0 cpx0_0 xpx0_0 F ro r) (fun hc_33 => ?_) (fun hc_33 => ?_)
  · replace hp := ifp_t hc_33 hp
    have hs_34 := hs_31.pull 1 rfl
    refine st_load (Q := F67.Post px0 apx0_0 cpx0_0 xpx0_0 F ro r) isO hs_34 agg3 rfl ?_
    refine st_int (Q := F67.Post px0 apx0_0 cpx0_0 xpx0_0 F ro r) ?_
    refine st_store (Q := F67.Post px0 apx0_0 cpx0_0 xpx0_0 F ro r) isO hs_34 siz3 rfl (Nat.le_of_ble_eq_true rfl) fun h_35 hs_36 => ?_
    have hs_37 := hs_36.pull 1 rfl
    have hs_38 := hs_37.pull 1 rfl
    exact hkb0 (IntKind.i64.wrap (mpx0_1 + 1)) _ hs_38 hp
  · replace hp := ifp_f hc_33 hp
    refine st_if (Q := F67.Post px0 apx0_0 cpx0_0 xpx0_0 F ro r) (fun hc_39 => ?_) (fun hc_39 => ?_)
    · replace hp := ifp_t hc_39 hp
      have hs_61 := hs_31.pull 1 rfl
      exact F67.L5_ok hora hkb0 lf mpx0_1 _ hs_61 hp
    · replace hp := ifp_f hc_39 hp
      have hs_62 := hs_31.tail
      cases hp
      exact ⟨_, rfl, hs_62⟩

def F67.L0p (lf : Nat) : Nat → List Int → Int → Option (Int)
  | 0, _, _ => none
  | n + 1, xpx0_0, mpx0_1 =>
  ifp (decide (mpx0_1 < (xpx0_0.length : Int))) (
    F67.J1p lf (F67.L0p lf n) xpx0_0 mpx0_1) (
    some mpx0_1)

theorem F67.L0_ok {ora : Ora} (hora : HOra ora) {lf ro : Nat} {F : List Ent} {r : (Int)} {px0 : Nat} {apx0_0 : Option Addr} {cpx0_0 : Nat} {xpx0_0 : List Int} : ∀ (n : Nat) (mpx0_1 : Int) (h : Heap), Sat ro h (.own ro (some ⟨px0, 0, none⟩) 1 [.slice apx0_0 xpx0_0.length cpx0_0, .int .i64 mpx0_1] :: .row apx0_0 cpx0_0 (xpx0_0.map (Value.int .u8)) :: F) → F67.L0p lf n xpx0_0 mpx0_1 = some r → F67.Post px0 apx0_0 cpx0_0 xpx0_0 F ro r (F67.L0 (callW Tryd.prog ora) lf ro n px0 0 h) := by
  intro n
  induction n with
  | zero => intro mpx0_1 h hs hp; cases hp
  | succ n ih =>
    intro mpx0_1 h hs hp
    unfold F67.L0
    unfold F67.L0p at hp
    refine st_load (Q := F67.Post px0 apx0_0 cpx0_0 xpx0_0 F ro r) isN hs agg3 rfl ?_
    refine st_int (Q := F67.Post px0 apx0_0 cpx0_0 xpx0_0 F ro r) ?_
    refine st_load (Q := F67.Post px0 apx0_0 cpx0_0 xpx0_0 F ro r) isN hs agg22 rfl ?_
    refine st_slice (Q := F67.Post px0 apx0_0 cpx0_0 xpx0_0 F ro r) ?_
    refine st_if (Q := F67.Post px0 apx0_0 cpx0_0 xpx0_0 F ro r) (fun hc_24 => ?_) (fun hc_24 => ?_)
    · replace hp := ifp_t hc_24 hp
      have hs_63 := hs.pull 1 rfl
      have hs_64 := hs_63.pull 1 rfl
      exact F67.J1_ok hora ih mpx0_1 _ hs_64 hp
    · replace hp := ifp_f hc_24 hp
      have hs_65 := hs.pull 1 rfl
      have hs_66 := hs_65.tail
      cases hp
      exact ⟨_, rfl, hs_66⟩

def F67.p (lf : Nat) (xpx0_0 : List Int) (mpx0_1 : Int) : Option (Int) :=
  F67.L0p lf lf xpx0_0 mpx0_1

theorem F67.t_ok {ora : Ora} (hora : HOra ora) {lf ro : Nat} {F : List Ent} {r : (Int)} {px0 : Nat} {apx0_0 : Option Addr} {cpx0_0 : Nat} {xpx0_0 : List Int} (mpx0_1 : Int) (h : Heap) (hs : Sat ro h (.own ro (some ⟨px0, 0, none⟩) 1 [.slice apx0_0 xpx0_0.length cpx0_0, .int .i64 mpx0_1] :: .row apx0_0 cpx0_0 (xpx0_0.map (Value.int .u8)) :: F)) (hp : F67.p lf xpx0_0 mpx0_1 = some r) : F67.Post px0 apx0_0 cpx0_0 xpx0_0 F ro r (F67.t (callW Tryd.prog ora) lf ro px0 0 h) := by
  unfold F67.t
  unfold F67.p at hp
  have hs_67 := hs.pull 1 rfl
  have hs_68 := hs_67.pull 1 rfl
  exact F67.L0_ok hora lf mpx0_1 _ hs_68 hp

theorem F67.ok {ora : Ora} (hora : HOra ora) {lf ro : Nat} {F : List Ent} {r : (Int)} {px0 : Nat} {apx0_0 : Option Addr} {cpx0_0 : Nat} {xpx0_0 : List Int} (mpx0_1 : Int) (h : Heap) (hs : Sat ro h (.own ro (some ⟨px0, 0, none⟩) 1 [.slice apx0_0 xpx0_0.length cpx0_0, .int .i64 mpx0_1] :: .row apx0_0 cpx0_0 (xpx0_0.map (Value.int .u8)) :: F)) (hp : F67.p lf xpx0_0 mpx0_1 = some r) : F67.Post px0 apx0_0 cpx0_0 xpx0_0 F ro r (callW Tryd.prog ora ro 67 [.pointer (some ⟨px0, 0, none⟩)] h) := by
  have h1 := F67.t_ok hora mpx0_1 h hs hp
  have h2 : callW Tryd.prog ora ro 67 [.pointer (some ⟨px0, 0, none⟩)] h = _ := callW_body (hora.none _ _ _ _ (by decide)) Tryd.func67 (F67.le (callW Tryd.prog ora) lf ro px0 0 h) (F67.Post.ne h1)
  rw [h2]; exact h1

def F65.Post (px0 : Nat) (apx0_0 : Option Addr) (cpx0_0 : Nat) (xpx0_0 : List Int) (F : List Ent) (ro : Nat) (r : (Res (Int × Int) (Int × Int))) (x : Out) : Prop := match r with
  | .ok r => ∃ h', x = .ok (.int .i64 r.1) h' ∧ Sat ro h' (.own ro (some ⟨px0, 0, none⟩) 1 [.slice apx0_0 xpx0_0.length cpx0_0, .int .i64 r.2] :: F)
  | .pan r => ∃ h', x = .panic (.iface 77 (.agg #[.int .i64 r.1])) h' ∧ Sat ro h' (.own ro (some ⟨px0, 0, none⟩) 1 [.slice apx0_0 xpx0_0.length cpx0_0, .int .i64 r.2] :: F)
theorem F65.Post.ne {px0 : Nat} {apx0_0 : Option Addr} {cpx0_0 : Nat} {xpx0_0 : List Int} {F : List Ent} {ro : Nat} {r : (Res (Int × Int) (Int × Int))} {x : Out} (hx : F65.Post px0 apx0_0 cpx0_0 xpx0_0 F ro r x) : x ≠ .fail := by
  cases r with
  | ok r => obtain ⟨h', rfl, _⟩ := hx; simp
  | pan r => obtain ⟨h', rfl, _⟩ := hx; simp

def F65.L7p (lf : Nat) : Nat → List Int → Int → Int → Option (Res (Int × Int) (Int × Int))
  | 0, _, _, _ => none
  | n + 1, xpx0_0, mpx0_1, n97 =>
  letJ ((
    some (.ok (n97, mpx0_1)) : Option (Res (Int × Int) (Int × Int)))) fun j170p =>
  letJ (fun (b191 : Bool) => (
    ifp b191 (
      bindp (idxp xpx0_0 mpx0_1) fun x_150 =>
      F65.L7p lf n xpx0_0 (IntKind.i64.wrap (mpx0_1 + 1)) (if 65536 < IntKind.i64.wrap ((IntKind.i64.wrap (10 * n97)) + (IntKind.i64.wrap (IntKind.u8.wrap (x_150 - 48)))) then 65536 else IntKind.i64.wrap ((IntKind.i64.wrap (10 * n97)) + (IntKind.i64.wrap (IntKind.u8.wrap (x_150 - 48)))))) (
      j170p) : Option (Res (Int × Int) (Int × Int)))) fun j193p =>
  ifp (decide (mpx0_1 < (xpx0_0.length : Int))) (
    bindp (idxp xpx0_0 mpx0_1) fun x_137 =>
    bindp (F51.p lf x_137) fun r_140 =>
    j193p r_140) (
    j193p false)

theorem F65.L7_ok {ora : Ora} (hora : HOra ora) {lf ro : Nat} {F : List Ent} {r : (Res (Int × Int) (Int × Int))} {px0 : Nat} {apx0_0 : Option Addr} {cpx0_0 : Nat} {xpx0_0 : List Int} : ∀ (n : Nat) (mpx0_1 : Int) (n97 : Int) (h : Heap), Sat ro h (.own ro (some ⟨px0, 0, none⟩) 1 [.slice apx0_0 xpx0_0.length cpx0_0, .int .i64 mpx0_1] :: .row apx0_0 cpx0_0 (xpx0_0.map (Value.int .u8)) :: F) → F65.L7p lf n xpx0_0 mpx0_1 n97 = some r → F65.Post px0 apx0_0 cpx0_0 xpx0_0 F ro r (F65.L7 (callW Tryd.prog ora) lf ro n px0 0 n97 h) := by
  intro n
  induction n with
  | zero => intro mpx0_1 n97 h hs hp; cases hp
  | succ n ih =>
    intro mpx0_1 n97 h hs hp
    unfold F65.L7
    unfold F65.L7p at hp
    refine st_letJ hp (fun j170p j170 => ∀  (h_160 : Heap), Sat ro h_160 (.own ro (some ⟨px0, 0, none⟩) 1 [.slice apx0_0 xpx0_0.length cpx0_0, .int .i64 mpx0_1] :: .row apx0_0 cpx0_0 (xpx0_0.map (Value.int .u8)) :: F) → j170p = some r → F65.Post px0 apx0_0 cpx0_0 xpx0_0 F ro r (j170 h_160)) ?_ ?_
    · intro  h_160 hs hp
      have hs_161 := hs.pull 1 rfl
      have hs_162 := hs_161.tail
      cases hp
      exact ⟨_, rfl, hs_162⟩
    · intro j170p j170 hj170 hp
      refine st_letJ hp (fun j193p j193 => ∀ (b191 : Bool) (h_148 : Heap), Sat ro h_148 (.own ro (some ⟨px0, 0, none⟩) 1 [.slice apx0_0 xpx0_0.length cpx0_0, .int .i64 mpx0_1] :: .row apx0_0 cpx0_0 (xpx0_0.map (Value.int .u8)) :: F) → j193p b191 = some r → F65.Post px0 apx0_0 cpx0_0 xpx0_0 F ro r (j193 b191 h_148)) ?_ ?_
      · intro b191 h_148 hs hp
        refine st_if (Q := F65.Post px0 apx0_0 cpx0_0 xpx0_0 F ro r) (fun hc_149 => ?_) (fun hc_149 => ?_)
        · replace hp := ifp_t hc_149 hp
          refine st_load (Q := F65.Post px0 apx0_0 cpx0_0 xpx0_0 F ro r) isN hs agg22 rfl ?_
          refine st_slice (Q := F65.Post px0 apx0_0 cpx0_0 xpx0_0 F ro r) ?_
          refine st_load (Q := F65.Post px0 apx0_0 cpx0_0 xpx0_0 F ro r) isN hs agg3 rfl ?_
          refine st_int (Q := F65.Post px0 apx0_0 cpx0_0 xpx0_0 F ro r) ?_
          have hs_152 := hs.pull 1 rfl
          obtain ⟨x_150, hx_151, hp⟩ := bindp_some hp
          refine st_idxR (Q := F65.Post px0 apx0_0 cpx0_0 xpx0_0 F ro r) (l := xpx0_0) (f := (Value.int .u8)) isN isN hs_152 und22 siz5 agg5 rfl hx_151 ?_
          refine st_int (Q := F65.Post px0 apx0_0 cpx0_0 xpx0_0 F ro r) ?_
          have hs_153 := hs_152.pull 1 rfl
          refine st_load (Q := F65.Post px0 apx0_0 cpx0_0 xpx0_0 F ro r) isO hs_153 agg3 rfl ?_
          refine st_int (Q := F65.Post px0 apx0_0 cpx0_0 xpx0_0 F ro r) ?_
          refine st_store (Q := F65.Post px0 apx0_0 cpx0_0 xpx0_0 F ro r) isO hs_153 siz3 rfl (Nat.le_of_ble_eq_true rfl) fun h_154 hs_155 => ?_
          have hs_156 := hs_155.pull 1 rfl
          have hs_157 := hs_156.pull 1 rfl
          exact ih (IntKind.i64.wrap (mpx0_1 + 1)) (if 65536 < IntKind.i64.wrap ((IntKind.i64.wrap (10 * n97)) + (IntKind.i64.wrap (IntKind.u8.wrap (x_150 - 48)))) then 65536 else IntKind.i64.wrap ((IntKind.i64.wrap (10 * n97)) + (IntKind.i64.wrap (IntKind.u8.wrap (x_150 - 48))))) _ hs_157 hp
        · replace hp := ifp_f hc_149 hp
          have hs_158 := hs.pull 1 rfl
          have hs_159 := hs_158.pull 1 rfl
          exact hj170 _ hs_159 hp
      · intro j193p j193 hj193 hp
        refine st_load (Q := F65.Post px0 apx0_0 cpx0_0 xpx0_0 F ro r) isN hs agg3 rfl ?_
        refine st_int (Q := F65.Post px0 apx0_0 cpx0_0 xpx0_0 F ro r) ?_
        refine st_load (Q := F65.Post px0 apx0_0 cpx0_0 xpx0_0 F ro r) isN hs agg22 rfl ?_
        refine st_slice (Q := F65.Post px0 apx0_0 cpx0_0 xpx0_0 F ro r) ?_
        refine st_if (Q := F65.Post px0 apx0_0 cpx0_0 xpx0_0 F ro r) (fun hc_136 => ?_) (fun hc_136 => ?_)
        · replace hp := ifp_t hc_136 hp
          refine st_load (Q := F65.Post px0 apx0_0 cpx0_0 xpx0_0 F ro r) isN hs agg22 rfl ?_
          refine st_slice (Q := F65.Post px0 apx0_0 cpx0_0 xpx0_0 F ro r) ?_
          refine st_load (Q := F65.Post px0 apx0_0 cpx0_0 xpx0_0 F ro r) isN hs agg3 rfl ?_
          refine st_int (Q := F65.Post px0 apx0_0 cpx0_0 xpx0_0 F ro r) ?_
          have hs_139 := hs.pull 1 rfl
          obtain ⟨x_137, hx_138, hp⟩ := bindp_some hp
          refine st_idxR (Q := F65.Post px0 apx0_0 cpx0_0 xpx0_0 F ro r) (l := xpx0_0) (f := (Value.int .u8)) isO isO hs_139 und22 siz5 agg5 rfl hx_138 ?_
          refine st_int (Q := F65.Post px0 apx0_0 cpx0_0 xpx0_0 F ro r) ?_
          obtain ⟨r_140, hx_141, hp⟩ := bindp_some hp
          obtain ⟨h_142, e_144, hs_143⟩ := F51.ok hora (ro := ro) (F := .row apx0_0 cpx0_0 (xpx0_0.map (Value.int .u8)) :: .own ro (some ⟨px0, 0, none⟩) 1 [.slice apx0_0 xpx0_0.length cpx0_0, .int .i64 mpx0_1] :: F) x_137 _ hs_139 hx_141
          refine st_ok (Q := F65.Post px0 apx0_0 cpx0_0 xpx0_0 F ro r) isO e_144 ?_
          refine st_bool (Q := F65.Post px0 apx0_0 cpx0_0 xpx0_0 F ro r) ?_
          have hs_145 := hs_143.pull 1 rfl
          exact hj193 r_140 _ hs_145 hp
        · replace hp := ifp_f hc_136 hp
          have hs_146 := hs.pull 1 rfl
          have hs_147 := hs_146.pull 1 rfl
          exact hj193 false _ hs_147 hp

def F65.J3p (lf : Nat) (xpx0_0 : List Int) (mpx0_1 : Int) : Option (Res (Int × Int) (Int × Int)) :=
  bindp (F67.p lf xpx0_0 mpx0_1) fun r_102 =>
  bindr (F52.p lf xpx0_0 r_102 (decide (r_102 < (xpx0_0.length : Int))) 10) (fun r_116 => some (.pan (r_116.1, r_116.2))) fun r_115 =>
  bindp (idxp xpx0_0 r_115) fun x_118 =>
  bindp (F51.p lf x_118) fun r_121 =>
  bindr (F52.p lf xpx0_0 r_115 r_121 9) (fun r_134 => some (.pan (r_134.1, r_134.2))) fun r_133 =>
  F65.L7p lf lf xpx0_0 r_133 0

theorem F65.J3_ok {ora : Ora} (hora : HOra ora) {lf ro : Nat} {F : List Ent} {r : (Res (Int × Int) (Int × Int))} {px0 : Nat} {apx0_0 : Option Addr} {cpx0_0 : Nat} {xpx0_0 : List Int} (mpx0_1 : Int) (h : Heap) (hs : Sat ro h (.own ro (some ⟨px0, 0, none⟩) 1 [.slice apx0_0 xpx0_0.length cpx0_0, .int .i64 mpx0_1] :: .row apx0_0 cpx0_0 (xpx0_0.map (Value.int .u8)) :: F)) (hp : F65.J3p lf xpx0_0 mpx0_1 = some r) : F65.Post px0 apx0_0 cpx0_0 xpx0_0 F ro r (F65.J3 (callW Tryd.prog ora) lf ro px0 0 h) := by
  unfold F65.J3
  unfold F65.J3p at hp
  have hs_99 := hs.pull 1 rfl
  have hs_100 := hs_99.dup
  have hs_101 := hs_100.pull 2 rfl
  obtain ⟨r_102, hx_103, hp⟩ := bindp_some hp
  obtain ⟨h_104, e_106, hs_105⟩ := F67.ok hora (ro := ro) (px0 := px0) (apx0_0 := apx0_0) (cpx0_0 := cpx0_0) (xpx0_0 := xpx0_0) (F := .row apx0_0 cpx0_0 (xpx0_0.map (Value.int .u8)) :: F) mpx0_1 _ hs_101 hx_103
  refine st_ok (Q := F65.Post px0 apx0_0 cpx0_0 xpx0_0 F ro r) isO e_106 ?_
  refine st_tup (Q := F65.Post px0 apx0_0 cpx0_0 xpx0_0 F ro r) (l := []) ?_
  refine st_nil (Q := F65.Post px0 apx0_0 cpx0_0 xpx0_0 F ro r) ?_
  refine st_load (Q := F65.Post px0 apx0_0 cpx0_0 xpx0_0 F ro r) isN hs_105 agg3 rfl ?_
  refine st_int (Q := F65.Post px0 apx0_0 cpx0_0 xpx0_0 F ro r) ?_
  refine st_load (Q := F65.Post px0 apx0_0 cpx0_0 xpx0_0 F ro r) isN hs_105 agg22 rfl ?_
  refine st_slice (Q := F65.Post px0 apx0_0 cpx0_0 xpx0_0 F ro r) ?_
  have hs_107 := hs_105.pull 1 rfl
  have hs_108 := hs_107.dup
  have hs_109 := hs_108.pull 2 rfl
  obtain ⟨r_110, hx_111, hp⟩ := bindr_some hp
  have hc_117 := F52.ok hora (ro := ro) (px0 := px0) (apx0_0 := apx0_0) (cpx0_0 := cpx0_0) (xpx0_0 := xpx0_0) (F := .row apx0_0 cpx0_0 (xpx0_0.map (Value.int .u8)) :: F) r_102 (decide (r_102 < (xpx0_0.length : Int))) 10 _ hs_109 hx_111
  cases r_110 with
  | ok r_115 =>
    replace hp := bindr_ok hp
    obtain ⟨h_112, e_114, hs_113⟩ := hc_117
    refine st_ok (Q := F65.Post px0 apx0_0 cpx0_0 xpx0_0 F ro r) isO e_114 ?_
    refine st_tup (Q := F65.Post px0 apx0_0 cpx0_0 xpx0_0 F ro r) (l := []) ?_
    refine st_nil (Q := F65.Post px0 apx0_0 cpx0_0 xpx0_0 F ro r) ?_
    refine st_load (Q := F65.Post px0 apx0_0 cpx0_0 xpx0_0 F ro r) isN hs_113 agg22 rfl ?_
    refine st_slice (Q := F65.Post px0 apx0_0 cpx0_0 xpx0_0 F ro r) ?_
    refine st_load (Q := F65.Post px0 apx0_0 cpx0_0 xpx0_0 F ro r) isN hs_113 agg3 rfl ?_
    refine st_int (Q := F65.Post px0 apx0_0 cpx0_0 xpx0_0 F ro r) ?_
    have hs_120 := hs_113.pull 1 rfl
    obtain ⟨x_118, hx_119, hp⟩ := bindp_some hp
    refine st_idxR (Q := F65.Post px0 apx0_0 cpx0_0 xpx0_0 F ro r) (l := xpx0_0) (f := (Value.int .u8)) isN isN hs_120 und22 siz5 agg5 rfl hx_119 ?_
    refine st_int (Q := F65.Post px0 apx0_0 cpx0_0 xpx0_0 F ro r) ?_
    obtain ⟨r_121, hx_122, hp⟩ := bindp_some hp
    obtain ⟨h_123, e_125, hs_124⟩ := F51.ok hora (ro := ro) (F := .row apx0_0 cpx0_0 (xpx0_0.map (Value.int .u8)) :: .own ro (some ⟨px0, 0, none⟩) 1 [.slice apx0_0 xpx0_0.length cpx0_0, .int .i64 r_115] :: F) x_118 _ hs_120 hx_122
    refine st_ok (Q := F65.Post px0 apx0_0 cpx0_0 xpx0_0 F ro r) isN e_125 ?_
    refine st_bool (Q := F65.Post px0 apx0_0 cpx0_0 xpx0_0 F ro r) ?_
    have hs_126 := hs_124.dup
    have hs_127 := hs_126.pull 2 rfl
    obtain ⟨r_128, hx_129, hp⟩ := bindr_some hp
    have hc_135 := F52.ok hora (ro := ro) (px0 := px0) (apx0_0 := apx0_0) (cpx0_0 := cpx0_0) (xpx0_0 := xpx0_0) (F := .row apx0_0 cpx0_0 (xpx0_0.map (Value.int .u8)) :: F) r_115 r_121 9 _ hs_127 hx_129
    cases r_128 with
    | ok r_133 =>
      replace hp := bindr_ok hp
      obtain ⟨h_130, e_132, hs_131⟩ := hc_135
      refine st_ok (Q := F65.Post px0 apx0_0 cpx0_0 xpx0_0 F ro r) isO e_132 ?_
      refine st_tup (Q := F65.Post px0 apx0_0 cpx0_0 xpx0_0 F ro r) (l := []) ?_
      refine st_nil (Q := F65.Post px0 apx0_0 cpx0_0 xpx0_0 F ro r) ?_
      have hs_163 := hs_131.pull 1 rfl
      have hs_164 := hs_163.pull 1 rfl
      exact F65.L7_ok hora lf r_133 0 _ hs_164 hp
    | pan r_134 =>
      replace hp := bindr_pan hp
      obtain ⟨h_165, e_167, hs_166⟩ := hc_135
      refine st_pan (Q := F65.Post px0 apx0_0 cpx0_0 xpx0_0 F ro r) e_167 ?_
      have hs_168 := hs_166.pull 1 rfl
      have hs_169 := hs_168.tail
      cases hp
      exact ⟨_, rfl, hs_169⟩
  | pan r_116 =>
    replace hp := bindr_pan hp
    obtain ⟨h_170, e_172, hs_171⟩ := hc_117
    refine st_pan (Q := F65.Post px0 apx0_0 cpx0_0 xpx0_0 F ro r) e_172 ?_
    have hs_173 := hs_171.pull 1 rfl
    have hs_174 := hs_173.tail
    cases hp
    exact ⟨_, rfl, hs_174⟩

def F65.p (lf : Nat) (xpx0_0 : List Int) (mpx0_1 : Int) : Option (Res (Int × Int) (Int × Int)) :=
  bindr (F52.p lf xpx0_0 mpx0_1 (decide (mpx0_1 < (xpx0_0.length : Int))) 10) (fun r_78 => some (.pan (r_78.1, r_78.2))) fun r_77 =>
  bindp (idxp xpx0_0 r_77) fun x_80 =>
  bindp (F36.p lf x_80) fun r_83 =>
  ifp r_83 (
    bindr (F52.p lf xpx0_0 r_77 true 9) (fun r_97 => some (.pan (r_97.1, r_97.2))) fun r_96 =>
    F65.J3p lf xpx0_0 r_96) (
    bindp (idxp xpx0_0 r_77) fun x_183 =>
    bindr (F52.p lf xpx0_0 r_77 (x_183 == 35) 9) (fun r_194 => some (.pan (r_194.1, r_194.2))) fun r_193 =>
    F65.J3p lf xpx0_0 r_193)

theorem F65.t_ok {ora : Ora} (hora : HOra ora) {lf ro : Nat} {F : List Ent} {r : (Res (Int × Int) (Int × Int))} {px0 : Nat} {apx0_0 : Option Addr} {cpx0_0 : Nat} {xpx0_0 : List Int} (mpx0_1 : Int) (h : Heap) (hs : Sat ro h (.own ro (some ⟨px0, 0, none⟩) 1 [.slice apx0_0 xpx0_0.length cpx0_0, .int .i64 mpx0_1] :: .row apx0_0 cpx0_0 (xpx0_0.map (Value.int .u8)) :: F)) (hp : F65.p lf xpx0_0 mpx0_1 = some r) : F65.Post px0 apx0_0 cpx0_0 xpx0_0 F ro r (F65.t (callW Tryd.prog ora) lf ro px0 0 h) := by
  unfold F65.t
  unfold F65.p at hp
  refine st_load (Q := F65.Post px0 apx0_0 cpx0_0 xpx0_0 F ro r) isN hs agg3 rfl ?_
  refine st_int (Q := F65.Post px0 apx0_0 cpx0_0 xpx0_0 F ro r) ?_
  refine st_load (Q := F65.Post px0 apx0_0 cpx0_0 xpx0_0 F ro r) isN hs agg22 rfl ?_
  refine st_slice (Q := F65.Post px0 apx0_0 cpx0_0 xpx0_0 F ro r) ?_
  have hs_69 := hs.pull 1 rfl
  have hs_70 := hs_69.dup
  have hs_71 := hs_70.pull 2 rfl
  obtain ⟨r_72, hx_73, hp⟩ := bindr_some hp
  have hc_79 := F52.ok hora (ro := ro) (px0 := px0) (apx0_0 := apx0_0) (cpx0_0 := cpx0_0) (xpx0_0 := xpx0_0) (F := .row apx0_0 cpx0_0 (xpx0_0.map (Value.int .u8)) :: F) mpx0_1 (decide (mpx0_1 < (xpx0_0.length : Int))) 10 _ hs_71 hx_73
  cases r_72 with
  | ok r_77 =>
    replace hp := bindr_ok hp
    obtain ⟨h_74, e_76, hs_75⟩ := hc_79
    refine st_ok (Q := F65.Post px0 apx0_0 cpx0_0 xpx0_0 F ro r) isO e_76 ?_
    refine st_tup (Q := F65.Post px0 apx0_0 cpx0_0 xpx0_0 F ro r) (l := []) ?_
    refine st_nil (Q := F65.Post px0 apx0_0 cpx0_0 xpx0_0 F ro r) ?_
    refine st_load (Q := F65.Post px0 apx0_0 cpx0_0 xpx0_0 F ro r) isN hs_75 agg22 rfl ?_
    refine st_slice (Q := F65.Post px0 apx0_0 cpx0_0 xpx0_0 F ro r) ?_
    refine st_load (Q := F65.Post px0 apx0_0 cpx0_0 xpx0_0 F ro r) isN hs_75 agg3 rfl ?_
    refine st_int (Q := F65.Post px0 apx0_0 cpx0_0 xpx0_0 F ro r) ?_
    have hs_82 := hs_75.pull 1 rfl
    obtain ⟨x_80, hx_81, hp⟩ := bindp_some hp
    refine st_idxR (Q := F65.Post px0 apx0_0 cpx0_0 xpx0_0 F ro r) (l := xpx0_0) (f := (Value.int .u8)) isN isN hs_82 und22 siz5 agg5 rfl hx_81 ?_
    refine st_int (Q := F65.Post px0 apx0_0 cpx0_0 xpx0_0 F ro r) ?_
    obtain ⟨r_83, hx_84, hp⟩ := bindp_some hp
    obtain ⟨h_85, e_87, hs_86⟩ := F36.ok hora (ro := ro) (F := .row apx0_0 cpx0_0 (xpx0_0.map (Value.int .u8)) :: .own ro (some ⟨px0, 0, none⟩) 1 [.slice apx0_0 xpx0_0.length cpx0_0, .int .i64 r_77] :: F) x_80 _ hs_82 hx_84
    refine st_ok (Q := F65.Post px0 apx0_0 cpx0_0 xpx0_0 F ro r) isN e_87 ?_
    refine st_bool (Q := F65.Post px0 apx0_0 cpx0_0 xpx0_0 F ro r) ?_
    refine st_if (Q := F65.Post px0 apx0_0 cpx0_0 xpx0_0 F ro r) (fun hc_88 => ?_) (fun hc_88 => ?_)
    · replace hp := ifp_t hc_88 hp
      have hs_89 := hs_86.dup
      have hs_90 := hs_89.pull 2 rfl
      obtain ⟨r_91, hx_92, hp⟩ := bindr_some hp
      have hc_98 := F52.ok hora (ro := ro) (px0 := px0) (apx0_0 := apx0_0) (cpx0_0 := cpx0_0) (xpx0_0 := xpx0_0) (F := .row apx0_0 cpx0_0 (xpx0_0.map (Value.int .u8)) :: F) r_77 true 9 _ hs_90 hx_92
      cases r_91 with
      | ok r_96 =>
        replace hp := bindr_ok hp
        obtain ⟨h_93, e_95, hs_94⟩ := hc_98
        refine st_ok (Q := F65.Post px0 apx0_0 cpx0_0 xpx0_0 F ro r) isO e_95 ?_
        refine st_tup (Q := F65.Post px0 apx0_0 cpx0_0 xpx0_0 F ro r) (l := []) ?_
        refine st_nil (Q := F65.Post px0 apx0_0 cpx0_0 xpx0_0 F ro r) ?_
        have hs_175 := hs_94.pull 1 rfl
        have hs_176 := hs_175.pull 1 rfl
        exact F65.J3_ok hora r_96 _ hs_176 hp
      | pan r_97 =>
        replace hp := bindr_pan hp
        obtain ⟨h_177, e_179, hs_178⟩ := hc_98
        refine st_pan (Q := F65.Post px0 apx0_0 cpx0_0 xpx0_0 F ro r) e_179 ?_
        have hs_180 := hs_178.pull 1 rfl
        have hs_181 := hs_180.tail
        cases hp
        exact ⟨_, rfl, hs_181⟩
    · replace hp := ifp_f hc_88 hp
      have hs_182 := hs_86.pull 1 rfl
      refine st_load (Q := F65.Post px0 apx0_0 cpx0_0 xpx0_0 F ro r) isN hs_182 agg22 rfl ?_
      refine st_slice (Q := F65.Post px0 apx0_0 cpx0_0 xpx0_0 F ro r) ?_
      refine st_load (Q := F65.Post px0 apx0_0 cpx0_0 xpx0_0 F ro r) isN hs_182 agg3 rfl ?_
      refine st_int (Q := F65.Post px0 apx0_0 cpx0_0 xpx0_0 F ro r) ?_
      have hs_185 := hs_182.pull 1 rfl
      obtain ⟨x_183, hx_184, hp⟩ := bindp_some hp
      refine st_idxR (Q := F65.Post px0 apx0_0 cpx0_0 xpx0_0 F ro r) (l := xpx0_0) (f := (Value.int .u8)) isN isN hs_185 und22 siz5 agg5 rfl hx_184 ?_
      refine st_int (Q := F65.Post px0 apx0_0 cpx0_0 xpx0_0 F ro r) ?_
      have hs_186 := hs_185.dup
      have hs_187 := hs_186.pull 2 rfl
      obtain ⟨r_188, hx_189, hp⟩ := bindr_some hp
      have hc_195 := F52.ok hora (ro := ro) (px0 := px0) (apx0_0 := apx0_0) (cpx0_0 := cpx0_0) (xpx0_0 := xpx0_0) (F := .row apx0_0 cpx0_0 (xpx0_0.map (Value.int .u8)) :: F) r_77 (x_183 == 35) 9 _ hs_187 hx_189
      cases r_188 with
      | ok r_193 =>
        replace hp := bindr_ok hp
        obtain ⟨h_190, e_192, hs_191⟩ := hc_195
        refine st_ok (Q := F65.Post px0 apx0_0 cpx0_0 xpx0_0 F ro r) isO e_192 ?_
        refine st_tup (Q := F65.Post px0 apx0_0 cpx0_0 xpx0_0 F ro r) (l := []) ?_
        refine st_nil (Q := F65.Post px0 apx0_0 cpx0_0 xpx0_0 F ro r) ?_
        have hs_196 := hs_191.pull 1 rfl
        have hs_197 := hs_196.pull 1 rfl
        exact F65.J3_ok hora r_193 _ hs_197 hp
      | pan r_194 =>
        replace hp := bindr_pan hp
        obtain ⟨h_198, e_200, hs_199⟩ := hc_195
        refine st_pan (Q := F65.Post px0 apx0_0 cpx0_0 xpx0_0 F ro r) e_200 ?_
        have hs_201 := hs_199.pull 1 rfl
        have hs_202 := hs_201.tail
        cases hp
        exact ⟨_, rfl, hs_202⟩
  | pan r_78 =>
    replace hp := bindr_pan hp
    obtain ⟨h_203, e_205, hs_204⟩ := hc_79
    refine st_pan (Q := F65.Post px0 apx0_0 cpx0_0 xpx0_0 F ro r) e_205 ?_
    have hs_206 := hs_204.pull 1 rfl
    have hs_207 := hs_206.tail
    cases hp
    exact ⟨_, rfl, hs_207⟩

theorem F65.ok {ora : Ora} (hora : HOra ora) {lf ro : Nat} {F : List Ent} {r : (Res (Int × Int) (Int × Int))} {px0 : Nat} {apx0_0 : Option Addr} {cpx0_0 : Nat} {xpx0_0 : List Int} (mpx0_1 : Int) (h : Heap) (hs : Sat ro h (.own ro (some ⟨px0, 0, none⟩) 1 [.slice apx0_0 xpx0_0.length cpx0_0, .int .i64 mpx0_1] :: .row apx0_0 cpx0_0 (xpx0_0.map (Value.int .u8)) :: F)) (hp : F65.p lf xpx0_0 mpx0_1 = some r) : F65.Post px0 apx0_0 cpx0_0 xpx0_0 F ro r (callW Tryd.prog ora ro 65 [.pointer (some ⟨px0, 0, none⟩)] h) := by
  have h1 := F65.t_ok hora mpx0_1 h hs hp
  have h2 : callW Tryd.prog ora ro 65 [.pointer (some ⟨px0, 0, none⟩)] h = _ := callW_body (hora.none _ _ _ _ (by decide)) Tryd.func65 (F65.le (callW Tryd.prog ora) lf ro px0 0 h) (F65.Post.ne h1)
  rw [h2]; exact h1

def F53.Post (px0 : Nat) (apx0_0 : Option Addr) (cpx0_0 : Nat) (xpx0_0 : List Int) (F : List Ent) (ro : Nat) (r : (Res (Int × Int) (Int × Int))) (x : Out) : Prop := match r with
  | .ok r => ∃ h', x = .ok (.int .i64 r.1) h' ∧ Sat ro h' (.own ro (some ⟨px0, 0, none⟩) 1 [.slice apx0_0 xpx0_0.length cpx0_0, .int .i64 r.2] :: F)
  | .pan r => ∃ h', x = .panic (.iface 77 (.agg #[.int .i64 r.1])) h' ∧ Sat ro h' (.own ro (some ⟨px0, 0, none⟩) 1 [.slice apx0_0 xpx0_0.length cpx0_0, .int .i64 r.2] :: F)
theorem F53.Post.ne {px0 : Nat} {apx0_0 : Option Addr} {cpx0_0 : Nat} {xpx0_0 : List Int} {F : List Ent} {ro : Nat} {r : (Res (Int × Int) (Int × Int))} {x : Out} (hx : F53.Post px0 apx0_0 cpx0_0 xpx0_0 F ro r x) : x ≠ .fail := by
  cases r with
  | ok r => obtain ⟨h', rfl, _⟩ := hx; simp
  | pan r => obtain ⟨h', rfl, _⟩ := hx; simp

def F53.p (lf : Nat) (xpx0_0 : List Int) (mpx0_1 : Int) (x1 : Int) (x2 : Int) : Option (Res (Int × Int) (Int × Int)) :=
  bindr (F65.p lf xpx0_0 mpx0_1) (fun r_217 => some (.pan (r_217.1, r_217.2))) fun r_216 =>
  bindr (F52.p lf xpx0_0 r_216.2 (decide (r_216.2 < (xpx0_0.length : Int))) 10) (fun r_228 => some (.pan (r_228.1, r_228.2))) fun r_227 =>
  letJ (fun (mj32_0_1 : Int) => (
    some (.ok (r_216.1, mj32_0_1)) : Option (Res (Int × Int) (Int × Int)))) fun j32p =>
  ifp (decide (r_216.1 ≥ x1)) (
    bindr (F52.p lf xpx0_0 r_227 (decide (r_216.1 ≤ x2)) 3) (fun r_240 => some (.pan (r_240.1, r_240.2))) fun r_239 =>
    j32p r_239) (
    bindr (F52.p lf xpx0_0 r_227 false 3) (fun r_258 => some (.pan (r_258.1, r_258.2))) fun r_257 =>
    j32p r_257)

theorem F53.t_ok {ora : Ora} (hora : HOra ora) {lf ro : Nat} {F : List Ent} {r : (Res (Int × Int) (Int × Int))} {px0 : Nat} {apx0_0 : Option Addr} {cpx0_0 : Nat} {xpx0_0 : List Int} (mpx0_1 : Int) (x1 : Int) (x2 : Int) (h : Heap) (hs : Sat ro h (.own ro (some ⟨px0, 0, none⟩) 1 [.slice apx0_0 xpx0_0.length cpx0_0, .int .i64 mpx0_1] :: .row apx0_0 cpx0_0 (xpx0_0.map (Value.int .u8)) :: F)) (hp : F53.p lf xpx0_0 mpx0_1 x1 x2 = some r) : F53.Post px0 apx0_0 cpx0_0 xpx0_0 F ro r (F53.t (callW Tryd.prog ora) lf ro px0 0 x1 x2 h) := by
  unfold F53.t
  unfold F53.p at hp
  have hs_208 := hs.pull 1 rfl
  have hs_209 := hs_208.dup
  have hs_210 := hs_209.pull 2 rfl
  obtain ⟨r_211, hx_212, hp⟩ := bindr_some hp
  have hc_218 := F65.ok hora (ro := ro) (px0 := px0) (apx0_0 := apx0_0) (cpx0_0 := cpx0_0) (xpx0_0 := xpx0_0) (F := .row apx0_0 cpx0_0 (xpx0_0.map (Value.int .u8)) :: F) mpx0_1 _ hs_210 hx_212
  cases r_211 with
  | ok r_216 =>
    replace hp := bindr_ok hp
    obtain ⟨h_213, e_215, hs_214⟩ := hc_218
    refine st_ok (Q := F53.Post px0 apx0_0 cpx0_0 xpx0_0 F ro r) isO e_215 ?_
    refine st_int (Q := F53.Post px0 apx0_0 cpx0_0 xpx0_0 F ro r) ?_
    refine st_load (Q := F53.Post px0 apx0_0 cpx0_0 xpx0_0 F ro r) isN hs_214 agg3 rfl ?_
    refine st_int (Q := F53.Post px0 apx0_0 cpx0_0 xpx0_0 F ro r) ?_
    refine st_load (Q := F53.Post px0 apx0_0 cpx0_0 xpx0_0 F ro r) isN hs_214 agg22 rfl ?_
    refine st_slice (Q := F53.Post px0 apx0_0 cpx0_0 xpx0_0 F ro r) ?_
    have hs_219 := hs_214.pull 1 rfl
    have hs_220 := hs_219.dup
    have hs_221 := hs_220.pull 2 rfl
    obtain ⟨r_222, hx_223, hp⟩ := bindr_some hp
    have hc_229 := F52.ok hora (ro := ro) (px0 := px0) (apx0_0 := apx0_0) (cpx0_0 := cpx0_0) (xpx0_0 := xpx0_0) (F := .row apx0_0 cpx0_0 (xpx0_0.map (Value.int .u8)) :: F) r_216.2 (decide (r_216.2 < (xpx0_0.length : Int))) 10 _ hs_221 hx_223
    cases r_222 with
    | ok r_227 =>
      replace hp := bindr_ok hp
      obtain ⟨h_224, e_226, hs_225⟩ := hc_229
      refine st_ok (Q := F53.Post px0 apx0_0 cpx0_0 xpx0_0 F ro r) isO e_226 ?_
      refine st_tup (Q := F53.Post px0 apx0_0 cpx0_0 xpx0_0 F ro r) (l := []) ?_
      refine st_nil (Q := F53.Post px0 apx0_0 cpx0_0 xpx0_0 F ro r) ?_
      refine st_letJ hp (fun j32p j32 => ∀ (mj32_0_1 : Int) (h_267 : Heap), Sat ro h_267 (.own ro (some ⟨px0, 0, none⟩) 1 [.slice apx0_0 xpx0_0.length cpx0_0, .int .i64 mj32_0_1] :: .row apx0_0 cpx0_0 (xpx0_0.map (Value.int .u8)) :: F) → j32p mj32_0_1 = some r → F53.Post px0 apx0_0 cpx0_0 xpx0_0 F ro r (j32 h_267)) ?_ ?_
      · intro mj32_0_1 h_267 hs hp
        have hs_268 := hs.pull 1 rfl
        have hs_269 := hs_268.tail
        cases hp
        exact ⟨_, rfl, hs_269⟩
      · intro j32p j32 hj32 hp
        refine st_if (Q := F53.Post px0 apx0_0 cpx0_0 xpx0_0 F ro r) (fun hc_230 => ?_) (fun hc_230 => ?_)
        · replace hp := ifp_t hc_230 hp
          have hs_231 := hs_225.pull 1 rfl
          have hs_232 := hs_231.dup
          have hs_233 := hs_232.pull 2 rfl
          obtain ⟨r_234, hx_235, hp⟩ := bindr_some hp
          have hc_241 := F52.ok hora (ro := ro) (px0 := px0) (apx0_0 := apx0_0) (cpx0_0 := cpx0_0) (xpx0_0 := xpx0_0) (F := .row apx0_0 cpx0_0 (xpx0_0.map (Value.int .u8)) :: F) r_227 (decide (r_216.1 ≤ x2)) 3 _ hs_233 hx_235
          cases r_234 with
          | ok r_239 =>
            replace hp := bindr_ok hp
            obtain ⟨h_236, e_238, hs_237⟩ := hc_241
            refine st_ok (Q := F53.Post px0 apx0_0 cpx0_0 xpx0_0 F ro r) isO e_238 ?_
            refine st_tup (Q := F53.Post px0 apx0_0 cpx0_0 xpx0_0 F ro r) (l := []) ?_
            refine st_nil (Q := F53.Post px0 apx0_0 cpx0_0 xpx0_0 F ro r) ?_
            have hs_242 := hs_237.pull 1 rfl
            have hs_243 := hs_242.pull 1 rfl
            exact hj32 r_239 _ hs_243 hp
          | pan r_240 =>
            replace hp := bindr_pan hp
            obtain ⟨h_244, e_246, hs_245⟩ := hc_241
            refine st_pan (Q := F53.Post px0 apx0_0 cpx0_0 xpx0_0 F ro r) e_246 ?_
            have hs_247 := hs_245.pull 1 rfl
            have hs_248 := hs_247.tail
            cases hp
            exact ⟨_, rfl, hs_248⟩
        · replace hp := ifp_f hc_230 hp
          have hs_249 := hs_225.pull 1 rfl
          have hs_250 := hs_249.dup
          have hs_251 := hs_250.pull 2 rfl
          obtain ⟨r_252, hx_253, hp⟩ := bindr_some hp
          have hc_259 := F52.ok hora (ro := ro) (px0 := px0) (apx0_0 := apx0_0) (cpx0_0 := cpx0_0) (xpx0_0 := xpx0_0) (F := .row apx0_0 cpx0_0 (xpx0_0.map (Value.int .u8)) :: F) r_227 false 3 _ hs_251 hx_253
          cases r_252 with
          | ok r_257 =>
            replace hp := bindr_ok hp
            obtain ⟨h_254, e_256, hs_255⟩ := hc_259
            refine st_ok (Q := F53.Post px0 apx0_0 cpx0_0 xpx0_0 F ro r) isO e_256 ?_
            refine st_tup (Q := F53.Post px0 apx0_0 cpx0_0 xpx0_0 F ro r) (l := []) ?_
            refine st_nil (Q := F53.Post px0 apx0_0 cpx0_0 xpx0_0 F ro r) ?_
            have hs_260 := hs_255.pull 1 rfl
            have hs_261 := hs_260.pull 1 rfl
            exact hj32 r_257 _ hs_261 hp
          | pan r_258 =>
            replace hp := bindr_pan hp
            obtain ⟨h_262, e_264, hs_263⟩ := hc_259
            refine st_pan (Q := F53.Post px0 apx0_0 cpx0_0 xpx0_0 F ro r) e_264 ?_
            have hs_265 := hs_263.pull 1 rfl
            have hs_266 := hs_265.tail
            cases hp
            exact ⟨_, rfl, hs_266⟩
    | pan r_228 =>
      replace hp := bindr_pan hp
      obtain ⟨h_270, e_272, hs_271⟩ := hc_229
      refine st_pan (Q := F53.Post px0 apx0_0 cpx0_0 xpx0_0 F ro r) e_272 ?_
      have hs_273 := hs_271.pull 1 rfl
      have hs_274 := hs_273.tail
      cases hp
      exact ⟨_, rfl, hs_274⟩
  | pan r_217 =>
    replace hp := bindr_pan hp
    obtain ⟨h_275, e_277, hs_276⟩ := hc_218
    refine st_pan (Q := F53.Post px0 apx0_0 cpx0_0 xpx0_0 F ro r) e_277 ?_
    have hs_278 := hs_276.pull 1 rfl
    have hs_279 := hs_278.tail
    cases hp
    exact ⟨_, rfl, hs_279⟩

theorem F53.ok {ora : Ora} (hora : HOra ora) {lf ro : Nat} {F : List Ent} {r : (Res (Int × Int) (Int × Int))} {px0 : Nat} {apx0_0 : Option Addr} {cpx0_0 : Nat} {xpx0_0 : List Int} (mpx0_1 : Int) (x1 : Int) (x2 : Int) (h : Heap) (hs : Sat ro h (.own ro (some ⟨px0, 0, none⟩) 1 [.slice apx0_0 xpx0_0.length cpx0_0, .int .i64 mpx0_1] :: .row apx0_0 cpx0_0 (xpx0_0.map (Value.int .u8)) :: F)) (hp : F53.p lf xpx0_0 mpx0_1 x1 x2 = some r) : F53.Post px0 apx0_0 cpx0_0 xpx0_0 F ro r (callW Tryd.prog ora ro 53 [.pointer (some ⟨px0, 0, none⟩), .int .i64 x1, .int .i64 x2] h) := by
  have h1 := F53.t_ok hora mpx0_1 x1 x2 h hs hp
  have h2 : callW Tryd.prog ora ro 53 [.pointer (some ⟨px0, 0, none⟩), .int .i64 x1, .int .i64 x2] h = _ := callW_body (hora.none _ _ _ _ (by decide)) Tryd.func53 (F53.le (callW Tryd.prog ora) lf ro px0 0 x1 x2 h) (F53.Post.ne h1)
  rw [h2]; exact h1

def F66.Post (F : List Ent) (ro : Nat) (r : (Int)) (x : Out) : Prop := ∃ h', x = .ok (.int .u8 r) h' ∧ Sat ro h' (F)
theorem F66.Post.ne {F : List Ent} {ro : Nat} {r : (Int)} {x : Out} (hx : F66.Post F ro r x) : x ≠ .fail := by
  obtain ⟨h', rfl, _⟩ := hx
  simp

def F66.p (lf : Nat) (x0 : Int) (x1 : Int) : Option (Int) :=
  bindp (quop .i64 (IntKind.i64.wrap ((IntKind.i64.wrap (255 * x0)) + (IntKind.i64.wrap (Int.tdiv x1 2)))) x1) fun n_280 =>
  some (IntKind.u8.wrap n_280)

theorem F66.t_ok {ora : Ora} (hora : HOra ora) {lf ro : Nat} {F : List Ent} {r : (Int)} (x0 : Int) (x1 : Int) (h : Heap) (hs : Sat ro h (F)) (hp : F66.p lf x0 x1 = some r) : F66.Post F ro r (F66.t (callW Tryd.prog ora) lf ro x0 x1 h) := by
  unfold F66.t
  unfold F66.p at hp
  obtain ⟨n_280, hx_281, hp⟩ := bindp_some hp
  refine st_quo (Q := F66.Post F ro r) isO hx_281 ?_
  refine st_int (Q := F66.Post F ro r) ?_
  cases hp
  exact ⟨_, rfl, hs⟩

theorem F66.ok {ora : Ora} (hora : HOra ora) {lf ro : Nat} {F : List Ent} {r : (Int)} (x0 : Int) (x1 : Int) (h : Heap) (hs : Sat ro h (F)) (hp : F66.p lf x0 x1 = some r) : F66.Post F ro r (callW Tryd.prog ora ro 66 [.int .i64 x0, .int .i64 x1] h) := by
  have h1 := F66.t_ok hora x0 x1 h hs hp
  have h2 : callW Tryd.prog ora ro 66 [.int .i64 x0, .int .i64 x1] h = _ := callW_body (hora.none _ _ _ _ (by decide)) Tryd.func66 (F66.le (callW Tryd.prog ora) lf ro x0 x1 h) (F66.Post.ne h1)
  rw [h2]; exact h1

def F68.Post (F : List Ent) (ro : Nat) (r : (Int)) (x : Out) : Prop := ∃ h', x = .ok (.int .u8 r) h' ∧ Sat ro h' (F)
theorem F68.Post.ne {F : List Ent} {ro : Nat} {r : (Int)} {x : Out} (hx : F68.Post F ro r x) : x ≠ .fail := by
  obtain ⟨h', rfl, _⟩ := hx
  simp

def F68.p (lf : Nat) (x0 : Bool) : Option (Int) :=
  ifp x0 (
    some 0) (
    some 255)

theorem F68.t_ok {ora : Ora} (hora : HOra ora) {lf ro : Nat} {F : List Ent} {r : (Int)} (x0 : Bool) (h : Heap) (hs : Sat ro h (F)) (hp : F68.p lf x0 = some r) : F68.Post F ro r (F68.t (callW Tryd.prog ora) lf ro x0 h) := by
  unfold F68.t
  unfold F68.p at hp
  refine st_if (Q := F68.Post F ro r) (fun hc_282 => ?_) (fun hc_282 => ?_)
  · replace hp := ifp_t hc_282 hp
    cases hp
    exact ⟨_, rfl, hs⟩
  · replace hp := ifp_f hc_282 hp
    cases hp
    exact ⟨_, rfl, hs⟩

theorem F68.ok {ora : Ora} (hora : HOra ora) {lf ro : Nat} {F : List Ent} {r : (Int)} (x0 : Bool) (h : Heap) (hs : Sat ro h (F)) (hp : F68.p lf x0 = some r) : F68.Post F ro r (callW Tryd.prog ora ro 68 [.bool x0] h) := by
  have h1 := F68.t_ok hora x0 h hs hp
  have h2 : callW Tryd.prog ora ro 68 [.bool x0] h = _ := callW_body (hora.none _ _ _ _ (by decide)) Tryd.func68 (F68.le (callW Tryd.prog ora) lf ro x0 h) (F68.Post.ne h1)
  rw [h2]; exact h1

def F56.Post (px0 : Nat) (apx0_0 : Option Addr) (cpx0_0 : Nat) (xpx0_0 : List Int) (px1 : Nat) (F : List Ent) (ro : Nat) (r : (Res (Int × Int × Int × List Int) (Int × Int × Int × Int × List Int))) (x : Out) : Prop := match r with
  | .ok r => ∃ bpx1_2 h', x = .ok (.tuple #[]) h' ∧ Sat ro h' (.own ro (some ⟨px0, 0, none⟩) 1 [.slice apx0_0 xpx0_0.length cpx0_0, .int .i64 r.1] :: .own ro (some ⟨px1, 0, none⟩) 1 [.int .i64 r.2.1, .int .i64 r.2.2.1, .slice bpx1_2 r.2.2.2.length r.2.2.2.length] :: .own ro bpx1_2 1 (r.2.2.2.map (Value.int .u8)) :: F)
  | .pan r => ∃ bpx1_2 h', x = .panic (.iface 77 (.agg #[.int .i64 r.1])) h' ∧ Sat ro h' (.own ro (some ⟨px0, 0, none⟩) 1 [.slice apx0_0 xpx0_0.length cpx0_0, .int .i64 r.2.1] :: .own ro (some ⟨px1, 0, none⟩) 1 [.int .i64 r.2.2.1, .int .i64 r.2.2.2.1, .slice bpx1_2 r.2.2.2.2.length r.2.2.2.2.length] :: .own ro bpx1_2 1 (r.2.2.2.2.map (Value.int .u8)) :: F)
theorem F56.Post.ne {px0 : Nat} {apx0_0 : Option Addr} {cpx0_0 : Nat} {xpx0_0 : List Int} {px1 : Nat} {F : List Ent} {ro : Nat} {r : (Res (Int × Int × Int × List Int) (Int × Int × Int × Int × List Int))} {x : Out} (hx : F56.Post px0 apx0_0 cpx0_0 xpx0_0 px1 F ro r x) : x ≠ .fail := by
  cases r with
  | ok r => obtain ⟨bpx1_2, h', rfl, _⟩ := hx; simp
  | pan r => obtain ⟨bpx1_2, h', rfl, _⟩ := hx; simp

def F56.J8p (lf : Nat) (kb7p : List Int → Int → Int → Int → List Int → Int → Int → Int → Int → Int → Option (Res (Int × Int × Int × List Int) (Int × Int × Int × Int × List Int))) (xpx0_0 : List Int) (mpx0_1 : Int) (mpx1_0 : Int) (mpx1_1 : Int) (xpx1_2 : List Int) (n100 : Int) (n101 : Int) (n102 : Int) (n103 : Int) (n104 : Int) : Option (Res (Int × Int × Int × List Int) (Int × Int × Int × Int × List Int)) :=
  letJ (fun (mj583_0_1 : Int) (mj583_2_0 : Int) (mj583_2_1 : Int) (xj583_2_2 : List Int) => (
    kb7p xpx0_0 mj583_0_1 mj583_2_0 mj583_2_1 xj583_2_2 n100 n101 n102 n103 (IntKind.i64.wrap (n104 + 1)) : Option (Res (Int × Int × Int × List Int) (Int × Int × Int × Int × List Int)))) fun j583p =>
  bindp (remp n104 mpx1_0) fun n_320 =>
  bindp (quop .i64 n104 mpx1_0) fun n_322 =>
  ifp (n100 == 4) (
    bindp (idxp xpx0_0 (IntKind.i64.wrap ((IntKind.i64.wrap (mpx0_1 + (IntKind.i64.wrap (n_322 * n102)))) + (IntKind.i64.wrap (Int.tdiv n_320 8))))) fun x_326 =>
    bindp (shrp .u8 x_326 (IntKind.u64.wrap (IntKind.i64.wrap (7 - (Int.tmod n_320 8))))) fun n_329 =>
    bindp (F68.p lf ((bAnd .u8 n_329 1) == 1)) fun r_331 =>
    bindp (setp xpx1_2 n104 r_331) fun x_336 =>
    j583p mpx0_1 mpx1_0 mpx1_1 x_336) (
    bindp (idxp xpx0_0 (IntKind.i64.wrap (mpx0_1 + n104))) fun x_346 =>
    bindr (F52.p lf xpx0_0 mpx0_1 (decide (IntKind.i64.wrap x_346 ≤ n101)) 3) (fun r_357 => some (.pan (r_357.1, r_357.2, mpx1_0, mpx1_1, xpx1_2))) fun r_356 =>
    bindp (F66.p lf (IntKind.i64.wrap x_346) n101) fun r_360 =>
    bindp (setp xpx1_2 n104 r_360) fun x_365 =>
    j583p r_356 mpx1_0 mpx1_1 x_365)

theorem F56.J8_ok {ora : Ora} (hora : HOra ora) {lf ro : Nat} {F : List Ent} {r : (Res (Int × Int × Int × List Int) (Int × Int × Int × Int × List Int))} {px0 : Nat} {apx0_0 : Option Addr} {cpx0_0 : Nat} {xpx0_0 : List Int} {px1 : Nat} {kb7p : List Int → Int → Int → Int → List Int → Int → Int → Int → Int → Int → Option (Res (Int × Int × Int × List Int) (Int × Int × Int × Int × List Int))} {kb7 : Nat → Nat → Nat → Nat → Int → Int → Int → Int → Int → Heap → Out} (hkb7 : ∀ (mpx0_1 : Int) (mpx1_0 : Int) (mpx1_1 : Int) (apx1_2 : Option Addr) (xpx1_2 : List Int) (n92 : Int) (n93 : Int) (n94 : Int) (n95 : Int) (n96 : Int) (h : Heap), Sat ro h (.own ro (some ⟨px0, 0, none⟩) 1 [.slice apx0_0 xpx0_0.length cpx0_0, .int .i64 mpx0_1] :: .row apx0_0 cpx0_0 (xpx0_0.map (Value.int .u8)) :: .own ro (some ⟨px1, 0, none⟩) 1 [.int .i64 mpx1_0, .int .i64 mpx1_1, .slice apx1_2 xpx1_2.length xpx1_2.length] :: .own ro apx1_2 1 (xpx1_2.map (Value.int .u8)) :: F) → kb7p xpx0_0 mpx0_1 mpx1_0 mpx1_1 xpx1_2 n92 n93 n94 n95 n96 = some r → F56.Post px0 apx0_0 cpx0_0 xpx0_0 px1 F ro r (kb7 px0 0 px1 0 n92 n93 n94 n95 n96 h)) (mpx0_1 : Int) (mpx1_0 : Int) (mpx1_1 : Int) (apx1_2 : Option Addr) (xpx1_2 : List Int) (n100 : Int) (n101 : Int) (n102 : Int) (n103 : Int) (n104 : Int) (h : Heap) (hs : Sat ro h (.own ro (some ⟨px0, 0, none⟩) 1 [.slice apx0_0 xpx0_0.length cpx0_0, .int .i64 mpx0_1] :: .row apx0_0 cpx0_0 (xpx0_0.map (Value.int .u8)) :: .own ro (some ⟨px1, 0, none⟩) 1 [.int .i64 mpx1_0, .int .i64 mpx1_1, .slice apx1_2 xpx1_2.length xpx1_2.length] :: .own ro apx1_2 1 (xpx1_2.map (Value.int .u8)) :: F)) (hp : F56.J8p lf kb7p xpx0_0 mpx0_1 mpx1_0 mpx1_1 xpx1_2 n100 n101 n102 n103 n104 = some r) : F56.Post px0 apx0_0 cpx0_0 xpx0_0 px1 F ro r (F56.J8 (callW Tryd.prog ora) lf ro kb7 px0 0 px1 0 n100 n101 n102 n103 n104 h) := by
  unfold F56.J8
  unfold F56.J8p at hp
  refine st_letJ hp (fun j583p j583 => ∀ (mj583_0_1 : Int) (mj583_2_0 : Int) (mj583_2_1 : Int) (aj583_2_2 : Option Addr) (xj583_2_2 : List Int) (h_382 : Heap), Sat ro h_382 (.own ro (some ⟨px0, 0, none⟩) 1 [.slice apx0_0 xpx0_0.length cpx0_0, .int .i64 mj583_0_1] :: .row apx0_0 cpx0_0 (xpx0_0.map (Value.int .u8)) :: .own ro (some ⟨px1, 0, none⟩) 1 [.int .i64 mj583_2_0, .int .i64 mj583_2_1, .slice aj583_2_2 xj583_2_2.length xj583_2_2.length] :: .own ro aj583_2_2 1 (xj583_2_2.map (Value.int .u8)) :: F) → j583p mj583_0_1 mj583_2_0 mj583_2_1 xj583_2_2 = some r → F56.Post px0 apx0_0 cpx0_0 xpx0_0 px1 F ro r (j583 h_382)) ?_ ?_
  · intro mj583_0_1 mj583_2_0 mj583_2_1 aj583_2_2 xj583_2_2 h_382 hs hp
    have hs_383 := hs.pull 3 rfl
    have hs_384 := hs_383.pull 3 rfl
    have hs_385 := hs_384.pull 3 rfl
    have hs_386 := hs_385.pull 3 rfl
    exact hkb7 mj583_0_1 mj583_2_0 mj583_2_1 aj583_2_2 xj583_2_2 n100 n101 n102 n103 (IntKind.i64.wrap (n104 + 1)) _ hs_386 hp
  · intro j583p j583 hj583 hp
    have hs_319 := hs.pull 2 rfl
    refine st_load (Q := F56.Post px0 apx0_0 cpx0_0 xpx0_0 px1 F ro r) isN hs_319 agg3 rfl ?_
    refine st_int (Q := F56.Post px0 apx0_0 cpx0_0 xpx0_0 px1 F ro r) ?_
    obtain ⟨n_320, hx_321, hp⟩ := bindp_some hp
    refine st_rem (Q := F56.Post px0 apx0_0 cpx0_0 xpx0_0 px1 F ro r) isN hx_321 ?_
    refine st_int (Q := F56.Post px0 apx0_0 cpx0_0 xpx0_0 px1 F ro r) ?_
    refine st_load (Q := F56.Post px0 apx0_0 cpx0_0 xpx0_0 px1 F ro r) isN hs_319 agg3 rfl ?_
    refine st_int (Q := F56.Post px0 apx0_0 cpx0_0 xpx0_0 px1 F ro r) ?_
    obtain ⟨n_322, hx_323, hp⟩ := bindp_some hp
    refine st_quo (Q := F56.Post px0 apx0_0 cpx0_0 xpx0_0 px1 F ro r) isN hx_323 ?_
    refine st_int (Q := F56.Post px0 apx0_0 cpx0_0 xpx0_0 px1 F ro r) ?_
    refine st_if (Q := F56.Post px0 apx0_0 cpx0_0 xpx0_0 px1 F ro r) (fun hc_324 => ?_) (fun hc_324 => ?_)
    · replace hp := ifp_t hc_324 hp
      refine st_load (Q := F56.Post px0 apx0_0 cpx0_0 xpx0_0 px1 F ro r) isN hs_319 agg22 rfl ?_
      refine st_slice (Q := F56.Post px0 apx0_0 cpx0_0 xpx0_0 px1 F ro r) ?_
      have hs_325 := hs_319.pull 1 rfl
      refine st_load (Q := F56.Post px0 apx0_0 cpx0_0 xpx0_0 px1 F ro r) isN hs_325 agg22 rfl ?_
      refine st_slice (Q := F56.Post px0 apx0_0 cpx0_0 xpx0_0 px1 F ro r) ?_
      refine st_load (Q := F56.Post px0 apx0_0 cpx0_0 xpx0_0 px1 F ro r) isN hs_325 agg3 rfl ?_
      refine st_int (Q := F56.Post px0 apx0_0 cpx0_0 xpx0_0 px1 F ro r) ?_
      have hs_328 := hs_325.pull 2 rfl
      obtain ⟨x_326, hx_327, hp⟩ := bindp_some hp
      refine st_idxR (Q := F56.Post px0 apx0_0 cpx0_0 xpx0_0 px1 F ro r) (l := xpx0_0) (f := (Value.int .u8)) isN isN hs_328 und22 siz5 agg5 rfl hx_327 ?_
      refine st_int (Q := F56.Post px0 apx0_0 cpx0_0 xpx0_0 px1 F ro r) ?_
      obtain ⟨n_329, hx_330, hp⟩ := bindp_some hp
      refine st_shr (Q := F56.Post px0 apx0_0 cpx0_0 xpx0_0 px1 F ro r) isN hx_330 ?_
      refine st_int (Q := F56.Post px0 apx0_0 cpx0_0 xpx0_0 px1 F ro r) ?_
      obtain ⟨r_331, hx_332, hp⟩ := bindp_some hp
      obtain ⟨h_333, e_335, hs_334⟩ := F68.ok hora (ro := h.next) (F := .row apx0_0 cpx0_0 (xpx0_0.map (Value.int .u8)) :: .own ro (some ⟨px0, 0, none⟩) 1 [.slice apx0_0 xpx0_0.length cpx0_0, .int .i64 mpx0_1] :: .own ro (some ⟨px1, 0, none⟩) 1 [.int .i64 mpx1_0, .int .i64 mpx1_1, .slice apx1_2 xpx1_2.length xpx1_2.length] :: .own ro apx1_2 1 (xpx1_2.map (Value.int .u8)) :: F) ((bAnd .u8 n_329 1) == 1) _ (hs_328.ro' (Nat.le_refl _)) hx_332
      refine st_ok (Q := F56.Post px0 apx0_0 cpx0_0 xpx0_0 px1 F ro r) isN e_335 ?_
      replace hs_334 := hs_334.ro' (Nat.le_trans hs_328.low hs_334.low)
      refine st_int (Q := F56.Post px0 apx0_0 cpx0_0 xpx0_0 px1 F ro r) ?_
      have hs_338 := hs_334.pull 3 rfl
      obtain ⟨x_336, hx_337, hp⟩ := bindp_some hp
      refine st_idxS (Q := F56.Post px0 apx0_0 cpx0_0 xpx0_0 px1 F ro r) (l := xpx1_2) (f := (Value.int .u8)) isO isO hs_338 und22 siz5 siz5 (fun _ => rfl) rfl hx_337 fun h_339 hs_340 => ?_
      have hl_341 := setp_len hx_337
      try simp only [hl_341] at hs_340 hp ⊢
      have hs_342 := hs_340.pull 3 rfl
      have hs_343 := hs_342.pull 2 rfl
      have hs_344 := hs_343.pull 3 rfl
      exact hj583 mpx0_1 mpx1_0 mpx1_1 apx1_2 x_336 _ hs_344 hp
    · replace hp := ifp_f hc_324 hp
      have hs_345 := hs_319.pull 1 rfl
      refine st_load (Q := F56.Post px0 apx0_0 cpx0_0 xpx0_0 px1 F ro r) isN hs_345 agg22 rfl ?_
      refine st_slice (Q := F56.Post px0 apx0_0 cpx0_0 xpx0_0 px1 F ro r) ?_
      refine st_load (Q := F56.Post px0 apx0_0 cpx0_0 xpx0_0 px1 F ro r) isN hs_345 agg3 rfl ?_
      refine st_int (Q := F56.Post px0 apx0_0 cpx0_0 xpx0_0 px1 F ro r) ?_
      have hs_348 := hs_345.pull 2 rfl
      obtain ⟨x_346, hx_347, hp⟩ := bindp_some hp
      refine st_idxR (Q := F56.Post px0 apx0_0 cpx0_0 xpx0_0 px1 F ro r) (l := xpx0_0) (f := (Value.int .u8)) isO isO hs_348 und22 siz5 agg5 rfl hx_347 ?_
      refine st_int (Q := F56.Post px0 apx0_0 cpx0_0 xpx0_0 px1 F ro r) ?_
      have hs_349 := hs_348.dup
      have hs_350 := hs_349.pull 2 rfl
      obtain ⟨r_351, hx_352, hp⟩ := bindr_some hp
      have hc_358 := F52.ok hora (ro := ro) (px0 := px0) (apx0_0 := apx0_0) (cpx0_0 := cpx0_0) (xpx0_0 := xpx0_0) (F := .row apx0_0 cpx0_0 (xpx0_0.map (Value.int .u8)) :: .own ro (some ⟨px1, 0, none⟩) 1 [.int .i64 mpx1_0, .int .i64 mpx1_1, .slice apx1_2 xpx1_2.length xpx1_2.length] :: .own ro apx1_2 1 (xpx1_2.map (Value.int .u8)) :: F) mpx0_1 (decide (IntKind.i64.wrap x_346 ≤ n101)) 3 _ hs_350 hx_352
      cases r_351 with
      | ok r_356 =>
        replace hp := bindr_ok hp
        obtain ⟨h_353, e_355, hs_354⟩ := hc_358
        refine st_ok (Q := F56.Post px0 apx0_0 cpx0_0 xpx0_0 px1 F ro r) isO e_355 ?_
        refine st_tup (Q := F56.Post px0 apx0_0 cpx0_0 xpx0_0 px1 F ro r) (l := []) ?_
        refine st_nil (Q := F56.Post px0 apx0_0 cpx0_0 xpx0_0 px1 F ro r) ?_
        have hs_359 := hs_354.pull 2 rfl
        refine st_load (Q := F56.Post px0 apx0_0 cpx0_0 xpx0_0 px1 F ro r) isN hs_359 agg22 rfl ?_
        refine st_slice (Q := F56.Post px0 apx0_0 cpx0_0 xpx0_0 px1 F ro r) ?_
        obtain ⟨r_360, hx_361, hp⟩ := bindp_some hp
        obtain ⟨h_362, e_364, hs_363⟩ := F66.ok hora (ro := h_353.next) (F := .own ro (some ⟨px1, 0, none⟩) 1 [.int .i64 mpx1_0, .int .i64 mpx1_1, .slice apx1_2 xpx1_2.length xpx1_2.length] :: .own ro (some ⟨px0, 0, none⟩) 1 [.slice apx0_0 xpx0_0.length cpx0_0, .int .i64 r_356] :: .row apx0_0 cpx0_0 (xpx0_0.map (Value.int .u8)) :: .own ro apx1_2 1 (xpx1_2.map (Value.int .u8)) :: F) (IntKind.i64.wrap x_346) n101 _ (hs_359.ro' (Nat.le_refl _)) hx_361
        refine st_ok (Q := F56.Post px0 apx0_0 cpx0_0 xpx0_0 px1 F ro r) isN e_364 ?_
        replace hs_363 := hs_363.ro' (Nat.le_trans hs_359.low hs_363.low)
        refine st_int (Q := F56.Post px0 apx0_0 cpx0_0 xpx0_0 px1 F ro r) ?_
        have hs_367 := hs_363.pull 3 rfl
        obtain ⟨x_365, hx_366, hp⟩ := bindp_some hp
        refine st_idxS (Q := F56.Post px0 apx0_0 cpx0_0 xpx0_0 px1 F ro r) (l := xpx1_2) (f := (Value.int .u8)) isO isO hs_367 und22 siz5 siz5 (fun _ => rfl) rfl hx_366 fun h_368 hs_369 => ?_
        have hl_370 := setp_len hx_366
        try simp only [hl_370] at hs_369 hp ⊢
        have hs_371 := hs_369.pull 1 rfl
        have hs_372 := hs_371.pull 3 rfl
        have hs_373 := hs_372.pull 3 rfl
        exact hj583 r_356 mpx1_0 mpx1_1 apx1_2 x_365 _ hs_373 hp
      | pan r_357 =>
        replace hp := bindr_pan hp
        obtain ⟨h_374, e_376, hs_375⟩ := hc_358
        refine st_pan (Q := F56.Post px0 apx0_0 cpx0_0 xpx0_0 px1 F ro r) e_376 ?_
        have hs_377 := hs_375.pull 1 rfl
        have hs_378 := hs_377.tail
        have hs_379 := hs_378.pull 2 rfl
        have hs_380 := hs_379.pull 2 rfl
        have hs_381 := hs_380.pull 2 rfl
        cases hp
        exact ⟨apx1_2, _, rfl, hs_381⟩

def F56.L7p (lf : Nat) : Nat → List Int → Int → Int → Int → List Int → Int → Int → Int → Int → Int → Option (Res (Int × Int × Int × List Int) (Int × Int × Int × Int × List Int))
  | 0, _, _, _, _, _, _, _, _, _, _ => none
  | n + 1, xpx0_0, mpx0_1, mpx1_0, mpx1_1, xpx1_2, n92, n93, n94, n95, n96 =>
  ifp (decide (n96 < n95)) (
    F56.J8p lf (F56.L7p lf n) xpx0_0 mpx0_1 mpx1_0 mpx1_1 xpx1_2 n92 n93 n94 n95 n96) (
    some (.ok (IntKind.i64.wrap (mpx0_1 + (IntKind.i64.wrap (n94 * mpx1_1))), mpx1_0, mpx1_1, xpx1_2)))

theorem F56.L7_ok {ora : Ora} (hora : HOra ora) {lf ro : Nat} {F : List Ent} {r : (Res (Int × Int × Int × List Int) (Int × Int × Int × Int × List Int))} {px0 : Nat} {apx0_0 : Option Addr} {cpx0_0 : Nat} {xpx0_0 : List Int} {px1 : Nat} : ∀ (n : Nat) (mpx0_1 : Int) (mpx1_0 : Int) (mpx1_1 : Int) (apx1_2 : Option Addr) (xpx1_2 : List Int) (n92 : Int) (n93 : Int) (n94 : Int) (n95 : Int) (n96 : Int) (h : Heap), Sat ro h (.own ro (some ⟨px0, 0, none⟩) 1 [.slice apx0_0 xpx0_0.length cpx0_0, .int .i64 mpx0_1] :: .row apx0_0 cpx0_0 (xpx0_0.map (Value.int .u8)) :: .own ro (some ⟨px1, 0, none⟩) 1 [.int .i64 mpx1_0, .int .i64 mpx1_1, .slice apx1_2 xpx1_2.length xpx1_2.length] :: .own ro apx1_2 1 (xpx1_2.map (Value.int .u8)) :: F) → F56.L7p lf n xpx0_0 mpx0_1 mpx1_0 mpx1_1 xpx1_2 n92 n93 n94 n95 n96 = some r → F56.Post px0 apx0_0 cpx0_0 xpx0_0 px1 F ro r (F56.L7 (callW Tryd.prog ora) lf ro n px0 0 px1 0 n92 n93 n94 n95 n96 h) := by
  intro n
  induction n with
  | zero => intro mpx0_1 mpx1_0 mpx1_1 apx1_2 xpx1_2 n92 n93 n94 n95 n96 h hs hp; cases hp
  | succ n ih =>
    intro mpx0_1 mpx1_0 mpx1_1 apx1_2 xpx1_2 n92 n93 n94 n95 n96 h hs hp
    unfold F56.L7
    unfold F56.L7p at hp
    refine st_if (Q := F56.Post px0 apx0_0 cpx0_0 xpx0_0 px1 F ro r) (fun hc_318 => ?_) (fun hc_318 => ?_)
    · replace hp := ifp_t hc_318 hp
      have hs_387 := hs.pull 3 rfl
      have hs_388 := hs_387.pull 3 rfl
      have hs_389 := hs_388.pull 3 rfl
      have hs_390 := hs_389.pull 3 rfl
      exact F56.J8_ok hora ih mpx0_1 mpx1_0 mpx1_1 apx1_2 xpx1_2 n92 n93 n94 n95 n96 _ hs_390 hp
    · replace hp := ifp_f hc_318 hp
      refine st_load (Q := F56.Post px0 apx0_0 cpx0_0 xpx0_0 px1 F ro r) isN hs agg3 rfl ?_
      refine st_int (Q := F56.Post px0 apx0_0 cpx0_0 xpx0_0 px1 F ro r) ?_
      have hs_391 := hs.pull 2 rfl
      refine st_load (Q := F56.Post px0 apx0_0 cpx0_0 xpx0_0 px1 F ro r) isN hs_391 agg3 rfl ?_
      refine st_int (Q := F56.Post px0 apx0_0 cpx0_0 xpx0_0 px1 F ro r) ?_
      have hs_392 := hs_391.pull 1 rfl
      refine st_store (Q := F56.Post px0 apx0_0 cpx0_0 xpx0_0 px1 F ro r) isO hs_392 siz3 rfl (Nat.le_of_ble_eq_true rfl) fun h_393 hs_394 => ?_
      have hs_395 := hs_394.pull 2 rfl
      have hs_396 := hs_395.tail
      have hs_397 := hs_396.pull 2 rfl
      have hs_398 := hs_397.pull 2 rfl
      have hs_399 := hs_398.pull 2 rfl
      cases hp
      exact ⟨apx1_2, _, rfl, hs_399⟩

def F56.J5p (lf : Nat) (xpx0_0 : List Int) (mpx0_1 : Int) (mpx1_0 : Int) (mpx1_1 : Int) (xpx1_2 : List Int) (n56 : Int) (n57 : Int) (n58 : Int) : Option (Res (Int × Int × Int × List Int) (Int × Int × Int × Int × List Int)) :=
  bindr (F52.p lf xpx0_0 mpx0_1 (decide (IntKind.i64.wrap ((xpx0_0.length : Int) - mpx0_1) ≥ IntKind.i64.wrap (n58 * mpx1_1))) 10) (fun r_315 => some (.pan (r_315.1, r_315.2, mpx1_0, mpx1_1, xpx1_2))) fun r_314 =>
  F56.L7p lf lf xpx0_0 r_314 mpx1_0 mpx1_1 xpx1_2 n56 n57 n58 (xpx1_2.length : Int) 0

theorem F56.J5_ok {ora : Ora} (hora : HOra ora) {lf ro : Nat} {F : List Ent} {r : (Res (Int × Int × Int × List Int) (Int × Int × Int × Int × List Int))} {px0 : Nat} {apx0_0 : Option Addr} {cpx0_0 : Nat} {xpx0_0 : List Int} {px1 : Nat} (mpx0_1 : Int) (mpx1_0 : Int) (mpx1_1 : Int) (apx1_2 : Option Addr) (xpx1_2 : List Int) (n56 : Int) (n57 : Int) (n58 : Int) (h : Heap) (hs : Sat ro h (.own ro (some ⟨px0, 0, none⟩) 1 [.slice apx0_0 xpx0_0.length cpx0_0, .int .i64 mpx0_1] :: .row apx0_0 cpx0_0 (xpx0_0.map (Value.int .u8)) :: .own ro (some ⟨px1, 0, none⟩) 1 [.int .i64 mpx1_0, .int .i64 mpx1_1, .slice apx1_2 xpx1_2.length xpx1_2.length] :: .own ro apx1_2 1 (xpx1_2.map (Value.int .u8)) :: F)) (hp : F56.J5p lf xpx0_0 mpx0_1 mpx1_0 mpx1_1 xpx1_2 n56 n57 n58 = some r) : F56.Post px0 apx0_0 cpx0_0 xpx0_0 px1 F ro r (F56.J5 (callW Tryd.prog ora) lf ro px0 0 px1 0 n56 n57 n58 h) := by
  unfold F56.J5
  unfold F56.J5p at hp
  refine st_load (Q := F56.Post px0 apx0_0 cpx0_0 xpx0_0 px1 F ro r) isN hs agg22 rfl ?_
  refine st_slice (Q := F56.Post px0 apx0_0 cpx0_0 xpx0_0 px1 F ro r) ?_
  refine st_load (Q := F56.Post px0 apx0_0 cpx0_0 xpx0_0 px1 F ro r) isN hs agg3 rfl ?_
  refine st_int (Q := F56.Post px0 apx0_0 cpx0_0 xpx0_0 px1 F ro r) ?_
  have hs_305 := hs.pull 2 rfl
  refine st_load (Q := F56.Post px0 apx0_0 cpx0_0 xpx0_0 px1 F ro r) isN hs_305 agg3 rfl ?_
  refine st_int (Q := F56.Post px0 apx0_0 cpx0_0 xpx0_0 px1 F ro r) ?_
  have hs_306 := hs_305.pull 2 rfl
  have hs_307 := hs_306.dup
  have hs_308 := hs_307.pull 3 rfl
  obtain ⟨r_309, hx_310, hp⟩ := bindr_some hp
  have hc_316 := F52.ok hora (ro := ro) (px0 := px0) (apx0_0 := apx0_0) (cpx0_0 := cpx0_0) (xpx0_0 := xpx0_0) (F := .row apx0_0 cpx0_0 (xpx0_0.map (Value.int .u8)) :: .own ro (some ⟨px1, 0, none⟩) 1 [.int .i64 mpx1_0, .int .i64 mpx1_1, .slice apx1_2 xpx1_2.length xpx1_2.length] :: .own ro apx1_2 1 (xpx1_2.map (Value.int .u8)) :: F) mpx0_1 (decide (IntKind.i64.wrap ((xpx0_0.length : Int) - mpx0_1) ≥ IntKind.i64.wrap (n58 * mpx1_1))) 10 _ hs_308 hx_310
  cases r_309 with
  | ok r_314 =>
    replace hp := bindr_ok hp
    obtain ⟨h_311, e_313, hs_312⟩ := hc_316
    refine st_ok (Q := F56.Post px0 apx0_0 cpx0_0 xpx0_0 px1 F ro r) isO e_313 ?_
    refine st_tup (Q := F56.Post px0 apx0_0 cpx0_0 xpx0_0 px1 F ro r) (l := []) ?_
    refine st_nil (Q := F56.Post px0 apx0_0 cpx0_0 xpx0_0 px1 F ro r) ?_
    have hs_317 := hs_312.pull 2 rfl
    refine st_load (Q := F56.Post px0 apx0_0 cpx0_0 xpx0_0 px1 F ro r) isO hs_317 agg22 rfl ?_
    refine st_slice (Q := F56.Post px0 apx0_0 cpx0_0 xpx0_0 px1 F ro r) ?_
    have hs_400 := hs_317.pull 3 rfl
    have hs_401 := hs_400.pull 1 rfl
    have hs_402 := hs_401.pull 3 rfl
    have hs_403 := hs_402.pull 3 rfl
    exact F56.L7_ok hora lf r_314 mpx1_0 mpx1_1 apx1_2 xpx1_2 n56 n57 n58 (xpx1_2.length : Int) 0 _ hs_403 hp
  | pan r_315 =>
    replace hp := bindr_pan hp
    obtain ⟨h_404, e_406, hs_405⟩ := hc_316
    refine st_pan (Q := F56.Post px0 apx0_0 cpx0_0 xpx0_0 px1 F ro r) e_406 ?_
    have hs_407 := hs_405.pull 1 rfl
    have hs_408 := hs_407.tail
    have hs_409 := hs_408.pull 2 rfl
    have hs_410 := hs_409.pull 2 rfl
    have hs_411 := hs_410.pull 2 rfl
    cases hp
    exact ⟨apx1_2, _, rfl, hs_411⟩

def F56.p (lf : Nat) (xpx0_0 : List Int) (mpx0_1 : Int) (mpx1_0 : Int) (mpx1_1 : Int) (xpx1_2 : List Int) (x2 : Int) (x3 : Int) : Option (Res (Int × Int × Int × List Int) (Int × Int × Int × Int × List Int)) :=
  bindp (idxp xpx0_0 mpx0_1) fun x_283 =>
  bindp (F36.p lf x_283) fun r_286 =>
  bindr (F52.p lf xpx0_0 mpx0_1 r_286 9) (fun r_299 => some (.pan (r_299.1, r_299.2, mpx1_0, mpx1_1, xpx1_2))) fun r_298 =>
  ifp (x2 == 4) (
    F56.J5p lf xpx0_0 (IntKind.i64.wrap (r_298 + 1)) mpx1_0 mpx1_1 xpx1_2 x2 x3 (IntKind.i64.wrap (Int.tdiv (IntKind.i64.wrap (mpx1_0 + 7)) 8))) (
    F56.J5p lf xpx0_0 (IntKind.i64.wrap (r_298 + 1)) mpx1_0 mpx1_1 xpx1_2 x2 x3 mpx1_0)

theorem F56.t_ok {ora : Ora} (hora : HOra ora) {lf ro : Nat} {F : List Ent} {r : (Res (Int × Int × Int × List Int) (Int × Int × Int × Int × List Int))} {px0 : Nat} {apx0_0 : Option Addr} {cpx0_0 : Nat} {xpx0_0 : List Int} {px1 : Nat} (mpx0_1 : Int) (mpx1_0 : Int) (mpx1_1 : Int) (apx1_2 : Option Addr) (xpx1_2 : List Int) (x2 : Int) (x3 : Int) (h : Heap) (hs : Sat ro h (.own ro (some ⟨px0, 0, none⟩) 1 [.slice apx0_0 xpx0_0.length cpx0_0, .int .i64 mpx0_1] :: .row apx0_0 cpx0_0 (xpx0_0.map (Value.int .u8)) :: .own ro (some ⟨px1, 0, none⟩) 1 [.int .i64 mpx1_0, .int .i64 mpx1_1, .slice apx1_2 xpx1_2.length xpx1_2.length] :: .own ro apx1_2 1 (xpx1_2.map (Value.int .u8)) :: F)) (hp : F56.p lf xpx0_0 mpx0_1 mpx1_0 mpx1_1 xpx1_2 x2 x3 = some r) : F56.Post px0 apx0_0 cpx0_0 xpx0_0 px1 F ro r (F56.t (callW Tryd.prog ora) lf ro px0 0 px1 0 x2 x3 h) := by
  unfold F56.t
  unfold F56.p at hp
  refine st_load (Q := F56.Post px0 apx0_0 cpx0_0 xpx0_0 px1 F ro r) isN hs agg22 rfl ?_
  refine st_slice (Q := F56.Post px0 apx0_0 cpx0_0 xpx0_0 px1 F ro r) ?_
  refine st_load (Q := F56.Post px0 apx0_0 cpx0_0 xpx0_0 px1 F ro r) isN hs agg3 rfl ?_
  refine st_int (Q := F56.Post px0 apx0_0 cpx0_0 xpx0_0 px1 F ro r) ?_
  have hs_285 := hs.pull 1 rfl
  obtain ⟨x_283, hx_284, hp⟩ := bindp_some hp
  refine st_idxR (Q := F56.Post px0 apx0_0 cpx0_0 xpx0_0 px1 F ro r) (l := xpx0_0) (f := (Value.int .u8)) isN isN hs_285 und22 siz5 agg5 rfl hx_284 ?_
  refine st_int (Q := F56.Post px0 apx0_0 cpx0_0 xpx0_0 px1 F ro r) ?_
  obtain ⟨r_286, hx_287, hp⟩ := bindp_some hp
  obtain ⟨h_288, e_290, hs_289⟩ := F36.ok hora (ro := ro) (F := .row apx0_0 cpx0_0 (xpx0_0.map (Value.int .u8)) :: .own ro (some ⟨px0, 0, none⟩) 1 [.slice apx0_0 xpx0_0.length cpx0_0, .int .i64 mpx0_1] :: .own ro (some ⟨px1, 0, none⟩) 1 [.int .i64 mpx1_0, .int .i64 mpx1_1, .slice apx1_2 xpx1_2.length xpx1_2.length] :: .own ro apx1_2 1 (xpx1_2.map (Value.int .u8)) :: F) x_283 _ hs_285 hx_287
  refine st_ok (Q := F56.Post px0 apx0_0 cpx0_0 xpx0_0 px1 F ro r) isN e_290 ?_
  refine st_bool (Q := F56.Post px0 apx0_0 cpx0_0 xpx0_0 px1 F ro r) ?_
  have hs_291 := hs_289.dup
  have hs_292 := hs_291.pull 2 rfl
  obtain ⟨r_293, hx_294, hp⟩ := bindr_some hp
  have hc_300 := F52.ok hora (ro := ro) (px0 := px0) (apx0_0 := apx0_0) (cpx0_0 := cpx0_0) (xpx0_0 := xpx0_0) (F := .row apx0_0 cpx0_0 (xpx0_0.map (Value.int .u8)) :: .own ro (some ⟨px1, 0, none⟩) 1 [.int .i64 mpx1_0, .int .i64 mpx1_1, .slice apx1_2 xpx1_2.length xpx1_2.length] :: .own ro apx1_2 1 (xpx1_2.map (Value.int .u8)) :: F) mpx0_1 r_286 9 _ hs_292 hx_294
  cases r_293 with
  | ok r_298 =>
    replace hp := bindr_ok hp
    obtain ⟨h_295, e_297, hs_296⟩ := hc_300
    refine st_ok (Q := F56.Post px0 apx0_0 cpx0_0 xpx0_0 px1 F ro r) isO e_297 ?_
    refine st_tup (Q := F56.Post px0 apx0_0 cpx0_0 xpx0_0 px1 F ro r) (l := []) ?_
    refine st_nil (Q := F56.Post px0 apx0_0 cpx0_0 xpx0_0 px1 F ro r) ?_
    refine st_load (Q := F56.Post px0 apx0_0 cpx0_0 xpx0_0 px1 F ro r) isO hs_296 agg3 rfl ?_
    refine st_int (Q := F56.Post px0 apx0_0 cpx0_0 xpx0_0 px1 F ro r) ?_
    refine st_store (Q := F56.Post px0 apx0_0 cpx0_0 xpx0_0 px1 F ro r) isO hs_296 siz3 rfl (Nat.le_of_ble_eq_true rfl) fun h_301 hs_302 => ?_
    have hs_303 := hs_302.pull 2 rfl
    refine st_load (Q := F56.Post px0 apx0_0 cpx0_0 xpx0_0 px1 F ro r) isO hs_303 agg3 rfl ?_
    refine st_int (Q := F56.Post px0 apx0_0 cpx0_0 xpx0_0 px1 F ro r) ?_
    refine st_if (Q := F56.Post px0 apx0_0 cpx0_0 xpx0_0 px1 F ro r) (fun hc_304 => ?_) (fun hc_304 => ?_)
    · replace hp := ifp_t hc_304 hp
      refine st_load (Q := F56.Post px0 apx0_0 cpx0_0 xpx0_0 px1 F ro r) isO hs_303 agg3 rfl ?_
      refine st_int (Q := F56.Post px0 apx0_0 cpx0_0 xpx0_0 px1 F ro r) ?_
      have hs_412 := hs_303.pull 3 rfl
      have hs_413 := hs_412.pull 1 rfl
      have hs_414 := hs_413.pull 3 rfl
      have hs_415 := hs_414.pull 3 rfl
      exact F56.J5_ok hora (IntKind.i64.wrap (r_298 + 1)) mpx1_0 mpx1_1 apx1_2 xpx1_2 x2 x3 (IntKind.i64.wrap (Int.tdiv (IntKind.i64.wrap (mpx1_0 + 7)) 8)) _ hs_415 hp
    · replace hp := ifp_f hc_304 hp
      have hs_416 := hs_303.pull 3 rfl
      have hs_417 := hs_416.pull 1 rfl
      have hs_418 := hs_417.pull 3 rfl
      have hs_419 := hs_418.pull 3 rfl
      exact F56.J5_ok hora (IntKind.i64.wrap (r_298 + 1)) mpx1_0 mpx1_1 apx1_2 xpx1_2 x2 x3 mpx1_0 _ hs_419 hp
  | pan r_299 =>
    replace hp := bindr_pan hp
    obtain ⟨h_420, e_422, hs_421⟩ := hc_300
    refine st_pan (Q := F56.Post px0 apx0_0 cpx0_0 xpx0_0 px1 F ro r) e_422 ?_
    have hs_423 := hs_421.pull 1 rfl
    have hs_424 := hs_423.tail
    have hs_425 := hs_424.pull 2 rfl
    have hs_426 := hs_425.pull 2 rfl
    have hs_427 := hs_426.pull 2 rfl
    cases hp
    exact ⟨apx1_2, _, rfl, hs_427⟩

theorem F56.ok {ora : Ora} (hora : HOra ora) {lf ro : Nat} {F : List Ent} {r : (Res (Int × Int × Int × List Int) (Int × Int × Int × Int × List Int))} {px0 : Nat} {apx0_0 : Option Addr} {cpx0_0 : Nat} {xpx0_0 : List Int} {px1 : Nat} (mpx0_1 : Int) (mpx1_0 : Int) (mpx1_1 : Int) (apx1_2 : Option Addr) (xpx1_2 : List Int) (x2 : Int) (x3 : Int) (h : Heap) (hs : Sat ro h (.own ro (some ⟨px0, 0, none⟩) 1 [.slice apx0_0 xpx0_0.length cpx0_0, .int .i64 mpx0_1] :: .row apx0_0 cpx0_0 (xpx0_0.map (Value.int .u8)) :: .own ro (some ⟨px1, 0, none⟩) 1 [.int .i64 mpx1_0, .int .i64 mpx1_1, .slice apx1_2 xpx1_2.length xpx1_2.length] :: .own ro apx1_2 1 (xpx1_2.map (Value.int .u8)) :: F)) (hp : F56.p lf xpx0_0 mpx0_1 mpx1_0 mpx1_1 xpx1_2 x2 x3 = some r) : F56.Post px0 apx0_0 cpx0_0 xpx0_0 px1 F ro r (callW Tryd.prog ora ro 56 [.pointer (some ⟨px0, 0, none⟩), .pointer (some ⟨px1, 0, none⟩), .int .i64 x2, .int .i64 x3] h) := by
  have h1 := F56.t_ok hora mpx0_1 mpx1_0 mpx1_1 apx1_2 xpx1_2 x2 x3 h hs hp
  have h2 : callW Tryd.prog ora ro 56 [.pointer (some ⟨px0, 0, none⟩), .pointer (some ⟨px1, 0, none⟩), .int .i64 x2, .int .i64 x3] h = _ := callW_body (hora.none _ _ _ _ (by decide)) Tryd.func56 (F56.le (callW Tryd.prog ora) lf ro px0 0 px1 0 x2 x3 h) (F56.Post.ne h1)
  rw [h2]; exact h1

def F55.Post (px0 : Nat) (apx0_0 : Option Addr) (cpx0_0 : Nat) (xpx0_0 : List Int) (px1 : Nat) (F : List Ent) (ro : Nat) (r : (Res (Int × Int × Int × List Int) (Int × Int × Int × Int × List Int))) (x : Out) : Prop := match r with
  | .ok r => ∃ bpx1_2 h', x = .ok (.tuple #[]) h' ∧ Sat ro h' (.own ro (some ⟨px0, 0, none⟩) 1 [.slice apx0_0 xpx0_0.length cpx0_0, .int .i64 r.1] :: .own ro (some ⟨px1, 0, none⟩) 1 [.int .i64 r.2.1, .int .i64 r.2.2.1, .slice bpx1_2 r.2.2.2.length r.2.2.2.length] :: .own ro bpx1_2 1 (r.2.2.2.map (Value.int .u8)) :: F)
  | .pan r => ∃ bpx1_2 h', x = .panic (.iface 77 (.agg #[.int .i64 r.1])) h' ∧ Sat ro h' (.own ro (some ⟨px0, 0, none⟩) 1 [.slice apx0_0 xpx0_0.length cpx0_0, .int .i64 r.2.1] :: .own ro (some ⟨px1, 0, none⟩) 1 [.int .i64 r.2.2.1, .int .i64 r.2.2.2.1, .slice bpx1_2 r.2.2.2.2.length r.2.2.2.2.length] :: .own ro bpx1_2 1 (r.2.2.2.2.map (Value.int .u8)) :: F)
theorem F55.Post.ne {px0 : Nat} {apx0_0 : Option Addr} {cpx0_0 : Nat} {xpx0_0 : List Int} {px1 : Nat} {F : List Ent} {ro : Nat} {r : (Res (Int × Int × Int × List Int) (Int × Int × Int × Int × List Int))} {x : Out} (hx : F55.Post px0 apx0_0 cpx0_0 xpx0_0 px1 F ro r x) : x ≠ .fail := by
  cases r with
  | ok r => obtain ⟨bpx1_2, h', rfl, _⟩ := hx; simp
  | pan r => obtain ⟨bpx1_2, h', rfl, _⟩ := hx; simp

def F55.J7p (lf : Nat) (kb1p : List Int → Int → Int → Int → List Int → Int → Int → Int → Int → Option (Res (Int × Int × Int × List Int) (Int × Int × Int × Int × List Int))) (xpx0_0 : List Int) (mpx0_1 : Int) (mpx1_0 : Int) (mpx1_1 : Int) (xpx1_2 : List Int) (n55 : Int) (n56 : Int) (n57 : Int) (n58 : Int) (n59 : Int) : Option (Res (Int × Int × Int × List Int) (Int × Int × Int × Int × List Int)) :=
  letJ (fun (mj232_0_1 : Int) (mj232_2_0 : Int) (mj232_2_1 : Int) (xj232_2_2 : List Int) => (
    kb1p xpx0_0 mj232_0_1 mj232_2_0 mj232_2_1 xj232_2_2 n55 n56 n58 (IntKind.i64.wrap (n59 + 1)) : Option (Res (Int × Int × Int × List Int) (Int × Int × Int × Int × List Int)))) fun j232p =>
  bindp (F67.p lf xpx0_0 mpx0_1) fun r_487 =>
  bindr (F52.p lf xpx0_0 r_487 (decide (r_487 < (xpx0_0.length : Int))) 10) (fun r_501 => some (.pan (r_501.1, r_501.2, mpx1_0, mpx1_1, xpx1_2))) fun r_500 =>
  bindp (idxp xpx0_0 r_500) fun x_503 =>
  letJ (fun (mj371_1_1 : Int) => (
    bindp (F68.p lf (x_503 == 49)) fun r_553 =>
    bindp (setp xpx1_2 n57 r_553) fun x_558 =>
    j232p (IntKind.i64.wrap (mj371_1_1 + 1)) mpx1_0 mpx1_1 x_558 : Option (Res (Int × Int × Int × List Int) (Int × Int × Int × Int × List Int)))) fun j371p =>
  ifp (x_503 == 48) (
    bindr (F52.p lf xpx0_0 r_500 true 9) (fun r_515 => some (.pan (r_515.1, r_515.2, mpx1_0, mpx1_1, xpx1_2))) fun r_514 =>
    j371p r_514) (
    bindr (F52.p lf xpx0_0 r_500 (x_503 == 49) 9) (fun r_537 => some (.pan (r_537.1, r_537.2, mpx1_0, mpx1_1, xpx1_2))) fun r_536 =>
    j371p r_536)

theorem F55.J7_ok {ora : Ora} (hora : HOra ora) {lf ro : Nat} {F : List Ent} {r : (Res (Int × Int × Int × List Int) (Int × Int × Int × Int × List Int))} {px0 : Nat} {apx0_0 : Option Addr} {cpx0_0 : Nat} {xpx0_0 : List Int} {px1 : Nat} {kb1p : List Int → Int → Int → Int → List Int → Int → Int → Int → Int → Option (Res (Int × Int × Int × List Int) (Int × Int × Int × Int × List Int))} {kb1 : Nat → Nat → Nat → Nat → Int → Int → Int → Int → Heap → Out} (hkb1 : ∀ (mpx0_1 : Int) (mpx1_0 : Int) (mpx1_1 : Int) (apx1_2 : Option Addr) (xpx1_2 : List Int) (n9 : Int) (n10 : Int) (n11 : Int) (n12 : Int) (h : Heap), Sat ro h (.own ro (some ⟨px0, 0, none⟩) 1 [.slice apx0_0 xpx0_0.length cpx0_0, .int .i64 mpx0_1] :: .row apx0_0 cpx0_0 (xpx0_0.map (Value.int .u8)) :: .own ro (some ⟨px1, 0, none⟩) 1 [.int .i64 mpx1_0, .int .i64 mpx1_1, .slice apx1_2 xpx1_2.length xpx1_2.length] :: .own ro apx1_2 1 (xpx1_2.map (Value.int .u8)) :: F) → kb1p xpx0_0 mpx0_1 mpx1_0 mpx1_1 xpx1_2 n9 n10 n11 n12 = some r → F55.Post px0 apx0_0 cpx0_0 xpx0_0 px1 F ro r (kb1 px0 0 px1 0 n9 n10 n11 n12 h)) (mpx0_1 : Int) (mpx1_0 : Int) (mpx1_1 : Int) (apx1_2 : Option Addr) (xpx1_2 : List Int) (n55 : Int) (n56 : Int) (n57 : Int) (n58 : Int) (n59 : Int) (h : Heap) (hs : Sat ro h (.own ro (some ⟨px0, 0, none⟩) 1 [.slice apx0_0 xpx0_0.length cpx0_0, .int .i64 mpx0_1] :: .row apx0_0 cpx0_0 (xpx0_0.map (Value.int .u8)) :: .own ro (some ⟨px1, 0, none⟩) 1 [.int .i64 mpx1_0, .int .i64 mpx1_1, .slice apx1_2 xpx1_2.length xpx1_2.length] :: .own ro apx1_2 1 (xpx1_2.map (Value.int .u8)) :: F)) (hp : F55.J7p lf kb1p xpx0_0 mpx0_1 mpx1_0 mpx1_1 xpx1_2 n55 n56 n57 n58 n59 = some r) : F55.Post px0 apx0_0 cpx0_0 xpx0_0 px1 F ro r (F55.J7 (callW Tryd.prog ora) lf ro kb1 px0 0 px1 0 n55 n56 n57 n58 n59 h) := by
  unfold F55.J7
  unfold F55.J7p at hp
  refine st_letJ hp (fun j232p j232 => ∀ (mj232_0_1 : Int) (mj232_2_0 : Int) (mj232_2_1 : Int) (aj232_2_2 : Option Addr) (xj232_2_2 : List Int) (h_579 : Heap), Sat ro h_579 (.own ro (some ⟨px0, 0, none⟩) 1 [.slice apx0_0 xpx0_0.length cpx0_0, .int .i64 mj232_0_1] :: .row apx0_0 cpx0_0 (xpx0_0.map (Value.int .u8)) :: .own ro (some ⟨px1, 0, none⟩) 1 [.int .i64 mj232_2_0, .int .i64 mj232_2_1, .slice aj232_2_2 xj232_2_2.length xj232_2_2.length] :: .own ro aj232_2_2 1 (xj232_2_2.map (Value.int .u8)) :: F) → j232p mj232_0_1 mj232_2_0 mj232_2_1 xj232_2_2 = some r → F55.Post px0 apx0_0 cpx0_0 xpx0_0 px1 F ro r (j232 h_579)) ?_ ?_
  · intro mj232_0_1 mj232_2_0 mj232_2_1 aj232_2_2 xj232_2_2 h_579 hs hp
    have hs_580 := hs.pull 3 rfl
    have hs_581 := hs_580.pull 3 rfl
    have hs_582 := hs_581.pull 3 rfl
    have hs_583 := hs_582.pull 3 rfl
    exact hkb1 mj232_0_1 mj232_2_0 mj232_2_1 aj232_2_2 xj232_2_2 n55 n56 n58 (IntKind.i64.wrap (n59 + 1)) _ hs_583 hp
  · intro j232p j232 hj232 hp
    have hs_484 := hs.pull 1 rfl
    have hs_485 := hs_484.dup
    have hs_486 := hs_485.pull 2 rfl
    obtain ⟨r_487, hx_488, hp⟩ := bindp_some hp
    obtain ⟨h_489, e_491, hs_490⟩ := F67.ok hora (ro := ro) (px0 := px0) (apx0_0 := apx0_0) (cpx0_0 := cpx0_0) (xpx0_0 := xpx0_0) (F := .row apx0_0 cpx0_0 (xpx0_0.map (Value.int .u8)) :: .own ro (some ⟨px1, 0, none⟩) 1 [.int .i64 mpx1_0, .int .i64 mpx1_1, .slice apx1_2 xpx1_2.length xpx1_2.length] :: .own ro apx1_2 1 (xpx1_2.map (Value.int .u8)) :: F) mpx0_1 _ hs_486 hx_488
    refine st_ok (Q := F55.Post px0 apx0_0 cpx0_0 xpx0_0 px1 F ro r) isO e_491 ?_
    refine st_tup (Q := F55.Post px0 apx0_0 cpx0_0 xpx0_0 px1 F ro r) (l := []) ?_
    refine st_nil (Q := F55.Post px0 apx0_0 cpx0_0 xpx0_0 px1 F ro r) ?_
    refine st_load (Q := F55.Post px0 apx0_0 cpx0_0 xpx0_0 px1 F ro r) isN hs_490 agg3 rfl ?_
    refine st_int (Q := F55.Post px0 apx0_0 cpx0_0 xpx0_0 px1 F ro r) ?_
    refine st_load (Q := F55.Post px0 apx0_0 cpx0_0 xpx0_0 px1 F ro r) isN hs_490 agg22 rfl ?_
    refine st_slice (Q := F55.Post px0 apx0_0 cpx0_0 xpx0_0 px1 F ro r) ?_
    have hs_492 := hs_490.pull 1 rfl
    have hs_493 := hs_492.dup
    have hs_494 := hs_493.pull 2 rfl
    obtain ⟨r_495, hx_496, hp⟩ := bindr_some hp
    have hc_502 := F52.ok hora (ro := ro) (px0 := px0) (apx0_0 := apx0_0) (cpx0_0 := cpx0_0) (xpx0_0 := xpx0_0) (F := .row apx0_0 cpx0_0 (xpx0_0.map (Value.int .u8)) :: .own ro (some ⟨px1, 0, none⟩) 1 [.int .i64 mpx1_0, .int .i64 mpx1_1, .slice apx1_2 xpx1_2.length xpx1_2.length] :: .own ro apx1_2 1 (xpx1_2.map (Value.int .u8)) :: F) r_487 (decide (r_487 < (xpx0_0.length : Int))) 10 _ hs_494 hx_496
    cases r_495 with
    | ok r_500 =>
      replace hp := bindr_ok hp
      obtain ⟨h_497, e_499, hs_498⟩ := hc_502
      refine st_ok (Q := F55.Post px0 apx0_0 cpx0_0 xpx0_0 px1 F ro r) isO e_499 ?_
      refine st_tup (Q := F55.Post px0 apx0_0 cpx0_0 xpx0_0 px1 F ro r) (l := []) ?_
      refine st_nil (Q := F55.Post px0 apx0_0 cpx0_0 xpx0_0 px1 F ro r) ?_
      refine st_load (Q := F55.Post px0 apx0_0 cpx0_0 xpx0_0 px1 F ro r) isN hs_498 agg22 rfl ?_
      refine st_slice (Q := F55.Post px0 apx0_0 cpx0_0 xpx0_0 px1 F ro r) ?_
      refine st_load (Q := F55.Post px0 apx0_0 cpx0_0 xpx0_0 px1 F ro r) isN hs_498 agg3 rfl ?_
      refine st_int (Q := F55.Post px0 apx0_0 cpx0_0 xpx0_0 px1 F ro r) ?_
      have hs_505 := hs_498.pull 1 rfl
      obtain ⟨x_503, hx_504, hp⟩ := bindp_some hp
      refine st_idxR (Q := F55.Post px0 apx0_0 cpx0_0 xpx0_0 px1 F ro r) (l := xpx0_0) (f := (Value.int .u8)) isO isO hs_505 und22 siz5 agg5 rfl hx_504 ?_
      refine st_int (Q := F55.Post px0 apx0_0 cpx0_0 xpx0_0 px1 F ro r) ?_
      refine st_letJ hp (fun j371p j371 => ∀ (mj371_1_1 : Int) (h_551 : Heap), Sat ro h_551 (.row apx0_0 cpx0_0 (xpx0_0.map (Value.int .u8)) :: .own ro (some ⟨px0, 0, none⟩) 1 [.slice apx0_0 xpx0_0.length cpx0_0, .int .i64 mj371_1_1] :: .own ro (some ⟨px1, 0, none⟩) 1 [.int .i64 mpx1_0, .int .i64 mpx1_1, .slice apx1_2 xpx1_2.length xpx1_2.length] :: .own ro apx1_2 1 (xpx1_2.map (Value.int .u8)) :: F) → j371p mj371_1_1 = some r → F55.Post px0 apx0_0 cpx0_0 xpx0_0 px1 F ro r (j371 h_551)) ?_ ?_
      · intro mj371_1_1 h_551 hs hp
        have hs_552 := hs.pull 2 rfl
        refine st_load (Q := F55.Post px0 apx0_0 cpx0_0 xpx0_0 px1 F ro r) isN hs_552 agg22 rfl ?_
        refine st_slice (Q := F55.Post px0 apx0_0 cpx0_0 xpx0_0 px1 F ro r) ?_
        obtain ⟨r_553, hx_554, hp⟩ := bindp_some hp
        obtain ⟨h_555, e_557, hs_556⟩ := F68.ok hora (ro := h_551.next) (F := .own ro (some ⟨px1, 0, none⟩) 1 [.int .i64 mpx1_0, .int .i64 mpx1_1, .slice apx1_2 xpx1_2.length xpx1_2.length] :: .row apx0_0 cpx0_0 (xpx0_0.map (Value.int .u8)) :: .own ro (some ⟨px0, 0, none⟩) 1 [.slice apx0_0 xpx0_0.length cpx0_0, .int .i64 mj371_1_1] :: .own ro apx1_2 1 (xpx1_2.map (Value.int .u8)) :: F) (x_503 == 49) _ (hs_552.ro' (Nat.le_refl _)) hx_554
        refine st_ok (Q := F55.Post px0 apx0_0 cpx0_0 xpx0_0 px1 F ro r) isN e_557 ?_
        replace hs_556 := hs_556.ro' (Nat.le_trans hs_552.low hs_556.low)
        refine st_int (Q := F55.Post px0 apx0_0 cpx0_0 xpx0_0 px1 F ro r) ?_
        have hs_560 := hs_556.pull 3 rfl
        obtain ⟨x_558, hx_559, hp⟩ := bindp_some hp
        refine st_idxS (Q := F55.Post px0 apx0_0 cpx0_0 xpx0_0 px1 F ro r) (l := xpx1_2) (f := (Value.int .u8)) isO isO hs_560 und22 siz5 siz5 (fun _ => rfl) rfl hx_559 fun h_561 hs_562 => ?_
        have hl_563 := setp_len hx_559
        try simp only [hl_563] at hs_562 hp ⊢
        have hs_564 := hs_562.pull 3 rfl
        refine st_load (Q := F55.Post px0 apx0_0 cpx0_0 xpx0_0 px1 F ro r) isO hs_564 agg3 rfl ?_
        refine st_int (Q := F55.Post px0 apx0_0 cpx0_0 xpx0_0 px1 F ro r) ?_
        refine st_store (Q := F55.Post px0 apx0_0 cpx0_0 xpx0_0 px1 F ro r) isO hs_564 siz3 rfl (Nat.le_of_ble_eq_true rfl) fun h_565 hs_566 => ?_
        have hs_567 := hs_566.pull 1 rfl
        have hs_568 := hs_567.pull 2 rfl
        have hs_569 := hs_568.pull 3 rfl
        have hs_570 := hs_569.pull 3 rfl
        exact hj232 (IntKind.i64.wrap (mj371_1_1 + 1)) mpx1_0 mpx1_1 apx1_2 x_558 _ hs_570 hp
      · intro j371p j371 hj371 hp
        refine st_if (Q := F55.Post px0 apx0_0 cpx0_0 xpx0_0 px1 F ro r) (fun hc_506 => ?_) (fun hc_506 => ?_)
        · replace hp := ifp_t hc_506 hp
          have hs_507 := hs_505.dup
          have hs_508 := hs_507.pull 2 rfl
          obtain ⟨r_509, hx_510, hp⟩ := bindr_some hp
          have hc_516 := F52.ok hora (ro := ro) (px0 := px0) (apx0_0 := apx0_0) (cpx0_0 := cpx0_0) (xpx0_0 := xpx0_0) (F := .row apx0_0 cpx0_0 (xpx0_0.map (Value.int .u8)) :: .own ro (some ⟨px1, 0, none⟩) 1 [.int .i64 mpx1_0, .int .i64 mpx1_1, .slice apx1_2 xpx1_2.length xpx1_2.length] :: .own ro apx1_2 1 (xpx1_2.map (Value.int .u8)) :: F) r_500 true 9 _ hs_508 hx_510
          cases r_509 with
          | ok r_514 =>
            replace hp := bindr_ok hp
            obtain ⟨h_511, e_513, hs_512⟩ := hc_516
            refine st_ok (Q := F55.Post px0 apx0_0 cpx0_0 xpx0_0 px1 F ro r) isO e_513 ?_
            refine st_tup (Q := F55.Post px0 apx0_0 cpx0_0 xpx0_0 px1 F ro r) (l := []) ?_
            refine st_nil (Q := F55.Post px0 apx0_0 cpx0_0 xpx0_0 px1 F ro r) ?_
            have hs_517 := hs_512.pull 3 rfl
            have hs_518 := hs_517.pull 3 rfl
            have hs_519 := hs_518.pull 2 rfl
            have hs_520 := hs_519.pull 3 rfl
            exact hj371 r_514 _ hs_520 hp
          | pan r_515 =>
            replace hp := bindr_pan hp
            obtain ⟨h_521, e_523, hs_522⟩ := hc_516
            refine st_pan (Q := F55.Post px0 apx0_0 cpx0_0 xpx0_0 px1 F ro r) e_523 ?_
            have hs_524 := hs_522.pull 1 rfl
            have hs_525 := hs_524.tail
            have hs_526 := hs_525.pull 2 rfl
            have hs_527 := hs_526.pull 2 rfl
            have hs_528 := hs_527.pull 2 rfl
            cases hp
            exact ⟨apx1_2, _, rfl, hs_528⟩
        · replace hp := ifp_f hc_506 hp
          have hs_529 := hs_505.dup
          have hs_530 := hs_529.pull 2 rfl
          obtain ⟨r_531, hx_532, hp⟩ := bindr_some hp
          have hc_538 := F52.ok hora (ro := ro) (px0 := px0) (apx0_0 := apx0_0) (cpx0_0 := cpx0_0) (xpx0_0 := xpx0_0) (F := .row apx0_0 cpx0_0 (xpx0_0.map (Value.int .u8)) :: .own ro (some ⟨px1, 0, none⟩) 1 [.int .i64 mpx1_0, .int .i64 mpx1_1, .slice apx1_2 xpx1_2.length xpx1_2.length] :: .own ro apx1_2 1 (xpx1_2.map (Value.int .u8)) :: F) r_500 (x_503 == 49) 9 _ hs_530 hx_532
          cases r_531 with
          | ok r_536 =>
            replace hp := bindr_ok hp
            obtain ⟨h_533, e_535, hs_534⟩ := hc_538
            refine st_ok (Q := F55.Post px0 apx0_0 cpx0_0 xpx0_0 px1 F ro r) isO e_535 ?_
            refine st_tup (Q := F55.Post px0 apx0_0 cpx0_0 xpx0_0 px1 F ro r) (l := []) ?_
            refine st_nil (Q := F55.Post px0 apx0_0 cpx0_0 xpx0_0 px1 F ro r) ?_
            have hs_539 := hs_534.pull 3 rfl
            have hs_540 := hs_539.pull 3 rfl
            have hs_541 := hs_540.pull 2 rfl
            have hs_542 := hs_541.pull 3 rfl
            exact hj371 r_536 _ hs_542 hp
          | pan r_537 =>
            replace hp := bindr_pan hp
            obtain ⟨h_543, e_545, hs_544⟩ := hc_538
            refine st_pan (Q := F55.Post px0 apx0_0 cpx0_0 xpx0_0 px1 F ro r) e_545 ?_
            have hs_546 := hs_544.pull 1 rfl
            have hs_547 := hs_546.tail
            have hs_548 := hs_547.pull 2 rfl
            have hs_549 := hs_548.pull 2 rfl
            have hs_550 := hs_549.pull 2 rfl
            cases hp
            exact ⟨apx1_2, _, rfl, hs_550⟩
    | pan r_501 =>
      replace hp := bindr_pan hp
      obtain ⟨h_571, e_573, hs_572⟩ := hc_502
      refine st_pan (Q := F55.Post px0 apx0_0 cpx0_0 xpx0_0 px1 F ro r) e_573 ?_
      have hs_574 := hs_572.pull 1 rfl
      have hs_575 := hs_574.tail
      have hs_576 := hs_575.pull 2 rfl
      have hs_577 := hs_576.pull 2 rfl
      have hs_578 := hs_577.pull 2 rfl
      cases hp
      exact ⟨apx1_2, _, rfl, hs_578⟩

def F55.J2p (lf : Nat) (kb1p : List Int → Int → Int → Int → List Int → Int → Int → Int → Int → Option (Res (Int × Int × Int × List Int) (Int × Int × Int × Int × List Int))) (xpx0_0 : List Int) (mpx0_1 : Int) (mpx1_0 : Int) (mpx1_1 : Int) (xpx1_2 : List Int) (n16 : Int) (n17 : Int) (n18 : Int) (n19 : Int) : Option (Res (Int × Int × Int × List Int) (Int × Int × Int × Int × List Int)) :=
  ifp (n16 == 2) (
    bindr (F65.p lf xpx0_0 mpx0_1) (fun r_440 => some (.pan (r_440.1, r_440.2, mpx1_0, mpx1_1, xpx1_2))) fun r_439 =>
    bindr (F52.p lf xpx0_0 r_439.2 (decide (r_439.1 ≤ n17)) 3) (fun r_451 => some (.pan (r_451.1, r_451.2, mpx1_0, mpx1_1, xpx1_2))) fun r_450 =>
    bindp (F66.p lf r_439.1 n17) fun r_454 =>
    bindp (setp xpx1_2 n19 r_454) fun x_459 =>
    kb1p xpx0_0 r_450 mpx1_0 mpx1_1 x_459 n16 n17 n18 (IntKind.i64.wrap (n19 + 1))) (
    F55.J7p lf kb1p xpx0_0 mpx0_1 mpx1_0 mpx1_1 xpx1_2 n16 n17 n19 n18 n19)

theorem F55.J2_ok {ora : Ora} (hora : HOra ora) {lf ro : Nat} {F : List Ent} {r : (Res (Int × Int × Int × List Int) (Int × Int × Int × Int × List Int))} {px0 : Nat} {apx0_0 : Option Addr} {cpx0_0 : Nat} {xpx0_0 : List Int} {px1 : Nat} {kb1p : List Int → Int → Int → Int → List Int → Int → Int → Int → Int → Option (Res (Int × Int × Int × List Int) (Int × Int × Int × Int × List Int))} {kb1 : Nat → Nat → Nat → Nat → Int → Int → Int → Int → Heap → Out} (hkb1 : ∀ (mpx0_1 : Int) (mpx1_0 : Int) (mpx1_1 : Int) (apx1_2 : Option Addr) (xpx1_2 : List Int) (n9 : Int) (n10 : Int) (n11 : Int) (n12 : Int) (h : Heap), Sat ro h (.own ro (some ⟨px0, 0, none⟩) 1 [.slice apx0_0 xpx0_0.length cpx0_0, .int .i64 mpx0_1] :: .row apx0_0 cpx0_0 (xpx0_0.map (Value.int .u8)) :: .own ro (some ⟨px1, 0, none⟩) 1 [.int .i64 mpx1_0, .int .i64 mpx1_1, .slice apx1_2 xpx1_2.length xpx1_2.length] :: .own ro apx1_2 1 (xpx1_2.map (Value.int .u8)) :: F) → kb1p xpx0_0 mpx0_1 mpx1_0 mpx1_1 xpx1_2 n9 n10 n11 n12 = some r → F55.Post px0 apx0_0 cpx0_0 xpx0_0 px1 F ro r (kb1 px0 0 px1 0 n9 n10 n11 n12 h)) (mpx0_1 : Int) (mpx1_0 : Int) (mpx1_1 : Int) (apx1_2 : Option Addr) (xpx1_2 : List Int) (n16 : Int) (n17 : Int) (n18 : Int) (n19 : Int) (h : Heap) (hs : Sat ro h (.own ro (some ⟨px0, 0, none⟩) 1 [.slice apx0_0 xpx0_0.length cpx0_0, .int .i64 mpx0_1] :: .row apx0_0 cpx0_0 (xpx0_0.map (Value.int .u8)) :: .own ro (some ⟨px1, 0, none⟩) 1 [.int .i64 mpx1_0, .int .i64 mpx1_1, .slice apx1_2 xpx1_2.length xpx1_2.length] :: .own ro apx1_2 1 (xpx1_2.map (Value.int .u8)) :: F)) (hp : F55.J2p lf kb1p xpx0_0 mpx0_1 mpx1_0 mpx1_1 xpx1_2 n16 n17 n18 n19 = some r) : F55.Post px0 apx0_0 cpx0_0 xpx0_0 px1 F ro r (F55.J2 (callW Tryd.prog ora) lf ro kb1 px0 0 px1 0 n16 n17 n18 n19 h) := by
  unfold F55.J2
  unfold F55.J2p at hp
  refine st_if (Q := F55.Post px0 apx0_0 cpx0_0 xpx0_0 px1 F ro r) (fun hc_430 => ?_) (fun hc_430 => ?_)
  · replace hp := ifp_t hc_430 hp
    have hs_431 := hs.pull 1 rfl
    have hs_432 := hs_431.dup
    have hs_433 := hs_432.pull 2 rfl
    obtain ⟨r_434, hx_435, hp⟩ := bindr_some hp
    have hc_441 := F65.ok hora (ro := ro) (px0 := px0) (apx0_0 := apx0_0) (cpx0_0 := cpx0_0) (xpx0_0 := xpx0_0) (F := .row apx0_0 cpx0_0 (xpx0_0.map (Value.int .u8)) :: .own ro (some ⟨px1, 0, none⟩) 1 [.int .i64 mpx1_0, .int .i64 mpx1_1, .slice apx1_2 xpx1_2.length xpx1_2.length] :: .own ro apx1_2 1 (xpx1_2.map (Value.int .u8)) :: F) mpx0_1 _ hs_433 hx_435
    cases r_434 with
    | ok r_439 =>
      replace hp := bindr_ok hp
      obtain ⟨h_436, e_438, hs_437⟩ := hc_441
      refine st_ok (Q := F55.Post px0 apx0_0 cpx0_0 xpx0_0 px1 F ro r) isO e_438 ?_
      refine st_int (Q := F55.Post px0 apx0_0 cpx0_0 xpx0_0 px1 F ro r) ?_
      have hs_442 := hs_437.pull 1 rfl
      have hs_443 := hs_442.dup
      have hs_444 := hs_443.pull 2 rfl
      obtain ⟨r_445, hx_446, hp⟩ := bindr_some hp
      have hc_452 := F52.ok hora (ro := ro) (px0 := px0) (apx0_0 := apx0_0) (cpx0_0 := cpx0_0) (xpx0_0 := xpx0_0) (F := .row apx0_0 cpx0_0 (xpx0_0.map (Value.int .u8)) :: .own ro (some ⟨px1, 0, none⟩) 1 [.int .i64 mpx1_0, .int .i64 mpx1_1, .slice apx1_2 xpx1_2.length xpx1_2.length] :: .own ro apx1_2 1 (xpx1_2.map (Value.int .u8)) :: F) r_439.2 (decide (r_439.1 ≤ n17)) 3 _ hs_444 hx_446
      cases r_445 with
      | ok r_450 =>
        replace hp := bindr_ok hp
        obtain ⟨h_447, e_449, hs_448⟩ := hc_452
        refine st_ok (Q := F55.Post px0 apx0_0 cpx0_0 xpx0_0 px1 F ro r) isO e_449 ?_
        refine st_tup (Q := F55.Post px0 apx0_0 cpx0_0 xpx0_0 px1 F ro r) (l := []) ?_
        refine st_nil (Q := F55.Post px0 apx0_0 cpx0_0 xpx0_0 px1 F ro r) ?_
        have hs_453 := hs_448.pull 2 rfl
        refine st_load (Q := F55.Post px0 apx0_0 cpx0_0 xpx0_0 px1 F ro r) isN hs_453 agg22 rfl ?_
        refine st_slice (Q := F55.Post px0 apx0_0 cpx0_0 xpx0_0 px1 F ro r) ?_
        obtain ⟨r_454, hx_455, hp⟩ := bindp_some hp
        obtain ⟨h_456, e_458, hs_457⟩ := F66.ok hora (ro := h_447.next) (F := .own ro (some ⟨px1, 0, none⟩) 1 [.int .i64 mpx1_0, .int .i64 mpx1_1, .slice apx1_2 xpx1_2.length xpx1_2.length] :: .own ro (some ⟨px0, 0, none⟩) 1 [.slice apx0_0 xpx0_0.length cpx0_0, .int .i64 r_450] :: .row apx0_0 cpx0_0 (xpx0_0.map (Value.int .u8)) :: .own ro apx1_2 1 (xpx1_2.map (Value.int .u8)) :: F) r_439.1 n17 _ (hs_453.ro' (Nat.le_refl _)) hx_455
        refine st_ok (Q := F55.Post px0 apx0_0 cpx0_0 xpx0_0 px1 F ro r) isN e_458 ?_
        replace hs_457 := hs_457.ro' (Nat.le_trans hs_453.low hs_457.low)
        refine st_int (Q := F55.Post px0 apx0_0 cpx0_0 xpx0_0 px1 F ro r) ?_
        have hs_461 := hs_457.pull 3 rfl
        obtain ⟨x_459, hx_460, hp⟩ := bindp_some hp
        refine st_idxS (Q := F55.Post px0 apx0_0 cpx0_0 xpx0_0 px1 F ro r) (l := xpx1_2) (f := (Value.int .u8)) isO isO hs_461 und22 siz5 siz5 (fun _ => rfl) rfl hx_460 fun h_462 hs_463 => ?_
        have hl_464 := setp_len hx_460
        try simp only [hl_464] at hs_463 hp ⊢
        have hs_465 := hs_463.pull 1 rfl
        have hs_466 := hs_465.pull 3 rfl
        have hs_467 := hs_466.pull 3 rfl
        exact hkb1 r_450 mpx1_0 mpx1_1 apx1_2 x_459 n16 n17 n18 (IntKind.i64.wrap (n19 + 1)) _ hs_467 hp
      | pan r_451 =>
        replace hp := bindr_pan hp
        obtain ⟨h_468, e_470, hs_469⟩ := hc_452
        refine st_pan (Q := F55.Post px0 apx0_0 cpx0_0 xpx0_0 px1 F ro r) e_470 ?_
        have hs_471 := hs_469.pull 1 rfl
        have hs_472 := hs_471.tail
        have hs_473 := hs_472.pull 2 rfl
        have hs_474 := hs_473.pull 2 rfl
        have hs_475 := hs_474.pull 2 rfl
        cases hp
        exact ⟨apx1_2, _, rfl, hs_475⟩
    | pan r_440 =>
      replace hp := bindr_pan hp
      obtain ⟨h_476, e_478, hs_477⟩ := hc_441
      refine st_pan (Q := F55.Post px0 apx0_0 cpx0_0 xpx0_0 px1 F ro r) e_478 ?_
      have hs_479 := hs_477.pull 1 rfl
      have hs_480 := hs_479.tail
      have hs_481 := hs_480.pull 2 rfl
      have hs_482 := hs_481.pull 2 rfl
      have hs_483 := hs_482.pull 2 rfl
      cases hp
      exact ⟨apx1_2, _, rfl, hs_483⟩
  · replace hp := ifp_f hc_430 hp
    have hs_584 := hs.pull 3 rfl
    have hs_585 := hs_584.pull 3 rfl
    have hs_586 := hs_585.pull 3 rfl
    have hs_587 := hs_586.pull 3 rfl
    exact F55.J7_ok hora hkb1 mpx0_1 mpx1_0 mpx1_1 apx1_2 xpx1_2 n16 n17 n19 n18 n19 _ hs_587 hp

def F55.J15p (lf : Nat) (xpx0_0 : List Int) (mpx0_1 : Int) (b458 : Bool) (mpx1_0 : Int) (mpx1_1 : Int) (xpx1_2 : List Int) : Option (Res (Int × Int × Int × List Int) (Int × Int × Int × Int × List Int)) :=
  ifp b458 (
    bindp (idxp xpx0_0 mpx0_1) fun x_594 =>
    bindp (F36.p lf x_594) fun r_597 =>
    ifp r_597 (
      bindr (F52.p lf xpx0_0 mpx0_1 true 9) (fun r_611 => some (.pan (r_611.1, r_611.2, mpx1_0, mpx1_1, xpx1_2))) fun r_610 =>
      some (.ok (r_610, mpx1_0, mpx1_1, xpx1_2))) (
      bindp (idxp xpx0_0 mpx0_1) fun x_627 =>
      bindr (F52.p lf xpx0_0 mpx0_1 (x_627 == 35) 9) (fun r_638 => some (.pan (r_638.1, r_638.2, mpx1_0, mpx1_1, xpx1_2))) fun r_637 =>
      some (.ok (r_637, mpx1_0, mpx1_1, xpx1_2)))) (
    some (.ok (mpx0_1, mpx1_0, mpx1_1, xpx1_2)))

theorem F55.J15_ok {ora : Ora} (hora : HOra ora) {lf ro : Nat} {F : List Ent} {r : (Res (Int × Int × Int × List Int) (Int × Int × Int × Int × List Int))} {px0 : Nat} {apx0_0 : Option Addr} {cpx0_0 : Nat} {xpx0_0 : List Int} {px1 : Nat} (mpx0_1 : Int) (b458 : Bool) (mpx1_0 : Int) (mpx1_1 : Int) (apx1_2 : Option Addr) (xpx1_2 : List Int) (h : Heap) (hs : Sat ro h (.own ro (some ⟨px0, 0, none⟩) 1 [.slice apx0_0 xpx0_0.length cpx0_0, .int .i64 mpx0_1] :: .row apx0_0 cpx0_0 (xpx0_0.map (Value.int .u8)) :: .own ro (some ⟨px1, 0, none⟩) 1 [.int .i64 mpx1_0, .int .i64 mpx1_1, .slice apx1_2 xpx1_2.length xpx1_2.length] :: .own ro apx1_2 1 (xpx1_2.map (Value.int .u8)) :: F)) (hp : F55.J15p lf xpx0_0 mpx0_1 b458 mpx1_0 mpx1_1 xpx1_2 = some r) : F55.Post px0 apx0_0 cpx0_0 xpx0_0 px1 F ro r (F55.J15 (callW Tryd.prog ora) lf ro px0 0 b458 h) := by
  unfold F55.J15
  unfold F55.J15p at hp
  refine st_if (Q := F55.Post px0 apx0_0 cpx0_0 xpx0_0 px1 F ro r) (fun hc_593 => ?_) (fun hc_593 => ?_)
  · replace hp := ifp_t hc_593 hp
    refine st_load (Q := F55.Post px0 apx0_0 cpx0_0 xpx0_0 px1 F ro r) isN hs agg22 rfl ?_
    refine st_slice (Q := F55.Post px0 apx0_0 cpx0_0 xpx0_0 px1 F ro r) ?_
    refine st_load (Q := F55.Post px0 apx0_0 cpx0_0 xpx0_0 px1 F ro r) isN hs agg3 rfl ?_
    refine st_int (Q := F55.Post px0 apx0_0 cpx0_0 xpx0_0 px1 F ro r) ?_
    have hs_596 := hs.pull 1 rfl
    obtain ⟨x_594, hx_595, hp⟩ := bindp_some hp
    refine st_idxR (Q := F55.Post px0 apx0_0 cpx0_0 xpx0_0 px1 F ro r) (l := xpx0_0) (f := (Value.int .u8)) isN isN hs_596 und22 siz5 agg5 rfl hx_595 ?_
    refine st_int (Q := F55.Post px0 apx0_0 cpx0_0 xpx0_0 px1 F ro r) ?_
    obtain ⟨r_597, hx_598, hp⟩ := bindp_some hp
    obtain ⟨h_599, e_601, hs_600⟩ := F36.ok hora (ro := ro) (F := .row apx0_0 cpx0_0 (xpx0_0.map (Value.int .u8)) :: .own ro (some ⟨px0, 0, none⟩) 1 [.slice apx0_0 xpx0_0.length cpx0_0, .int .i64 mpx0_1] :: .own ro (some ⟨px1, 0, none⟩) 1 [.int .i64 mpx1_0, .int .i64 mpx1_1, .slice apx1_2 xpx1_2.length xpx1_2.length] :: .own ro apx1_2 1 (xpx1_2.map (Value.int .u8)) :: F) x_594 _ hs_596 hx_598
    refine st_ok (Q := F55.Post px0 apx0_0 cpx0_0 xpx0_0 px1 F ro r) isN e_601 ?_
    refine st_bool (Q := F55.Post px0 apx0_0 cpx0_0 xpx0_0 px1 F ro r) ?_
    refine st_if (Q := F55.Post px0 apx0_0 cpx0_0 xpx0_0 px1 F ro r) (fun hc_602 => ?_) (fun hc_602 => ?_)
    · replace hp := ifp_t hc_602 hp
      have hs_603 := hs_600.dup
      have hs_604 := hs_603.pull 2 rfl
      obtain ⟨r_605, hx_606, hp⟩ := bindr_some hp
      have hc_612 := F52.ok hora (ro := ro) (px0 := px0) (apx0_0 := apx0_0) (cpx0_0 := cpx0_0) (xpx0_0 := xpx0_0) (F := .row apx0_0 cpx0_0 (xpx0_0.map (Value.int .u8)) :: .own ro (some ⟨px1, 0, none⟩) 1 [.int .i64 mpx1_0, .int .i64 mpx1_1, .slice apx1_2 xpx1_2.length xpx1_2.length] :: .own ro apx1_2 1 (xpx1_2.map (Value.int .u8)) :: F) mpx0_1 true 9 _ hs_604 hx_606
      cases r_605 with
      | ok r_610 =>
        replace hp := bindr_ok hp
        obtain ⟨h_607, e_609, hs_608⟩ := hc_612
        refine st_ok (Q := F55.Post px0 apx0_0 cpx0_0 xpx0_0 px1 F ro r) isO e_609 ?_
        refine st_tup (Q := F55.Post px0 apx0_0 cpx0_0 xpx0_0 px1 F ro r) (l := []) ?_
        refine st_nil (Q := F55.Post px0 apx0_0 cpx0_0 xpx0_0 px1 F ro r) ?_
        have hs_613 := hs_608.pull 1 rfl
        have hs_614 := hs_613.tail
        have hs_615 := hs_614.pull 2 rfl
        have hs_616 := hs_615.pull 2 rfl
        have hs_617 := hs_616.pull 2 rfl
        cases hp
        exact ⟨apx1_2, _, rfl, hs_617⟩
      | pan r_611 =>
        replace hp := bindr_pan hp
        obtain ⟨h_618, e_620, hs_619⟩ := hc_612
        refine st_pan (Q := F55.Post px0 apx0_0 cpx0_0 xpx0_0 px1 F ro r) e_620 ?_
        have hs_621 := hs_619.pull 1 rfl
        have hs_622 := hs_621.tail
        have hs_623 := hs_622.pull 2 rfl
        have hs_624 := hs_623.pull 2 rfl
        have hs_625 := hs_624.pull 2 rfl
        cases hp
        exact ⟨apx1_2, _, rfl, hs_625⟩
    · replace hp := ifp_f hc_602 hp
      have hs_626 := hs_600.pull 1 rfl
      refine st_load (Q := F55.Post px0 apx0_0 cpx0_0 xpx0_0 px1 F ro r) isN hs_626 agg22 rfl ?_
      refine st_slice (Q := F55.Post px0 apx0_0 cpx0_0 xpx0_0 px1 F ro r) ?_
      refine st_load (Q := F55.Post px0 apx0_0 cpx0_0 xpx0_0 px1 F ro r) isN hs_626 agg3 rfl ?_
      refine st_int (Q := F55.Post px0 apx0_0 cpx0_0 xpx0_0 px1 F ro r) ?_
      have hs_629 := hs_626.pull 1 rfl
      obtain ⟨x_627, hx_628, hp⟩ := bindp_some hp
      refine st_idxR (Q := F55.Post px0 apx0_0 cpx0_0 xpx0_0 px1 F ro r) (l := xpx0_0) (f := (Value.int .u8)) isN isN hs_629 und22 siz5 agg5 rfl hx_628 ?_
      refine st_int (Q := F55.Post px0 apx0_0 cpx0_0 xpx0_0 px1 F ro r) ?_
      have hs_630 := hs_629.dup
      have hs_631 := hs_630.pull 2 rfl
      obtain ⟨r_632, hx_633, hp⟩ := bindr_some hp
      have hc_639 := F52.ok hora (ro := ro) (px0 := px0) (apx0_0 := apx0_0) (cpx0_0 := cpx0_0) (xpx0_0 := xpx0_0) (F := .row apx0_0 cpx0_0 (xpx0_0.map (Value.int .u8)) :: .own ro (some ⟨px1, 0, none⟩) 1 [.int .i64 mpx1_0, .int .i64 mpx1_1, .slice apx1_2 xpx1_2.length xpx1_2.length] :: .own ro apx1_2 1 (xpx1_2.map (Value.int .u8)) :: F) mpx0_1 (x_627 == 35) 9 _ hs_631 hx_633
      cases r_632 with
      | ok r_637 =>
        replace hp := bindr_ok hp
        obtain ⟨h_634, e_636, hs_635⟩ := hc_639
        refine st_ok (Q := F55.Post px0 apx0_0 cpx0_0 xpx0_0 px1 F ro r) isO e_636 ?_
        refine st_tup (Q := F55.Post px0 apx0_0 cpx0_0 xpx0_0 px1 F ro r) (l := []) ?_
        refine st_nil (Q := F55.Post px0 apx0_0 cpx0_0 xpx0_0 px1 F ro r) ?_
        have hs_640 := hs_635.pull 1 rfl
        have hs_641 := hs_640.tail
        have hs_642 := hs_641.pull 2 rfl
        have hs_643 := hs_642.pull 2 rfl
        have hs_644 := hs_643.pull 2 rfl
        cases hp
        exact ⟨apx1_2, _, rfl, hs_644⟩
      | pan r_638 =>
        replace hp := bindr_pan hp
        obtain ⟨h_645, e_647, hs_646⟩ := hc_639
        refine st_pan (Q := F55.Post px0 apx0_0 cpx0_0 xpx0_0 px1 F ro r) e_647 ?_
        have hs_648 := hs_646.pull 1 rfl
        have hs_649 := hs_648.tail
        have hs_650 := hs_649.pull 2 rfl
        have hs_651 := hs_650.pull 2 rfl
        have hs_652 := hs_651.pull 2 rfl
        cases hp
        exact ⟨apx1_2, _, rfl, hs_652⟩
  · replace hp := ifp_f hc_593 hp
    have hs_653 := hs.pull 1 rfl
    have hs_654 := hs_653.tail
    have hs_655 := hs_654.pull 2 rfl
    have hs_656 := hs_655.pull 2 rfl
    have hs_657 := hs_656.pull 2 rfl
    cases hp
    exact ⟨apx1_2, _, rfl, hs_657⟩

def F55.J14p (lf : Nat) (xpx0_0 : List Int) (mpx0_1 : Int) (n449 : Int) (mpx1_0 : Int) (mpx1_1 : Int) (xpx1_2 : List Int) : Option (Res (Int × Int × Int × List Int) (Int × Int × Int × Int × List Int)) :=
  ifp (n449 == 2) (
    F55.J15p lf xpx0_0 mpx0_1 (decide (mpx0_1 < (xpx0_0.length : Int))) mpx1_0 mpx1_1 xpx1_2) (
    F55.J15p lf xpx0_0 mpx0_1 false mpx1_0 mpx1_1 xpx1_2)

theorem F55.J14_ok {ora : Ora} (hora : HOra ora) {lf ro : Nat} {F : List Ent} {r : (Res (Int × Int × Int × List Int) (Int × Int × Int × Int × List Int))} {px0 : Nat} {apx0_0 : Option Addr} {cpx0_0 : Nat} {xpx0_0 : List Int} {px1 : Nat} (mpx0_1 : Int) (n449 : Int) (mpx1_0 : Int) (mpx1_1 : Int) (apx1_2 : Option Addr) (xpx1_2 : List Int) (h : Heap) (hs : Sat ro h (.own ro (some ⟨px0, 0, none⟩) 1 [.slice apx0_0 xpx0_0.length cpx0_0, .int .i64 mpx0_1] :: .row apx0_0 cpx0_0 (xpx0_0.map (Value.int .u8)) :: .own ro (some ⟨px1, 0, none⟩) 1 [.int .i64 mpx1_0, .int .i64 mpx1_1, .slice apx1_2 xpx1_2.length xpx1_2.length] :: .own ro apx1_2 1 (xpx1_2.map (Value.int .u8)) :: F)) (hp : F55.J14p lf xpx0_0 mpx0_1 n449 mpx1_0 mpx1_1 xpx1_2 = some r) : F55.Post px0 apx0_0 cpx0_0 xpx0_0 px1 F ro r (F55.J14 (callW Tryd.prog ora) lf ro px0 0 n449 h) := by
  unfold F55.J14
  unfold F55.J14p at hp
  refine st_if (Q := F55.Post px0 apx0_0 cpx0_0 xpx0_0 px1 F ro r) (fun hc_592 => ?_) (fun hc_592 => ?_)
  · replace hp := ifp_t hc_592 hp
    refine st_load (Q := F55.Post px0 apx0_0 cpx0_0 xpx0_0 px1 F ro r) isN hs agg3 rfl ?_
    refine st_int (Q := F55.Post px0 apx0_0 cpx0_0 xpx0_0 px1 F ro r) ?_
    refine st_load (Q := F55.Post px0 apx0_0 cpx0_0 xpx0_0 px1 F ro r) isN hs agg22 rfl ?_
    refine st_slice (Q := F55.Post px0 apx0_0 cpx0_0 xpx0_0 px1 F ro r) ?_
    have hs_658 := hs.pull 3 rfl
    have hs_659 := hs_658.pull 3 rfl
    have hs_660 := hs_659.pull 3 rfl
    have hs_661 := hs_660.pull 3 rfl
    exact F55.J15_ok hora mpx0_1 (decide (mpx0_1 < (xpx0_0.length : Int))) mpx1_0 mpx1_1 apx1_2 xpx1_2 _ hs_661 hp
  · replace hp := ifp_f hc_592 hp
    have hs_662 := hs.pull 3 rfl
    have hs_663 := hs_662.pull 3 rfl
    have hs_664 := hs_663.pull 3 rfl
    have hs_665 := hs_664.pull 3 rfl
    exact F55.J15_ok hora mpx0_1 false mpx1_0 mpx1_1 apx1_2 xpx1_2 _ hs_665 hp

def F55.L1p (lf : Nat) : Nat → List Int → Int → Int → Int → List Int → Int → Int → Int → Int → Option (Res (Int × Int × Int × List Int) (Int × Int × Int × Int × List Int))
  | 0, _, _, _, _, _, _, _, _, _ => none
  | n + 1, xpx0_0, mpx0_1, mpx1_0, mpx1_1, xpx1_2, n9, n10, n11, n12 =>
  ifp (decide (n12 < n11)) (
    F55.J2p lf (F55.L1p lf n) xpx0_0 mpx0_1 mpx1_0 mpx1_1 xpx1_2 n9 n10 n11 n12) (
    F55.J14p lf xpx0_0 mpx0_1 n9 mpx1_0 mpx1_1 xpx1_2)

theorem F55.L1_ok {ora : Ora} (hora : HOra ora) {lf ro : Nat} {F : List Ent} {r : (Res (Int × Int × Int × List Int) (Int × Int × Int × Int × List Int))} {px0 : Nat} {apx0_0 : Option Addr} {cpx0_0 : Nat} {xpx0_0 : List Int} {px1 : Nat} : ∀ (n : Nat) (mpx0_1 : Int) (mpx1_0 : Int) (mpx1_1 : Int) (apx1_2 : Option Addr) (xpx1_2 : List Int) (n9 : Int) (n10 : Int) (n11 : Int) (n12 : Int) (h : Heap), Sat ro h (.own ro (some ⟨px0, 0, none⟩) 1 [.slice apx0_0 xpx0_0.length cpx0_0, .int .i64 mpx0_1] :: .row apx0_0 cpx0_0 (xpx0_0.map (Value.int .u8)) :: .own ro (some ⟨px1, 0, none⟩) 1 [.int .i64 mpx1_0, .int .i64 mpx1_1, .slice apx1_2 xpx1_2.length xpx1_2.length] :: .own ro apx1_2 1 (xpx1_2.map (Value.int .u8)) :: F) → F55.L1p lf n xpx0_0 mpx0_1 mpx1_0 mpx1_1 xpx1_2 n9 n10 n11 n12 = some r → F55.Post px0 apx0_0 cpx0_0 xpx0_0 px1 F ro r (F55.L1 (callW Tryd.prog ora) lf ro n px0 0 px1 0 n9 n10 n11 n12 h) := by
  intro n
  induction n with
  | zero => intro mpx0_1 mpx1_0 mpx1_1 apx1_2 xpx1_2 n9 n10 n11 n12 h hs hp; cases hp
  | succ n ih =>
    intro mpx0_1 mpx1_0 mpx1_1 apx1_2 xpx1_2 n9 n10 n11 n12 h hs hp
    unfold F55.L1
    unfold F55.L1p at hp
    refine st_if (Q := F55.Post px0 apx0_0 cpx0_0 xpx0_0 px1 F ro r) (fun hc_429 => ?_) (fun hc_429 => ?_)
    · replace hp := ifp_t hc_429 hp
      have hs_588 := hs.pull 3 rfl
      have hs_589 := hs_588.pull 3 rfl
      have hs_590 := hs_589.pull 3 rfl
      have hs_591 := hs_590.pull 3 rfl
      exact F55.J2_ok hora ih mpx0_1 mpx1_0 mpx1_1 apx1_2 xpx1_2 n9 n10 n11 n12 _ hs_591 hp
    · replace hp := ifp_f hc_429 hp
      have hs_666 := hs.pull 3 rfl
      have hs_667 := hs_666.pull 3 rfl
      have hs_668 := hs_667.pull 3 rfl
      have hs_669 := hs_668.pull 3 rfl
      exact F55.J14_ok hora mpx0_1 n9 mpx1_0 mpx1_1 apx1_2 xpx1_2 _ hs_669 hp

def F55.p (lf : Nat) (xpx0_0 : List Int) (mpx0_1 : Int) (mpx1_0 : Int) (mpx1_1 : Int) (xpx1_2 : List Int) (x2 : Int) (x3 : Int) : Option (Res (Int × Int × Int × List Int) (Int × Int × Int × Int × List Int)) :=
  F55.L1p lf lf xpx0_0 mpx0_1 mpx1_0 mpx1_1 xpx1_2 x2 x3 (xpx1_2.length : Int) 0

theorem F55.t_ok {ora : Ora} (hora : HOra ora) {lf ro : Nat} {F : List Ent} {r : (Res (Int × Int × Int × List Int) (Int × Int × Int × Int × List Int))} {px0 : Nat} {apx0_0 : Option Addr} {cpx0_0 : Nat} {xpx0_0 : List Int} {px1 : Nat} (mpx0_1 : Int) (mpx1_0 : Int) (mpx1_1 : Int) (apx1_2 : Option Addr) (xpx1_2 : List Int) (x2 : Int) (x3 : Int) (h : Heap) (hs : Sat ro h (.own ro (some ⟨px0, 0, none⟩) 1 [.slice apx0_0 xpx0_0.length cpx0_0, .int .i64 mpx0_1] :: .row apx0_0 cpx0_0 (xpx0_0.map (Value.int .u8)) :: .own ro (some ⟨px1, 0, none⟩) 1 [.int .i64 mpx1_0, .int .i64 mpx1_1, .slice apx1_2 xpx1_2.length xpx1_2.length] :: .own ro apx1_2 1 (xpx1_2.map (Value.int .u8)) :: F)) (hp : F55.p lf xpx0_0 mpx0_1 mpx1_0 mpx1_1 xpx1_2 x2 x3 = some r) : F55.Post px0 apx0_0 cpx0_0 xpx0_0 px1 F ro r (F55.t (callW Tryd.prog ora) lf ro px0 0 px1 0 x2 x3 h) := by
  unfold F55.t
  unfold F55.p at hp
  have hs_428 := hs.pull 2 rfl
  refine st_load (Q := F55.Post px0 apx0_0 cpx0_0 xpx0_0 px1 F ro r) isO hs_428 agg22 rfl ?_
  refine st_slice (Q := F55.Post px0 apx0_0 cpx0_0 xpx0_0 px1 F ro r) ?_
  have hs_670 := hs_428.pull 3 rfl
  have hs_671 := hs_670.pull 1 rfl
  have hs_672 := hs_671.pull 3 rfl
  have hs_673 := hs_672.pull 3 rfl
  exact F55.L1_ok hora lf mpx0_1 mpx1_0 mpx1_1 apx1_2 xpx1_2 x2 x3 (xpx1_2.length : Int) 0 _ hs_673 hp

theorem F55.ok {ora : Ora} (hora : HOra ora) {lf ro : Nat} {F : List Ent} {r : (Res (Int × Int × Int × List Int) (Int × Int × Int × Int × List Int))} {px0 : Nat} {apx0_0 : Option Addr} {cpx0_0 : Nat} {xpx0_0 : List Int} {px1 : Nat} (mpx0_1 : Int) (mpx1_0 : Int) (mpx1_1 : Int) (apx1_2 : Option Addr) (xpx1_2 : List Int) (x2 : Int) (x3 : Int) (h : Heap) (hs : Sat ro h (.own ro (some ⟨px0, 0, none⟩) 1 [.slice apx0_0 xpx0_0.length cpx0_0, .int .i64 mpx0_1] :: .row apx0_0 cpx0_0 (xpx0_0.map (Value.int .u8)) :: .own ro (some ⟨px1, 0, none⟩) 1 [.int .i64 mpx1_0, .int .i64 mpx1_1, .slice apx1_2 xpx1_2.length xpx1_2.length] :: .own ro apx1_2 1 (xpx1_2.map (Value.int .u8)) :: F)) (hp : F55.p lf xpx0_0 mpx0_1 mpx1_0 mpx1_1 xpx1_2 x2 x3 = some r) : F55.Post px0 apx0_0 cpx0_0 xpx0_0 px1 F ro r (callW Tryd.prog ora ro 55 [.pointer (some ⟨px0, 0, none⟩), .pointer (some ⟨px1, 0, none⟩), .int .i64 x2, .int .i64 x3] h) := by
  have h1 := F55.t_ok hora mpx0_1 mpx1_0 mpx1_1 apx1_2 xpx1_2 x2 x3 h hs hp
  have h2 : callW Tryd.prog ora ro 55 [.pointer (some ⟨px0, 0, none⟩), .pointer (some ⟨px1, 0, none⟩), .int .i64 x2, .int .i64 x3] h = _ := callW_body (hora.none _ _ _ _ (by decide)) Tryd.func55 (F55.le (callW Tryd.prog ora) lf ro px0 0 px1 0 x2 x3 h) (F55.Post.ne h1)
  rw [h2]; exact h1

def F44.Post (px0 : Nat) (apx0_0 : Option Addr) (cpx0_0 : Nat) (xpx0_0 : List Int) (F : List Ent) (ro : Nat) (r : (Res (Int × Int × List Int × Int × Int) (Int × Int))) (x : Out) : Prop := match r with
  | .ok r => ∃ a2 h', x = .ok (.tuple #[.agg #[.int .i64 r.1, .int .i64 r.2.1, .slice a2 r.2.2.1.length r.2.2.1.length], .int .i64 r.2.2.2.1]) h' ∧ Sat ro h' (.own ro a2 1 (r.2.2.1.map (Value.int .u8)) :: .own ro (some ⟨px0, 0, none⟩) 1 [.slice apx0_0 xpx0_0.length cpx0_0, .int .i64 r.2.2.2.2] :: F)
  | .pan r => ∃ h', x = .panic (.iface 77 (.agg #[.int .i64 r.1])) h' ∧ Sat ro h' (.own ro (some ⟨px0, 0, none⟩) 1 [.slice apx0_0 xpx0_0.length cpx0_0, .int .i64 r.2] :: F)
theorem F44.Post.ne {px0 : Nat} {apx0_0 : Option Addr} {cpx0_0 : Nat} {xpx0_0 : List Int} {F : List Ent} {ro : Nat} {r : (Res (Int × Int × List Int × Int × Int) (Int × Int))} {x : Out} (hx : F44.Post px0 apx0_0 cpx0_0 xpx0_0 F ro r x) : x ≠ .fail := by
  cases r with
  | ok r => obtain ⟨a2, h', rfl, _⟩ := hx; simp
  | pan r => obtain ⟨h', rfl, _⟩ := hx; simp

def F44.J13p (lf : Nat) (xpx0_0 : List Int) (mpx0_1 : Int) (mp138_0 : Int) (mp138_1 : Int) (n139 : Int) (mp140_0 : Int) (mp140_1 : Int) (n141 : Int) : Option (Res (Int × Int × List Int × Int × Int) (Int × Int)) :=
  bindp (repp 1 0 (IntKind.i64.wrap (mp140_0 * mp140_1))) fun x_778 =>
  bindp (F54.p lf n139) fun r_786 =>
  letJ (fun (mj178_0_0 : Int) (mj178_0_1 : Int) (xj178_0_2 : List Int) (mj178_2_1 : Int) => (
    some (.ok (mj178_0_0, mj178_0_1, xj178_0_2, n139, mj178_2_1)) : Option (Res (Int × Int × List Int × Int × Int) (Int × Int)))) fun j178p =>
  ifp r_786 (
    bindr (F55.p lf xpx0_0 mpx0_1 mp140_0 mp140_1 x_778 n139 n141) (fun r_804 => some (.pan (r_804.1, r_804.2.1))) fun r_803 =>
    j178p r_803.2.1 r_803.2.2.1 r_803.2.2.2 r_803.1) (
    bindr (F56.p lf xpx0_0 mpx0_1 mp140_0 mp140_1 x_778 n139 n141) (fun r_836 => some (.pan (r_836.1, r_836.2.1))) fun r_835 =>
    j178p r_835.2.1 r_835.2.2.1 r_835.2.2.2 r_835.1)

theorem F44.J13_ok {ora : Ora} (hora : HOra ora) {lf ro : Nat} {F : List Ent} {r : (Res (Int × Int × List Int × Int × Int) (Int × Int))} {px0 : Nat} {apx0_0 : Option Addr} {cpx0_0 : Nat} {xpx0_0 : List Int} (mpx0_1 : Int) (p138 : Nat) (mp138_0 : Int) (mp138_1 : Int) (n139 : Int) (p140 : Nat) (mp140_0 : Int) (mp140_1 : Int) (n141 : Int) (h : Heap) (hs : Sat ro h (.own ro (some ⟨px0, 0, none⟩) 1 [.slice apx0_0 xpx0_0.length cpx0_0, .int .i64 mpx0_1] :: .row apx0_0 cpx0_0 (xpx0_0.map (Value.int .u8)) :: .own ro (some ⟨p138, 0, none⟩) 1 [.int .i64 mp138_0, .int .i64 mp138_1, .slice none 0 0] :: .own ro (some ⟨p140, 0, none⟩) 1 [.int .i64 mp140_0, .int .i64 mp140_1, .slice none 0 0] :: F)) (hp : F44.J13p lf xpx0_0 mpx0_1 mp138_0 mp138_1 n139 mp140_0 mp140_1 n141 = some r) : F44.Post px0 apx0_0 cpx0_0 xpx0_0 F ro r (F44.J13 (callW Tryd.prog ora) lf ro px0 0 p138 0 n139 p140 0 n141 h) := by
  unfold F44.J13
  unfold F44.J13p at hp
  have hs_777 := hs.pull 3 rfl
  refine st_load (Q := F44.Post px0 apx0_0 cpx0_0 xpx0_0 F ro r) isO hs_777 agg3 rfl ?_
  refine st_int (Q := F44.Post px0 apx0_0 cpx0_0 xpx0_0 F ro r) ?_
  refine st_load (Q := F44.Post px0 apx0_0 cpx0_0 xpx0_0 F ro r) isO hs_777 agg3 rfl ?_
  refine st_int (Q := F44.Post px0 apx0_0 cpx0_0 xpx0_0 F ro r) ?_
  obtain ⟨x_778, hx_779, hp⟩ := bindp_some hp
  refine st_make (Q := F44.Post px0 apx0_0 cpx0_0 xpx0_0 F ro r) isO hs_777 (fun _ => rfl) und22 inf5 rfl rfl zer5 rfl hx_779 fun a_780 h_781 hs_782 => ?_
  refine st_slice (Q := F44.Post px0 apx0_0 cpx0_0 xpx0_0 F ro r) ?_
  have hs_783 := hs_782.pull 1 rfl
  refine st_store (Q := F44.Post px0 apx0_0 cpx0_0 xpx0_0 F ro r) isO hs_783 siz22 rfl (Nat.le_of_ble_eq_true rfl) fun h_784 hs_785 => ?_
  obtain ⟨r_786, hx_787, hp⟩ := bindp_some hp
  obtain ⟨h_788, e_790, hs_789⟩ := F54.ok hora (ro := ro) (F := .own ro (some ⟨p140, 0, none⟩) 1 [.int .i64 mp140_0, .int .i64 mp140_1, .slice a_780 x_778.length x_778.length] :: .own ro a_780 1 (x_778.map (Value.int .u8)) :: .own ro (some ⟨px0, 0, none⟩) 1 [.slice apx0_0 xpx0_0.length cpx0_0, .int .i64 mpx0_1] :: .row apx0_0 cpx0_0 (xpx0_0.map (Value.int .u8)) :: .own ro (some ⟨p138, 0, none⟩) 1 [.int .i64 mp138_0, .int .i64 mp138_1, .slice none 0 0] :: F) n139 _ hs_785 hx_787
  refine st_ok (Q := F44.Post px0 apx0_0 cpx0_0 xpx0_0 F ro r) isO e_790 ?_
  refine st_bool (Q := F44.Post px0 apx0_0 cpx0_0 xpx0_0 F ro r) ?_
  refine st_letJ hp (fun j178p j178 => ∀ (mj178_0_0 : Int) (mj178_0_1 : Int) (aj178_0_2 : Option Addr) (xj178_0_2 : List Int) (mj178_2_1 : Int) (h_856 : Heap), Sat ro h_856 (.own ro (some ⟨p140, 0, none⟩) 1 [.int .i64 mj178_0_0, .int .i64 mj178_0_1, .slice aj178_0_2 xj178_0_2.length xj178_0_2.length] :: .own ro (some ⟨px0, 0, none⟩) 1 [.slice apx0_0 xpx0_0.length cpx0_0, .int .i64 mj178_2_1] :: .row apx0_0 cpx0_0 (xpx0_0.map (Value.int .u8)) :: .own ro (some ⟨p138, 0, none⟩) 1 [.int .i64 mp138_0, .int .i64 mp138_1, .slice none 0 0] :: .own ro aj178_0_2 1 (xj178_0_2.map (Value.int .u8)) :: F) → j178p mj178_0_0 mj178_0_1 xj178_0_2 mj178_2_1 = some r → F44.Post px0 apx0_0 cpx0_0 xpx0_0 F ro r (j178 h_856)) ?_ ?_
  · intro mj178_0_0 mj178_0_1 aj178_0_2 xj178_0_2 mj178_2_1 h_856 hs hp
    refine st_loadA (Q := F44.Post px0 apx0_0 cpx0_0 xpx0_0 F ro r) isO hs agg24 siz24 rfl ?_
    refine st_agg (Q := F44.Post px0 apx0_0 cpx0_0 xpx0_0 F ro r) (l := [.int .i64 mj178_0_0, .int .i64 mj178_0_1, .slice aj178_0_2 xj178_0_2.length xj178_0_2.length]) ?_
    refine st_cons (Q := F44.Post px0 apx0_0 cpx0_0 xpx0_0 F ro r) ?_
    refine st_int (Q := F44.Post px0 apx0_0 cpx0_0 xpx0_0 F ro r) ?_
    refine st_cons (Q := F44.Post px0 apx0_0 cpx0_0 xpx0_0 F ro r) ?_
    refine st_int (Q := F44.Post px0 apx0_0 cpx0_0 xpx0_0 F ro r) ?_
    refine st_cons (Q := F44.Post px0 apx0_0 cpx0_0 xpx0_0 F ro r) ?_
    refine st_slice (Q := F44.Post px0 apx0_0 cpx0_0 xpx0_0 F ro r) ?_
    refine st_nil (Q := F44.Post px0 apx0_0 cpx0_0 xpx0_0 F ro r) ?_
    have hs_857 := hs.pull 3 rfl
    refine st_storeA (Q := F44.Post px0 apx0_0 cpx0_0 xpx0_0 F ro r) (vs := [.int .i64 mj178_0_0, .int .i64 mj178_0_1, .slice aj178_0_2 xj178_0_2.length xj178_0_2.length]) isO hs_857 siz24 rfl rfl rfl rfl fun h_858 hs_859 => ?_
    have hc_860 := readCells_at (o := 0) (n := 3) (cs := [.int .i64 mj178_0_0, .int .i64 mj178_0_1, .slice aj178_0_2 xj178_0_2.length xj178_0_2.length]) hs_859 rfl
    refine st_res (Q := F44.Post px0 apx0_0 cpx0_0 xpx0_0 F ro r) (show resVals _ _ _ _ = some [.agg #[.int .i64 mj178_0_0, .int .i64 mj178_0_1, .slice aj178_0_2 xj178_0_2.length xj178_0_2.length], .int .i64 n139] from res_cellA ((EF_get (by decide)).trans rfl) agg24 siz24 hc_860 (res_tmp ((EF_get (by decide)).trans rfl) (res_nil))) ?_
    have hs_861 := hs_859.tail
    have hs_862 := hs_861.tail
    have hs_863 := hs_862.pull 1 rfl
    have hs_864 := hs_863.tail
    have hs_865 := hs_864.pull 1 rfl
    cases hp
    exact ⟨aj178_0_2, _, rfl, hs_865⟩
  · intro j178p j178 hj178 hp
    refine st_if (Q := F44.Post px0 apx0_0 cpx0_0 xpx0_0 F ro r) (fun hc_791 => ?_) (fun hc_791 => ?_)
    · replace hp := ifp_t hc_791 hp
      have hs_792 := hs_789.pull 3 rfl
      have hs_793 := hs_792.dup
      have hs_794 := hs_793.pull 3 rfl
      have hs_795 := hs_794.pull 3 rfl
      have hs_796 := hs_795.pull 2 rfl
      have hs_797 := hs_796.pull 4 rfl
      obtain ⟨r_798, hx_799, hp⟩ := bindr_some hp
      have hc_805 := F55.ok hora (ro := ro) (px0 := px0) (apx0_0 := apx0_0) (cpx0_0 := cpx0_0) (xpx0_0 := xpx0_0) (px1 := p140) (F := .row apx0_0 cpx0_0 (xpx0_0.map (Value.int .u8)) :: .own ro (some ⟨p138, 0, none⟩) 1 [.int .i64 mp138_0, .int .i64 mp138_1, .slice none 0 0] :: F) mpx0_1 mp140_0 mp140_1 a_780 x_778 n139 n141 _ hs_797 hx_799
      cases r_798 with
      | ok r_803 =>
        replace hp := bindr_ok hp
        obtain ⟨a_806, h_800, e_802, hs_801⟩ := hc_805
        refine st_ok (Q := F44.Post px0 apx0_0 cpx0_0 xpx0_0 F ro r) isO e_802 ?_
        refine st_tup (Q := F44.Post px0 apx0_0 cpx0_0 xpx0_0 F ro r) (l := []) ?_
        refine st_nil (Q := F44.Post px0 apx0_0 cpx0_0 xpx0_0 F ro r) ?_
        have hs_807 := hs_801.pull 2 rfl
        have hs_808 := hs_807.pull 4 rfl
        have hs_809 := hs_808.pull 4 rfl
        have hs_810 := hs_809.pull 3 rfl
        have hs_811 := hs_810.pull 4 rfl
        exact hj178 r_803.2.1 r_803.2.2.1 a_806 r_803.2.2.2 r_803.1 _ hs_811 hp
      | pan r_804 =>
        replace hp := bindr_pan hp
        obtain ⟨a_812, h_813, e_815, hs_814⟩ := hc_805
        refine st_pan (Q := F44.Post px0 apx0_0 cpx0_0 xpx0_0 F ro r) e_815 ?_
        have hs_816 := hs_814.pull 1 rfl
        have hs_817 := hs_816.tail
        have hs_818 := hs_817.pull 1 rfl
        have hs_819 := hs_818.tail
        have hs_820 := hs_819.pull 1 rfl
        have hs_821 := hs_820.tail
        have hs_822 := hs_821.pull 1 rfl
        have hs_823 := hs_822.tail
        cases hp
        exact ⟨_, rfl, hs_823⟩
    · replace hp := ifp_f hc_791 hp
      have hs_824 := hs_789.pull 3 rfl
      have hs_825 := hs_824.dup
      have hs_826 := hs_825.pull 3 rfl
      have hs_827 := hs_826.pull 3 rfl
      have hs_828 := hs_827.pull 2 rfl
      have hs_829 := hs_828.pull 4 rfl
      obtain ⟨r_830, hx_831, hp⟩ := bindr_some hp
      have hc_837 := F56.ok hora (ro := ro) (px0 := px0) (apx0_0 := apx0_0) (cpx0_0 := cpx0_0) (xpx0_0 := xpx0_0) (px1 := p140) (F := .row apx0_0 cpx0_0 (xpx0_0.map (Value.int .u8)) :: .own ro (some ⟨p138, 0, none⟩) 1 [.int .i64 mp138_0, .int .i64 mp138_1, .slice none 0 0] :: F) mpx0_1 mp140_0 mp140_1 a_780 x_778 n139 n141 _ hs_829 hx_831
      cases r_830 with
      | ok r_835 =>
        replace hp := bindr_ok hp
        obtain ⟨a_838, h_832, e_834, hs_833⟩ := hc_837
        refine st_ok (Q := F44.Post px0 apx0_0 cpx0_0 xpx0_0 F ro r) isO e_834 ?_
        refine st_tup (Q := F44.Post px0 apx0_0 cpx0_0 xpx0_0 F ro r) (l := []) ?_
        refine st_nil (Q := F44.Post px0 apx0_0 cpx0_0 xpx0_0 F ro r) ?_
        have hs_839 := hs_833.pull 2 rfl
        have hs_840 := hs_839.pull 4 rfl
        have hs_841 := hs_840.pull 4 rfl
        have hs_842 := hs_841.pull 3 rfl
        have hs_843 := hs_842.pull 4 rfl
        exact hj178 r_835.2.1 r_835.2.2.1 a_838 r_835.2.2.2 r_835.1 _ hs_843 hp
      | pan r_836 =>
        replace hp := bindr_pan hp
        obtain ⟨a_844, h_845, e_847, hs_846⟩ := hc_837
        refine st_pan (Q := F44.Post px0 apx0_0 cpx0_0 xpx0_0 F ro r) e_847 ?_
        have hs_848 := hs_846.pull 1 rfl
        have hs_849 := hs_848.tail
        have hs_850 := hs_849.pull 1 rfl
        have hs_851 := hs_850.tail
        have hs_852 := hs_851.pull 1 rfl
        have hs_853 := hs_852.tail
        have hs_854 := hs_853.pull 1 rfl
        have hs_855 := hs_854.tail
        cases hp
        exact ⟨_, rfl, hs_855⟩

def F44.J10p (lf : Nat) (xpx0_0 : List Int) (mpx0_1 : Int) (mp124_0 : Int) (mp124_1 : Int) (n125 : Int) (mp126_0 : Int) (mp126_1 : Int) : Option (Res (Int × Int × List Int × Int × Int) (Int × Int)) :=
  bindp (F21.p lf n125) fun r_760 =>
  ifp (!r_760) (
    bindr (F53.p lf xpx0_0 mpx0_1 1 255) (fun r_775 => some (.pan (r_775.1, r_775.2))) fun r_774 =>
    F44.J13p lf xpx0_0 r_774.2 mp124_0 mp124_1 n125 mp126_0 mp126_1 r_774.1) (
    F44.J13p lf xpx0_0 mpx0_1 mp124_0 mp124_1 n125 mp126_0 mp126_1 1)

theorem F44.J10_ok {ora : Ora} (hora : HOra ora) {lf ro : Nat} {F : List Ent} {r : (Res (Int × Int × List Int × Int × Int) (Int × Int))} {px0 : Nat} {apx0_0 : Option Addr} {cpx0_0 : Nat} {xpx0_0 : List Int} (mpx0_1 : Int) (p124 : Nat) (mp124_0 : Int) (mp124_1 : Int) (n125 : Int) (p126 : Nat) (mp126_0 : Int) (mp126_1 : Int) (h : Heap) (hs : Sat ro h (.own ro (some ⟨px0, 0, none⟩) 1 [.slice apx0_0 xpx0_0.length cpx0_0, .int .i64 mpx0_1] :: .row apx0_0 cpx0_0 (xpx0_0.map (Value.int .u8)) :: .own ro (some ⟨p124, 0, none⟩) 1 [.int .i64 mp124_0, .int .i64 mp124_1, .slice none 0 0] :: .own ro (some ⟨p126, 0, none⟩) 1 [.int .i64 mp126_0, .int .i64 mp126_1, .slice none 0 0] :: F)) (hp : F44.J10p lf xpx0_0 mpx0_1 mp124_0 mp124_1 n125 mp126_0 mp126_1 = some r) : F44.Post px0 apx0_0 cpx0_0 xpx0_0 F ro r (F44.J10 (callW Tryd.prog ora) lf ro px0 0 p124 0 n125 p126 0 h) := by
  unfold F44.J10
  unfold F44.J10p at hp
  obtain ⟨r_760, hx_761, hp⟩ := bindp_some hp
  obtain ⟨h_762, e_764, hs_763⟩ := F21.ok hora (ro := ro) (F := .own ro (some ⟨px0, 0, none⟩) 1 [.slice apx0_0 xpx0_0.length cpx0_0, .int .i64 mpx0_1] :: .row apx0_0 cpx0_0 (xpx0_0.map (Value.int .u8)) :: .own ro (some ⟨p124, 0, none⟩) 1 [.int .i64 mp124_0, .int .i64 mp124_1, .slice none 0 0] :: .own ro (some ⟨p126, 0, none⟩) 1 [.int .i64 mp126_0, .int .i64 mp126_1, .slice none 0 0] :: F) n125 _ hs hx_761
  refine st_ok (Q := F44.Post px0 apx0_0 cpx0_0 xpx0_0 F ro r) isO e_764 ?_
  refine st_bool (Q := F44.Post px0 apx0_0 cpx0_0 xpx0_0 F ro r) ?_
  refine st_if (Q := F44.Post px0 apx0_0 cpx0_0 xpx0_0 F ro r) (fun hc_765 => ?_) (fun hc_765 => ?_)
  · replace hp := ifp_t hc_765 hp
    have hs_766 := hs_763.pull 1 rfl
    have hs_767 := hs_766.dup
    have hs_768 := hs_767.pull 2 rfl
    obtain ⟨r_769, hx_770, hp⟩ := bindr_some hp
    have hc_776 := F53.ok hora (ro := ro) (px0 := px0) (apx0_0 := apx0_0) (cpx0_0 := cpx0_0) (xpx0_0 := xpx0_0) (F := .row apx0_0 cpx0_0 (xpx0_0.map (Value.int .u8)) :: .own ro (some ⟨p124, 0, none⟩) 1 [.int .i64 mp124_0, .int .i64 mp124_1, .slice none 0 0] :: .own ro (some ⟨p126, 0, none⟩) 1 [.int .i64 mp126_0, .int .i64 mp126_1, .slice none 0 0] :: F) mpx0_1 1 255 _ hs_768 hx_770
    cases r_769 with
    | ok r_774 =>
      replace hp := bindr_ok hp
      obtain ⟨h_771, e_773, hs_772⟩ := hc_776
      refine st_ok (Q := F44.Post px0 apx0_0 cpx0_0 xpx0_0 F ro r) isO e_773 ?_
      refine st_int (Q := F44.Post px0 apx0_0 cpx0_0 xpx0_0 F ro r) ?_
      have hs_866 := hs_772.pull 3 rfl
      have hs_867 := hs_866.pull 3 rfl
      have hs_868 := hs_867.pull 3 rfl
      have hs_869 := hs_868.pull 3 rfl
      exact F44.J13_ok hora r_774.2 p124 mp124_0 mp124_1 n125 p126 mp126_0 mp126_1 r_774.1 _ hs_869 hp
    | pan r_775 =>
      replace hp := bindr_pan hp
      obtain ⟨h_870, e_872, hs_871⟩ := hc_776
      refine st_pan (Q := F44.Post px0 apx0_0 cpx0_0 xpx0_0 F ro r) e_872 ?_
      have hs_873 := hs_871.pull 1 rfl
      have hs_874 := hs_873.tail
      have hs_875 := hs_874.pull 1 rfl
      have hs_876 := hs_875.tail
      have hs_877 := hs_876.pull 1 rfl
      have hs_878 := hs_877.tail
      cases hp
      exact ⟨_, rfl, hs_878⟩
  · replace hp := ifp_f hc_765 hp
    have hs_879 := hs_763.pull 3 rfl
    have hs_880 := hs_879.pull 3 rfl
    have hs_881 := hs_880.pull 3 rfl
    have hs_882 := hs_881.pull 3 rfl
    exact F44.J13_ok hora mpx0_1 p124 mp124_0 mp124_1 n125 p126 mp126_0 mp126_1 1 _ hs_882 hp

def F44.J4p (lf : Nat) (xpx0_0 : List Int) (mpx0_1 : Int) (mp51_0 : Int) (mp51_1 : Int) (n52 : Int) : Option (Res (Int × Int × List Int × Int × Int) (Int × Int)) :=
  bindp (F20.p lf n52) fun r_695 =>
  bindr (F52.p lf xpx0_0 mpx0_1 r_695 25) (fun r_709 => some (.pan (r_709.1, r_709.2))) fun r_708 =>
  bindr (F53.p lf xpx0_0 (IntKind.i64.wrap (r_708 + 2)) 0 65535) (fun r_726 => some (.pan (r_726.1, r_726.2))) fun r_725 =>
  bindr (F53.p lf xpx0_0 r_725.2 0 65535) (fun r_740 => some (.pan (r_740.1, r_740.2))) fun r_739 =>
  ifp (decide (r_725.1 ≥ 1)) (
    ifp (decide (r_725.1 ≤ 4096)) (
      ifp (decide (r_739.1 ≥ 1)) (
        ifp (decide (r_739.1 ≤ 4096)) (
          bindr (F52.p lf xpx0_0 r_739.2 (decide (IntKind.i64.wrap (r_725.1 * r_739.1) ≤ 4194304)) 23) (fun r_758 => some (.pan (r_758.1, r_758.2))) fun r_757 =>
          F44.J10p lf xpx0_0 r_757 mp51_0 mp51_1 n52 r_725.1 r_739.1) (
          bindr (F52.p lf xpx0_0 r_739.2 false 23) (fun r_905 => some (.pan (r_905.1, r_905.2))) fun r_904 =>
          F44.J10p lf xpx0_0 r_904 mp51_0 mp51_1 n52 r_725.1 r_739.1)) (
        bindr (F52.p lf xpx0_0 r_739.2 false 23) (fun r_929 => some (.pan (r_929.1, r_929.2))) fun r_928 =>
        F44.J10p lf xpx0_0 r_928 mp51_0 mp51_1 n52 r_725.1 r_739.1)) (
      bindr (F52.p lf xpx0_0 r_739.2 false 23) (fun r_953 => some (.pan (r_953.1, r_953.2))) fun r_952 =>
      F44.J10p lf xpx0_0 r_952 mp51_0 mp51_1 n52 r_725.1 r_739.1)) (
    bindr (F52.p lf xpx0_0 r_739.2 false 23) (fun r_977 => some (.pan (r_977.1, r_977.2))) fun r_976 =>
    F44.J10p lf xpx0_0 r_976 mp51_0 mp51_1 n52 r_725.1 r_739.1)

theorem F44.J4_ok {ora : Ora} (hora : HOra ora) {lf ro : Nat} {F : List Ent} {r : (Res (Int × Int × List Int × Int × Int) (Int × Int))} {px0 : Nat} {apx0_0 : Option Addr} {cpx0_0 : Nat} {xpx0_0 : List Int} (mpx0_1 : Int) (p51 : Nat) (mp51_0 : Int) (mp51_1 : Int) (n52 : Int) (h : Heap) (hs : Sat ro h (.own ro (some ⟨px0, 0, none⟩) 1 [.slice apx0_0 xpx0_0.length cpx0_0, .int .i64 mpx0_1] :: .row apx0_0 cpx0_0 (xpx0_0.map (Value.int .u8)) :: .own ro (some ⟨p51, 0, none⟩) 1 [.int .i64 mp51_0, .int .i64 mp51_1, .slice none 0 0] :: F)) (hp : F44.J4p lf xpx0_0 mpx0_1 mp51_0 mp51_1 n52 = some r) : F44.Post px0 apx0_0 cpx0_0 xpx0_0 F ro r (F44.J4 (callW Tryd.prog ora) lf ro px0 0 p51 0 n52 h) := by
  unfold F44.J4
  unfold F44.J4p at hp
  obtain ⟨r_695, hx_696, hp⟩ := bindp_some hp
  obtain ⟨h_697, e_699, hs_698⟩ := F20.ok hora (ro := ro) (F := .own ro (some ⟨px0, 0, none⟩) 1 [.slice apx0_0 xpx0_0.length cpx0_0, .int .i64 mpx0_1] :: .row apx0_0 cpx0_0 (xpx0_0.map (Value.int .u8)) :: .own ro (some ⟨p51, 0, none⟩) 1 [.int .i64 mp51_0, .int .i64 mp51_1, .slice none 0 0] :: F) n52 _ hs hx_696
  refine st_ok (Q := F44.Post px0 apx0_0 cpx0_0 xpx0_0 F ro r) isO e_699 ?_
  refine st_bool (Q := F44.Post px0 apx0_0 cpx0_0 xpx0_0 F ro r) ?_
  have hs_700 := hs_698.pull 1 rfl
  have hs_701 := hs_700.dup
  have hs_702 := hs_701.pull 2 rfl
  obtain ⟨r_703, hx_704, hp⟩ := bindr_some hp
  have hc_710 := F52.ok hora (ro := ro) (px0 := px0) (apx0_0 := apx0_0) (cpx0_0 := cpx0_0) (xpx0_0 := xpx0_0) (F := .row apx0_0 cpx0_0 (xpx0_0.map (Value.int .u8)) :: .own ro (some ⟨p51, 0, none⟩) 1 [.int .i64 mp51_0, .int .i64 mp51_1, .slice none 0 0] :: F) mpx0_1 r_695 25 _ hs_702 hx_704
  cases r_703 with
  | ok r_708 =>
    replace hp := bindr_ok hp
    obtain ⟨h_705, e_707, hs_706⟩ := hc_710
    refine st_ok (Q := F44.Post px0 apx0_0 cpx0_0 xpx0_0 F ro r) isO e_707 ?_
    refine st_tup (Q := F44.Post px0 apx0_0 cpx0_0 xpx0_0 F ro r) (l := []) ?_
    refine st_nil (Q := F44.Post px0 apx0_0 cpx0_0 xpx0_0 F ro r) ?_
    refine st_load (Q := F44.Post px0 apx0_0 cpx0_0 xpx0_0 F ro r) isO hs_706 agg3 rfl ?_
    refine st_int (Q := F44.Post px0 apx0_0 cpx0_0 xpx0_0 F ro r) ?_
    refine st_store (Q := F44.Post px0 apx0_0 cpx0_0 xpx0_0 F ro r) isO hs_706 siz3 rfl (Nat.le_of_ble_eq_true rfl) fun h_711 hs_712 => ?_
    refine st_pushJ (Q := F44.Post px0 apx0_0 cpx0_0 xpx0_0 F ro r) hs_712 hs_712.low rfl fun h_713 _ hs_714 => ?_
    refine st_storeA (Q := F44.Post px0 apx0_0 cpx0_0 xpx0_0 F ro r) (vs := [.int .i64 0, .int .i64 0, .slice none 0 0]) isO hs_714 siz24 rfl rfl rfl rfl fun h_715 hs_716 => ?_
    have hs_717 := hs_716.pull 2 rfl
    have hs_718 := hs_717.dup
    have hs_719 := hs_718.pull 3 rfl
    obtain ⟨r_720, hx_721, hp⟩ := bindr_some hp
    have hc_727 := F53.ok hora (ro := ro) (px0 := px0) (apx0_0 := apx0_0) (cpx0_0 := cpx0_0) (xpx0_0 := xpx0_0) (F := .row apx0_0 cpx0_0 (xpx0_0.map (Value.int .u8)) :: .own ro (some ⟨h_711.next, 0, none⟩) 1 [.int .i64 0, .int .i64 0, .slice none 0 0] :: .own ro (some ⟨p51, 0, none⟩) 1 [.int .i64 mp51_0, .int .i64 mp51_1, .slice none 0 0] :: F) (IntKind.i64.wrap (r_708 + 2)) 0 65535 _ hs_719 hx_721
    cases r_720 with
    | ok r_725 =>
      replace hp := bindr_ok hp
      obtain ⟨h_722, e_724, hs_723⟩ := hc_727
      refine st_ok (Q := F44.Post px0 apx0_0 cpx0_0 xpx0_0 F ro r) isO e_724 ?_
      refine st_int (Q := F44.Post px0 apx0_0 cpx0_0 xpx0_0 F ro r) ?_
      have hs_728 := hs_723.pull 2 rfl
      refine st_store (Q := F44.Post px0 apx0_0 cpx0_0 xpx0_0 F ro r) isO hs_728 siz3 rfl (Nat.le_of_ble_eq_true rfl) fun h_729 hs_730 => ?_
      have hs_731 := hs_730.pull 2 rfl
      have hs_732 := hs_731.dup
      have hs_733 := hs_732.pull 3 rfl
      obtain ⟨r_734, hx_735, hp⟩ := bindr_some hp
      have hc_741 := F53.ok hora (ro := ro) (px0 := px0) (apx0_0 := apx0_0) (cpx0_0 := cpx0_0) (xpx0_0 := xpx0_0) (F := .row apx0_0 cpx0_0 (xpx0_0.map (Value.int .u8)) :: .own ro (some ⟨h_711.next, 0, none⟩) 1 [.int .i64 r_725.1, .int .i64 0, .slice none 0 0] :: .own ro (some ⟨p51, 0, none⟩) 1 [.int .i64 mp51_0, .int .i64 mp51_1, .slice none 0 0] :: F) r_725.2 0 65535 _ hs_733 hx_735
      cases r_734 with
      | ok r_739 =>
        replace hp := bindr_ok hp
        obtain ⟨h_736, e_738, hs_737⟩ := hc_741
        refine st_ok (Q := F44.Post px0 apx0_0 cpx0_0 xpx0_0 F ro r) isO e_738 ?_
        refine st_int (Q := F44.Post px0 apx0_0 cpx0_0 xpx0_0 F ro r) ?_
        have hs_742 := hs_737.pull 2 rfl
        refine st_store (Q := F44.Post px0 apx0_0 cpx0_0 xpx0_0 F ro r) isO hs_742 siz3 rfl (Nat.le_of_ble_eq_true rfl) fun h_743 hs_744 => ?_
        refine st_load (Q := F44.Post px0 apx0_0 cpx0_0 xpx0_0 F ro r) isO hs_744 agg3 rfl ?_
        refine st_int (Q := F44.Post px0 apx0_0 cpx0_0 xpx0_0 F ro r) ?_
        refine st_if (Q := F44.Post px0 apx0_0 cpx0_0 xpx0_0 F ro r) (fun hc_745 => ?_) (fun hc_745 => ?_)
        · replace hp := ifp_t hc_745 hp
          refine st_load (Q := F44.Post px0 apx0_0 cpx0_0 xpx0_0 F ro r) isO hs_744 agg3 rfl ?_
          refine st_int (Q := F44.Post px0 apx0_0 cpx0_0 xpx0_0 F ro r) ?_
          refine st_if (Q := F44.Post px0 apx0_0 cpx0_0 xpx0_0 F ro r) (fun hc_746 => ?_) (fun hc_746 => ?_)
          · replace hp := ifp_t hc_746 hp
            refine st_load (Q := F44.Post px0 apx0_0 cpx0_0 xpx0_0 F ro r) isO hs_744 agg3 rfl ?_
            refine st_int (Q := F44.Post px0 apx0_0 cpx0_0 xpx0_0 F ro r) ?_
            refine st_if (Q := F44.Post px0 apx0_0 cpx0_0 xpx0_0 F ro r) (fun hc_747 => ?_) (fun hc_747 => ?_)
            · replace hp := ifp_t hc_747 hp
              refine st_load (Q := F44.Post px0 apx0_0 cpx0_0 xpx0_0 F ro r) isO hs_744 agg3 rfl ?_
              refine st_int (Q := F44.Post px0 apx0_0 cpx0_0 xpx0_0 F ro r) ?_
              refine st_if (Q := F44.Post px0 apx0_0 cpx0_0 xpx0_0 F ro r) (fun hc_748 => ?_) (fun hc_748 => ?_)
              · replace hp := ifp_t hc_748 hp
                refine st_load (Q := F44.Post px0 apx0_0 cpx0_0 xpx0_0 F ro r) isO hs_744 agg3 rfl ?_
                refine st_int (Q := F44.Post px0 apx0_0 cpx0_0 xpx0_0 F ro r) ?_
                refine st_load (Q := F44.Post px0 apx0_0 cpx0_0 xpx0_0 F ro r) isO hs_744 agg3 rfl ?_
                refine st_int (Q := F44.Post px0 apx0_0 cpx0_0 xpx0_0 F ro r) ?_
                have hs_749 := hs_744.pull 2 rfl
                have hs_750 := hs_749.dup
                have hs_751 := hs_750.pull 3 rfl
                obtain ⟨r_752, hx_753, hp⟩ := bindr_some hp
                have hc_759 := F52.ok hora (ro := ro) (px0 := px0) (apx0_0 := apx0_0) (cpx0_0 := cpx0_0) (xpx0_0 := xpx0_0) (F := .row apx0_0 cpx0_0 (xpx0_0.map (Value.int .u8)) :: .own ro (some ⟨h_711.next, 0, none⟩) 1 [.int .i64 r_725.1, .int .i64 r_739.1, .slice none 0 0] :: .own ro (some ⟨p51, 0, none⟩) 1 [.int .i64 mp51_0, .int .i64 mp51_1, .slice none 0 0] :: F) r_739.2 (decide (IntKind.i64.wrap (r_725.1 * r_739.1) ≤ 4194304)) 23 _ hs_751 hx_753
                cases r_752 with
                | ok r_757 =>
                  replace hp := bindr_ok hp
                  obtain ⟨h_754, e_756, hs_755⟩ := hc_759
                  refine st_ok (Q := F44.Post px0 apx0_0 cpx0_0 xpx0_0 F ro r) isO e_756 ?_
                  refine st_tup (Q := F44.Post px0 apx0_0 cpx0_0 xpx0_0 F ro r) (l := []) ?_
                  refine st_nil (Q := F44.Post px0 apx0_0 cpx0_0 xpx0_0 F ro r) ?_
                  have hs_883 := hs_755.pull 2 rfl
                  have hs_884 := hs_883.pull 3 rfl
                  have hs_885 := hs_884.pull 3 rfl
                  have hs_886 := hs_885.pull 3 rfl
                  exact F44.J10_ok hora r_757 p51 mp51_0 mp51_1 n52 h_711.next r_725.1 r_739.1 _ hs_886 hp
                | pan r_758 =>
                  replace hp := bindr_pan hp
                  obtain ⟨h_887, e_889, hs_888⟩ := hc_759
                  refine st_pan (Q := F44.Post px0 apx0_0 cpx0_0 xpx0_0 F ro r) e_889 ?_
                  have hs_890 := hs_888.pull 1 rfl
                  have hs_891 := hs_890.tail
                  have hs_892 := hs_891.pull 1 rfl
                  have hs_893 := hs_892.tail
                  have hs_894 := hs_893.pull 1 rfl
                  have hs_895 := hs_894.tail
                  cases hp
                  exact ⟨_, rfl, hs_895⟩
              · replace hp := ifp_f hc_748 hp
                have hs_896 := hs_744.pull 2 rfl
                have hs_897 := hs_896.dup
                have hs_898 := hs_897.pull 3 rfl
                obtain ⟨r_899, hx_900, hp⟩ := bindr_some hp
                have hc_906 := F52.ok hora (ro := ro) (px0 := px0) (apx0_0 := apx0_0) (cpx0_0 := cpx0_0) (xpx0_0 := xpx0_0) (F := .row apx0_0 cpx0_0 (xpx0_0.map (Value.int .u8)) :: .own ro (some ⟨h_711.next, 0, none⟩) 1 [.int .i64 r_725.1, .int .i64 r_739.1, .slice none 0 0] :: .own ro (some ⟨p51, 0, none⟩) 1 [.int .i64 mp51_0, .int .i64 mp51_1, .slice none 0 0] :: F) r_739.2 false 23 _ hs_898 hx_900
                cases r_899 with
                | ok r_904 =>
                  replace hp := bindr_ok hp
                  obtain ⟨h_901, e_903, hs_902⟩ := hc_906
                  refine st_ok (Q := F44.Post px0 apx0_0 cpx0_0 xpx0_0 F ro r) isO e_903 ?_
                  refine st_tup (Q := F44.Post px0 apx0_0 cpx0_0 xpx0_0 F ro r) (l := []) ?_
                  refine st_nil (Q := F44.Post px0 apx0_0 cpx0_0 xpx0_0 F ro r) ?_
                  have hs_907 := hs_902.pull 2 rfl
                  have hs_908 := hs_907.pull 3 rfl
                  have hs_909 := hs_908.pull 3 rfl
                  have hs_910 := hs_909.pull 3 rfl
                  exact F44.J10_ok hora r_904 p51 mp51_0 mp51_1 n52 h_711.next r_725.1 r_739.1 _ hs_910 hp
                | pan r_905 =>
                  replace hp := bindr_pan hp
                  obtain ⟨h_911, e_913, hs_912⟩ := hc_906
                  refine st_pan (Q := F44.Post px0 apx0_0 cpx0_0 xpx0_0 F ro r) e_913 ?_
                  have hs_914 := hs_912.pull 1 rfl
                  have hs_915 := hs_914.tail
                  have hs_916 := hs_915.pull 1 rfl
                  have hs_917 := hs_916.tail
                  have hs_918 := hs_917.pull 1 rfl
                  have hs_919 := hs_918.tail
                  cases hp
                  exact ⟨_, rfl, hs_919⟩
            · replace hp := ifp_f hc_747 hp
              have hs_920 := hs_744.pull 2 rfl
              have hs_921 := hs_920.dup
              have hs_922 := hs_921.pull 3 rfl
              obtain ⟨r_923, hx_924, hp⟩ := bindr_some hp
              have hc_930 := F52.ok hora (ro := ro) (px0 := px0) (apx0_0 := apx0_0) (cpx0_0 := cpx0_0) (xpx0_0 := xpx0_0) (F := .row apx0_0 cpx0_0 (xpx0_0.map (Value.int .u8)) :: .own ro (some ⟨h_711.next, 0, none⟩) 1 [.int .i64 r_725.1, .int .i64 r_739.1, .slice none 0 0] :: .own ro (some ⟨p51, 0, none⟩) 1 [.int .i64 mp51_0, .int .i64 mp51_1, .slice none 0 0] :: F) r_739.2 false 23 _ hs_922 hx_924
              cases r_923 with
              | ok r_928 =>
                replace hp := bindr_ok hp
                obtain ⟨h_925, e_927, hs_926⟩ := hc_930
                refine st_ok (Q := F44.Post px0 apx0_0 cpx0_0 xpx0_0 F ro r) isO e_927 ?_
                refine st_tup (Q := F44.Post px0 apx0_0 cpx0_0 xpx0_0 F ro r) (l := []) ?_
                refine st_nil (Q := F44.Post px0 apx0_0 cpx0_0 xpx0_0 F ro r) ?_
                have hs_931 := hs_926.pull 2 rfl
                have hs_932 := hs_931.pull 3 rfl
                have hs_933 := hs_932.pull 3 rfl
                have hs_934 := hs_933.pull 3 rfl
                exact F44.J10_ok hora r_928 p51 mp51_0 mp51_1 n52 h_711.next r_725.1 r_739.1 _ hs_934 hp
              | pan r_929 =>
                replace hp := bindr_pan hp
                obtain ⟨h_935, e_937, hs_936⟩ := hc_930
                refine st_pan (Q := F44.Post px0 apx0_0 cpx0_0 xpx0_0 F ro r) e_937 ?_
                have hs_938 := hs_936.pull 1 rfl
                have hs_939 := hs_938.tail
                have hs_940 := hs_939.pull 1 rfl
                have hs_941 := hs_940.tail
                have hs_942 := hs_941.pull 1 rfl
                have hs_943 := hs_942.tail
                cases hp
                exact ⟨_, rfl, hs_943⟩
          · replace hp := ifp_f hc_746 hp
            have hs_944 := hs_744.pull 2 rfl
            have hs_945 := hs_944.dup
            have hs_946 := hs_945.pull 3 rfl
            obtain ⟨r_947, hx_948, hp⟩ := bindr_some hp
            have hc_954 := F52.ok hora (ro := ro) (px0 := px0) (apx0_0 := apx0_0) (cpx0_0 := cpx0_0) (xpx0_0 := xpx0_0) (F := .row apx0_0 cpx0_0 (xpx0_0.map (Value.int .u8)) :: .own ro (some ⟨h_711.next, 0, none⟩) 1 [.int .i64 r_725.1, .int .i64 r_739.1, .slice none 0 0] :: .own ro (some ⟨p51, 0, none⟩) 1 [.int .i64 mp51_0, .int .i64 mp51_1, .slice none 0 0] :: F) r_739.2 false 23 _ hs_946 hx_948
            cases r_947 with
            | ok r_952 =>
              replace hp := bindr_ok hp
              obtain ⟨h_949, e_951, hs_950⟩ := hc_954
              refine st_ok (Q := F44.Post px0 apx0_0 cpx0_0 xpx0_0 F ro r) isO e_951 ?_
              refine st_tup (Q := F44.Post px0 apx0_0 cpx0_0 xpx0_0 F ro r) (l := []) ?_
              refine st_nil (Q := F44.Post px0 apx0_0 cpx0_0 xpx0_0 F ro r) ?_
              have hs_955 := hs_950.pull 2 rfl
              have hs_956 := hs_955.pull 3 rfl
              have hs_957 := hs_956.pull 3 rfl
              have hs_958 := hs_957.pull 3 rfl
              exact F44.J10_ok hora r_952 p51 mp51_0 mp51_1 n52 h_711.next r_725.1 r_739.1 _ hs_958 hp
            | pan r_953 =>
              replace hp := bindr_pan hp
              obtain ⟨h_959, e_961, hs_960⟩ := hc_954
              refine st_pan (Q := F44.Post px0 apx0_0 cpx0_0 xpx0_0 F ro r) e_961 ?_
              have hs_962 := hs_960.pull 1 rfl
              have hs_963 := hs_962.tail
              have hs_964 := hs_963.pull 1 rfl
              have hs_965 := hs_964.tail
              have hs_966 := hs_965.pull 1 rfl
              have hs_967 := hs_966.tail
              cases hp
              exact ⟨_, rfl, hs_967⟩
        · replace hp := ifp_f hc_745 hp
          have hs_968 := hs_744.pull 2 rfl
          have hs_969 := hs_968.dup
          have hs_970 := hs_969.pull 3 rfl
          obtain ⟨r_971, hx_972, hp⟩ := bindr_some hp
          have hc_978 := F52.ok hora (ro := ro) (px0 := px0) (apx0_0 := apx0_0) (cpx0_0 := cpx0_0) (xpx0_0 := xpx0_0) (F := .row apx0_0 cpx0_0 (xpx0_0.map (Value.int .u8)) :: .own ro (some ⟨h_711.next, 0, none⟩) 1 [.int .i64 r_725.1, .int .i64 r_739.1, .slice none 0 0] :: .own ro (some ⟨p51, 0, none⟩) 1 [.int .i64 mp51_0, .int .i64 mp51_1, .slice none 0 0] :: F) r_739.2 false 23 _ hs_970 hx_972
          cases r_971 with
          | ok r_976 =>
            replace hp := bindr_ok hp
            obtain ⟨h_973, e_975, hs_974⟩ := hc_978
            refine st_ok (Q := F44.Post px0 apx0_0 cpx0_0 xpx0_0 F ro r) isO e_975 ?_
            refine st_tup (Q := F44.Post px0 apx0_0 cpx0_0 xpx0_0 F ro r) (l := []) ?_
            refine st_nil (Q := F44.Post px0 apx0_0 cpx0_0 xpx0_0 F ro r) ?_
            have hs_979 := hs_974.pull 2 rfl
            have hs_980 := hs_979.pull 3 rfl
            have hs_981 := hs_980.pull 3 rfl
            have hs_982 := hs_981.pull 3 rfl
            exact F44.J10_ok hora r_976 p51 mp51_0 mp51_1 n52 h_711.next r_725.1 r_739.1 _ hs_982 hp
          | pan r_977 =>
            replace hp := bindr_pan hp
            obtain ⟨h_983, e_985, hs_984⟩ := hc_978
            refine st_pan (Q := F44.Post px0 apx0_0 cpx0_0 xpx0_0 F ro r) e_985 ?_
            have hs_986 := hs_984.pull 1 rfl
            have hs_987 := hs_986.tail
            have hs_988 := hs_987.pull 1 rfl
            have hs_989 := hs_988.tail
            have hs_990 := hs_989.pull 1 rfl
            have hs_991 := hs_990.tail
            cases hp
            exact ⟨_, rfl, hs_991⟩
      | pan r_740 =>
        replace hp := bindr_pan hp
        obtain ⟨h_992, e_994, hs_993⟩ := hc_741
        refine st_pan (Q := F44.Post px0 apx0_0 cpx0_0 xpx0_0 F ro r) e_994 ?_
        have hs_995 := hs_993.pull 1 rfl
        have hs_996 := hs_995.tail
        have hs_997 := hs_996.pull 1 rfl
        have hs_998 := hs_997.tail
        have hs_999 := hs_998.pull 1 rfl
        have hs_1000 := hs_999.tail
        cases hp
        exact ⟨_, rfl, hs_1000⟩
    | pan r_726 =>
      replace hp := bindr_pan hp
      obtain ⟨h_1001, e_1003, hs_1002⟩ := hc_727
      refine st_pan (Q := F44.Post px0 apx0_0 cpx0_0 xpx0_0 F ro r) e_1003 ?_
      have hs_1004 := hs_1002.pull 1 rfl
      have hs_1005 := hs_1004.tail
      have hs_1006 := hs_1005.pull 1 rfl
      have hs_1007 := hs_1006.tail
      have hs_1008 := hs_1007.pull 1 rfl
      have hs_1009 := hs_1008.tail
      cases hp
      exact ⟨_, rfl, hs_1009⟩
  | pan r_709 =>
    replace hp := bindr_pan hp
    obtain ⟨h_1010, e_1012, hs_1011⟩ := hc_710
    refine st_pan (Q := F44.Post px0 apx0_0 cpx0_0 xpx0_0 F ro r) e_1012 ?_
    have hs_1013 := hs_1011.pull 1 rfl
    have hs_1014 := hs_1013.tail
    have hs_1015 := hs_1014.pull 1 rfl
    have hs_1016 := hs_1015.tail
    cases hp
    exact ⟨_, rfl, hs_1016⟩

def F44.J3p (lf : Nat) (xpx0_0 : List Int) (mpx0_1 : Int) (mp35_0 : Int) (mp35_1 : Int) (n36 : Int) (b37 : Bool) : Option (Res (Int × Int × List Int × Int × Int) (Int × Int)) :=
  ifp b37 (
    bindp (idxp xpx0_0 (IntKind.i64.wrap (mpx0_1 + 1))) fun x_692 =>
    F44.J4p lf xpx0_0 mpx0_1 mp35_0 mp35_1 (IntKind.i64.wrap (IntKind.u8.wrap (x_692 - 48)))) (
    F44.J4p lf xpx0_0 mpx0_1 mp35_0 mp35_1 n36)

theorem F44.J3_ok {ora : Ora} (hora : HOra ora) {lf ro : Nat} {F : List Ent} {r : (Res (Int × Int × List Int × Int × Int) (Int × Int))} {px0 : Nat} {apx0_0 : Option Addr} {cpx0_0 : Nat} {xpx0_0 : List Int} (mpx0_1 : Int) (p35 : Nat) (mp35_0 : Int) (mp35_1 : Int) (n36 : Int) (b37 : Bool) (h : Heap) (hs : Sat ro h (.own ro (some ⟨px0, 0, none⟩) 1 [.slice apx0_0 xpx0_0.length cpx0_0, .int .i64 mpx0_1] :: .row apx0_0 cpx0_0 (xpx0_0.map (Value.int .u8)) :: .own ro (some ⟨p35, 0, none⟩) 1 [.int .i64 mp35_0, .int .i64 mp35_1, .slice none 0 0] :: F)) (hp : F44.J3p lf xpx0_0 mpx0_1 mp35_0 mp35_1 n36 b37 = some r) : F44.Post px0 apx0_0 cpx0_0 xpx0_0 F ro r (F44.J3 (callW Tryd.prog ora) lf ro px0 0 p35 0 n36 b37 h) := by
  unfold F44.J3
  unfold F44.J3p at hp
  refine st_if (Q := F44.Post px0 apx0_0 cpx0_0 xpx0_0 F ro r) (fun hc_691 => ?_) (fun hc_691 => ?_)
  · replace hp := ifp_t hc_691 hp
    refine st_load (Q := F44.Post px0 apx0_0 cpx0_0 xpx0_0 F ro r) isN hs agg22 rfl ?_
    refine st_slice (Q := F44.Post px0 apx0_0 cpx0_0 xpx0_0 F ro r) ?_
    refine st_load (Q := F44.Post px0 apx0_0 cpx0_0 xpx0_0 F ro r) isN hs agg3 rfl ?_
    refine st_int (Q := F44.Post px0 apx0_0 cpx0_0 xpx0_0 F ro r) ?_
    have hs_694 := hs.pull 1 rfl
    obtain ⟨x_692, hx_693, hp⟩ := bindp_some hp
    refine st_idxR (Q := F44.Post px0 apx0_0 cpx0_0 xpx0_0 F ro r) (l := xpx0_0) (f := (Value.int .u8)) isO isO hs_694 und22 siz5 agg5 rfl hx_693 ?_
    refine st_int (Q := F44.Post px0 apx0_0 cpx0_0 xpx0_0 F ro r) ?_
    have hs_1017 := hs_694.pull 2 rfl
    have hs_1018 := hs_1017.pull 1 rfl
    have hs_1019 := hs_1018.pull 2 rfl
    exact F44.J4_ok hora mpx0_1 p35 mp35_0 mp35_1 (IntKind.i64.wrap (IntKind.u8.wrap (x_692 - 48))) _ hs_1019 hp
  · replace hp := ifp_f hc_691 hp
    have hs_1020 := hs.pull 2 rfl
    have hs_1021 := hs_1020.pull 2 rfl
    have hs_1022 := hs_1021.pull 2 rfl
    exact F44.J4_ok hora mpx0_1 p35 mp35_0 mp35_1 n36 _ hs_1022 hp

def F44.p (lf : Nat) (xpx0_0 : List Int) (mpx0_1 : Int) : Option (Res (Int × Int × List Int × Int × Int) (Int × Int)) :=
  ifp (decide (IntKind.i64.wrap ((xpx0_0.length : Int) - mpx0_1) ≥ 2)) (
    bindp (idxp xpx0_0 mpx0_1) fun x_678 =>
    ifp (x_678 == 80) (
      bindp (idxp xpx0_0 (IntKind.i64.wrap (mpx0_1 + 1))) fun x_683 =>
      bindp (F51.p lf x_683) fun r_686 =>
      F44.J3p lf xpx0_0 mpx0_1 0 0 0 r_686) (
      F44.J3p lf xpx0_0 mpx0_1 0 0 0 false)) (
    F44.J3p lf xpx0_0 mpx0_1 0 0 0 false)

theorem F44.t_ok {ora : Ora} (hora : HOra ora) {lf ro : Nat} {F : List Ent} {r : (Res (Int × Int × List Int × Int × Int) (Int × Int))} {px0 : Nat} {apx0_0 : Option Addr} {cpx0_0 : Nat} {xpx0_0 : List Int} (mpx0_1 : Int) (h : Heap) (hs : Sat ro h (.own ro (some ⟨px0, 0, none⟩) 1 [.slice apx0_0 xpx0_0.length cpx0_0, .int .i64 mpx0_1] :: .row apx0_0 cpx0_0 (xpx0_0.map (Value.int .u8)) :: F)) (hp : F44.p lf xpx0_0 mpx0_1 = some r) : F44.Post px0 apx0_0 cpx0_0 xpx0_0 F ro r (F44.t (callW Tryd.prog ora) lf ro px0 0 h) := by
  unfold F44.t
  unfold F44.p at hp
  refine st_pushJ (Q := F44.Post px0 apx0_0 cpx0_0 xpx0_0 F ro r) hs hs.low rfl fun h_674 _ hs_675 => ?_
  have hs_676 := hs_675.pull 1 rfl
  refine st_load (Q := F44.Post px0 apx0_0 cpx0_0 xpx0_0 F ro r) isN hs_676 agg22 rfl ?_
  refine st_slice (Q := F44.Post px0 apx0_0 cpx0_0 xpx0_0 F ro r) ?_
  refine st_load (Q := F44.Post px0 apx0_0 cpx0_0 xpx0_0 F ro r) isN hs_676 agg3 rfl ?_
  refine st_int (Q := F44.Post px0 apx0_0 cpx0_0 xpx0_0 F ro r) ?_
  refine st_if (Q := F44.Post px0 apx0_0 cpx0_0 xpx0_0 F ro r) (fun hc_677 => ?_) (fun hc_677 => ?_)
  · replace hp := ifp_t hc_677 hp
    refine st_load (Q := F44.Post px0 apx0_0 cpx0_0 xpx0_0 F ro r) isN hs_676 agg22 rfl ?_
    refine st_slice (Q := F44.Post px0 apx0_0 cpx0_0 xpx0_0 F ro r) ?_
    refine st_load (Q := F44.Post px0 apx0_0 cpx0_0 xpx0_0 F ro r) isN hs_676 agg3 rfl ?_
    refine st_int (Q := F44.Post px0 apx0_0 cpx0_0 xpx0_0 F ro r) ?_
    have hs_680 := hs_676.pull 2 rfl
    obtain ⟨x_678, hx_679, hp⟩ := bindp_some hp
    refine st_idxR (Q := F44.Post px0 apx0_0 cpx0_0 xpx0_0 F ro r) (l := xpx0_0) (f := (Value.int .u8)) isN isN hs_680 und22 siz5 agg5 rfl hx_679 ?_
    refine st_int (Q := F44.Post px0 apx0_0 cpx0_0 xpx0_0 F ro r) ?_
    refine st_if (Q := F44.Post px0 apx0_0 cpx0_0 xpx0_0 F ro r) (fun hc_681 => ?_) (fun hc_681 => ?_)
    · replace hp := ifp_t hc_681 hp
      have hs_682 := hs_680.pull 1 rfl
      refine st_load (Q := F44.Post px0 apx0_0 cpx0_0 xpx0_0 F ro r) isN hs_682 agg22 rfl ?_
      refine st_slice (Q := F44.Post px0 apx0_0 cpx0_0 xpx0_0 F ro r) ?_
      refine st_load (Q := F44.Post px0 apx0_0 cpx0_0 xpx0_0 F ro r) isN hs_682 agg3 rfl ?_
      refine st_int (Q := F44.Post px0 apx0_0 cpx0_0 xpx0_0 F ro r) ?_
      have hs_685 := hs_682.pull 1 rfl
      obtain ⟨x_683, hx_684, hp⟩ := bindp_some hp
      refine st_idxR (Q := F44.Post px0 apx0_0 cpx0_0 xpx0_0 F ro r) (l := xpx0_0) (f := (Value.int .u8)) isO isO hs_685 und22 siz5 agg5 rfl hx_684 ?_
      refine st_int (Q := F44.Post px0 apx0_0 cpx0_0 xpx0_0 F ro r) ?_
      obtain ⟨r_686, hx_687, hp⟩ := bindp_some hp
      obtain ⟨h_688, e_690, hs_689⟩ := F51.ok hora (ro := ro) (F := .row apx0_0 cpx0_0 (xpx0_0.map (Value.int .u8)) :: .own ro (some ⟨px0, 0, none⟩) 1 [.slice apx0_0 xpx0_0.length cpx0_0, .int .i64 mpx0_1] :: .own ro (some ⟨h.next, 0, none⟩) 1 [.int .i64 0, .int .i64 0, .slice none 0 0] :: F) x_683 _ hs_685 hx_687
      refine st_ok (Q := F44.Post px0 apx0_0 cpx0_0 xpx0_0 F ro r) isO e_690 ?_
      refine st_bool (Q := F44.Post px0 apx0_0 cpx0_0 xpx0_0 F ro r) ?_
      have hs_1023 := hs_689.pull 2 rfl
      have hs_1024 := hs_1023.pull 1 rfl
      have hs_1025 := hs_1024.pull 2 rfl
      exact F44.J3_ok hora mpx0_1 h.next 0 0 0 r_686 _ hs_1025 hp
    · replace hp := ifp_f hc_681 hp
      have hs_1026 := hs_680.pull 2 rfl
      have hs_1027 := hs_1026.pull 1 rfl
      have hs_1028 := hs_1027.pull 2 rfl
      exact F44.J3_ok hora mpx0_1 h.next 0 0 0 false _ hs_1028 hp
  · replace hp := ifp_f hc_677 hp
    have hs_1029 := hs_676.pull 1 rfl
    have hs_1030 := hs_1029.pull 2 rfl
    have hs_1031 := hs_1030.pull 2 rfl
    exact F44.J3_ok hora mpx0_1 h.next 0 0 0 false _ hs_1031 hp

theorem F44.ok {ora : Ora} (hora : HOra ora) {lf ro : Nat} {F : List Ent} {r : (Res (Int × Int × List Int × Int × Int) (Int × Int))} {px0 : Nat} {apx0_0 : Option Addr} {cpx0_0 : Nat} {xpx0_0 : List Int} (mpx0_1 : Int) (h : Heap) (hs : Sat ro h (.own ro (some ⟨px0, 0, none⟩) 1 [.slice apx0_0 xpx0_0.length cpx0_0, .int .i64 mpx0_1] :: .row apx0_0 cpx0_0 (xpx0_0.map (Value.int .u8)) :: F)) (hp : F44.p lf xpx0_0 mpx0_1 = some r) : F44.Post px0 apx0_0 cpx0_0 xpx0_0 F ro r (callW Tryd.prog ora ro 44 [.pointer (some ⟨px0, 0, none⟩)] h) := by
  have h1 := F44.t_ok hora mpx0_1 h hs hp
  have h2 : callW Tryd.prog ora ro 44 [.pointer (some ⟨px0, 0, none⟩)] h = _ := callW_body (hora.none _ _ _ _ (by decide)) Tryd.func44 (F44.le (callW Tryd.prog ora) lf ro px0 0 h) (F44.Post.ne h1)
  rw [h2]; exact h1

end Go.Proofs.YtgpnjdldpehidaaDoor

open Go Go.Abs Go.Proofs
set_option maxRecDepth 100000
set_option linter.unusedVariables false
set_option linter.unusedSimpArgs false
namespace Go.Proofs.YtgpnjdldpehidaaDoor
/-! ### 'next': the guarded reading of an image -/
def F35.Post (px0 : Nat) (apx0_0 : Option Addr) (cpx0_0 : Nat) (xpx0_0 : List Int) (F : List Ent) (ro : Nat) (r : (Int × Int × List Int × Int × Int × Int)) (x : Out) : Prop :=
  ∃ a2 h', x = .ok (.tuple #[.agg #[.int .i64 r.1, .int .i64 r.2.1, .slice a2 r.2.2.1.length r.2.2.1.length], .int .i64 r.2.2.2.1, .int .i64 r.2.2.2.2.1]) h' ∧ Sat ro h' (.own ro a2 1 (r.2.2.1.map (Value.int .u8)) :: .own ro (some ⟨px0, 0, none⟩) 1 [.slice apx0_0 xpx0_0.length cpx0_0, .int .i64 r.2.2.2.2.2] :: F)
def F35.p (lf : Nat) (x : List Int) (at_ : Int) : Option (Int × Int × List Int × Int × Int × Int) := match F44.p lf x at_ with
  | some (.ok r) => some (r.1, r.2.1, r.2.2.1, r.2.2.2.1, 0, r.2.2.2.2)
  | some (.pan r) => some (0, 0, [], 0, r.1, r.2)
  | none => none
theorem zer24 : zeroOf Tryd.prog 24 = some (.agg #[.int .i64 0, .int .i64 0, .slice none 0 0]) := by kernel_rfl
theorem zer26 : zeroOf Tryd.prog 26 = some (.int .i64 0) := by kernel_rfl
theorem zer77 : zeroOf Tryd.prog 77 = some (.agg #[.int .i64 0]) := by kernel_rfl
theorem sz26 : sizeOf? Tryd.prog 26 = some 1 := by kernel_rfl
theorem sz77 : sizeOf? Tryd.prog 77 = some 1 := by kernel_rfl
theorem ag26 : isAgg? Tryd.prog 26 = some false := by kernel_rfl
theorem un20 : eqOp Tryd.prog 20 true .nilIface .nilIface = some true := by kernel_rfl
noncomputable def GA : Code := sub (codeOf Tryd.f35) [false]
noncomputable def GB : Code := sub (codeOf Tryd.f35) [true, true]
noncomputable def GC : Code := sub (codeOf Tryd.f43) [true]
variable {ro : Nat}
/-- The frame of 'next' before it reads. -/
def f35A (b : Nat) (h : Heap) : Nat → Option Value := updF (updF (updF (updF (fun _ => none) 0 (some (.pointer (some ⟨b, 0, none⟩)))) 2 (some (ptrTo h.next))) 3 (some (.int .i64 0))) 4 (some (ptrTo (h.next + 1)))
theorem env35 (v : Value) : envOf0 [v] 12 = EF 12 (updF (fun _ => none) 0 (some v)) := by rfl
theorem a35_run (b : Nat) (h : Heap) : EvC Tryd.prog noOra ro GA (envOf0 [.pointer (some ⟨b, 0, none⟩)] 12) h (fun r => r = .normal (EF 12 (f35A b h)) ((h.push (.cells 1 [.int .i64 0, .int .i64 0, .slice none 0 0])).push (.cells 1 [.int .i64 0]))) := by
  rw [env35]
  refine ev_region ?_
  refine ev1 (stp_alloc zer24) (by decide) ?_
  refine ev1 (stp_assignC rfl) (by decide) ?_
  refine ev1 (stp_alloc zer26) (by decide) ?_
  exact evr_nil rfl
/-- What lies behind: the image's block, the error's cell. -/
def mCell (b : Nat) (l : List Value) (ro : Nat) : Ent := .own ro (some ⟨b, 0, none⟩) 1 l
theorem after_ok {e : Env} {d : Option Tmp} {next : Env → Heap → Prop} {Q : COut → Prop} {x : Out} {v : Value} {h : Heap} (hx : x = .ok v h) (hk : ∃ e', putA e d v = some e' ∧ next e' h) : After e d next Q x := by subst hx; exact hk
theorem after_pan {e : Env} {d : Option Tmp} {next : Env → Heap → Prop} {Q : COut → Prop} {x : Out} {v : Value} {h : Heap} (hx : x = .panic v h) (hk : Q (.panic v e h)) : After e d next Q x := by subst hx; exact hk
theorem evf_callW {P : Program} {ora : Ora} {f : FuncId} {args : List Value} {h : Heap} {Q : Out → Prop} (hn : callW P ora ro f args h ≠ .fail) (hq : Q (callW P ora ro f args h)) : EvF P ora ro f args h Q :=
  (callW_good ro f args h hn).mono fun r hr => by
    have hr : r = _ := hr
    rw [hr]; exact hq
theorem evf_eq {P : Program} {ora : Ora} {f : FuncId} {args : List Value} {h : Heap} {Q : Out → Prop} {r : Out} (he : callW P ora ro f args h = r) (hr : r ≠ .fail) (hq : Q r) : EvF P ora ro f args h Q := by
  subst he; exact evf_callW hr hq
theorem enter44 : enterB Tryd.prog 44 = true := by kernel_rfl
/-- The reading succeeds. -/
theorem b35_ok (b : Nat) (h h3 : Heap) {R : List Ent} {w x f : Int} {a : Option Addr} {n c : Nat} (hc : callW Tryd.prog noOra ro 44 [.pointer (some ⟨b, 0, none⟩)] ((h.push (.cells 1 [.int .i64 0, .int .i64 0, .slice none 0 0])).push (.cells 1 [.int .i64 0])) = .ok (.tuple #[.agg #[.int .i64 w, .int .i64 x, .slice a n c], .int .i64 f]) h3)
    (hs : Sat ro h3 (.own ro (some ⟨h.next, 0, none⟩) 1 [.int .i64 0, .int .i64 0, .slice none 0 0] :: .own ro (some ⟨h.next + 1, 0, none⟩) 1 [.int .i64 0] :: R)) :
    EvC Tryd.prog noOra ro GB (EF 12 (f35A b h)) ((h.push (.cells 1 [.int .i64 0, .int .i64 0, .slice none 0 0])).push (.cells 1 [.int .i64 0])) (fun r => ∃ g h5, r = .ret (EF 12 g) h5 ∧ g 2 = some (ptrTo h.next) ∧ g 3 = some (.int .i64 f) ∧ g 4 = some (ptrTo (h.next + 1)) ∧
      Sat ro h5 (.own ro (some ⟨h.next, 0, none⟩) 1 [.int .i64 w, .int .i64 x, .slice a n c] :: .own ro (some ⟨h.next + 1, 0, none⟩) 1 [.int .i64 0] :: R)) := by
  obtain ⟨h4, e4, s4⟩ := storeA_eq (P := Tryd.prog) (t := 24) (o := 0) (vs := [.int .i64 w, .int .i64 x, .slice a n c]) hs siz24 rfl rfl rfl rfl
  have l4 := loadA_eq (P := Tryd.prog) (t := 24) (o := 0) (vs := [.int .i64 w, .int .i64 x, .slice a n c]) s4 agg24 siz24 rfl
  obtain ⟨h5, e5, s5⟩ := storeA_eq (P := Tryd.prog) (t := 24) (o := 0) (vs := [.int .i64 w, .int .i64 x, .slice a n c]) s4 siz24 rfl rfl rfl rfl
  obtain ⟨h6, e6, s6⟩ := store_eq (P := Tryd.prog) (t := 26) (o := 0) (v := .int .i64 0) (s5.pull 1 rfl) sz26 rfl (Nat.le_of_ble_eq_true rfl)
  · refine ev_seq (ev_region ?_)
    refine ev1 (stp_move (by decide) rfl) (by decide) ?_
    refine evr_call rfl rfl rfl enter44 (evf_eq hc (by simp) ⟨_, putA_EF (by decide), ?_⟩)
    refine ev1 (stp_move (by decide) rfl) (by decide) ?_
    refine ev1 (stp_extract (cs := [.agg #[.int .i64 w, .int .i64 x, .slice a n c], .int .i64 f]) (by decide) rfl rfl) (by decide) ?_
    refine ev1 (stp_extract (cs := [.agg #[.int .i64 w, .int .i64 x, .slice a n c], .int .i64 f]) (by decide) rfl rfl) (by decide) ?_
    refine ev0 (stp_store (by decide) (by decide) rfl rfl e4) ?_
    refine ev1 (stp_assign (by decide) rfl) (by decide) ?_
    refine evr_nil (ev_seq (ev_region ?_))
    refine ev1 (stp_load (by decide) rfl l4) (by decide) ?_
    refine ev1 (stp_move (by decide) rfl) (by decide) ?_
    refine ev0 (stp_store (by decide) (by decide) rfl rfl e5) ?_
    refine ev1 (stp_assign (by decide) rfl) (by decide) ?_
    refine ev0 (stp_storeC (by decide) rfl rfl e6) ?_
    exact evr_nil (ev_ret ⟨_, _, rfl, rfl, rfl, rfl, s6.pull 1 rfl⟩)
/-- The reading panics. -/
theorem b35_pan (b : Nat) (h h3 : Heap) {v : Value} (hc : callW Tryd.prog noOra ro 44 [.pointer (some ⟨b, 0, none⟩)] ((h.push (.cells 1 [.int .i64 0, .int .i64 0, .slice none 0 0])).push (.cells 1 [.int .i64 0])) = .panic v h3) :
    EvC Tryd.prog noOra ro GB (EF 12 (f35A b h)) ((h.push (.cells 1 [.int .i64 0, .int .i64 0, .slice none 0 0])).push (.cells 1 [.int .i64 0])) (fun r => ∃ g, r = .panic v (EF 12 g) h3 ∧ g 2 = some (ptrTo h.next) ∧ g 3 = some (.int .i64 0) ∧ g 4 = some (ptrTo (h.next + 1))) := by
  refine ev_seq (ev_region ?_)
  refine ev1 (stp_move (by decide) rfl) (by decide) ?_
  exact evr_call rfl rfl rfl enter44 (evf_eq hc (by simp) ⟨_, rfl, rfl, rfl, rfl⟩)
theorem env43 (v x : Value) : putA (envOf0 [v] 15) (some 5) x = some (EF 15 (updF (updF (fun _ => none) 0 (some v)) 5 (some x))) := by rfl
theorem c43_nil (v : Value) (h : Heap) : EvC Tryd.prog noOra ro GC (EF 15 (updF (updF (fun _ => none) 0 (some v)) 5 (some .nilIface))) h (fun r => ∃ e, r = .normal e h) := by
  refine ev_block (ev_seq (ev_region ?_))
  refine ev1 (stp_binC (r := .bool true) (by decide) rfl rfl (by simp [binop, un20])) (by decide) ?_
  refine evr_nil (ev_cond (b := true) rfl (fun _ => ev_region ?_) (fun hf => by cases hf))
  refine ev1 (stp_assign (by decide) rfl) (by decide) ?_
  exact evr_nil ⟨_, rfl⟩
theorem un20f (t : TypeId) (v : Value) : eqOp Tryd.prog 20 true (.iface t v) .nilIface = some false := by
  have : ∃ ms, Tryd.prog.underlying 20 = some (.interface ms) := ⟨_, Tryd.underlying20⟩
  obtain ⟨ms, hms⟩ := this
  simp [eqOp, hms]
theorem as77 (v : Value) (h : Heap) : typeAssertOp Tryd.prog (.iface 77 v) 77 true h = .ok (.tuple #[v, .bool true]) h := by
  have : ∃ fs, Tryd.prog.underlying 77 = some (.struct fs) := ⟨_, Tryd.underlying77⟩
  obtain ⟨fs, hfs⟩ := this
  simp [typeAssertOp, hfs]
theorem fa77 (b : Nat) (h : Heap) : faddrO Tryd.prog 77 (.pointer (some ⟨b, 0, none⟩)) 0 h = .ok (.pointer (some ⟨b, 0, none⟩)) h := by
  have : ∃ f, Tryd.prog.underlying 77 = some (.struct #[f]) ∧ f.offset = 0 ∧ f.type = 26 := ⟨_, Tryd.underlying77, rfl, rfl⟩
  obtain ⟨f, hf, ho, ht⟩ := this
  simp [faddrO, opO, stepOp, ev, E3, Env.get, T.get, hf, ht, sz26, ho, addr_add]
theorem c43_fault (be e : Int) (bm bc : Nat) (h3 : Heap) {R : List Ent} {lm : List Value} (hs : Sat ro h3 (.own ro (some ⟨bm, 0, none⟩) 1 lm :: .own ro (some ⟨bc, 0, none⟩) 1 [.int .i64 0] :: R)) :
    EvC Tryd.prog noOra ro GC (EF 15 (updF (updF (fun _ => none) 0 (some (ptrTo bc))) 5 (some (.iface 77 (.agg #[.int .i64 e]))))) h3 (fun r => ∃ e' h6, r = .normal e' h6 ∧ Sat ro h6 (.own ro (some ⟨bm, 0, none⟩) 1 lm :: .own ro (some ⟨bc, 0, none⟩) 1 [.int .i64 e] :: R)) := by
  have s4 := hs.push (lo := ro) hs.low (sz := 1) (l := [.int .i64 0]) rfl
  obtain ⟨h5, e5, s5⟩ := storeA_eq (P := Tryd.prog) (t := 77) (o := 0) (vs := [.int .i64 e]) s4 sz77 rfl rfl rfl rfl
  have l5 := load_eq (P := Tryd.prog) (t := 26) (o := 0) (v := .int .i64 e) s5 ag26 rfl
  obtain ⟨h6, e6, s6⟩ := store_eq (P := Tryd.prog) (t := 26) (o := 0) (v := .int .i64 e) (s5.pull 2 rfl) sz26 rfl (Nat.le_of_ble_eq_true rfl)
  refine ev_block (ev_seq (ev_region ?_))
  refine ev1 (stp_binC (r := .bool false) (by decide) rfl rfl (by simp [binop, un20f])) (by decide) ?_
  refine evr_nil (ev_cond (b := false) rfl (fun hf => by cases hf) (fun _ => ev_seq (ev_region ?_)))
  refine ev1 (stp_assert (by decide) rfl (as77 _ _)) (by decide) ?_
  refine ev1 (stp_extract (cs := [.agg #[.int .i64 e], .bool true]) (by decide) rfl rfl) (by decide) ?_
  refine ev1 (stp_extract (cs := [.agg #[.int .i64 e], .bool true]) (by decide) rfl rfl) (by decide) ?_
  refine evr_nil (ev_cond (b := true) rfl (fun _ => ev_seq (ev_region ?_)) (fun hf => by cases hf))
  refine ev1 (stp_alloc zer77) (by decide) ?_
  refine ev0 (stp_store (by decide) (by decide) rfl rfl e5) ?_
  refine evr_nil (ev_region ?_)
  refine ev1 (stp_move (by decide) rfl) (by decide) ?_
  refine ev1 (stp_faddr (by decide) rfl (fa77 _ _)) (by decide) ?_
  refine ev1 (stp_load (by decide) rfl l5) (by decide) ?_
  refine ev1 (stp_nil (by decide) rfl) (by decide) ?_
  refine ev0 (stp_store (by decide) (by decide) rfl rfl e6) ?_
  exact evr_nil ⟨_, _, rfl, ((s6.pull 1 rfl).tail).pull 1 rfl⟩
theorem res35 {h : Heap} {g : Nat → Option Value} {bm bc : Nat} {w x f e : Int} {a : Option Addr} {n c : Nat} {R : List Ent} (h2 : g 2 = some (ptrTo bm)) (h3 : g 3 = some (.int .i64 f)) (h4 : g 4 = some (ptrTo bc))
    (hs : Sat ro h (.own ro (some ⟨bm, 0, none⟩) 1 [.int .i64 w, .int .i64 x, .slice a n c] :: .own ro (some ⟨bc, 0, none⟩) 1 [.int .i64 e] :: R)) :
    resOf Tryd.prog Tryd.f35 (EF 12 g) h = .ok (.tuple #[.agg #[.int .i64 w, .int .i64 x, .slice a n c], .int .i64 f, .int .i64 e]) h := by
  have c1 := readCells_at (o := 0) (n := 3) (cs := [.int .i64 w, .int .i64 x, .slice a n c]) hs rfl
  have c2 := readCells_at (o := 0) (n := 1) (cs := [.int .i64 e]) (hs.pull 1 rfl) rfl
  refine st_res (Q := fun o => o = .ok (.tuple #[.agg #[.int .i64 w, .int .i64 x, .slice a n c], .int .i64 f, .int .i64 e]) h) (show resVals _ _ _ _ = some [.agg #[.int .i64 w, .int .i64 x, .slice a n c], .int .i64 f, .int .i64 e] from res_cellA ((EF_get (by decide)).trans h2) agg24 siz24 c1 (res_tmp ((EF_get (by decide)).trans h3) (res_cell ((EF_get (by decide)).trans h4) ag26 c2 res_nil))) rfl
theorem ev_of {c : Code} {e : Env} {h : Heap} {r : COut} (hc : EvC Tryd.prog noOra ro c e h (fun x => x = r)) : ∃ n, ∀ m, n ≤ m → runCode Tryd.prog noOra m ro c e h = r := by
  obtain ⟨r', _, rfl, h2⟩ := hc; exact h2
theorem ev_ofQ {c : Code} {e : Env} {h : Heap} {Q : COut → Prop} (hc : EvC Tryd.prog noOra ro c e h Q) : ∃ r, Q r ∧ ∃ n, ∀ m, n ≤ m → runCode Tryd.prog noOra m ro c e h = r := by
  obtain ⟨r', _, h1, h2⟩ := hc; exact ⟨r', h1, h2⟩
/-- 'next' answers what the reading answers; a fault becomes its error. -/
theorem F35.ok {ora : Ora} (hora : HOra9 ora) {lf : Nat} {F : List Ent} {r : (Int × Int × List Int × Int × Int × Int)} {px0 : Nat} {apx0_0 : Option Addr} {cpx0_0 : Nat} {xpx0_0 : List Int} (mpx0_1 : Int) (h : Heap) (hs : Sat ro h (.own ro (some ⟨px0, 0, none⟩) 1 [.slice apx0_0 xpx0_0.length cpx0_0, .int .i64 mpx0_1] :: .row apx0_0 cpx0_0 (xpx0_0.map (Value.int .u8)) :: F)) (hp : F35.p lf xpx0_0 mpx0_1 = some r) :
    F35.Post px0 apx0_0 cpx0_0 xpx0_0 F ro r (callW Tryd.prog ora ro 35 [.pointer (some ⟨px0, 0, none⟩)] h) := by
  have nora : HOra noOra := ⟨fun _ _ _ _ _ => rfl⟩
  have s1 := hs.push (lo := ro) hs.low (sz := 1) (l := [.int .i64 0, .int .i64 0, .slice none 0 0]) rfl
  have s2 := s1.push (lo := ro) s1.low (sz := 1) (l := [.int .i64 0]) rfl
  have s3 := (s2.pull 3 rfl).pull 3 rfl
  have s3 := (s3.pull 1 rfl).pull 1 rfl
  have s4 := (s2.pull 2 rfl)
  have s5 := (s4.pull 3 rfl).pull 1 rfl
  have key : ∀ (v : Value) (h' : Heap), (∃ N, guardRun Tryd.prog noOra N ro Tryd.f35 Tryd.f43 GA GB GC 4 5 [.pointer (some ⟨px0, 0, none⟩)] h = .ok v h') → callW Tryd.prog ora ro 35 [.pointer (some ⟨px0, 0, none⟩)] h = .ok v h' := fun v h' hN =>
    callW_ora (hora.next ro _ h _ (by simp) hN) (by simp)
  obtain ⟨nA, hA⟩ := ev_of (a35_run (ro := ro) px0 h)
  unfold F35.p at hp
  split at hp
  · rename_i r' hr
    cases hp
    obtain ⟨a2, h3, e3, t3⟩ := F44.ok nora (ro := ro) (F := .own ro (some ⟨h.next + 1, 0, none⟩) 1 [.int .i64 0] :: .own ro (some ⟨h.next, 0, none⟩) 1 [.int .i64 0, .int .i64 0, .slice none 0 0] :: F) mpx0_1 _ s5 hr
    obtain ⟨rB, ⟨g, h5, rfl, g2, g3, g4, t5⟩, nB, hB⟩ := ev_ofQ (b35_ok px0 h h3 e3 ((t3.pull 2 rfl).pull 3 rfl))
    obtain ⟨rC, ⟨eC, rfl⟩, nC, hC⟩ := ev_ofQ (c43_nil (ro := ro) (ptrTo (h.next + 1)) h5)
    refine ⟨a2, h5, key _ _ ⟨max nA (max nB nC), ?_⟩, ((t5.tail).tail)⟩
    unfold guardRun
    rw [show runCode Tryd.prog noOra (max nA (max nB nC)) ro GA (envOf0 [.pointer (some ⟨px0, 0, none⟩)] Tryd.f35.ntmps) h = _ from hA _ (by omega)]
    simp only
    rw [show (EF 12 (f35A px0 h)).get 4 = some (ptrTo (h.next + 1)) from (EF_get (by decide)).trans rfl]
    simp only
    rw [hB _ (by omega)]
    simp only
    unfold afterD
    rw [show putA (envOf0 [ptrTo (h.next + 1)] Tryd.f43.ntmps) (some 5) .nilIface = _ from env43 _ _]
    simp only
    rw [hC _ (by omega)]
    exact res35 g2 g3 g4 t5
  · rename_i r' hr
    cases hp
    obtain ⟨h3, e3, t3⟩ := F44.ok nora (ro := ro) (F := .own ro (some ⟨h.next + 1, 0, none⟩) 1 [.int .i64 0] :: .own ro (some ⟨h.next, 0, none⟩) 1 [.int .i64 0, .int .i64 0, .slice none 0 0] :: F) mpx0_1 _ s5 hr
    obtain ⟨rB, ⟨g, rfl, g2, g3, g4⟩, nB, hB⟩ := ev_ofQ (b35_pan px0 h h3 e3)
    obtain ⟨rC, ⟨eC, h6, rfl, t6⟩, nC, hC⟩ := ev_ofQ (c43_fault 0 r'.1 h.next (h.next + 1) h3 ((t3.pull 1 rfl).pull 2 rfl))
    refine ⟨none, h6, key _ _ ⟨max nA (max nB nC), ?_⟩, ((t6.tail).tail).nilOwn ro 1⟩
    unfold guardRun
    rw [show runCode Tryd.prog noOra (max nA (max nB nC)) ro GA (envOf0 [.pointer (some ⟨px0, 0, none⟩)] Tryd.f35.ntmps) h = _ from hA _ (by omega)]
    simp only
    rw [show (EF 12 (f35A px0 h)).get 4 = some (ptrTo (h.next + 1)) from (EF_get (by decide)).trans rfl]
    simp only
    rw [hB _ (by omega)]
    simp only
    unfold afterD
    rw [show putA (envOf0 [ptrTo (h.next + 1)] Tryd.f43.ntmps) (some 5) (.iface 77 (.agg #[.int .i64 r'.1])) = _ from env43 _ _]
    simp only
    rw [hC _ (by omega)]
    exact res35 g2 g3 g4 t6
  · cases hp
end Go.Proofs.YtgpnjdldpehidaaDoor
