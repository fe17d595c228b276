/-
  The functions that decode as plain functions of numbers and lists, and that they answer as the program does where they answer at all; no statement of the seat is proved in this file.
-/
import Derived.Test.YtfadfpcelhdfbaaDoorDecTextD
import Derived.Test.YtfadfpcelhdfbaaDoorAbsG
open Go Go.Abs Go.Proofs
set_option maxRecDepth 100000
set_option linter.unusedVariables false
namespace Go.Proofs.YtfadfpcelhdfbaaDoor
/-- The bytes of the numbers of the modes. -/
def tabL : List (List ByteArray) := [
  [⟨#[]⟩, ⟨#[32]⟩, ⟨#[65]⟩, ⟨#[66]⟩, ⟨#[67]⟩, ⟨#[68]⟩, ⟨#[69]⟩, ⟨#[70]⟩, ⟨#[71]⟩, ⟨#[72]⟩, ⟨#[73]⟩, ⟨#[74]⟩, ⟨#[75]⟩, ⟨#[76]⟩, ⟨#[77]⟩, ⟨#[78]⟩, ⟨#[79]⟩, ⟨#[80]⟩, ⟨#[81]⟩, ⟨#[82]⟩, ⟨#[83]⟩, ⟨#[84]⟩, ⟨#[85]⟩, ⟨#[86]⟩, ⟨#[87]⟩, ⟨#[88]⟩, ⟨#[89]⟩, ⟨#[90]⟩],
  [⟨#[]⟩, ⟨#[32]⟩, ⟨#[97]⟩, ⟨#[98]⟩, ⟨#[99]⟩, ⟨#[100]⟩, ⟨#[101]⟩, ⟨#[102]⟩, ⟨#[103]⟩, ⟨#[104]⟩, ⟨#[105]⟩, ⟨#[106]⟩, ⟨#[107]⟩, ⟨#[108]⟩, ⟨#[109]⟩, ⟨#[110]⟩, ⟨#[111]⟩, ⟨#[112]⟩, ⟨#[113]⟩, ⟨#[114]⟩, ⟨#[115]⟩, ⟨#[116]⟩, ⟨#[117]⟩, ⟨#[118]⟩, ⟨#[119]⟩, ⟨#[120]⟩, ⟨#[121]⟩, ⟨#[122]⟩],
  [⟨#[]⟩, ⟨#[32]⟩, ⟨#[1]⟩, ⟨#[2]⟩, ⟨#[3]⟩, ⟨#[4]⟩, ⟨#[5]⟩, ⟨#[6]⟩, ⟨#[7]⟩, ⟨#[8]⟩, ⟨#[9]⟩, ⟨#[10]⟩, ⟨#[11]⟩, ⟨#[12]⟩, ⟨#[13]⟩, ⟨#[27]⟩, ⟨#[28]⟩, ⟨#[29]⟩, ⟨#[30]⟩, ⟨#[31]⟩, ⟨#[64]⟩, ⟨#[92]⟩, ⟨#[94]⟩, ⟨#[95]⟩, ⟨#[96]⟩, ⟨#[124]⟩, ⟨#[126]⟩, ⟨#[127]⟩],
  [⟨#[]⟩, ⟨#[13]⟩, ⟨#[13, 10]⟩, ⟨#[46, 32]⟩, ⟨#[44, 32]⟩, ⟨#[58, 32]⟩, ⟨#[33]⟩, ⟨#[34]⟩, ⟨#[35]⟩, ⟨#[36]⟩, ⟨#[37]⟩, ⟨#[38]⟩, ⟨#[39]⟩, ⟨#[40]⟩, ⟨#[41]⟩, ⟨#[42]⟩, ⟨#[43]⟩, ⟨#[44]⟩, ⟨#[45]⟩, ⟨#[46]⟩, ⟨#[47]⟩, ⟨#[58]⟩, ⟨#[59]⟩, ⟨#[60]⟩, ⟨#[61]⟩, ⟨#[62]⟩, ⟨#[63]⟩, ⟨#[91]⟩, ⟨#[93]⟩, ⟨#[123]⟩, ⟨#[125]⟩],
  [⟨#[]⟩, ⟨#[32]⟩, ⟨#[48]⟩, ⟨#[49]⟩, ⟨#[50]⟩, ⟨#[51]⟩, ⟨#[52]⟩, ⟨#[53]⟩, ⟨#[54]⟩, ⟨#[55]⟩, ⟨#[56]⟩, ⟨#[57]⟩, ⟨#[44]⟩, ⟨#[46]⟩]]
def tabS (m v : Nat) : ByteArray := (tabL.getD m []).getD v .empty
/-- What the proofs ask of the oracle: it leaves the calls to the code, but for the examples (function 11), which hold, and the bytes of a number in a mode (64, and 58 for the reference). -/
structure HOra (ora : Ora) : Prop where
  none : ∀ ro f args h, f ∉ [11, 64, 58] → ora ro f args h = none
  ex : ∀ ro h, ora ro 11 [] h = some (.ok (.bool true) h)
  text : ∀ ro (m v : Nat) h, m < 5 → v < 32 → ora ro 64 [.int .i64 m, .int .i64 v] h = some (.ok (.string (tabS m v)) h)
  text2 : ∀ ro (m v : Nat) h, m < 5 → v < 32 → ora ro 58 [.int .i64 m, .int .i64 v] h = some (.ok (.string (tabS m v)) h)
def F11.Post (F : List Ent) (ro : Nat) (r : Bool) (x : Out) : Prop := ∃ h', x = .ok (.bool r) h' ∧ Sat ro h' F
def F11.p (lf : Nat) : Option Bool := some true
theorem F11.ok {ora : Ora} (hora : HOra ora) {lf ro : Nat} {F : List Ent} {r : Bool} (h : Heap) (hs : Sat ro h F) (hp : F11.p lf = some r) : F11.Post F ro r (callW Tryd.prog ora ro 11 [] h) := by
  cases hp
  exact ⟨h, callW_ora (hora.ex ro h) (by simp), hs⟩
def textp (m v : Int) : Option ByteArray := if 0 ≤ m ∧ m < 5 ∧ 0 ≤ v ∧ v < 32 then some (tabS m.toNat v.toNat) else none
theorem textp_some {m v : Int} {r : ByteArray} (h : textp m v = some r) : ∃ a b : Nat, m = a ∧ v = b ∧ a < 5 ∧ b < 32 ∧ r = tabS a b := by
  unfold textp at h
  split at h
  · rename_i hc
    cases h
    exact ⟨m.toNat, v.toNat, by omega, by omega, by omega, by omega, rfl⟩
  · cases h
def F64.Post (F : List Ent) (ro : Nat) (r : ByteArray) (x : Out) : Prop := ∃ h', x = .ok (.string r) h' ∧ Sat ro h' F
def F64.p (lf : Nat) (x0 x1 : Int) : Option ByteArray := textp x0 x1
theorem F64.ok {ora : Ora} (hora : HOra ora) {lf ro : Nat} {F : List Ent} {r : ByteArray} (x0 x1 : Int) (h : Heap) (hs : Sat ro h F) (hp : F64.p lf x0 x1 = some r) : F64.Post F ro r (callW Tryd.prog ora ro 64 [.int .i64 x0, .int .i64 x1] h) := by
  obtain ⟨a, b, rfl, rfl, ha, hb, rfl⟩ := textp_some hp
  exact ⟨h, callW_ora (hora.text ro a b h ha hb) (by simp), hs⟩
def F58.Post (F : List Ent) (ro : Nat) (r : ByteArray) (x : Out) : Prop := ∃ h', x = .ok (.string r) h' ∧ Sat ro h' F
def F58.p (lf : Nat) (x0 x1 : Int) : Option ByteArray := textp x0 x1
theorem F58.ok {ora : Ora} (hora : HOra ora) {lf ro : Nat} {F : List Ent} {r : ByteArray} (x0 x1 : Int) (h : Heap) (hs : Sat ro h F) (hp : F58.p lf x0 x1 = some r) : F58.Post F ro r (callW Tryd.prog ora ro 58 [.int .i64 x0, .int .i64 x1] h) := by
  obtain ⟨a, b, rfl, rfl, ha, hb, rfl⟩ := textp_some hp
  exact ⟨h, callW_ora (hora.text2 ro a b h ha hb) (by simp), hs⟩
end Go.Proofs.YtfadfpcelhdfbaaDoor

open Go Go.Abs Go.Proofs
set_option maxRecDepth 100000
set_option linter.unusedVariables false
set_option linter.unusedSimpArgs false
namespace Go.Proofs.YtfadfpcelhdfbaaDoor

theorem agg22 : isAgg? Tryd.prog 22 = some false := by kernel_rfl
theorem agg24 : isAgg? Tryd.prog 24 = some false := by kernel_rfl
theorem agg3 : isAgg? Tryd.prog 3 = some false := by kernel_rfl
theorem agg4 : isAgg? Tryd.prog 4 = some false := by kernel_rfl
theorem agg84 : isAgg? Tryd.prog 84 = some true := by kernel_rfl
theorem one5 : One Tryd.prog 5 1 := ⟨Tryd.t5, _, by kernel_rfl, rfl, rfl, rfl, rfl⟩
theorem siz22 : sizeOf? Tryd.prog 22 = some 1 := by kernel_rfl
theorem siz3 : sizeOf? Tryd.prog 3 = some 1 := by kernel_rfl
theorem siz4 : sizeOf? Tryd.prog 4 = some 1 := by kernel_rfl
theorem siz84 : sizeOf? Tryd.prog 84 = some 3 := by kernel_rfl
theorem und22 : Tryd.prog.underlying 22 = some (.slice 5) := by kernel_rfl
theorem und24 : Tryd.prog.underlying 24 = some (.slice 4) := by kernel_rfl
theorem und5 : Tryd.prog.underlying 5 = some (.int .u8) := by kernel_rfl
theorem und9 : Tryd.prog.underlying 9 = some (.string) := by kernel_rfl

def F51.Post (F : List Ent) (ro : Nat) (r : (Int)) (x : Out) : Prop := ∃ h', x = .ok (.int .i64 r) h' ∧ Sat ro h' (F)
theorem F51.Post.ne {F : List Ent} {ro : Nat} {r : (Int)} {x : Out} (hx : F51.Post F ro r x) : x ≠ .fail := by
  obtain ⟨h', rfl, _⟩ := hx
  simp

def F51.p (lf : Nat) (x0 : Int) : Option (Int) :=
  ifp (x0 == 4) (
    some 4) (
    some 5)

theorem F51.t_ok {ora : Ora} (hora : HOra ora) {lf ro : Nat} {F : List Ent} {r : (Int)} (x0 : Int) (h : Heap) (hs : Sat ro h (F)) (hp : F51.p lf x0 = some r) : F51.Post F ro r (F51.t (callW Tryd.prog ora) lf ro x0 h) := by
  unfold F51.t
  unfold F51.p at hp
  refine st_if (Q := F51.Post F ro r) (fun hc_1 => ?_) (fun hc_1 => ?_)
  · replace hp := ifp_t hc_1 hp
    cases hp
    exact ⟨_, rfl, hs⟩
  · replace hp := ifp_f hc_1 hp
    cases hp
    exact ⟨_, rfl, hs⟩

theorem F51.ok {ora : Ora} (hora : HOra ora) {lf ro : Nat} {F : List Ent} {r : (Int)} (x0 : Int) (h : Heap) (hs : Sat ro h (F)) (hp : F51.p lf x0 = some r) : F51.Post F ro r (callW Tryd.prog ora ro 51 [.int .i64 x0] h) := by
  have h1 := F51.t_ok hora x0 h hs hp
  have h2 : callW Tryd.prog ora ro 51 [.int .i64 x0] h = _ := callW_body (hora.none _ _ _ _ (by decide)) Tryd.func51 (F51.le (callW Tryd.prog ora) lf ro x0 h) (F51.Post.ne h1)
  rw [h2]; exact h1

def F53.Post (F : List Ent) (ro : Nat) (r : (Int)) (x : Out) : Prop := ∃ h', x = .ok (.int .i64 r) h' ∧ Sat ro h' (F)
theorem F53.Post.ne {F : List Ent} {ro : Nat} {r : (Int)} {x : Out} (hx : F53.Post F ro r x) : x ≠ .fail := by
  obtain ⟨h', rfl, _⟩ := hx
  simp

def F53.J2p (lf : Nat) (n1 : Int) (n2 : Int) (b3 : Bool) : Option (Int) :=
  letJ ((
    some (-1) : Option (Int))) fun j13p =>
  ifp b3 (
    some 3) (
    letJ (fun (b18 : Bool) => (
      letJ (fun (b20 : Bool) => (
        ifp b20 (
          some 0) (
          j13p) : Option (Int))) fun j21p =>
      ifp b18 (
        j21p b18) (
        ifp (n1 == 4) (
          j21p (n2 == 15)) (
          j21p false)) : Option (Int))) fun j19p =>
    ifp (n1 == 1) (
      j19p (n2 == 28)) (
      j19p false))

theorem F53.J2_ok {ora : Ora} (hora : HOra ora) {lf ro : Nat} {F : List Ent} {r : (Int)} (n1 : Int) (n2 : Int) (b3 : Bool) (h : Heap) (hs : Sat ro h (F)) (hp : F53.J2p lf n1 n2 b3 = some r) : F53.Post F ro r (F53.J2 (callW Tryd.prog ora) lf ro n1 n2 b3 h) := by
  unfold F53.J2
  unfold F53.J2p at hp
  refine st_letJ hp (fun j13p j13 => Sat ro h (F) → j13p = some r → F53.Post F ro r (j13)) ?_ ?_
  · intro  hs hp
    cases hp
    exact ⟨_, rfl, hs⟩
  · intro j13p j13 hj13 hp
    refine st_if (Q := F53.Post F ro r) (fun hc_3 => ?_) (fun hc_3 => ?_)
    · replace hp := ifp_t hc_3 hp
      cases hp
      exact ⟨_, rfl, hs⟩
    · replace hp := ifp_f hc_3 hp
      refine st_letJ hp (fun j19p j19 => ∀ (b18 : Bool), Sat ro h (F) → j19p b18 = some r → F53.Post F ro r (j19 b18)) ?_ ?_
      · intro b18 hs hp
        refine st_letJ hp (fun j21p j21 => ∀ (b20 : Bool), Sat ro h (F) → j21p b20 = some r → F53.Post F ro r (j21 b20)) ?_ ?_
        · intro b20 hs hp
          refine st_if (Q := F53.Post F ro r) (fun hc_9 => ?_) (fun hc_9 => ?_)
          · replace hp := ifp_t hc_9 hp
            cases hp
            exact ⟨_, rfl, hs⟩
          · replace hp := ifp_f hc_9 hp
            exact hj13 hs hp
        · intro j21p j21 hj21 hp
          refine st_if (Q := F53.Post F ro r) (fun hc_6 => ?_) (fun hc_6 => ?_)
          · replace hp := ifp_t hc_6 hp
            exact hj21 b18 hs hp
          · replace hp := ifp_f hc_6 hp
            refine st_if (Q := F53.Post F ro r) (fun hc_7 => ?_) (fun hc_7 => ?_)
            · replace hp := ifp_t hc_7 hp
              exact hj21 (n2 == 15) hs hp
            · replace hp := ifp_f hc_7 hp
              exact hj21 false hs hp
      · intro j19p j19 hj19 hp
        refine st_if (Q := F53.Post F ro r) (fun hc_4 => ?_) (fun hc_4 => ?_)
        · replace hp := ifp_t hc_4 hp
          exact hj19 (n2 == 28) hs hp
        · replace hp := ifp_f hc_4 hp
          exact hj19 false hs hp

def F53.p (lf : Nat) (x0 : Int) (x1 : Int) : Option (Int) :=
  ifp (x0 != 3) (
    F53.J2p lf x0 x1 (x1 == 0)) (
    F53.J2p lf x0 x1 false)

theorem F53.t_ok {ora : Ora} (hora : HOra ora) {lf ro : Nat} {F : List Ent} {r : (Int)} (x0 : Int) (x1 : Int) (h : Heap) (hs : Sat ro h (F)) (hp : F53.p lf x0 x1 = some r) : F53.Post F ro r (F53.t (callW Tryd.prog ora) lf ro x0 x1 h) := by
  unfold F53.t
  unfold F53.p at hp
  refine st_if (Q := F53.Post F ro r) (fun hc_2 => ?_) (fun hc_2 => ?_)
  · replace hp := ifp_t hc_2 hp
    exact F53.J2_ok hora x0 x1 (x1 == 0) _ hs hp
  · replace hp := ifp_f hc_2 hp
    exact F53.J2_ok hora x0 x1 false _ hs hp

theorem F53.ok {ora : Ora} (hora : HOra ora) {lf ro : Nat} {F : List Ent} {r : (Int)} (x0 : Int) (x1 : Int) (h : Heap) (hs : Sat ro h (F)) (hp : F53.p lf x0 x1 = some r) : F53.Post F ro r (callW Tryd.prog ora ro 53 [.int .i64 x0, .int .i64 x1] h) := by
  have h1 := F53.t_ok hora x0 x1 h hs hp
  have h2 : callW Tryd.prog ora ro 53 [.int .i64 x0, .int .i64 x1] h = _ := callW_body (hora.none _ _ _ _ (by decide)) Tryd.func53 (F53.le (callW Tryd.prog ora) lf ro x0 x1 h) (F53.Post.ne h1)
  rw [h2]; exact h1

def F54.Post (F : List Ent) (ro : Nat) (r : (Int)) (x : Out) : Prop := ∃ h', x = .ok (.int .i64 r) h' ∧ Sat ro h' (F)
theorem F54.Post.ne {F : List Ent} {ro : Nat} {r : (Int)} {x : Out} (hx : F54.Post F ro r x) : x ≠ .fail := by
  obtain ⟨h', rfl, _⟩ := hx
  simp

def F54.J13p (lf : Nat) (n22 : Int) (n23 : Int) (b24 : Bool) : Option (Int) :=
  letJ ((
    some (-1) : Option (Int))) fun j30p =>
  ifp b24 (
    some 0) (
    letJ (fun (b33 : Bool) => (
      ifp b33 (
        some 3) (
        j30p) : Option (Int))) fun j34p =>
    ifp (n22 == 2) (
      j34p (n23 == 30)) (
      j34p false))

theorem F54.J13_ok {ora : Ora} (hora : HOra ora) {lf ro : Nat} {F : List Ent} {r : (Int)} (n22 : Int) (n23 : Int) (b24 : Bool) (h : Heap) (hs : Sat ro h (F)) (hp : F54.J13p lf n22 n23 b24 = some r) : F54.Post F ro r (F54.J13 (callW Tryd.prog ora) lf ro n22 n23 b24 h) := by
  unfold F54.J13
  unfold F54.J13p at hp
  refine st_letJ hp (fun j30p j30 => Sat ro h (F) → j30p = some r → F54.Post F ro r (j30)) ?_ ?_
  · intro  hs hp
    cases hp
    exact ⟨_, rfl, hs⟩
  · intro j30p j30 hj30 hp
    refine st_if (Q := F54.Post F ro r) (fun hc_26 => ?_) (fun hc_26 => ?_)
    · replace hp := ifp_t hc_26 hp
      cases hp
      exact ⟨_, rfl, hs⟩
    · replace hp := ifp_f hc_26 hp
      refine st_letJ hp (fun j34p j34 => ∀ (b33 : Bool), Sat ro h (F) → j34p b33 = some r → F54.Post F ro r (j34 b33)) ?_ ?_
      · intro b33 hs hp
        refine st_if (Q := F54.Post F ro r) (fun hc_29 => ?_) (fun hc_29 => ?_)
        · replace hp := ifp_t hc_29 hp
          cases hp
          exact ⟨_, rfl, hs⟩
        · replace hp := ifp_f hc_29 hp
          exact hj30 hs hp
      · intro j34p j34 hj34 hp
        refine st_if (Q := F54.Post F ro r) (fun hc_27 => ?_) (fun hc_27 => ?_)
        · replace hp := ifp_t hc_27 hp
          exact hj34 (n23 == 30) hs hp
        · replace hp := ifp_f hc_27 hp
          exact hj34 false hs hp

def F54.J9p (lf : Nat) (n16 : Int) (n17 : Int) (b18 : Bool) : Option (Int) :=
  ifp b18 (
    some 4) (
    letJ (fun (b56 : Bool) => (
      ifp b56 (
        F54.J13p lf n16 n17 b56) (
        letJ (fun (b58 : Bool) => (
          ifp b58 (
            F54.J13p lf n16 n17 b58) (
            ifp (n16 == 4) (
              F54.J13p lf n16 n17 (n17 == 14)) (
              F54.J13p lf n16 n17 false)) : Option (Int))) fun j59p =>
        ifp (n16 == 3) (
          j59p (n17 == 31)) (
          j59p false)) : Option (Int))) fun j57p =>
    ifp (n16 == 2) (
      j57p (n17 == 29)) (
      j57p false))

theorem F54.J9_ok {ora : Ora} (hora : HOra ora) {lf ro : Nat} {F : List Ent} {r : (Int)} (n16 : Int) (n17 : Int) (b18 : Bool) (h : Heap) (hs : Sat ro h (F)) (hp : F54.J9p lf n16 n17 b18 = some r) : F54.Post F ro r (F54.J9 (callW Tryd.prog ora) lf ro n16 n17 b18 h) := by
  unfold F54.J9
  unfold F54.J9p at hp
  refine st_if (Q := F54.Post F ro r) (fun hc_22 => ?_) (fun hc_22 => ?_)
  · replace hp := ifp_t hc_22 hp
    cases hp
    exact ⟨_, rfl, hs⟩
  · replace hp := ifp_f hc_22 hp
    refine st_letJ hp (fun j57p j57 => ∀ (b56 : Bool), Sat ro h (F) → j57p b56 = some r → F54.Post F ro r (j57 b56)) ?_ ?_
    · intro b56 hs hp
      refine st_if (Q := F54.Post F ro r) (fun hc_25 => ?_) (fun hc_25 => ?_)
      · replace hp := ifp_t hc_25 hp
        exact F54.J13_ok hora n16 n17 b56 _ hs hp
      · replace hp := ifp_f hc_25 hp
        refine st_letJ hp (fun j59p j59 => ∀ (b58 : Bool), Sat ro h (F) → j59p b58 = some r → F54.Post F ro r (j59 b58)) ?_ ?_
        · intro b58 hs hp
          refine st_if (Q := F54.Post F ro r) (fun hc_33 => ?_) (fun hc_33 => ?_)
          · replace hp := ifp_t hc_33 hp
            exact F54.J13_ok hora n16 n17 b58 _ hs hp
          · replace hp := ifp_f hc_33 hp
            refine st_if (Q := F54.Post F ro r) (fun hc_34 => ?_) (fun hc_34 => ?_)
            · replace hp := ifp_t hc_34 hp
              exact F54.J13_ok hora n16 n17 (n17 == 14) _ hs hp
            · replace hp := ifp_f hc_34 hp
              exact F54.J13_ok hora n16 n17 false _ hs hp
        · intro j59p j59 hj59 hp
          refine st_if (Q := F54.Post F ro r) (fun hc_31 => ?_) (fun hc_31 => ?_)
          · replace hp := ifp_t hc_31 hp
            exact hj59 (n17 == 31) hs hp
          · replace hp := ifp_f hc_31 hp
            exact hj59 false hs hp
    · intro j57p j57 hj57 hp
      refine st_if (Q := F54.Post F ro r) (fun hc_23 => ?_) (fun hc_23 => ?_)
      · replace hp := ifp_t hc_23 hp
        exact hj57 (n17 == 29) hs hp
      · replace hp := ifp_f hc_23 hp
        exact hj57 false hs hp

def F54.J6p (lf : Nat) (n10 : Int) (n11 : Int) (b12 : Bool) : Option (Int) :=
  ifp b12 (
    some 2) (
    letJ (fun (b71 : Bool) => (
      ifp b71 (
        F54.J9p lf n10 n11 b71) (
        ifp (n10 == 1) (
          F54.J9p lf n10 n11 (n11 == 30)) (
          F54.J9p lf n10 n11 false)) : Option (Int))) fun j72p =>
    ifp (n10 == 0) (
      j72p (n11 == 30)) (
      j72p false))

theorem F54.J6_ok {ora : Ora} (hora : HOra ora) {lf ro : Nat} {F : List Ent} {r : (Int)} (n10 : Int) (n11 : Int) (b12 : Bool) (h : Heap) (hs : Sat ro h (F)) (hp : F54.J6p lf n10 n11 b12 = some r) : F54.Post F ro r (F54.J6 (callW Tryd.prog ora) lf ro n10 n11 b12 h) := by
  unfold F54.J6
  unfold F54.J6p at hp
  refine st_if (Q := F54.Post F ro r) (fun hc_18 => ?_) (fun hc_18 => ?_)
  · replace hp := ifp_t hc_18 hp
    cases hp
    exact ⟨_, rfl, hs⟩
  · replace hp := ifp_f hc_18 hp
    refine st_letJ hp (fun j72p j72 => ∀ (b71 : Bool), Sat ro h (F) → j72p b71 = some r → F54.Post F ro r (j72 b71)) ?_ ?_
    · intro b71 hs hp
      refine st_if (Q := F54.Post F ro r) (fun hc_21 => ?_) (fun hc_21 => ?_)
      · replace hp := ifp_t hc_21 hp
        exact F54.J9_ok hora n10 n11 b71 _ hs hp
      · replace hp := ifp_f hc_21 hp
        refine st_if (Q := F54.Post F ro r) (fun hc_35 => ?_) (fun hc_35 => ?_)
        · replace hp := ifp_t hc_35 hp
          exact F54.J9_ok hora n10 n11 (n11 == 30) _ hs hp
        · replace hp := ifp_f hc_35 hp
          exact F54.J9_ok hora n10 n11 false _ hs hp
    · intro j72p j72 hj72 hp
      refine st_if (Q := F54.Post F ro r) (fun hc_19 => ?_) (fun hc_19 => ?_)
      · replace hp := ifp_t hc_19 hp
        exact hj72 (n11 == 30) hs hp
      · replace hp := ifp_f hc_19 hp
        exact hj72 false hs hp

def F54.J3p (lf : Nat) (n4 : Int) (n5 : Int) (b6 : Bool) : Option (Int) :=
  ifp b6 (
    some 1) (
    letJ (fun (b84 : Bool) => (
      ifp b84 (
        F54.J6p lf n4 n5 b84) (
        ifp (n4 == 1) (
          F54.J6p lf n4 n5 (n5 == 29)) (
          F54.J6p lf n4 n5 false)) : Option (Int))) fun j85p =>
    ifp (n4 == 0) (
      j85p (n5 == 29)) (
      j85p false))

theorem F54.J3_ok {ora : Ora} (hora : HOra ora) {lf ro : Nat} {F : List Ent} {r : (Int)} (n4 : Int) (n5 : Int) (b6 : Bool) (h : Heap) (hs : Sat ro h (F)) (hp : F54.J3p lf n4 n5 b6 = some r) : F54.Post F ro r (F54.J3 (callW Tryd.prog ora) lf ro n4 n5 b6 h) := by
  unfold F54.J3
  unfold F54.J3p at hp
  refine st_if (Q := F54.Post F ro r) (fun hc_14 => ?_) (fun hc_14 => ?_)
  · replace hp := ifp_t hc_14 hp
    cases hp
    exact ⟨_, rfl, hs⟩
  · replace hp := ifp_f hc_14 hp
    refine st_letJ hp (fun j85p j85 => ∀ (b84 : Bool), Sat ro h (F) → j85p b84 = some r → F54.Post F ro r (j85 b84)) ?_ ?_
    · intro b84 hs hp
      refine st_if (Q := F54.Post F ro r) (fun hc_17 => ?_) (fun hc_17 => ?_)
      · replace hp := ifp_t hc_17 hp
        exact F54.J6_ok hora n4 n5 b84 _ hs hp
      · replace hp := ifp_f hc_17 hp
        refine st_if (Q := F54.Post F ro r) (fun hc_36 => ?_) (fun hc_36 => ?_)
        · replace hp := ifp_t hc_36 hp
          exact F54.J6_ok hora n4 n5 (n5 == 29) _ hs hp
        · replace hp := ifp_f hc_36 hp
          exact F54.J6_ok hora n4 n5 false _ hs hp
    · intro j85p j85 hj85 hp
      refine st_if (Q := F54.Post F ro r) (fun hc_15 => ?_) (fun hc_15 => ?_)
      · replace hp := ifp_t hc_15 hp
        exact hj85 (n5 == 29) hs hp
      · replace hp := ifp_f hc_15 hp
        exact hj85 false hs hp

def F54.p (lf : Nat) (x0 : Int) (x1 : Int) : Option (Int) :=
  letJ (fun (b89 : Bool) => (
    ifp b89 (
      F54.J3p lf x0 x1 b89) (
      ifp (x0 == 2) (
        F54.J3p lf x0 x1 (x1 == 28)) (
        F54.J3p lf x0 x1 false)) : Option (Int))) fun j90p =>
  ifp (x0 == 0) (
    j90p (x1 == 28)) (
    j90p false)

theorem F54.t_ok {ora : Ora} (hora : HOra ora) {lf ro : Nat} {F : List Ent} {r : (Int)} (x0 : Int) (x1 : Int) (h : Heap) (hs : Sat ro h (F)) (hp : F54.p lf x0 x1 = some r) : F54.Post F ro r (F54.t (callW Tryd.prog ora) lf ro x0 x1 h) := by
  unfold F54.t
  unfold F54.p at hp
  refine st_letJ hp (fun j90p j90 => ∀ (b89 : Bool), Sat ro h (F) → j90p b89 = some r → F54.Post F ro r (j90 b89)) ?_ ?_
  · intro b89 hs hp
    refine st_if (Q := F54.Post F ro r) (fun hc_13 => ?_) (fun hc_13 => ?_)
    · replace hp := ifp_t hc_13 hp
      exact F54.J3_ok hora x0 x1 b89 _ hs hp
    · replace hp := ifp_f hc_13 hp
      refine st_if (Q := F54.Post F ro r) (fun hc_37 => ?_) (fun hc_37 => ?_)
      · replace hp := ifp_t hc_37 hp
        exact F54.J3_ok hora x0 x1 (x1 == 28) _ hs hp
      · replace hp := ifp_f hc_37 hp
        exact F54.J3_ok hora x0 x1 false _ hs hp
  · intro j90p j90 hj90 hp
    refine st_if (Q := F54.Post F ro r) (fun hc_11 => ?_) (fun hc_11 => ?_)
    · replace hp := ifp_t hc_11 hp
      exact hj90 (x1 == 28) hs hp
    · replace hp := ifp_f hc_11 hp
      exact hj90 false hs hp

theorem F54.ok {ora : Ora} (hora : HOra ora) {lf ro : Nat} {F : List Ent} {r : (Int)} (x0 : Int) (x1 : Int) (h : Heap) (hs : Sat ro h (F)) (hp : F54.p lf x0 x1 = some r) : F54.Post F ro r (callW Tryd.prog ora ro 54 [.int .i64 x0, .int .i64 x1] h) := by
  have h1 := F54.t_ok hora x0 x1 h hs hp
  have h2 : callW Tryd.prog ora ro 54 [.int .i64 x0, .int .i64 x1] h = _ := callW_body (hora.none _ _ _ _ (by decide)) Tryd.func54 (F54.le (callW Tryd.prog ora) lf ro x0 x1 h) (F54.Post.ne h1)
  rw [h2]; exact h1

def F57.Post (F : List Ent) (ro : Nat) (r : (Int)) (x : Out) : Prop := ∃ h', x = .ok (.int .i64 r) h' ∧ Sat ro h' (F)
theorem F57.Post.ne {F : List Ent} {ro : Nat} {r : (Int)} {x : Out} (hx : F57.Post F ro r x) : x ≠ .fail := by
  obtain ⟨h', rfl, _⟩ := hx
  simp

def F57.p (lf : Nat) (x0 : Int) : Option (Int) :=
  ifp (x0 == 4) (
    some 4) (
    some 5)

theorem F57.t_ok {ora : Ora} (hora : HOra ora) {lf ro : Nat} {F : List Ent} {r : (Int)} (x0 : Int) (h : Heap) (hs : Sat ro h (F)) (hp : F57.p lf x0 = some r) : F57.Post F ro r (F57.t (callW Tryd.prog ora) lf ro x0 h) := by
  unfold F57.t
  unfold F57.p at hp
  refine st_if (Q := F57.Post F ro r) (fun hc_38 => ?_) (fun hc_38 => ?_)
  · replace hp := ifp_t hc_38 hp
    cases hp
    exact ⟨_, rfl, hs⟩
  · replace hp := ifp_f hc_38 hp
    cases hp
    exact ⟨_, rfl, hs⟩

theorem F57.ok {ora : Ora} (hora : HOra ora) {lf ro : Nat} {F : List Ent} {r : (Int)} (x0 : Int) (h : Heap) (hs : Sat ro h (F)) (hp : F57.p lf x0 = some r) : F57.Post F ro r (callW Tryd.prog ora ro 57 [.int .i64 x0] h) := by
  have h1 := F57.t_ok hora x0 h hs hp
  have h2 : callW Tryd.prog ora ro 57 [.int .i64 x0] h = _ := callW_body (hora.none _ _ _ _ (by decide)) Tryd.func57 (F57.le (callW Tryd.prog ora) lf ro x0 h) (F57.Post.ne h1)
  rw [h2]; exact h1

def F60.Post (F : List Ent) (ro : Nat) (r : (Int)) (x : Out) : Prop := ∃ h', x = .ok (.int .i64 r) h' ∧ Sat ro h' (F)
theorem F60.Post.ne {F : List Ent} {ro : Nat} {r : (Int)} {x : Out} (hx : F60.Post F ro r x) : x ≠ .fail := by
  obtain ⟨h', rfl, _⟩ := hx
  simp

def F60.J8p (lf : Nat) (n13 : Int) (n14 : Int) (b15 : Bool) : Option (Int) :=
  letJ ((
    some (-1) : Option (Int))) fun j21p =>
  ifp b15 (
    some 0) (
    letJ (fun (b24 : Bool) => (
      ifp b24 (
        some 3) (
        j21p) : Option (Int))) fun j25p =>
    ifp (n13 == 2) (
      j25p (n14 == 30)) (
      j25p false))

theorem F60.J8_ok {ora : Ora} (hora : HOra ora) {lf ro : Nat} {F : List Ent} {r : (Int)} (n13 : Int) (n14 : Int) (b15 : Bool) (h : Heap) (hs : Sat ro h (F)) (hp : F60.J8p lf n13 n14 b15 = some r) : F60.Post F ro r (F60.J8 (callW Tryd.prog ora) lf ro n13 n14 b15 h) := by
  unfold F60.J8
  unfold F60.J8p at hp
  refine st_letJ hp (fun j21p j21 => Sat ro h (F) → j21p = some r → F60.Post F ro r (j21)) ?_ ?_
  · intro  hs hp
    cases hp
    exact ⟨_, rfl, hs⟩
  · intro j21p j21 hj21 hp
    refine st_if (Q := F60.Post F ro r) (fun hc_48 => ?_) (fun hc_48 => ?_)
    · replace hp := ifp_t hc_48 hp
      cases hp
      exact ⟨_, rfl, hs⟩
    · replace hp := ifp_f hc_48 hp
      refine st_letJ hp (fun j25p j25 => ∀ (b24 : Bool), Sat ro h (F) → j25p b24 = some r → F60.Post F ro r (j25 b24)) ?_ ?_
      · intro b24 hs hp
        refine st_if (Q := F60.Post F ro r) (fun hc_51 => ?_) (fun hc_51 => ?_)
        · replace hp := ifp_t hc_51 hp
          cases hp
          exact ⟨_, rfl, hs⟩
        · replace hp := ifp_f hc_51 hp
          exact hj21 hs hp
      · intro j25p j25 hj25 hp
        refine st_if (Q := F60.Post F ro r) (fun hc_49 => ?_) (fun hc_49 => ?_)
        · replace hp := ifp_t hc_49 hp
          exact hj25 (n14 == 30) hs hp
        · replace hp := ifp_f hc_49 hp
          exact hj25 false hs hp

def F60.J6p (lf : Nat) (n9 : Int) (n10 : Int) (b11 : Bool) : Option (Int) :=
  ifp b11 (
    some 4) (
    ifp (n9 == 2) (
      ifp (n10 == 29) (
        F60.J8p lf n9 n10 true) (
        ifp (n9 == 3) (
          ifp (n10 == 31) (
            F60.J8p lf n9 n10 true) (
            ifp (n9 == 4) (
              F60.J8p lf n9 n10 (n10 == 14)) (
              F60.J8p lf n9 n10 false))) (
          ifp (n9 == 4) (
            F60.J8p lf n9 n10 (n10 == 14)) (
            F60.J8p lf n9 n10 false)))) (
      ifp (n9 == 3) (
        ifp (n10 == 31) (
          F60.J8p lf n9 n10 true) (
          ifp (n9 == 4) (
            F60.J8p lf n9 n10 (n10 == 14)) (
            F60.J8p lf n9 n10 false))) (
        ifp (n9 == 4) (
          F60.J8p lf n9 n10 (n10 == 14)) (
          F60.J8p lf n9 n10 false))))

theorem F60.J6_ok {ora : Ora} (hora : HOra ora) {lf ro : Nat} {F : List Ent} {r : (Int)} (n9 : Int) (n10 : Int) (b11 : Bool) (h : Heap) (hs : Sat ro h (F)) (hp : F60.J6p lf n9 n10 b11 = some r) : F60.Post F ro r (F60.J6 (callW Tryd.prog ora) lf ro n9 n10 b11 h) := by
  unfold F60.J6
  unfold F60.J6p at hp
  refine st_if (Q := F60.Post F ro r) (fun hc_45 => ?_) (fun hc_45 => ?_)
  · replace hp := ifp_t hc_45 hp
    cases hp
    exact ⟨_, rfl, hs⟩
  · replace hp := ifp_f hc_45 hp
    refine st_if (Q := F60.Post F ro r) (fun hc_46 => ?_) (fun hc_46 => ?_)
    · replace hp := ifp_t hc_46 hp
      refine st_if (Q := F60.Post F ro r) (fun hc_47 => ?_) (fun hc_47 => ?_)
      · replace hp := ifp_t hc_47 hp
        exact F60.J8_ok hora n9 n10 true _ hs hp
      · replace hp := ifp_f hc_47 hp
        refine st_if (Q := F60.Post F ro r) (fun hc_53 => ?_) (fun hc_53 => ?_)
        · replace hp := ifp_t hc_53 hp
          refine st_if (Q := F60.Post F ro r) (fun hc_54 => ?_) (fun hc_54 => ?_)
          · replace hp := ifp_t hc_54 hp
            exact F60.J8_ok hora n9 n10 true _ hs hp
          · replace hp := ifp_f hc_54 hp
            refine st_if (Q := F60.Post F ro r) (fun hc_55 => ?_) (fun hc_55 => ?_)
            · replace hp := ifp_t hc_55 hp
              exact F60.J8_ok hora n9 n10 (n10 == 14) _ hs hp
            · replace hp := ifp_f hc_55 hp
              exact F60.J8_ok hora n9 n10 false _ hs hp
        · replace hp := ifp_f hc_53 hp
          refine st_if (Q := F60.Post F ro r) (fun hc_56 => ?_) (fun hc_56 => ?_)
          · replace hp := ifp_t hc_56 hp
            exact F60.J8_ok hora n9 n10 (n10 == 14) _ hs hp
          · replace hp := ifp_f hc_56 hp
            exact F60.J8_ok hora n9 n10 false _ hs hp
    · replace hp := ifp_f hc_46 hp
      refine st_if (Q := F60.Post F ro r) (fun hc_57 => ?_) (fun hc_57 => ?_)
      · replace hp := ifp_t hc_57 hp
        refine st_if (Q := F60.Post F ro r) (fun hc_58 => ?_) (fun hc_58 => ?_)
        · replace hp := ifp_t hc_58 hp
          exact F60.J8_ok hora n9 n10 true _ hs hp
        · replace hp := ifp_f hc_58 hp
          refine st_if (Q := F60.Post F ro r) (fun hc_59 => ?_) (fun hc_59 => ?_)
          · replace hp := ifp_t hc_59 hp
            exact F60.J8_ok hora n9 n10 (n10 == 14) _ hs hp
          · replace hp := ifp_f hc_59 hp
            exact F60.J8_ok hora n9 n10 false _ hs hp
      · replace hp := ifp_f hc_57 hp
        refine st_if (Q := F60.Post F ro r) (fun hc_60 => ?_) (fun hc_60 => ?_)
        · replace hp := ifp_t hc_60 hp
          exact F60.J8_ok hora n9 n10 (n10 == 14) _ hs hp
        · replace hp := ifp_f hc_60 hp
          exact F60.J8_ok hora n9 n10 false _ hs hp

def F60.J4p (lf : Nat) (n5 : Int) (n6 : Int) (b7 : Bool) : Option (Int) :=
  ifp b7 (
    some 2) (
    ifp (decide (n5 ≤ 1)) (
      F60.J6p lf n5 n6 (n6 == 30)) (
      F60.J6p lf n5 n6 false))

theorem F60.J4_ok {ora : Ora} (hora : HOra ora) {lf ro : Nat} {F : List Ent} {r : (Int)} (n5 : Int) (n6 : Int) (b7 : Bool) (h : Heap) (hs : Sat ro h (F)) (hp : F60.J4p lf n5 n6 b7 = some r) : F60.Post F ro r (F60.J4 (callW Tryd.prog ora) lf ro n5 n6 b7 h) := by
  unfold F60.J4
  unfold F60.J4p at hp
  refine st_if (Q := F60.Post F ro r) (fun hc_43 => ?_) (fun hc_43 => ?_)
  · replace hp := ifp_t hc_43 hp
    cases hp
    exact ⟨_, rfl, hs⟩
  · replace hp := ifp_f hc_43 hp
    refine st_if (Q := F60.Post F ro r) (fun hc_44 => ?_) (fun hc_44 => ?_)
    · replace hp := ifp_t hc_44 hp
      exact F60.J6_ok hora n5 n6 (n6 == 30) _ hs hp
    · replace hp := ifp_f hc_44 hp
      exact F60.J6_ok hora n5 n6 false _ hs hp

def F60.J2p (lf : Nat) (n1 : Int) (n2 : Int) (b3 : Bool) : Option (Int) :=
  ifp b3 (
    some 1) (
    ifp (decide (n1 ≤ 1)) (
      F60.J4p lf n1 n2 (n2 == 29)) (
      F60.J4p lf n1 n2 false))

theorem F60.J2_ok {ora : Ora} (hora : HOra ora) {lf ro : Nat} {F : List Ent} {r : (Int)} (n1 : Int) (n2 : Int) (b3 : Bool) (h : Heap) (hs : Sat ro h (F)) (hp : F60.J2p lf n1 n2 b3 = some r) : F60.Post F ro r (F60.J2 (callW Tryd.prog ora) lf ro n1 n2 b3 h) := by
  unfold F60.J2
  unfold F60.J2p at hp
  refine st_if (Q := F60.Post F ro r) (fun hc_41 => ?_) (fun hc_41 => ?_)
  · replace hp := ifp_t hc_41 hp
    cases hp
    exact ⟨_, rfl, hs⟩
  · replace hp := ifp_f hc_41 hp
    refine st_if (Q := F60.Post F ro r) (fun hc_42 => ?_) (fun hc_42 => ?_)
    · replace hp := ifp_t hc_42 hp
      exact F60.J4_ok hora n1 n2 (n2 == 29) _ hs hp
    · replace hp := ifp_f hc_42 hp
      exact F60.J4_ok hora n1 n2 false _ hs hp

def F60.p (lf : Nat) (x0 : Int) (x1 : Int) : Option (Int) :=
  ifp (x0 == 0) (
    ifp (x1 == 28) (
      F60.J2p lf x0 x1 true) (
      ifp (x0 == 2) (
        F60.J2p lf x0 x1 (x1 == 28)) (
        F60.J2p lf x0 x1 false))) (
    ifp (x0 == 2) (
      F60.J2p lf x0 x1 (x1 == 28)) (
      F60.J2p lf x0 x1 false))

theorem F60.t_ok {ora : Ora} (hora : HOra ora) {lf ro : Nat} {F : List Ent} {r : (Int)} (x0 : Int) (x1 : Int) (h : Heap) (hs : Sat ro h (F)) (hp : F60.p lf x0 x1 = some r) : F60.Post F ro r (F60.t (callW Tryd.prog ora) lf ro x0 x1 h) := by
  unfold F60.t
  unfold F60.p at hp
  refine st_if (Q := F60.Post F ro r) (fun hc_39 => ?_) (fun hc_39 => ?_)
  · replace hp := ifp_t hc_39 hp
    refine st_if (Q := F60.Post F ro r) (fun hc_40 => ?_) (fun hc_40 => ?_)
    · replace hp := ifp_t hc_40 hp
      exact F60.J2_ok hora x0 x1 true _ hs hp
    · replace hp := ifp_f hc_40 hp
      refine st_if (Q := F60.Post F ro r) (fun hc_61 => ?_) (fun hc_61 => ?_)
      · replace hp := ifp_t hc_61 hp
        exact F60.J2_ok hora x0 x1 (x1 == 28) _ hs hp
      · replace hp := ifp_f hc_61 hp
        exact F60.J2_ok hora x0 x1 false _ hs hp
  · replace hp := ifp_f hc_39 hp
    refine st_if (Q := F60.Post F ro r) (fun hc_62 => ?_) (fun hc_62 => ?_)
    · replace hp := ifp_t hc_62 hp
      exact F60.J2_ok hora x0 x1 (x1 == 28) _ hs hp
    · replace hp := ifp_f hc_62 hp
      exact F60.J2_ok hora x0 x1 false _ hs hp

theorem F60.ok {ora : Ora} (hora : HOra ora) {lf ro : Nat} {F : List Ent} {r : (Int)} (x0 : Int) (x1 : Int) (h : Heap) (hs : Sat ro h (F)) (hp : F60.p lf x0 x1 = some r) : F60.Post F ro r (callW Tryd.prog ora ro 60 [.int .i64 x0, .int .i64 x1] h) := by
  have h1 := F60.t_ok hora x0 x1 h hs hp
  have h2 : callW Tryd.prog ora ro 60 [.int .i64 x0, .int .i64 x1] h = _ := callW_body (hora.none _ _ _ _ (by decide)) Tryd.func60 (F60.le (callW Tryd.prog ora) lf ro x0 x1 h) (F60.Post.ne h1)
  rw [h2]; exact h1

def F61.Post (F : List Ent) (ro : Nat) (r : (Int)) (x : Out) : Prop := ∃ h', x = .ok (.int .i64 r) h' ∧ Sat ro h' (F)
theorem F61.Post.ne {F : List Ent} {ro : Nat} {r : (Int)} {x : Out} (hx : F61.Post F ro r x) : x ≠ .fail := by
  obtain ⟨h', rfl, _⟩ := hx
  simp

def F61.J2p (lf : Nat) (n1 : Int) (n2 : Int) (b3 : Bool) : Option (Int) :=
  letJ ((
    some (-1) : Option (Int))) fun j9p =>
  ifp b3 (
    some 3) (
    letJ (fun (b12 : Bool) => (
      ifp b12 (
        some 0) (
        j9p) : Option (Int))) fun j13p =>
    ifp (n1 == 1) (
      ifp (n2 == 28) (
        j13p true) (
        ifp (n1 == 4) (
          j13p (n2 == 15)) (
          j13p false))) (
      ifp (n1 == 4) (
        j13p (n2 == 15)) (
        j13p false)))

theorem F61.J2_ok {ora : Ora} (hora : HOra ora) {lf ro : Nat} {F : List Ent} {r : (Int)} (n1 : Int) (n2 : Int) (b3 : Bool) (h : Heap) (hs : Sat ro h (F)) (hp : F61.J2p lf n1 n2 b3 = some r) : F61.Post F ro r (F61.J2 (callW Tryd.prog ora) lf ro n1 n2 b3 h) := by
  unfold F61.J2
  unfold F61.J2p at hp
  refine st_letJ hp (fun j9p j9 => Sat ro h (F) → j9p = some r → F61.Post F ro r (j9)) ?_ ?_
  · intro  hs hp
    cases hp
    exact ⟨_, rfl, hs⟩
  · intro j9p j9 hj9 hp
    refine st_if (Q := F61.Post F ro r) (fun hc_64 => ?_) (fun hc_64 => ?_)
    · replace hp := ifp_t hc_64 hp
      cases hp
      exact ⟨_, rfl, hs⟩
    · replace hp := ifp_f hc_64 hp
      refine st_letJ hp (fun j13p j13 => ∀ (b12 : Bool), Sat ro h (F) → j13p b12 = some r → F61.Post F ro r (j13 b12)) ?_ ?_
      · intro b12 hs hp
        refine st_if (Q := F61.Post F ro r) (fun hc_70 => ?_) (fun hc_70 => ?_)
        · replace hp := ifp_t hc_70 hp
          cases hp
          exact ⟨_, rfl, hs⟩
        · replace hp := ifp_f hc_70 hp
          exact hj9 hs hp
      · intro j13p j13 hj13 hp
        refine st_if (Q := F61.Post F ro r) (fun hc_65 => ?_) (fun hc_65 => ?_)
        · replace hp := ifp_t hc_65 hp
          refine st_if (Q := F61.Post F ro r) (fun hc_66 => ?_) (fun hc_66 => ?_)
          · replace hp := ifp_t hc_66 hp
            exact hj13 true hs hp
          · replace hp := ifp_f hc_66 hp
            refine st_if (Q := F61.Post F ro r) (fun hc_67 => ?_) (fun hc_67 => ?_)
            · replace hp := ifp_t hc_67 hp
              exact hj13 (n2 == 15) hs hp
            · replace hp := ifp_f hc_67 hp
              exact hj13 false hs hp
        · replace hp := ifp_f hc_65 hp
          refine st_if (Q := F61.Post F ro r) (fun hc_68 => ?_) (fun hc_68 => ?_)
          · replace hp := ifp_t hc_68 hp
            exact hj13 (n2 == 15) hs hp
          · replace hp := ifp_f hc_68 hp
            exact hj13 false hs hp

def F61.p (lf : Nat) (x0 : Int) (x1 : Int) : Option (Int) :=
  ifp (x0 != 3) (
    F61.J2p lf x0 x1 (x1 == 0)) (
    F61.J2p lf x0 x1 false)

theorem F61.t_ok {ora : Ora} (hora : HOra ora) {lf ro : Nat} {F : List Ent} {r : (Int)} (x0 : Int) (x1 : Int) (h : Heap) (hs : Sat ro h (F)) (hp : F61.p lf x0 x1 = some r) : F61.Post F ro r (F61.t (callW Tryd.prog ora) lf ro x0 x1 h) := by
  unfold F61.t
  unfold F61.p at hp
  refine st_if (Q := F61.Post F ro r) (fun hc_63 => ?_) (fun hc_63 => ?_)
  · replace hp := ifp_t hc_63 hp
    exact F61.J2_ok hora x0 x1 (x1 == 0) _ hs hp
  · replace hp := ifp_f hc_63 hp
    exact F61.J2_ok hora x0 x1 false _ hs hp

theorem F61.ok {ora : Ora} (hora : HOra ora) {lf ro : Nat} {F : List Ent} {r : (Int)} (x0 : Int) (x1 : Int) (h : Heap) (hs : Sat ro h (F)) (hp : F61.p lf x0 x1 = some r) : F61.Post F ro r (callW Tryd.prog ora ro 61 [.int .i64 x0, .int .i64 x1] h) := by
  have h1 := F61.t_ok hora x0 x1 h hs hp
  have h2 : callW Tryd.prog ora ro 61 [.int .i64 x0, .int .i64 x1] h = _ := callW_body (hora.none _ _ _ _ (by decide)) Tryd.func61 (F61.le (callW Tryd.prog ora) lf ro x0 x1 h) (F61.Post.ne h1)
  rw [h2]; exact h1

def F74.Post (F : List Ent) (ro : Nat) (r : (Int)) (x : Out) : Prop := ∃ h', x = .ok (.int .i64 r) h' ∧ Sat ro h' (F)
theorem F74.Post.ne {F : List Ent} {ro : Nat} {r : (Int)} {x : Out} (hx : F74.Post F ro r x) : x ≠ .fail := by
  obtain ⟨h', rfl, _⟩ := hx
  simp

def F74.J3p (lf : Nat) (kb2p : List Bool → Bool → Int → Int → Option (Int)) (xa6 : List Bool) (b7 : Bool) (n8 : Int) (n9 : Int) : Option (Int) :=
  bindp (idxp xa6 n9) fun x_73 =>
  ifp (b7 == x_73) (
    some n9) (
    kb2p xa6 b7 n8 (IntKind.i64.wrap (n9 + 1)))

theorem F74.J3_ok {ora : Ora} (hora : HOra ora) {lf ro : Nat} {F : List Ent} {r : (Int)} {kb2p : List Bool → Bool → Int → Int → Option (Int)} {kb2 : (Option Addr) → Nat → Nat → Bool → Int → Int → Heap → Out} (hkb2 : ∀ (a1 : Option Addr) (c1 : Nat) (xa1 : List Bool) (b2 : Bool) (n3 : Int) (n4 : Int) (h : Heap), Sat ro h (.row a1 c1 (xa1.map Value.bool) :: F) → kb2p xa1 b2 n3 n4 = some r → F74.Post F ro r (kb2 a1 xa1.length c1 b2 n3 n4 h)) (a6 : Option Addr) (c6 : Nat) (xa6 : List Bool) (b7 : Bool) (n8 : Int) (n9 : Int) (h : Heap) (hs : Sat ro h (.row a6 c6 (xa6.map Value.bool) :: F)) (hp : F74.J3p lf kb2p xa6 b7 n8 n9 = some r) : F74.Post F ro r (F74.J3 (callW Tryd.prog ora) lf ro kb2 a6 xa6.length c6 b7 n8 n9 h) := by
  unfold F74.J3
  unfold F74.J3p at hp
  obtain ⟨x_73, hx_74, hp⟩ := bindp_some hp
  refine st_idxR (Q := F74.Post F ro r) (l := xa6) (f := Value.bool) isO isO hs und24 siz4 agg4 rfl hx_74 ?_
  refine st_bool (Q := F74.Post F ro r) ?_
  refine st_if (Q := F74.Post F ro r) (fun hc_75 => ?_) (fun hc_75 => ?_)
  · replace hp := ifp_t hc_75 hp
    have hs_76 := hs.tail
    cases hp
    exact ⟨_, rfl, hs_76⟩
  · replace hp := ifp_f hc_75 hp
    exact hkb2 a6 _ xa6 b7 n8 (IntKind.i64.wrap (n9 + 1)) _ hs hp

def F74.L2p (lf : Nat) : Nat → List Bool → Bool → Int → Int → Option (Int)
  | 0, _, _, _, _ => none
  | n + 1, xa1, b2, n3, n4 =>
  ifp (decide (n4 < n3)) (
    F74.J3p lf (F74.L2p lf n) xa1 b2 n3 n4) (
    some (-1))

theorem F74.L2_ok {ora : Ora} (hora : HOra ora) {lf ro : Nat} {F : List Ent} {r : (Int)} : ∀ (n : Nat) (a1 : Option Addr) (c1 : Nat) (xa1 : List Bool) (b2 : Bool) (n3 : Int) (n4 : Int) (h : Heap), Sat ro h (.row a1 c1 (xa1.map Value.bool) :: F) → F74.L2p lf n xa1 b2 n3 n4 = some r → F74.Post F ro r (F74.L2 (callW Tryd.prog ora) lf ro n a1 xa1.length c1 b2 n3 n4 h) := by
  intro n
  induction n with
  | zero => intro a1 c1 xa1 b2 n3 n4 h hs hp; cases hp
  | succ n ih =>
    intro a1 c1 xa1 b2 n3 n4 h hs hp
    unfold F74.L2
    unfold F74.L2p at hp
    refine st_if (Q := F74.Post F ro r) (fun hc_72 => ?_) (fun hc_72 => ?_)
    · replace hp := ifp_t hc_72 hp
      exact F74.J3_ok hora ih a1 _ xa1 b2 n3 n4 _ hs hp
    · replace hp := ifp_f hc_72 hp
      have hs_77 := hs.tail
      cases hp
      exact ⟨_, rfl, hs_77⟩

def F74.p (lf : Nat) (xax0 : List Bool) (x1 : Bool) : Option (Int) :=
  F74.L2p lf lf xax0 x1 (xax0.length : Int) 0

theorem F74.t_ok {ora : Ora} (hora : HOra ora) {lf ro : Nat} {F : List Ent} {r : (Int)} (ax0 : Option Addr) (cx0 : Nat) (xax0 : List Bool) (x1 : Bool) (h : Heap) (hs : Sat ro h (.row ax0 cx0 (xax0.map Value.bool) :: F)) (hp : F74.p lf xax0 x1 = some r) : F74.Post F ro r (F74.t (callW Tryd.prog ora) lf ro ax0 xax0.length cx0 x1 h) := by
  unfold F74.t
  unfold F74.p at hp
  exact F74.L2_ok hora lf ax0 _ xax0 x1 (xax0.length : Int) 0 _ hs hp

theorem F74.ok {ora : Ora} (hora : HOra ora) {lf ro : Nat} {F : List Ent} {r : (Int)} (ax0 : Option Addr) (cx0 : Nat) (xax0 : List Bool) (x1 : Bool) (h : Heap) (hs : Sat ro h (.row ax0 cx0 (xax0.map Value.bool) :: F)) (hp : F74.p lf xax0 x1 = some r) : F74.Post F ro r (callW Tryd.prog ora ro 74 [.slice ax0 xax0.length cx0, .bool x1] h) := by
  have h1 := F74.t_ok hora ax0 cx0 xax0 x1 h hs hp
  have h2 : callW Tryd.prog ora ro 74 [.slice ax0 xax0.length cx0, .bool x1] h = _ := callW_body (hora.none _ _ _ _ (by decide)) Tryd.func74 (F74.le (callW Tryd.prog ora) lf ro ax0 xax0.length cx0 x1 h) (F74.Post.ne h1)
  rw [h2]; exact h1

def F62.Post (F : List Ent) (ro : Nat) (r : (Bool)) (x : Out) : Prop := ∃ h', x = .ok (.bool r) h' ∧ Sat ro h' (F)
theorem F62.Post.ne {F : List Ent} {ro : Nat} {r : (Bool)} {x : Out} (hx : F62.Post F ro r x) : x ≠ .fail := by
  obtain ⟨h', rfl, _⟩ := hx
  simp

def F62.p (lf : Nat) (xax0 : List Bool) (x1 : Bool) : Option (Bool) :=
  bindp (F74.p lf xax0 x1) fun r_79 =>
  some (decide (r_79 ≥ 0))

theorem F62.t_ok {ora : Ora} (hora : HOra ora) {lf ro : Nat} {F : List Ent} {r : (Bool)} (ax0 : Option Addr) (cx0 : Nat) (xax0 : List Bool) (x1 : Bool) (h : Heap) (hs : Sat ro h (.row ax0 cx0 (xax0.map Value.bool) :: F)) (hp : F62.p lf xax0 x1 = some r) : F62.Post F ro r (F62.t (callW Tryd.prog ora) lf ro ax0 xax0.length cx0 x1 h) := by
  unfold F62.t
  unfold F62.p at hp
  have hs_78 := hs.dup
  obtain ⟨r_79, hx_80, hp⟩ := bindp_some hp
  obtain ⟨h_81, e_83, hs_82⟩ := F74.ok hora (ro := ro) (F := .row ax0 cx0 (xax0.map Value.bool) :: F) ax0 cx0 xax0 x1 _ hs_78 hx_80
  refine st_ok (Q := F62.Post F ro r) isO e_83 ?_
  refine st_int (Q := F62.Post F ro r) ?_
  have hs_84 := hs_82.tail
  cases hp
  exact ⟨_, rfl, hs_84⟩

theorem F62.ok {ora : Ora} (hora : HOra ora) {lf ro : Nat} {F : List Ent} {r : (Bool)} (ax0 : Option Addr) (cx0 : Nat) (xax0 : List Bool) (x1 : Bool) (h : Heap) (hs : Sat ro h (.row ax0 cx0 (xax0.map Value.bool) :: F)) (hp : F62.p lf xax0 x1 = some r) : F62.Post F ro r (callW Tryd.prog ora ro 62 [.slice ax0 xax0.length cx0, .bool x1] h) := by
  have h1 := F62.t_ok hora ax0 cx0 xax0 x1 h hs hp
  have h2 : callW Tryd.prog ora ro 62 [.slice ax0 xax0.length cx0, .bool x1] h = _ := callW_body (hora.none _ _ _ _ (by decide)) Tryd.func62 (F62.le (callW Tryd.prog ora) lf ro ax0 xax0.length cx0 x1 h) (F62.Post.ne h1)
  rw [h2]; exact h1

def F40.Post (px0 : Nat) (apx0_0 : Option Addr) (cpx0_0 : Nat) (xpx0_0 : List Bool) (F : List Ent) (ro : Nat) (r : (Bool × Int × Int × List Int)) (x : Out) : Prop := ∃ bpx0_3 h', x = .ok (.bool r.1) h' ∧ Sat ro h' (.own ro (some ⟨px0, 0, none⟩) 1 [.slice apx0_0 xpx0_0.length cpx0_0, .int .i64 r.2.1, .int .i64 r.2.2.1, .slice bpx0_3 r.2.2.2.length r.2.2.2.length] :: .own ro bpx0_3 1 (r.2.2.2.map (Value.int .u8)) :: F)
theorem F40.Post.ne {px0 : Nat} {apx0_0 : Option Addr} {cpx0_0 : Nat} {xpx0_0 : List Bool} {F : List Ent} {ro : Nat} {r : (Bool × Int × Int × List Int)} {x : Out} (hx : F40.Post px0 apx0_0 cpx0_0 xpx0_0 F ro r x) : x ≠ .fail := by
  obtain ⟨bpx0_3, h', rfl, _⟩ := hx
  simp

def F40.p (lf : Nat) (xpx0_0 : List Bool) (mpx0_1 : Int) (mpx0_2 : Int) (xpx0_3 : List Int) : Option (Bool × Int × Int × List Int) :=
  letJ (fun (b19 : Bool) => (
    some (b19, mpx0_1, mpx0_2, xpx0_3) : Option (Bool × Int × Int × List Int))) fun j21p =>
  ifp (decide (IntKind.i64.wrap ((xpx0_0.length : Int) - mpx0_1) < 12)) (
    bindp (subp xpx0_0 mpx0_1 (xpx0_0.length : Int)) fun x_87 =>
    bindp (F62.p lf x_87 false) fun r_93 =>
    j21p (!r_93)) (
    j21p false)

theorem F40.t_ok {ora : Ora} (hora : HOra ora) {lf ro : Nat} {F : List Ent} {r : (Bool × Int × Int × List Int)} {px0 : Nat} {apx0_0 : Option Addr} {cpx0_0 : Nat} {xpx0_0 : List Bool} (mpx0_1 : Int) (mpx0_2 : Int) (apx0_3 : Option Addr) (xpx0_3 : List Int) (h : Heap) (hs : Sat ro h (.own ro (some ⟨px0, 0, none⟩) 1 [.slice apx0_0 xpx0_0.length cpx0_0, .int .i64 mpx0_1, .int .i64 mpx0_2, .slice apx0_3 xpx0_3.length xpx0_3.length] :: .row apx0_0 cpx0_0 (xpx0_0.map Value.bool) :: .own ro apx0_3 1 (xpx0_3.map (Value.int .u8)) :: F)) (hp : F40.p lf xpx0_0 mpx0_1 mpx0_2 xpx0_3 = some r) : F40.Post px0 apx0_0 cpx0_0 xpx0_0 F ro r (F40.t (callW Tryd.prog ora) lf ro px0 0 h) := by
  unfold F40.t
  unfold F40.p at hp
  refine st_letJ hp (fun j21p j21 => ∀ (b19 : Bool) (h_105 : Heap), Sat ro h_105 (.own ro (some ⟨px0, 0, none⟩) 1 [.slice apx0_0 xpx0_0.length cpx0_0, .int .i64 mpx0_1, .int .i64 mpx0_2, .slice apx0_3 xpx0_3.length xpx0_3.length] :: .row apx0_0 cpx0_0 (xpx0_0.map Value.bool) :: .own ro apx0_3 1 (xpx0_3.map (Value.int .u8)) :: F) → j21p b19 = some r → F40.Post px0 apx0_0 cpx0_0 xpx0_0 F ro r (j21 b19 h_105)) ?_ ?_
  · intro b19 h_105 hs hp
    have hs_106 := hs.pull 1 rfl
    have hs_107 := hs_106.tail
    have hs_108 := hs_107.pull 1 rfl
    have hs_109 := hs_108.pull 1 rfl
    cases hp
    exact ⟨apx0_3, _, rfl, hs_109⟩
  · intro j21p j21 hj21 hp
    refine st_load (Q := F40.Post px0 apx0_0 cpx0_0 xpx0_0 F ro r) isN hs agg24 rfl ?_
    refine st_slice (Q := F40.Post px0 apx0_0 cpx0_0 xpx0_0 F ro r) ?_
    refine st_load (Q := F40.Post px0 apx0_0 cpx0_0 xpx0_0 F ro r) isN hs agg3 rfl ?_
    refine st_int (Q := F40.Post px0 apx0_0 cpx0_0 xpx0_0 F ro r) ?_
    refine st_if (Q := F40.Post px0 apx0_0 cpx0_0 xpx0_0 F ro r) (fun hc_85 => ?_) (fun hc_85 => ?_)
    · replace hp := ifp_t hc_85 hp
      refine st_load (Q := F40.Post px0 apx0_0 cpx0_0 xpx0_0 F ro r) isN hs agg24 rfl ?_
      refine st_slice (Q := F40.Post px0 apx0_0 cpx0_0 xpx0_0 F ro r) ?_
      refine st_load (Q := F40.Post px0 apx0_0 cpx0_0 xpx0_0 F ro r) isN hs agg3 rfl ?_
      refine st_int (Q := F40.Post px0 apx0_0 cpx0_0 xpx0_0 F ro r) ?_
      have hs_86 := hs.pull 1 rfl
      obtain ⟨x_87, hx_88, hp⟩ := bindp_some hp
      refine st_subR (Q := F40.Post px0 apx0_0 cpx0_0 xpx0_0 F ro r) (l := xpx0_0) (f := Value.bool) isO hs_86 und24 siz4 rfl (.inr ⟨_, rfl⟩) (.inl ⟨rfl, rfl⟩) hx_88 fun a_89 c_90 hs_91 => ?_
      refine st_slice (Q := F40.Post px0 apx0_0 cpx0_0 xpx0_0 F ro r) ?_
      have hs_92 := hs_91.dup
      obtain ⟨r_93, hx_94, hp⟩ := bindp_some hp
      obtain ⟨h_95, e_97, hs_96⟩ := F62.ok hora (ro := ro) (F := .row a_89 c_90 (x_87.map Value.bool) :: .row apx0_0 cpx0_0 (xpx0_0.map Value.bool) :: .own ro (some ⟨px0, 0, none⟩) 1 [.slice apx0_0 xpx0_0.length cpx0_0, .int .i64 mpx0_1, .int .i64 mpx0_2, .slice apx0_3 xpx0_3.length xpx0_3.length] :: .own ro apx0_3 1 (xpx0_3.map (Value.int .u8)) :: F) a_89 c_90 x_87 false _ hs_92 hx_94
      refine st_ok (Q := F40.Post px0 apx0_0 cpx0_0 xpx0_0 F ro r) isO e_97 ?_
      refine st_bool (Q := F40.Post px0 apx0_0 cpx0_0 xpx0_0 F ro r) ?_
      have hs_98 := hs_96.tail
      have hs_99 := hs_98.pull 2 rfl
      have hs_100 := hs_99.pull 1 rfl
      have hs_101 := hs_100.pull 2 rfl
      exact hj21 (!r_93) _ hs_101 hp
    · replace hp := ifp_f hc_85 hp
      have hs_102 := hs.pull 2 rfl
      have hs_103 := hs_102.pull 2 rfl
      have hs_104 := hs_103.pull 2 rfl
      exact hj21 false _ hs_104 hp

theorem F40.ok {ora : Ora} (hora : HOra ora) {lf ro : Nat} {F : List Ent} {r : (Bool × Int × Int × List Int)} {px0 : Nat} {apx0_0 : Option Addr} {cpx0_0 : Nat} {xpx0_0 : List Bool} (mpx0_1 : Int) (mpx0_2 : Int) (apx0_3 : Option Addr) (xpx0_3 : List Int) (h : Heap) (hs : Sat ro h (.own ro (some ⟨px0, 0, none⟩) 1 [.slice apx0_0 xpx0_0.length cpx0_0, .int .i64 mpx0_1, .int .i64 mpx0_2, .slice apx0_3 xpx0_3.length xpx0_3.length] :: .row apx0_0 cpx0_0 (xpx0_0.map Value.bool) :: .own ro apx0_3 1 (xpx0_3.map (Value.int .u8)) :: F)) (hp : F40.p lf xpx0_0 mpx0_1 mpx0_2 xpx0_3 = some r) : F40.Post px0 apx0_0 cpx0_0 xpx0_0 F ro r (callW Tryd.prog ora ro 40 [.pointer (some ⟨px0, 0, none⟩)] h) := by
  have h1 := F40.t_ok hora mpx0_1 mpx0_2 apx0_3 xpx0_3 h hs hp
  have h2 : callW Tryd.prog ora ro 40 [.pointer (some ⟨px0, 0, none⟩)] h = _ := callW_body (hora.none _ _ _ _ (by decide)) Tryd.func40 (F40.le (callW Tryd.prog ora) lf ro px0 0 h) (F40.Post.ne h1)
  rw [h2]; exact h1

def F63.Post (px0 : Nat) (apx0_0 : Option Addr) (cpx0_0 : Nat) (xpx0_0 : List Bool) (F : List Ent) (ro : Nat) (r : (Int × Bool × Int × Int × List Int)) (x : Out) : Prop := ∃ bpx0_3 h', x = .ok (.tuple #[.int .i64 r.1, .bool r.2.1]) h' ∧ Sat ro h' (.own ro (some ⟨px0, 0, none⟩) 1 [.slice apx0_0 xpx0_0.length cpx0_0, .int .i64 r.2.2.1, .int .i64 r.2.2.2.1, .slice bpx0_3 r.2.2.2.2.length r.2.2.2.2.length] :: .own ro bpx0_3 1 (r.2.2.2.2.map (Value.int .u8)) :: F)
theorem F63.Post.ne {px0 : Nat} {apx0_0 : Option Addr} {cpx0_0 : Nat} {xpx0_0 : List Bool} {F : List Ent} {ro : Nat} {r : (Int × Bool × Int × Int × List Int)} {x : Out} (hx : F63.Post px0 apx0_0 cpx0_0 xpx0_0 F ro r x) : x ≠ .fail := by
  obtain ⟨bpx0_3, h', rfl, _⟩ := hx
  simp

def F63.J6p (lf : Nat) (kb5p : List Bool → Int → Int → List Int → Int → Int → List Bool → Int → Int → Option (Int × Bool × Int × Int × List Int)) (xpx0_0 : List Bool) (mpx0_1 : Int) (mpx0_2 : Int) (xpx0_3 : List Int) (n48 : Int) (n49 : Int) (xa50 : List Bool) (n51 : Int) (n52 : Int) : Option (Int × Bool × Int × Int × List Int) :=
  letJ (fun (n87 : Int) => (
    kb5p xpx0_0 mpx0_1 mpx0_2 xpx0_3 n48 n87 xa50 n51 (IntKind.i64.wrap (n52 + 1)) : Option (Int × Bool × Int × Int × List Int))) fun j89p =>
  bindp (idxp xa50 n52) fun x_122 =>
  ifp x_122 (
    j89p (IntKind.i64.wrap ((IntKind.i64.wrap (n49 * 2)) + 1))) (
    j89p (IntKind.i64.wrap (n49 * 2)))

theorem F63.J6_ok {ora : Ora} (hora : HOra ora) {lf ro : Nat} {F : List Ent} {r : (Int × Bool × Int × Int × List Int)} {px0 : Nat} {apx0_0 : Option Addr} {cpx0_0 : Nat} {xpx0_0 : List Bool} {kb5p : List Bool → Int → Int → List Int → Int → Int → List Bool → Int → Int → Option (Int × Bool × Int × Int × List Int)} {kb5 : Nat → Nat → Int → Int → (Option Addr) → Nat → Nat → Int → Int → Heap → Out} (hkb5 : ∀ (mpx0_1 : Int) (mpx0_2 : Int) (apx0_3 : Option Addr) (xpx0_3 : List Int) (n41 : Int) (n42 : Int) (a43 : Option Addr) (c43 : Nat) (xa43 : List Bool) (n44 : Int) (n45 : Int) (h : Heap), Sat ro h (.own ro (some ⟨px0, 0, none⟩) 1 [.slice apx0_0 xpx0_0.length cpx0_0, .int .i64 mpx0_1, .int .i64 mpx0_2, .slice apx0_3 xpx0_3.length xpx0_3.length] :: .row apx0_0 cpx0_0 (xpx0_0.map Value.bool) :: .own ro apx0_3 1 (xpx0_3.map (Value.int .u8)) :: .row a43 c43 (xa43.map Value.bool) :: F) → kb5p xpx0_0 mpx0_1 mpx0_2 xpx0_3 n41 n42 xa43 n44 n45 = some r → F63.Post px0 apx0_0 cpx0_0 xpx0_0 F ro r (kb5 px0 0 n41 n42 a43 xa43.length c43 n44 n45 h)) (mpx0_1 : Int) (mpx0_2 : Int) (apx0_3 : Option Addr) (xpx0_3 : List Int) (n48 : Int) (n49 : Int) (a50 : Option Addr) (c50 : Nat) (xa50 : List Bool) (n51 : Int) (n52 : Int) (h : Heap) (hs : Sat ro h (.own ro (some ⟨px0, 0, none⟩) 1 [.slice apx0_0 xpx0_0.length cpx0_0, .int .i64 mpx0_1, .int .i64 mpx0_2, .slice apx0_3 xpx0_3.length xpx0_3.length] :: .row apx0_0 cpx0_0 (xpx0_0.map Value.bool) :: .own ro apx0_3 1 (xpx0_3.map (Value.int .u8)) :: .row a50 c50 (xa50.map Value.bool) :: F)) (hp : F63.J6p lf kb5p xpx0_0 mpx0_1 mpx0_2 xpx0_3 n48 n49 xa50 n51 n52 = some r) : F63.Post px0 apx0_0 cpx0_0 xpx0_0 F ro r (F63.J6 (callW Tryd.prog ora) lf ro kb5 px0 0 n48 n49 a50 xa50.length c50 n51 n52 h) := by
  unfold F63.J6
  unfold F63.J6p at hp
  refine st_letJ hp (fun j89p j89 => ∀ (n87 : Int) (h_132 : Heap), Sat ro h_132 (.own ro (some ⟨px0, 0, none⟩) 1 [.slice apx0_0 xpx0_0.length cpx0_0, .int .i64 mpx0_1, .int .i64 mpx0_2, .slice apx0_3 xpx0_3.length xpx0_3.length] :: .row apx0_0 cpx0_0 (xpx0_0.map Value.bool) :: .own ro apx0_3 1 (xpx0_3.map (Value.int .u8)) :: .row a50 c50 (xa50.map Value.bool) :: F) → j89p n87 = some r → F63.Post px0 apx0_0 cpx0_0 xpx0_0 F ro r (j89 n87 h_132)) ?_ ?_
  · intro n87 h_132 hs hp
    have hs_133 := hs.pull 3 rfl
    have hs_134 := hs_133.pull 3 rfl
    have hs_135 := hs_134.pull 3 rfl
    have hs_136 := hs_135.pull 3 rfl
    exact hkb5 mpx0_1 mpx0_2 apx0_3 xpx0_3 n48 n87 a50 _ xa50 n51 (IntKind.i64.wrap (n52 + 1)) _ hs_136 hp
  · intro j89p j89 hj89 hp
    have hs_124 := hs.pull 3 rfl
    obtain ⟨x_122, hx_123, hp⟩ := bindp_some hp
    refine st_idxR (Q := F63.Post px0 apx0_0 cpx0_0 xpx0_0 F ro r) (l := xa50) (f := Value.bool) isO isO hs_124 und24 siz4 agg4 rfl hx_123 ?_
    refine st_bool (Q := F63.Post px0 apx0_0 cpx0_0 xpx0_0 F ro r) ?_
    refine st_if (Q := F63.Post px0 apx0_0 cpx0_0 xpx0_0 F ro r) (fun hc_125 => ?_) (fun hc_125 => ?_)
    · replace hp := ifp_t hc_125 hp
      have hs_126 := hs_124.pull 3 rfl
      have hs_127 := hs_126.pull 3 rfl
      have hs_128 := hs_127.pull 3 rfl
      exact hj89 (IntKind.i64.wrap ((IntKind.i64.wrap (n49 * 2)) + 1)) _ hs_128 hp
    · replace hp := ifp_f hc_125 hp
      have hs_129 := hs_124.pull 3 rfl
      have hs_130 := hs_129.pull 3 rfl
      have hs_131 := hs_130.pull 3 rfl
      exact hj89 (IntKind.i64.wrap (n49 * 2)) _ hs_131 hp

def F63.L5p (lf : Nat) : Nat → List Bool → Int → Int → List Int → Int → Int → List Bool → Int → Int → Option (Int × Bool × Int × Int × List Int)
  | 0, _, _, _, _, _, _, _, _, _ => none
  | n + 1, xpx0_0, mpx0_1, mpx0_2, xpx0_3, n41, n42, xa43, n44, n45 =>
  ifp (decide (n45 < n44)) (
    F63.J6p lf (F63.L5p lf n) xpx0_0 mpx0_1 mpx0_2 xpx0_3 n41 n42 xa43 n44 n45) (
    some (n42, true, IntKind.i64.wrap (mpx0_1 + n41), mpx0_2, xpx0_3))

theorem F63.L5_ok {ora : Ora} (hora : HOra ora) {lf ro : Nat} {F : List Ent} {r : (Int × Bool × Int × Int × List Int)} {px0 : Nat} {apx0_0 : Option Addr} {cpx0_0 : Nat} {xpx0_0 : List Bool} : ∀ (n : Nat) (mpx0_1 : Int) (mpx0_2 : Int) (apx0_3 : Option Addr) (xpx0_3 : List Int) (n41 : Int) (n42 : Int) (a43 : Option Addr) (c43 : Nat) (xa43 : List Bool) (n44 : Int) (n45 : Int) (h : Heap), Sat ro h (.own ro (some ⟨px0, 0, none⟩) 1 [.slice apx0_0 xpx0_0.length cpx0_0, .int .i64 mpx0_1, .int .i64 mpx0_2, .slice apx0_3 xpx0_3.length xpx0_3.length] :: .row apx0_0 cpx0_0 (xpx0_0.map Value.bool) :: .own ro apx0_3 1 (xpx0_3.map (Value.int .u8)) :: .row a43 c43 (xa43.map Value.bool) :: F) → F63.L5p lf n xpx0_0 mpx0_1 mpx0_2 xpx0_3 n41 n42 xa43 n44 n45 = some r → F63.Post px0 apx0_0 cpx0_0 xpx0_0 F ro r (F63.L5 (callW Tryd.prog ora) lf ro n px0 0 n41 n42 a43 xa43.length c43 n44 n45 h) := by
  intro n
  induction n with
  | zero => intro mpx0_1 mpx0_2 apx0_3 xpx0_3 n41 n42 a43 c43 xa43 n44 n45 h hs hp; cases hp
  | succ n ih =>
    intro mpx0_1 mpx0_2 apx0_3 xpx0_3 n41 n42 a43 c43 xa43 n44 n45 h hs hp
    unfold F63.L5
    unfold F63.L5p at hp
    refine st_if (Q := F63.Post px0 apx0_0 cpx0_0 xpx0_0 F ro r) (fun hc_121 => ?_) (fun hc_121 => ?_)
    · replace hp := ifp_t hc_121 hp
      have hs_137 := hs.pull 3 rfl
      have hs_138 := hs_137.pull 3 rfl
      have hs_139 := hs_138.pull 3 rfl
      have hs_140 := hs_139.pull 3 rfl
      exact F63.J6_ok hora ih mpx0_1 mpx0_2 apx0_3 xpx0_3 n41 n42 a43 _ xa43 n44 n45 _ hs_140 hp
    · replace hp := ifp_f hc_121 hp
      refine st_load (Q := F63.Post px0 apx0_0 cpx0_0 xpx0_0 F ro r) isO hs agg3 rfl ?_
      refine st_int (Q := F63.Post px0 apx0_0 cpx0_0 xpx0_0 F ro r) ?_
      refine st_store (Q := F63.Post px0 apx0_0 cpx0_0 xpx0_0 F ro r) isO hs siz3 rfl (Nat.le_of_ble_eq_true rfl) fun h_141 hs_142 => ?_
      have hs_143 := hs_142.pull 1 rfl
      have hs_144 := hs_143.tail
      have hs_145 := hs_144.pull 2 rfl
      have hs_146 := hs_145.tail
      have hs_147 := hs_146.pull 1 rfl
      have hs_148 := hs_147.pull 1 rfl
      cases hp
      exact ⟨apx0_3, _, rfl, hs_148⟩

def F63.J3p (lf : Nat) (xpx0_0 : List Bool) (mpx0_1 : Int) (mpx0_2 : Int) (xpx0_3 : List Int) (n14 : Int) : Option (Int × Bool × Int × Int × List Int) :=
  bindp (subp xpx0_0 mpx0_1 (IntKind.i64.wrap (mpx0_1 + n14))) fun x_116 =>
  F63.L5p lf lf xpx0_0 mpx0_1 mpx0_2 xpx0_3 n14 0 x_116 (x_116.length : Int) 0

theorem F63.J3_ok {ora : Ora} (hora : HOra ora) {lf ro : Nat} {F : List Ent} {r : (Int × Bool × Int × Int × List Int)} {px0 : Nat} {apx0_0 : Option Addr} {cpx0_0 : Nat} {xpx0_0 : List Bool} (mpx0_1 : Int) (mpx0_2 : Int) (apx0_3 : Option Addr) (xpx0_3 : List Int) (n14 : Int) (h : Heap) (hs : Sat ro h (.own ro (some ⟨px0, 0, none⟩) 1 [.slice apx0_0 xpx0_0.length cpx0_0, .int .i64 mpx0_1, .int .i64 mpx0_2, .slice apx0_3 xpx0_3.length xpx0_3.length] :: .row apx0_0 cpx0_0 (xpx0_0.map Value.bool) :: .own ro apx0_3 1 (xpx0_3.map (Value.int .u8)) :: F)) (hp : F63.J3p lf xpx0_0 mpx0_1 mpx0_2 xpx0_3 n14 = some r) : F63.Post px0 apx0_0 cpx0_0 xpx0_0 F ro r (F63.J3 (callW Tryd.prog ora) lf ro px0 0 n14 h) := by
  unfold F63.J3
  unfold F63.J3p at hp
  refine st_load (Q := F63.Post px0 apx0_0 cpx0_0 xpx0_0 F ro r) isN hs agg24 rfl ?_
  refine st_slice (Q := F63.Post px0 apx0_0 cpx0_0 xpx0_0 F ro r) ?_
  refine st_load (Q := F63.Post px0 apx0_0 cpx0_0 xpx0_0 F ro r) isN hs agg3 rfl ?_
  refine st_int (Q := F63.Post px0 apx0_0 cpx0_0 xpx0_0 F ro r) ?_
  refine st_load (Q := F63.Post px0 apx0_0 cpx0_0 xpx0_0 F ro r) isN hs agg3 rfl ?_
  refine st_int (Q := F63.Post px0 apx0_0 cpx0_0 xpx0_0 F ro r) ?_
  have hs_115 := hs.pull 1 rfl
  obtain ⟨x_116, hx_117, hp⟩ := bindp_some hp
  refine st_subR (Q := F63.Post px0 apx0_0 cpx0_0 xpx0_0 F ro r) (l := xpx0_0) (f := Value.bool) isN hs_115 und24 siz4 rfl (.inr ⟨_, rfl⟩) (.inr ⟨_, rfl⟩) hx_117 fun a_118 c_119 hs_120 => ?_
  refine st_slice (Q := F63.Post px0 apx0_0 cpx0_0 xpx0_0 F ro r) ?_
  have hs_149 := hs_120.pull 3 rfl
  have hs_150 := hs_149.pull 2 rfl
  have hs_151 := hs_150.pull 3 rfl
  exact F63.L5_ok hora lf mpx0_1 mpx0_2 apx0_3 xpx0_3 n14 0 a_118 _ x_116 (x_116.length : Int) 0 _ hs_151 hp

def F63.p (lf : Nat) (xpx0_0 : List Bool) (mpx0_1 : Int) (mpx0_2 : Int) (xpx0_3 : List Int) (x1 : Int) : Option (Int × Bool × Int × Int × List Int) :=
  ifp (decide (IntKind.i64.wrap ((xpx0_0.length : Int) - mpx0_1) < x1)) (
    some (0, false, mpx0_1, mpx0_2, xpx0_3)) (
    F63.J3p lf xpx0_0 mpx0_1 mpx0_2 xpx0_3 x1)

theorem F63.t_ok {ora : Ora} (hora : HOra ora) {lf ro : Nat} {F : List Ent} {r : (Int × Bool × Int × Int × List Int)} {px0 : Nat} {apx0_0 : Option Addr} {cpx0_0 : Nat} {xpx0_0 : List Bool} (mpx0_1 : Int) (mpx0_2 : Int) (apx0_3 : Option Addr) (xpx0_3 : List Int) (x1 : Int) (h : Heap) (hs : Sat ro h (.own ro (some ⟨px0, 0, none⟩) 1 [.slice apx0_0 xpx0_0.length cpx0_0, .int .i64 mpx0_1, .int .i64 mpx0_2, .slice apx0_3 xpx0_3.length xpx0_3.length] :: .row apx0_0 cpx0_0 (xpx0_0.map Value.bool) :: .own ro apx0_3 1 (xpx0_3.map (Value.int .u8)) :: F)) (hp : F63.p lf xpx0_0 mpx0_1 mpx0_2 xpx0_3 x1 = some r) : F63.Post px0 apx0_0 cpx0_0 xpx0_0 F ro r (F63.t (callW Tryd.prog ora) lf ro px0 0 x1 h) := by
  unfold F63.t
  unfold F63.p at hp
  refine st_load (Q := F63.Post px0 apx0_0 cpx0_0 xpx0_0 F ro r) isN hs agg24 rfl ?_
  refine st_slice (Q := F63.Post px0 apx0_0 cpx0_0 xpx0_0 F ro r) ?_
  refine st_load (Q := F63.Post px0 apx0_0 cpx0_0 xpx0_0 F ro r) isN hs agg3 rfl ?_
  refine st_int (Q := F63.Post px0 apx0_0 cpx0_0 xpx0_0 F ro r) ?_
  refine st_if (Q := F63.Post px0 apx0_0 cpx0_0 xpx0_0 F ro r) (fun hc_110 => ?_) (fun hc_110 => ?_)
  · replace hp := ifp_t hc_110 hp
    have hs_111 := hs.pull 1 rfl
    have hs_112 := hs_111.tail
    have hs_113 := hs_112.pull 1 rfl
    have hs_114 := hs_113.pull 1 rfl
    cases hp
    exact ⟨apx0_3, _, rfl, hs_114⟩
  · replace hp := ifp_f hc_110 hp
    have hs_152 := hs.pull 2 rfl
    have hs_153 := hs_152.pull 2 rfl
    have hs_154 := hs_153.pull 2 rfl
    exact F63.J3_ok hora mpx0_1 mpx0_2 apx0_3 xpx0_3 x1 _ hs_154 hp

theorem F63.ok {ora : Ora} (hora : HOra ora) {lf ro : Nat} {F : List Ent} {r : (Int × Bool × Int × Int × List Int)} {px0 : Nat} {apx0_0 : Option Addr} {cpx0_0 : Nat} {xpx0_0 : List Bool} (mpx0_1 : Int) (mpx0_2 : Int) (apx0_3 : Option Addr) (xpx0_3 : List Int) (x1 : Int) (h : Heap) (hs : Sat ro h (.own ro (some ⟨px0, 0, none⟩) 1 [.slice apx0_0 xpx0_0.length cpx0_0, .int .i64 mpx0_1, .int .i64 mpx0_2, .slice apx0_3 xpx0_3.length xpx0_3.length] :: .row apx0_0 cpx0_0 (xpx0_0.map Value.bool) :: .own ro apx0_3 1 (xpx0_3.map (Value.int .u8)) :: F)) (hp : F63.p lf xpx0_0 mpx0_1 mpx0_2 xpx0_3 x1 = some r) : F63.Post px0 apx0_0 cpx0_0 xpx0_0 F ro r (callW Tryd.prog ora ro 63 [.pointer (some ⟨px0, 0, none⟩), .int .i64 x1] h) := by
  have h1 := F63.t_ok hora mpx0_1 mpx0_2 apx0_3 xpx0_3 x1 h hs hp
  have h2 : callW Tryd.prog ora ro 63 [.pointer (some ⟨px0, 0, none⟩), .int .i64 x1] h = _ := callW_body (hora.none _ _ _ _ (by decide)) Tryd.func63 (F63.le (callW Tryd.prog ora) lf ro px0 0 x1 h) (F63.Post.ne h1)
  rw [h2]; exact h1

def F65.Post (px0 : Nat) (apx0_0 : Option Addr) (cpx0_0 : Nat) (xpx0_0 : List Bool) (F : List Ent) (ro : Nat) (r : (Int × Int × Int × List Int)) (x : Out) : Prop := ∃ bpx0_3 h', x = .ok (.int .i64 r.1) h' ∧ Sat ro h' (.own ro (some ⟨px0, 0, none⟩) 1 [.slice apx0_0 xpx0_0.length cpx0_0, .int .i64 r.2.1, .int .i64 r.2.2.1, .slice bpx0_3 r.2.2.2.length r.2.2.2.length] :: .own ro bpx0_3 1 (r.2.2.2.map (Value.int .u8)) :: F)
theorem F65.Post.ne {px0 : Nat} {apx0_0 : Option Addr} {cpx0_0 : Nat} {xpx0_0 : List Bool} {F : List Ent} {ro : Nat} {r : (Int × Int × Int × List Int)} {x : Out} (hx : F65.Post px0 apx0_0 cpx0_0 xpx0_0 F ro r x) : x ≠ .fail := by
  obtain ⟨bpx0_3, h', rfl, _⟩ := hx
  simp

def F65.J4p (lf : Nat) (xpx0_0 : List Bool) (mpx0_1 : Int) (mpx0_2 : Int) (xpx0_3 : List Int) (n20 : Int) (n21 : Int) : Option (Int × Int × Int × List Int) :=
  bindp (F64.p lf n20 n21) fun r_171 =>
  ifp (r_171.toList == (⟨#[]⟩ : ByteArray).toList) (
    some (22, mpx0_1, mpx0_2, xpx0_3)) (
    bindp (appp 1 xpx0_3 (bytp r_171)) fun x_181 =>
    some (0, mpx0_1, mpx0_2, x_181))

theorem F65.J4_ok {ora : Ora} (hora : HOra ora) {lf ro : Nat} {F : List Ent} {r : (Int × Int × Int × List Int)} {px0 : Nat} {apx0_0 : Option Addr} {cpx0_0 : Nat} {xpx0_0 : List Bool} (mpx0_1 : Int) (mpx0_2 : Int) (apx0_3 : Option Addr) (xpx0_3 : List Int) (n20 : Int) (n21 : Int) (h : Heap) (hs : Sat ro h (.own ro (some ⟨px0, 0, none⟩) 1 [.slice apx0_0 xpx0_0.length cpx0_0, .int .i64 mpx0_1, .int .i64 mpx0_2, .slice apx0_3 xpx0_3.length xpx0_3.length] :: .row apx0_0 cpx0_0 (xpx0_0.map Value.bool) :: .own ro apx0_3 1 (xpx0_3.map (Value.int .u8)) :: F)) (hp : F65.J4p lf xpx0_0 mpx0_1 mpx0_2 xpx0_3 n20 n21 = some r) : F65.Post px0 apx0_0 cpx0_0 xpx0_0 F ro r (F65.J4 (callW Tryd.prog ora) lf ro px0 0 n20 n21 h) := by
  unfold F65.J4
  unfold F65.J4p at hp
  obtain ⟨r_171, hx_172, hp⟩ := bindp_some hp
  obtain ⟨h_173, e_175, hs_174⟩ := F64.ok hora (ro := ro) (F := .own ro (some ⟨px0, 0, none⟩) 1 [.slice apx0_0 xpx0_0.length cpx0_0, .int .i64 mpx0_1, .int .i64 mpx0_2, .slice apx0_3 xpx0_3.length xpx0_3.length] :: .row apx0_0 cpx0_0 (xpx0_0.map Value.bool) :: .own ro apx0_3 1 (xpx0_3.map (Value.int .u8)) :: F) n20 n21 _ hs hx_172
  refine st_ok (Q := F65.Post px0 apx0_0 cpx0_0 xpx0_0 F ro r) isO e_175 ?_
  refine st_str (Q := F65.Post px0 apx0_0 cpx0_0 xpx0_0 F ro r) ?_
  refine st_if (Q := F65.Post px0 apx0_0 cpx0_0 xpx0_0 F ro r) (fun hc_176 => ?_) (fun hc_176 => ?_)
  · replace hp := ifp_t hc_176 hp
    have hs_177 := hs_174.pull 1 rfl
    have hs_178 := hs_177.tail
    have hs_179 := hs_178.pull 1 rfl
    have hs_180 := hs_179.pull 1 rfl
    cases hp
    exact ⟨apx0_3, _, rfl, hs_180⟩
  · replace hp := ifp_f hc_176 hp
    refine st_load (Q := F65.Post px0 apx0_0 cpx0_0 xpx0_0 F ro r) isO hs_174 agg22 rfl ?_
    refine st_slice (Q := F65.Post px0 apx0_0 cpx0_0 xpx0_0 F ro r) ?_
    have hs_186 := hs_174.pull 2 rfl
    obtain ⟨x_181, hx_182, hp⟩ := bindp_some hp
    refine st_appS (Q := F65.Post px0 apx0_0 cpx0_0 xpx0_0 F ro r) (l := xpx0_3) isO hs_186 und22 und9 one5 rfl rfl hx_182 fun a_183 h_184 hs_185 => ?_
    refine st_slice (Q := F65.Post px0 apx0_0 cpx0_0 xpx0_0 F ro r) ?_
    have hs_187 := hs_185.pull 1 rfl
    refine st_store (Q := F65.Post px0 apx0_0 cpx0_0 xpx0_0 F ro r) isO hs_187 siz22 rfl (Nat.le_of_ble_eq_true rfl) fun h_188 hs_189 => ?_
    have hs_190 := hs_189.pull 2 rfl
    have hs_191 := hs_190.tail
    have hs_192 := hs_191.pull 1 rfl
    have hs_193 := hs_192.pull 1 rfl
    cases hp
    exact ⟨a_183, _, rfl, hs_193⟩

def F65.p (lf : Nat) (xpx0_0 : List Bool) (mpx0_1 : Int) (mpx0_2 : Int) (xpx0_3 : List Int) (x1 : Int) : Option (Int × Int × Int × List Int) :=
  bindp (F63.p lf xpx0_0 mpx0_1 mpx0_2 xpx0_3 5) fun r_160 =>
  ifp (!r_160.2.1) (
    some (10, r_160.2.2.1, r_160.2.2.2.1, r_160.2.2.2.2)) (
    F65.J4p lf xpx0_0 r_160.2.2.1 r_160.2.2.2.1 r_160.2.2.2.2 x1 r_160.1)

theorem F65.t_ok {ora : Ora} (hora : HOra ora) {lf ro : Nat} {F : List Ent} {r : (Int × Int × Int × List Int)} {px0 : Nat} {apx0_0 : Option Addr} {cpx0_0 : Nat} {xpx0_0 : List Bool} (mpx0_1 : Int) (mpx0_2 : Int) (apx0_3 : Option Addr) (xpx0_3 : List Int) (x1 : Int) (h : Heap) (hs : Sat ro h (.own ro (some ⟨px0, 0, none⟩) 1 [.slice apx0_0 xpx0_0.length cpx0_0, .int .i64 mpx0_1, .int .i64 mpx0_2, .slice apx0_3 xpx0_3.length xpx0_3.length] :: .row apx0_0 cpx0_0 (xpx0_0.map Value.bool) :: .own ro apx0_3 1 (xpx0_3.map (Value.int .u8)) :: F)) (hp : F65.p lf xpx0_0 mpx0_1 mpx0_2 xpx0_3 x1 = some r) : F65.Post px0 apx0_0 cpx0_0 xpx0_0 F ro r (F65.t (callW Tryd.prog ora) lf ro px0 0 x1 h) := by
  unfold F65.t
  unfold F65.p at hp
  have hs_155 := hs.pull 1 rfl
  have hs_156 := hs_155.dup
  have hs_157 := hs_156.pull 3 rfl
  have hs_158 := hs_157.pull 1 rfl
  have hs_159 := hs_158.pull 3 rfl
  obtain ⟨r_160, hx_161, hp⟩ := bindp_some hp
  obtain ⟨a_165, h_162, e_164, hs_163⟩ := F63.ok hora (ro := ro) (px0 := px0) (apx0_0 := apx0_0) (cpx0_0 := cpx0_0) (xpx0_0 := xpx0_0) (F := .row apx0_0 cpx0_0 (xpx0_0.map Value.bool) :: F) mpx0_1 mpx0_2 apx0_3 xpx0_3 5 _ hs_159 hx_161
  refine st_ok (Q := F65.Post px0 apx0_0 cpx0_0 xpx0_0 F ro r) isO e_164 ?_
  refine st_tup (Q := F65.Post px0 apx0_0 cpx0_0 xpx0_0 F ro r) (l := [.int .i64 r_160.1, .bool r_160.2.1]) ?_
  refine st_cons (Q := F65.Post px0 apx0_0 cpx0_0 xpx0_0 F ro r) ?_
  refine st_int (Q := F65.Post px0 apx0_0 cpx0_0 xpx0_0 F ro r) ?_
  refine st_cons (Q := F65.Post px0 apx0_0 cpx0_0 xpx0_0 F ro r) ?_
  refine st_bool (Q := F65.Post px0 apx0_0 cpx0_0 xpx0_0 F ro r) ?_
  refine st_nil (Q := F65.Post px0 apx0_0 cpx0_0 xpx0_0 F ro r) ?_
  refine st_if (Q := F65.Post px0 apx0_0 cpx0_0 xpx0_0 F ro r) (fun hc_166 => ?_) (fun hc_166 => ?_)
  · replace hp := ifp_t hc_166 hp
    have hs_167 := hs_163.pull 2 rfl
    have hs_168 := hs_167.tail
    have hs_169 := hs_168.pull 1 rfl
    have hs_170 := hs_169.pull 1 rfl
    cases hp
    exact ⟨a_165, _, rfl, hs_170⟩
  · replace hp := ifp_f hc_166 hp
    have hs_194 := hs_163.pull 1 rfl
    have hs_195 := hs_194.pull 2 rfl
    have hs_196 := hs_195.pull 2 rfl
    exact F65.J4_ok hora r_160.2.2.1 r_160.2.2.2.1 a_165 r_160.2.2.2.2 x1 r_160.1 _ hs_196 hp

theorem F65.ok {ora : Ora} (hora : HOra ora) {lf ro : Nat} {F : List Ent} {r : (Int × Int × Int × List Int)} {px0 : Nat} {apx0_0 : Option Addr} {cpx0_0 : Nat} {xpx0_0 : List Bool} (mpx0_1 : Int) (mpx0_2 : Int) (apx0_3 : Option Addr) (xpx0_3 : List Int) (x1 : Int) (h : Heap) (hs : Sat ro h (.own ro (some ⟨px0, 0, none⟩) 1 [.slice apx0_0 xpx0_0.length cpx0_0, .int .i64 mpx0_1, .int .i64 mpx0_2, .slice apx0_3 xpx0_3.length xpx0_3.length] :: .row apx0_0 cpx0_0 (xpx0_0.map Value.bool) :: .own ro apx0_3 1 (xpx0_3.map (Value.int .u8)) :: F)) (hp : F65.p lf xpx0_0 mpx0_1 mpx0_2 xpx0_3 x1 = some r) : F65.Post px0 apx0_0 cpx0_0 xpx0_0 F ro r (callW Tryd.prog ora ro 65 [.pointer (some ⟨px0, 0, none⟩), .int .i64 x1] h) := by
  have h1 := F65.t_ok hora mpx0_1 mpx0_2 apx0_3 xpx0_3 x1 h hs hp
  have h2 : callW Tryd.prog ora ro 65 [.pointer (some ⟨px0, 0, none⟩), .int .i64 x1] h = _ := callW_body (hora.none _ _ _ _ (by decide)) Tryd.func65 (F65.le (callW Tryd.prog ora) lf ro px0 0 x1 h) (F65.Post.ne h1)
  rw [h2]; exact h1

def F66.Post (px0 : Nat) (apx0_0 : Option Addr) (cpx0_0 : Nat) (xpx0_0 : List Bool) (F : List Ent) (ro : Nat) (r : (Int × Int × Int × List Int)) (x : Out) : Prop := ∃ bpx0_3 h', x = .ok (.int .i64 r.1) h' ∧ Sat ro h' (.own ro (some ⟨px0, 0, none⟩) 1 [.slice apx0_0 xpx0_0.length cpx0_0, .int .i64 r.2.1, .int .i64 r.2.2.1, .slice bpx0_3 r.2.2.2.length r.2.2.2.length] :: .own ro bpx0_3 1 (r.2.2.2.map (Value.int .u8)) :: F)
theorem F66.Post.ne {px0 : Nat} {apx0_0 : Option Addr} {cpx0_0 : Nat} {xpx0_0 : List Bool} {F : List Ent} {ro : Nat} {r : (Int × Int × Int × List Int)} {x : Out} (hx : F66.Post px0 apx0_0 cpx0_0 xpx0_0 F ro r x) : x ≠ .fail := by
  obtain ⟨bpx0_3, h', rfl, _⟩ := hx
  simp

def F66.J7p (lf : Nat) (kb5p : List Bool → Int → Int → List Int → Int → Bool → Option (Int × Int × Int × List Int)) (xpx0_0 : List Bool) (mpx0_1 : Int) (mpx0_2 : Int) (xpx0_3 : List Int) (n53 : Int) : Option (Int × Int × Int × List Int) :=
  letJ (fun (b139 : Bool) (mj141_0_1 : Int) (mj141_0_2 : Int) (xj141_0_3 : List Int) => (
    kb5p xpx0_0 mj141_0_1 mj141_0_2 xj141_0_3 (IntKind.i64.wrap (n53 - 1)) b139 : Option (Int × Int × Int × List Int))) fun j141p =>
  bindp (F63.p lf xpx0_0 mpx0_1 mpx0_2 xpx0_3 8) fun r_235 =>
  ifp r_235.2.1 (
    bindp (appp 1 r_235.2.2.2.2 [IntKind.u8.wrap r_235.1]) fun x_244 =>
    j141p r_235.2.1 r_235.2.2.1 r_235.2.2.2.1 x_244) (
    j141p r_235.2.1 r_235.2.2.1 r_235.2.2.2.1 r_235.2.2.2.2)

theorem F66.J7_ok {ora : Ora} (hora : HOra ora) {lf ro : Nat} {F : List Ent} {r : (Int × Int × Int × List Int)} {px0 : Nat} {apx0_0 : Option Addr} {cpx0_0 : Nat} {xpx0_0 : List Bool} {kb5p : List Bool → Int → Int → List Int → Int → Bool → Option (Int × Int × Int × List Int)} {kb5 : Nat → Nat → Int → Bool → Heap → Out} (hkb5 : ∀ (mpx0_1 : Int) (mpx0_2 : Int) (apx0_3 : Option Addr) (xpx0_3 : List Int) (n47 : Int) (b48 : Bool) (h : Heap), Sat ro h (.own ro (some ⟨px0, 0, none⟩) 1 [.slice apx0_0 xpx0_0.length cpx0_0, .int .i64 mpx0_1, .int .i64 mpx0_2, .slice apx0_3 xpx0_3.length xpx0_3.length] :: .row apx0_0 cpx0_0 (xpx0_0.map Value.bool) :: .own ro apx0_3 1 (xpx0_3.map (Value.int .u8)) :: F) → kb5p xpx0_0 mpx0_1 mpx0_2 xpx0_3 n47 b48 = some r → F66.Post px0 apx0_0 cpx0_0 xpx0_0 F ro r (kb5 px0 0 n47 b48 h)) (mpx0_1 : Int) (mpx0_2 : Int) (apx0_3 : Option Addr) (xpx0_3 : List Int) (n53 : Int) (h : Heap) (hs : Sat ro h (.own ro (some ⟨px0, 0, none⟩) 1 [.slice apx0_0 xpx0_0.length cpx0_0, .int .i64 mpx0_1, .int .i64 mpx0_2, .slice apx0_3 xpx0_3.length xpx0_3.length] :: .row apx0_0 cpx0_0 (xpx0_0.map Value.bool) :: .own ro apx0_3 1 (xpx0_3.map (Value.int .u8)) :: F)) (hp : F66.J7p lf kb5p xpx0_0 mpx0_1 mpx0_2 xpx0_3 n53 = some r) : F66.Post px0 apx0_0 cpx0_0 xpx0_0 F ro r (F66.J7 (callW Tryd.prog ora) lf ro kb5 px0 0 n53 h) := by
  unfold F66.J7
  unfold F66.J7p at hp
  refine st_letJ hp (fun j141p j141 => ∀ (b139 : Bool) (mj141_0_1 : Int) (mj141_0_2 : Int) (aj141_0_3 : Option Addr) (xj141_0_3 : List Int) (h_261 : Heap), Sat ro h_261 (.own ro (some ⟨px0, 0, none⟩) 1 [.slice apx0_0 xpx0_0.length cpx0_0, .int .i64 mj141_0_1, .int .i64 mj141_0_2, .slice aj141_0_3 xj141_0_3.length xj141_0_3.length] :: .row apx0_0 cpx0_0 (xpx0_0.map Value.bool) :: .own ro aj141_0_3 1 (xj141_0_3.map (Value.int .u8)) :: F) → j141p b139 mj141_0_1 mj141_0_2 xj141_0_3 = some r → F66.Post px0 apx0_0 cpx0_0 xpx0_0 F ro r (j141 b139 h_261)) ?_ ?_
  · intro b139 mj141_0_1 mj141_0_2 aj141_0_3 xj141_0_3 h_261 hs hp
    have hs_262 := hs.pull 2 rfl
    have hs_263 := hs_262.pull 2 rfl
    have hs_264 := hs_263.pull 2 rfl
    exact hkb5 mj141_0_1 mj141_0_2 aj141_0_3 xj141_0_3 (IntKind.i64.wrap (n53 - 1)) b139 _ hs_264 hp
  · intro j141p j141 hj141 hp
    have hs_230 := hs.pull 1 rfl
    have hs_231 := hs_230.dup
    have hs_232 := hs_231.pull 3 rfl
    have hs_233 := hs_232.pull 1 rfl
    have hs_234 := hs_233.pull 3 rfl
    obtain ⟨r_235, hx_236, hp⟩ := bindp_some hp
    obtain ⟨a_240, h_237, e_239, hs_238⟩ := F63.ok hora (ro := ro) (px0 := px0) (apx0_0 := apx0_0) (cpx0_0 := cpx0_0) (xpx0_0 := xpx0_0) (F := .row apx0_0 cpx0_0 (xpx0_0.map Value.bool) :: F) mpx0_1 mpx0_2 apx0_3 xpx0_3 8 _ hs_234 hx_236
    refine st_ok (Q := F66.Post px0 apx0_0 cpx0_0 xpx0_0 F ro r) isO e_239 ?_
    refine st_tup (Q := F66.Post px0 apx0_0 cpx0_0 xpx0_0 F ro r) (l := [.int .i64 r_235.1, .bool r_235.2.1]) ?_
    refine st_cons (Q := F66.Post px0 apx0_0 cpx0_0 xpx0_0 F ro r) ?_
    refine st_int (Q := F66.Post px0 apx0_0 cpx0_0 xpx0_0 F ro r) ?_
    refine st_cons (Q := F66.Post px0 apx0_0 cpx0_0 xpx0_0 F ro r) ?_
    refine st_bool (Q := F66.Post px0 apx0_0 cpx0_0 xpx0_0 F ro r) ?_
    refine st_nil (Q := F66.Post px0 apx0_0 cpx0_0 xpx0_0 F ro r) ?_
    refine st_if (Q := F66.Post px0 apx0_0 cpx0_0 xpx0_0 F ro r) (fun hc_241 => ?_) (fun hc_241 => ?_)
    · replace hp := ifp_t hc_241 hp
      refine st_load (Q := F66.Post px0 apx0_0 cpx0_0 xpx0_0 F ro r) isO hs_238 agg22 rfl ?_
      refine st_slice (Q := F66.Post px0 apx0_0 cpx0_0 xpx0_0 F ro r) ?_
      refine st_pushJ (Q := F66.Post px0 apx0_0 cpx0_0 xpx0_0 F ro r) hs_238 hs_238.low rfl fun h_242 _ hs_243 => ?_
      have hs_249 := hs_243.pull 2 rfl
      obtain ⟨x_244, hx_245, hp⟩ := bindp_some hp
      refine st_appO (Q := F66.Post px0 apx0_0 cpx0_0 xpx0_0 F ro r) isO (l := r_235.2.2.2.2) (x := [IntKind.u8.wrap r_235.1]) (f := (Value.int .u8)) hs_249 (fun _ => rfl) und22 und22 one5 rfl rfl rfl hx_245 fun a_246 h_247 hs_248 => ?_
      refine st_slice (Q := F66.Post px0 apx0_0 cpx0_0 xpx0_0 F ro r) ?_
      have hs_250 := hs_248.pull 2 rfl
      refine st_store (Q := F66.Post px0 apx0_0 cpx0_0 xpx0_0 F ro r) isO hs_250 siz22 rfl (Nat.le_of_ble_eq_true rfl) fun h_251 hs_252 => ?_
      have hs_253 := hs_252.pull 2 rfl
      have hs_254 := hs_253.tail
      have hs_255 := hs_254.pull 1 rfl
      have hs_256 := hs_255.pull 2 rfl
      have hs_257 := hs_256.pull 2 rfl
      exact hj141 r_235.2.1 r_235.2.2.1 r_235.2.2.2.1 a_246 x_244 _ hs_257 hp
    · replace hp := ifp_f hc_241 hp
      have hs_258 := hs_238.pull 1 rfl
      have hs_259 := hs_258.pull 2 rfl
      have hs_260 := hs_259.pull 2 rfl
      exact hj141 r_235.2.1 r_235.2.2.1 r_235.2.2.2.1 a_240 r_235.2.2.2.2 _ hs_260 hp

def F66.L5p (lf : Nat) : Nat → List Bool → Int → Int → List Int → Int → Bool → Option (Int × Int × Int × List Int)
  | 0, _, _, _, _, _, _ => none
  | n + 1, xpx0_0, mpx0_1, mpx0_2, xpx0_3, n47, b48 =>
  letJ (fun (b171 : Bool) => (
    ifp b171 (
      F66.J7p lf (F66.L5p lf n) xpx0_0 mpx0_1 mpx0_2 xpx0_3 n47) (
      ifp (!b48) (
        some (10, mpx0_1, mpx0_2, xpx0_3)) (
        some (0, mpx0_1, mpx0_2, xpx0_3))) : Option (Int × Int × Int × List Int))) fun j172p =>
  ifp b48 (
    j172p (decide (n47 > 0))) (
    j172p false)

theorem F66.L5_ok {ora : Ora} (hora : HOra ora) {lf ro : Nat} {F : List Ent} {r : (Int × Int × Int × List Int)} {px0 : Nat} {apx0_0 : Option Addr} {cpx0_0 : Nat} {xpx0_0 : List Bool} : ∀ (n : Nat) (mpx0_1 : Int) (mpx0_2 : Int) (apx0_3 : Option Addr) (xpx0_3 : List Int) (n47 : Int) (b48 : Bool) (h : Heap), Sat ro h (.own ro (some ⟨px0, 0, none⟩) 1 [.slice apx0_0 xpx0_0.length cpx0_0, .int .i64 mpx0_1, .int .i64 mpx0_2, .slice apx0_3 xpx0_3.length xpx0_3.length] :: .row apx0_0 cpx0_0 (xpx0_0.map Value.bool) :: .own ro apx0_3 1 (xpx0_3.map (Value.int .u8)) :: F) → F66.L5p lf n xpx0_0 mpx0_1 mpx0_2 xpx0_3 n47 b48 = some r → F66.Post px0 apx0_0 cpx0_0 xpx0_0 F ro r (F66.L5 (callW Tryd.prog ora) lf ro n px0 0 n47 b48 h) := by
  intro n
  induction n with
  | zero => intro mpx0_1 mpx0_2 apx0_3 xpx0_3 n47 b48 h hs hp; cases hp
  | succ n ih =>
    intro mpx0_1 mpx0_2 apx0_3 xpx0_3 n47 b48 h hs hp
    unfold F66.L5
    unfold F66.L5p at hp
    refine st_letJ hp (fun j172p j172 => ∀ (b171 : Bool), Sat ro h (.own ro (some ⟨px0, 0, none⟩) 1 [.slice apx0_0 xpx0_0.length cpx0_0, .int .i64 mpx0_1, .int .i64 mpx0_2, .slice apx0_3 xpx0_3.length xpx0_3.length] :: .row apx0_0 cpx0_0 (xpx0_0.map Value.bool) :: .own ro apx0_3 1 (xpx0_3.map (Value.int .u8)) :: F) → j172p b171 = some r → F66.Post px0 apx0_0 cpx0_0 xpx0_0 F ro r (j172 b171)) ?_ ?_
    · intro b171 hs hp
      refine st_if (Q := F66.Post px0 apx0_0 cpx0_0 xpx0_0 F ro r) (fun hc_229 => ?_) (fun hc_229 => ?_)
      · replace hp := ifp_t hc_229 hp
        have hs_265 := hs.pull 2 rfl
        have hs_266 := hs_265.pull 2 rfl
        have hs_267 := hs_266.pull 2 rfl
        exact F66.J7_ok hora ih mpx0_1 mpx0_2 apx0_3 xpx0_3 n47 _ hs_267 hp
      · replace hp := ifp_f hc_229 hp
        refine st_if (Q := F66.Post px0 apx0_0 cpx0_0 xpx0_0 F ro r) (fun hc_268 => ?_) (fun hc_268 => ?_)
        · replace hp := ifp_t hc_268 hp
          have hs_269 := hs.pull 1 rfl
          have hs_270 := hs_269.tail
          have hs_271 := hs_270.pull 1 rfl
          have hs_272 := hs_271.pull 1 rfl
          cases hp
          exact ⟨apx0_3, _, rfl, hs_272⟩
        · replace hp := ifp_f hc_268 hp
          have hs_273 := hs.pull 1 rfl
          have hs_274 := hs_273.tail
          have hs_275 := hs_274.pull 1 rfl
          have hs_276 := hs_275.pull 1 rfl
          cases hp
          exact ⟨apx0_3, _, rfl, hs_276⟩
    · intro j172p j172 hj172 hp
      refine st_if (Q := F66.Post px0 apx0_0 cpx0_0 xpx0_0 F ro r) (fun hc_221 => ?_) (fun hc_221 => ?_)
      · replace hp := ifp_t hc_221 hp
        have hs_222 := hs.pull 2 rfl
        have hs_223 := hs_222.pull 2 rfl
        have hs_224 := hs_223.pull 2 rfl
        exact hj172 (decide (n47 > 0)) hs_224 hp
      · replace hp := ifp_f hc_221 hp
        have hs_225 := hs.pull 2 rfl
        have hs_226 := hs_225.pull 2 rfl
        have hs_227 := hs_226.pull 2 rfl
        exact hj172 false hs_227 hp

def F66.J5p (lf : Nat) (xpx0_0 : List Bool) (mpx0_1 : Int) (mpx0_2 : Int) (xpx0_3 : List Int) (n43 : Int) (b44 : Bool) : Option (Int × Int × Int × List Int) :=
  F66.L5p lf lf xpx0_0 mpx0_1 mpx0_2 xpx0_3 n43 b44

theorem F66.J5_ok {ora : Ora} (hora : HOra ora) {lf ro : Nat} {F : List Ent} {r : (Int × Int × Int × List Int)} {px0 : Nat} {apx0_0 : Option Addr} {cpx0_0 : Nat} {xpx0_0 : List Bool} (mpx0_1 : Int) (mpx0_2 : Int) (apx0_3 : Option Addr) (xpx0_3 : List Int) (n43 : Int) (b44 : Bool) (h : Heap) (hs : Sat ro h (.own ro (some ⟨px0, 0, none⟩) 1 [.slice apx0_0 xpx0_0.length cpx0_0, .int .i64 mpx0_1, .int .i64 mpx0_2, .slice apx0_3 xpx0_3.length xpx0_3.length] :: .row apx0_0 cpx0_0 (xpx0_0.map Value.bool) :: .own ro apx0_3 1 (xpx0_3.map (Value.int .u8)) :: F)) (hp : F66.J5p lf xpx0_0 mpx0_1 mpx0_2 xpx0_3 n43 b44 = some r) : F66.Post px0 apx0_0 cpx0_0 xpx0_0 F ro r (F66.J5 (callW Tryd.prog ora) lf ro px0 0 n43 b44 h) := by
  unfold F66.J5
  unfold F66.J5p at hp
  have hs_277 := hs.pull 2 rfl
  have hs_278 := hs_277.pull 2 rfl
  have hs_279 := hs_278.pull 2 rfl
  exact F66.L5_ok hora lf mpx0_1 mpx0_2 apx0_3 xpx0_3 n43 b44 _ hs_279 hp

def F66.J3p (lf : Nat) (xpx0_0 : List Bool) (mpx0_1 : Int) (mpx0_2 : Int) (xpx0_3 : List Int) (n20 : Int) (b21 : Bool) (b22 : Bool) : Option (Int × Int × Int × List Int) :=
  ifp b22 (
    bindp (F63.p lf xpx0_0 mpx0_1 mpx0_2 xpx0_3 11) fun r_215 =>
    F66.J5p lf xpx0_0 r_215.2.2.1 r_215.2.2.2.1 r_215.2.2.2.2 (IntKind.i64.wrap (r_215.1 + 31)) r_215.2.1) (
    F66.J5p lf xpx0_0 mpx0_1 mpx0_2 xpx0_3 n20 b21)

theorem F66.J3_ok {ora : Ora} (hora : HOra ora) {lf ro : Nat} {F : List Ent} {r : (Int × Int × Int × List Int)} {px0 : Nat} {apx0_0 : Option Addr} {cpx0_0 : Nat} {xpx0_0 : List Bool} (mpx0_1 : Int) (mpx0_2 : Int) (apx0_3 : Option Addr) (xpx0_3 : List Int) (n20 : Int) (b21 : Bool) (b22 : Bool) (h : Heap) (hs : Sat ro h (.own ro (some ⟨px0, 0, none⟩) 1 [.slice apx0_0 xpx0_0.length cpx0_0, .int .i64 mpx0_1, .int .i64 mpx0_2, .slice apx0_3 xpx0_3.length xpx0_3.length] :: .row apx0_0 cpx0_0 (xpx0_0.map Value.bool) :: .own ro apx0_3 1 (xpx0_3.map (Value.int .u8)) :: F)) (hp : F66.J3p lf xpx0_0 mpx0_1 mpx0_2 xpx0_3 n20 b21 b22 = some r) : F66.Post px0 apx0_0 cpx0_0 xpx0_0 F ro r (F66.J3 (callW Tryd.prog ora) lf ro px0 0 n20 b21 b22 h) := by
  unfold F66.J3
  unfold F66.J3p at hp
  refine st_if (Q := F66.Post px0 apx0_0 cpx0_0 xpx0_0 F ro r) (fun hc_209 => ?_) (fun hc_209 => ?_)
  · replace hp := ifp_t hc_209 hp
    have hs_210 := hs.pull 1 rfl
    have hs_211 := hs_210.dup
    have hs_212 := hs_211.pull 3 rfl
    have hs_213 := hs_212.pull 1 rfl
    have hs_214 := hs_213.pull 3 rfl
    obtain ⟨r_215, hx_216, hp⟩ := bindp_some hp
    obtain ⟨a_220, h_217, e_219, hs_218⟩ := F63.ok hora (ro := ro) (px0 := px0) (apx0_0 := apx0_0) (cpx0_0 := cpx0_0) (xpx0_0 := xpx0_0) (F := .row apx0_0 cpx0_0 (xpx0_0.map Value.bool) :: F) mpx0_1 mpx0_2 apx0_3 xpx0_3 11 _ hs_214 hx_216
    refine st_ok (Q := F66.Post px0 apx0_0 cpx0_0 xpx0_0 F ro r) isO e_219 ?_
    refine st_tup (Q := F66.Post px0 apx0_0 cpx0_0 xpx0_0 F ro r) (l := [.int .i64 r_215.1, .bool r_215.2.1]) ?_
    refine st_cons (Q := F66.Post px0 apx0_0 cpx0_0 xpx0_0 F ro r) ?_
    refine st_int (Q := F66.Post px0 apx0_0 cpx0_0 xpx0_0 F ro r) ?_
    refine st_cons (Q := F66.Post px0 apx0_0 cpx0_0 xpx0_0 F ro r) ?_
    refine st_bool (Q := F66.Post px0 apx0_0 cpx0_0 xpx0_0 F ro r) ?_
    refine st_nil (Q := F66.Post px0 apx0_0 cpx0_0 xpx0_0 F ro r) ?_
    have hs_280 := hs_218.pull 1 rfl
    have hs_281 := hs_280.pull 2 rfl
    have hs_282 := hs_281.pull 2 rfl
    exact F66.J5_ok hora r_215.2.2.1 r_215.2.2.2.1 a_220 r_215.2.2.2.2 (IntKind.i64.wrap (r_215.1 + 31)) r_215.2.1 _ hs_282 hp
  · replace hp := ifp_f hc_209 hp
    have hs_283 := hs.pull 2 rfl
    have hs_284 := hs_283.pull 2 rfl
    have hs_285 := hs_284.pull 2 rfl
    exact F66.J5_ok hora mpx0_1 mpx0_2 apx0_3 xpx0_3 n20 b21 _ hs_285 hp

def F66.p (lf : Nat) (xpx0_0 : List Bool) (mpx0_1 : Int) (mpx0_2 : Int) (xpx0_3 : List Int) : Option (Int × Int × Int × List Int) :=
  bindp (F63.p lf xpx0_0 mpx0_1 mpx0_2 xpx0_3 5) fun r_202 =>
  ifp r_202.2.1 (
    F66.J3p lf xpx0_0 r_202.2.2.1 r_202.2.2.2.1 r_202.2.2.2.2 r_202.1 r_202.2.1 (r_202.1 == 0)) (
    F66.J3p lf xpx0_0 r_202.2.2.1 r_202.2.2.2.1 r_202.2.2.2.2 r_202.1 r_202.2.1 false)

theorem F66.t_ok {ora : Ora} (hora : HOra ora) {lf ro : Nat} {F : List Ent} {r : (Int × Int × Int × List Int)} {px0 : Nat} {apx0_0 : Option Addr} {cpx0_0 : Nat} {xpx0_0 : List Bool} (mpx0_1 : Int) (mpx0_2 : Int) (apx0_3 : Option Addr) (xpx0_3 : List Int) (h : Heap) (hs : Sat ro h (.own ro (some ⟨px0, 0, none⟩) 1 [.slice apx0_0 xpx0_0.length cpx0_0, .int .i64 mpx0_1, .int .i64 mpx0_2, .slice apx0_3 xpx0_3.length xpx0_3.length] :: .row apx0_0 cpx0_0 (xpx0_0.map Value.bool) :: .own ro apx0_3 1 (xpx0_3.map (Value.int .u8)) :: F)) (hp : F66.p lf xpx0_0 mpx0_1 mpx0_2 xpx0_3 = some r) : F66.Post px0 apx0_0 cpx0_0 xpx0_0 F ro r (F66.t (callW Tryd.prog ora) lf ro px0 0 h) := by
  unfold F66.t
  unfold F66.p at hp
  have hs_197 := hs.pull 1 rfl
  have hs_198 := hs_197.dup
  have hs_199 := hs_198.pull 3 rfl
  have hs_200 := hs_199.pull 1 rfl
  have hs_201 := hs_200.pull 3 rfl
  obtain ⟨r_202, hx_203, hp⟩ := bindp_some hp
  obtain ⟨a_207, h_204, e_206, hs_205⟩ := F63.ok hora (ro := ro) (px0 := px0) (apx0_0 := apx0_0) (cpx0_0 := cpx0_0) (xpx0_0 := xpx0_0) (F := .row apx0_0 cpx0_0 (xpx0_0.map Value.bool) :: F) mpx0_1 mpx0_2 apx0_3 xpx0_3 5 _ hs_201 hx_203
  refine st_ok (Q := F66.Post px0 apx0_0 cpx0_0 xpx0_0 F ro r) isO e_206 ?_
  refine st_tup (Q := F66.Post px0 apx0_0 cpx0_0 xpx0_0 F ro r) (l := [.int .i64 r_202.1, .bool r_202.2.1]) ?_
  refine st_cons (Q := F66.Post px0 apx0_0 cpx0_0 xpx0_0 F ro r) ?_
  refine st_int (Q := F66.Post px0 apx0_0 cpx0_0 xpx0_0 F ro r) ?_
  refine st_cons (Q := F66.Post px0 apx0_0 cpx0_0 xpx0_0 F ro r) ?_
  refine st_bool (Q := F66.Post px0 apx0_0 cpx0_0 xpx0_0 F ro r) ?_
  refine st_nil (Q := F66.Post px0 apx0_0 cpx0_0 xpx0_0 F ro r) ?_
  refine st_if (Q := F66.Post px0 apx0_0 cpx0_0 xpx0_0 F ro r) (fun hc_208 => ?_) (fun hc_208 => ?_)
  · replace hp := ifp_t hc_208 hp
    have hs_286 := hs_205.pull 1 rfl
    have hs_287 := hs_286.pull 2 rfl
    have hs_288 := hs_287.pull 2 rfl
    exact F66.J3_ok hora r_202.2.2.1 r_202.2.2.2.1 a_207 r_202.2.2.2.2 r_202.1 r_202.2.1 (r_202.1 == 0) _ hs_288 hp
  · replace hp := ifp_f hc_208 hp
    have hs_289 := hs_205.pull 1 rfl
    have hs_290 := hs_289.pull 2 rfl
    have hs_291 := hs_290.pull 2 rfl
    exact F66.J3_ok hora r_202.2.2.1 r_202.2.2.2.1 a_207 r_202.2.2.2.2 r_202.1 r_202.2.1 false _ hs_291 hp

theorem F66.ok {ora : Ora} (hora : HOra ora) {lf ro : Nat} {F : List Ent} {r : (Int × Int × Int × List Int)} {px0 : Nat} {apx0_0 : Option Addr} {cpx0_0 : Nat} {xpx0_0 : List Bool} (mpx0_1 : Int) (mpx0_2 : Int) (apx0_3 : Option Addr) (xpx0_3 : List Int) (h : Heap) (hs : Sat ro h (.own ro (some ⟨px0, 0, none⟩) 1 [.slice apx0_0 xpx0_0.length cpx0_0, .int .i64 mpx0_1, .int .i64 mpx0_2, .slice apx0_3 xpx0_3.length xpx0_3.length] :: .row apx0_0 cpx0_0 (xpx0_0.map Value.bool) :: .own ro apx0_3 1 (xpx0_3.map (Value.int .u8)) :: F)) (hp : F66.p lf xpx0_0 mpx0_1 mpx0_2 xpx0_3 = some r) : F66.Post px0 apx0_0 cpx0_0 xpx0_0 F ro r (callW Tryd.prog ora ro 66 [.pointer (some ⟨px0, 0, none⟩)] h) := by
  have h1 := F66.t_ok hora mpx0_1 mpx0_2 apx0_3 xpx0_3 h hs hp
  have h2 : callW Tryd.prog ora ro 66 [.pointer (some ⟨px0, 0, none⟩)] h = _ := callW_body (hora.none _ _ _ _ (by decide)) Tryd.func66 (F66.le (callW Tryd.prog ora) lf ro px0 0 h) (F66.Post.ne h1)
  rw [h2]; exact h1

def F41.Post (px0 : Nat) (apx0_0 : Option Addr) (cpx0_0 : Nat) (xpx0_0 : List Bool) (F : List Ent) (ro : Nat) (r : (Int × Int × Int × List Int)) (x : Out) : Prop := ∃ bpx0_3 h', x = .ok (.int .i64 r.1) h' ∧ Sat ro h' (.own ro (some ⟨px0, 0, none⟩) 1 [.slice apx0_0 xpx0_0.length cpx0_0, .int .i64 r.2.1, .int .i64 r.2.2.1, .slice bpx0_3 r.2.2.2.length r.2.2.2.length] :: .own ro bpx0_3 1 (r.2.2.2.map (Value.int .u8)) :: F)
theorem F41.Post.ne {px0 : Nat} {apx0_0 : Option Addr} {cpx0_0 : Nat} {xpx0_0 : List Bool} {F : List Ent} {ro : Nat} {r : (Int × Int × Int × List Int)} {x : Out} (hx : F41.Post px0 apx0_0 cpx0_0 xpx0_0 F ro r x) : x ≠ .fail := by
  obtain ⟨bpx0_3, h', rfl, _⟩ := hx
  simp

def F41.J12p (lf : Nat) (xpx0_0 : List Bool) (mpx0_1 : Int) (mpx0_2 : Int) (xpx0_3 : List Int) (n82 : Int) : Option (Int × Int × Int × List Int) :=
  bindp (F53.p lf mpx0_2 n82) fun r_344 =>
  ifp (decide (r_344 ≥ 0)) (
    bindp (F65.p lf xpx0_0 mpx0_1 mpx0_2 xpx0_3 r_344) fun r_355 =>
    some (r_355.1, r_355.2.1, r_355.2.2.1, r_355.2.2.2)) (
    ifp (n82 == 31) (
      bindp (F66.p lf xpx0_0 mpx0_1 mpx0_2 xpx0_3) fun r_371 =>
      some (r_371.1, r_371.2.1, r_371.2.2.1, r_371.2.2.2)) (
      some (22, mpx0_1, mpx0_2, xpx0_3)))

theorem F41.J12_ok {ora : Ora} (hora : HOra ora) {lf ro : Nat} {F : List Ent} {r : (Int × Int × Int × List Int)} {px0 : Nat} {apx0_0 : Option Addr} {cpx0_0 : Nat} {xpx0_0 : List Bool} (mpx0_1 : Int) (mpx0_2 : Int) (apx0_3 : Option Addr) (xpx0_3 : List Int) (n82 : Int) (h : Heap) (hs : Sat ro h (.own ro (some ⟨px0, 0, none⟩) 1 [.slice apx0_0 xpx0_0.length cpx0_0, .int .i64 mpx0_1, .int .i64 mpx0_2, .slice apx0_3 xpx0_3.length xpx0_3.length] :: .row apx0_0 cpx0_0 (xpx0_0.map Value.bool) :: .own ro apx0_3 1 (xpx0_3.map (Value.int .u8)) :: F)) (hp : F41.J12p lf xpx0_0 mpx0_1 mpx0_2 xpx0_3 n82 = some r) : F41.Post px0 apx0_0 cpx0_0 xpx0_0 F ro r (F41.J12 (callW Tryd.prog ora) lf ro px0 0 n82 h) := by
  unfold F41.J12
  unfold F41.J12p at hp
  refine st_load (Q := F41.Post px0 apx0_0 cpx0_0 xpx0_0 F ro r) isO hs agg3 rfl ?_
  refine st_int (Q := F41.Post px0 apx0_0 cpx0_0 xpx0_0 F ro r) ?_
  obtain ⟨r_344, hx_345, hp⟩ := bindp_some hp
  obtain ⟨h_346, e_348, hs_347⟩ := F53.ok hora (ro := ro) (F := .own ro (some ⟨px0, 0, none⟩) 1 [.slice apx0_0 xpx0_0.length cpx0_0, .int .i64 mpx0_1, .int .i64 mpx0_2, .slice apx0_3 xpx0_3.length xpx0_3.length] :: .row apx0_0 cpx0_0 (xpx0_0.map Value.bool) :: .own ro apx0_3 1 (xpx0_3.map (Value.int .u8)) :: F) mpx0_2 n82 _ hs hx_345
  refine st_ok (Q := F41.Post px0 apx0_0 cpx0_0 xpx0_0 F ro r) isO e_348 ?_
  refine st_int (Q := F41.Post px0 apx0_0 cpx0_0 xpx0_0 F ro r) ?_
  refine st_if (Q := F41.Post px0 apx0_0 cpx0_0 xpx0_0 F ro r) (fun hc_349 => ?_) (fun hc_349 => ?_)
  · replace hp := ifp_t hc_349 hp
    have hs_350 := hs_347.pull 1 rfl
    have hs_351 := hs_350.dup
    have hs_352 := hs_351.pull 3 rfl
    have hs_353 := hs_352.pull 1 rfl
    have hs_354 := hs_353.pull 3 rfl
    obtain ⟨r_355, hx_356, hp⟩ := bindp_some hp
    obtain ⟨a_360, h_357, e_359, hs_358⟩ := F65.ok hora (ro := ro) (px0 := px0) (apx0_0 := apx0_0) (cpx0_0 := cpx0_0) (xpx0_0 := xpx0_0) (F := .row apx0_0 cpx0_0 (xpx0_0.map Value.bool) :: F) mpx0_1 mpx0_2 apx0_3 xpx0_3 r_344 _ hs_354 hx_356
    refine st_ok (Q := F41.Post px0 apx0_0 cpx0_0 xpx0_0 F ro r) isO e_359 ?_
    refine st_int (Q := F41.Post px0 apx0_0 cpx0_0 xpx0_0 F ro r) ?_
    have hs_361 := hs_358.pull 2 rfl
    have hs_362 := hs_361.tail
    have hs_363 := hs_362.pull 1 rfl
    have hs_364 := hs_363.pull 1 rfl
    cases hp
    exact ⟨a_360, _, rfl, hs_364⟩
  · replace hp := ifp_f hc_349 hp
    refine st_if (Q := F41.Post px0 apx0_0 cpx0_0 xpx0_0 F ro r) (fun hc_365 => ?_) (fun hc_365 => ?_)
    · replace hp := ifp_t hc_365 hp
      have hs_366 := hs_347.pull 1 rfl
      have hs_367 := hs_366.dup
      have hs_368 := hs_367.pull 3 rfl
      have hs_369 := hs_368.pull 1 rfl
      have hs_370 := hs_369.pull 3 rfl
      obtain ⟨r_371, hx_372, hp⟩ := bindp_some hp
      obtain ⟨a_376, h_373, e_375, hs_374⟩ := F66.ok hora (ro := ro) (px0 := px0) (apx0_0 := apx0_0) (cpx0_0 := cpx0_0) (xpx0_0 := xpx0_0) (F := .row apx0_0 cpx0_0 (xpx0_0.map Value.bool) :: F) mpx0_1 mpx0_2 apx0_3 xpx0_3 _ hs_370 hx_372
      refine st_ok (Q := F41.Post px0 apx0_0 cpx0_0 xpx0_0 F ro r) isO e_375 ?_
      refine st_int (Q := F41.Post px0 apx0_0 cpx0_0 xpx0_0 F ro r) ?_
      have hs_377 := hs_374.pull 2 rfl
      have hs_378 := hs_377.tail
      have hs_379 := hs_378.pull 1 rfl
      have hs_380 := hs_379.pull 1 rfl
      cases hp
      exact ⟨a_376, _, rfl, hs_380⟩
    · replace hp := ifp_f hc_365 hp
      have hs_381 := hs_347.pull 1 rfl
      have hs_382 := hs_381.tail
      have hs_383 := hs_382.pull 1 rfl
      have hs_384 := hs_383.pull 1 rfl
      cases hp
      exact ⟨apx0_3, _, rfl, hs_384⟩

def F41.J8p (lf : Nat) (xpx0_0 : List Bool) (mpx0_1 : Int) (mpx0_2 : Int) (xpx0_3 : List Int) (n63 : Int) : Option (Int × Int × Int × List Int) :=
  bindp (F54.p lf mpx0_2 n63) fun r_332 =>
  ifp (decide (r_332 ≥ 0)) (
    some (0, mpx0_1, r_332, xpx0_3)) (
    F41.J12p lf xpx0_0 mpx0_1 mpx0_2 xpx0_3 n63)

theorem F41.J8_ok {ora : Ora} (hora : HOra ora) {lf ro : Nat} {F : List Ent} {r : (Int × Int × Int × List Int)} {px0 : Nat} {apx0_0 : Option Addr} {cpx0_0 : Nat} {xpx0_0 : List Bool} (mpx0_1 : Int) (mpx0_2 : Int) (apx0_3 : Option Addr) (xpx0_3 : List Int) (n63 : Int) (h : Heap) (hs : Sat ro h (.own ro (some ⟨px0, 0, none⟩) 1 [.slice apx0_0 xpx0_0.length cpx0_0, .int .i64 mpx0_1, .int .i64 mpx0_2, .slice apx0_3 xpx0_3.length xpx0_3.length] :: .row apx0_0 cpx0_0 (xpx0_0.map Value.bool) :: .own ro apx0_3 1 (xpx0_3.map (Value.int .u8)) :: F)) (hp : F41.J8p lf xpx0_0 mpx0_1 mpx0_2 xpx0_3 n63 = some r) : F41.Post px0 apx0_0 cpx0_0 xpx0_0 F ro r (F41.J8 (callW Tryd.prog ora) lf ro px0 0 n63 h) := by
  unfold F41.J8
  unfold F41.J8p at hp
  refine st_load (Q := F41.Post px0 apx0_0 cpx0_0 xpx0_0 F ro r) isO hs agg3 rfl ?_
  refine st_int (Q := F41.Post px0 apx0_0 cpx0_0 xpx0_0 F ro r) ?_
  obtain ⟨r_332, hx_333, hp⟩ := bindp_some hp
  obtain ⟨h_334, e_336, hs_335⟩ := F54.ok hora (ro := ro) (F := .own ro (some ⟨px0, 0, none⟩) 1 [.slice apx0_0 xpx0_0.length cpx0_0, .int .i64 mpx0_1, .int .i64 mpx0_2, .slice apx0_3 xpx0_3.length xpx0_3.length] :: .row apx0_0 cpx0_0 (xpx0_0.map Value.bool) :: .own ro apx0_3 1 (xpx0_3.map (Value.int .u8)) :: F) mpx0_2 n63 _ hs hx_333
  refine st_ok (Q := F41.Post px0 apx0_0 cpx0_0 xpx0_0 F ro r) isO e_336 ?_
  refine st_int (Q := F41.Post px0 apx0_0 cpx0_0 xpx0_0 F ro r) ?_
  refine st_if (Q := F41.Post px0 apx0_0 cpx0_0 xpx0_0 F ro r) (fun hc_337 => ?_) (fun hc_337 => ?_)
  · replace hp := ifp_t hc_337 hp
    refine st_store (Q := F41.Post px0 apx0_0 cpx0_0 xpx0_0 F ro r) isO hs_335 siz3 rfl (Nat.le_of_ble_eq_true rfl) fun h_338 hs_339 => ?_
    have hs_340 := hs_339.pull 1 rfl
    have hs_341 := hs_340.tail
    have hs_342 := hs_341.pull 1 rfl
    have hs_343 := hs_342.pull 1 rfl
    cases hp
    exact ⟨apx0_3, _, rfl, hs_343⟩
  · replace hp := ifp_f hc_337 hp
    have hs_385 := hs_335.pull 2 rfl
    have hs_386 := hs_385.pull 2 rfl
    have hs_387 := hs_386.pull 2 rfl
    exact F41.J12_ok hora mpx0_1 mpx0_2 apx0_3 xpx0_3 n63 _ hs_387 hp

def F41.J4p (lf : Nat) (xpx0_0 : List Bool) (mpx0_1 : Int) (mpx0_2 : Int) (xpx0_3 : List Int) (n32 : Int) : Option (Int × Int × Int × List Int) :=
  bindp (F64.p lf mpx0_2 n32) fun r_313 =>
  ifp (!(r_313.toList == (⟨#[]⟩ : ByteArray).toList)) (
    bindp (appp 1 xpx0_3 (bytp r_313)) fun x_319 =>
    some (0, mpx0_1, mpx0_2, x_319)) (
    F41.J8p lf xpx0_0 mpx0_1 mpx0_2 xpx0_3 n32)

theorem F41.J4_ok {ora : Ora} (hora : HOra ora) {lf ro : Nat} {F : List Ent} {r : (Int × Int × Int × List Int)} {px0 : Nat} {apx0_0 : Option Addr} {cpx0_0 : Nat} {xpx0_0 : List Bool} (mpx0_1 : Int) (mpx0_2 : Int) (apx0_3 : Option Addr) (xpx0_3 : List Int) (n32 : Int) (h : Heap) (hs : Sat ro h (.own ro (some ⟨px0, 0, none⟩) 1 [.slice apx0_0 xpx0_0.length cpx0_0, .int .i64 mpx0_1, .int .i64 mpx0_2, .slice apx0_3 xpx0_3.length xpx0_3.length] :: .row apx0_0 cpx0_0 (xpx0_0.map Value.bool) :: .own ro apx0_3 1 (xpx0_3.map (Value.int .u8)) :: F)) (hp : F41.J4p lf xpx0_0 mpx0_1 mpx0_2 xpx0_3 n32 = some r) : F41.Post px0 apx0_0 cpx0_0 xpx0_0 F ro r (F41.J4 (callW Tryd.prog ora) lf ro px0 0 n32 h) := by
  unfold F41.J4
  unfold F41.J4p at hp
  refine st_load (Q := F41.Post px0 apx0_0 cpx0_0 xpx0_0 F ro r) isO hs agg3 rfl ?_
  refine st_int (Q := F41.Post px0 apx0_0 cpx0_0 xpx0_0 F ro r) ?_
  obtain ⟨r_313, hx_314, hp⟩ := bindp_some hp
  obtain ⟨h_315, e_317, hs_316⟩ := F64.ok hora (ro := ro) (F := .own ro (some ⟨px0, 0, none⟩) 1 [.slice apx0_0 xpx0_0.length cpx0_0, .int .i64 mpx0_1, .int .i64 mpx0_2, .slice apx0_3 xpx0_3.length xpx0_3.length] :: .row apx0_0 cpx0_0 (xpx0_0.map Value.bool) :: .own ro apx0_3 1 (xpx0_3.map (Value.int .u8)) :: F) mpx0_2 n32 _ hs hx_314
  refine st_ok (Q := F41.Post px0 apx0_0 cpx0_0 xpx0_0 F ro r) isO e_317 ?_
  refine st_str (Q := F41.Post px0 apx0_0 cpx0_0 xpx0_0 F ro r) ?_
  refine st_if (Q := F41.Post px0 apx0_0 cpx0_0 xpx0_0 F ro r) (fun hc_318 => ?_) (fun hc_318 => ?_)
  · replace hp := ifp_t hc_318 hp
    refine st_load (Q := F41.Post px0 apx0_0 cpx0_0 xpx0_0 F ro r) isO hs_316 agg22 rfl ?_
    refine st_slice (Q := F41.Post px0 apx0_0 cpx0_0 xpx0_0 F ro r) ?_
    have hs_324 := hs_316.pull 2 rfl
    obtain ⟨x_319, hx_320, hp⟩ := bindp_some hp
    refine st_appS (Q := F41.Post px0 apx0_0 cpx0_0 xpx0_0 F ro r) (l := xpx0_3) isO hs_324 und22 und9 one5 rfl rfl hx_320 fun a_321 h_322 hs_323 => ?_
    refine st_slice (Q := F41.Post px0 apx0_0 cpx0_0 xpx0_0 F ro r) ?_
    have hs_325 := hs_323.pull 1 rfl
    refine st_store (Q := F41.Post px0 apx0_0 cpx0_0 xpx0_0 F ro r) isO hs_325 siz22 rfl (Nat.le_of_ble_eq_true rfl) fun h_326 hs_327 => ?_
    have hs_328 := hs_327.pull 2 rfl
    have hs_329 := hs_328.tail
    have hs_330 := hs_329.pull 1 rfl
    have hs_331 := hs_330.pull 1 rfl
    cases hp
    exact ⟨a_321, _, rfl, hs_331⟩
  · replace hp := ifp_f hc_318 hp
    have hs_388 := hs_316.pull 2 rfl
    have hs_389 := hs_388.pull 2 rfl
    have hs_390 := hs_389.pull 2 rfl
    exact F41.J8_ok hora mpx0_1 mpx0_2 apx0_3 xpx0_3 n32 _ hs_390 hp

def F41.p (lf : Nat) (xpx0_0 : List Bool) (mpx0_1 : Int) (mpx0_2 : Int) (xpx0_3 : List Int) : Option (Int × Int × Int × List Int) :=
  bindp (F51.p lf mpx0_2) fun r_292 =>
  bindp (F63.p lf xpx0_0 mpx0_1 mpx0_2 xpx0_3 r_292) fun r_302 =>
  ifp (!r_302.2.1) (
    some (10, r_302.2.2.1, r_302.2.2.2.1, r_302.2.2.2.2)) (
    F41.J4p lf xpx0_0 r_302.2.2.1 r_302.2.2.2.1 r_302.2.2.2.2 r_302.1)

theorem F41.t_ok {ora : Ora} (hora : HOra ora) {lf ro : Nat} {F : List Ent} {r : (Int × Int × Int × List Int)} {px0 : Nat} {apx0_0 : Option Addr} {cpx0_0 : Nat} {xpx0_0 : List Bool} (mpx0_1 : Int) (mpx0_2 : Int) (apx0_3 : Option Addr) (xpx0_3 : List Int) (h : Heap) (hs : Sat ro h (.own ro (some ⟨px0, 0, none⟩) 1 [.slice apx0_0 xpx0_0.length cpx0_0, .int .i64 mpx0_1, .int .i64 mpx0_2, .slice apx0_3 xpx0_3.length xpx0_3.length] :: .row apx0_0 cpx0_0 (xpx0_0.map Value.bool) :: .own ro apx0_3 1 (xpx0_3.map (Value.int .u8)) :: F)) (hp : F41.p lf xpx0_0 mpx0_1 mpx0_2 xpx0_3 = some r) : F41.Post px0 apx0_0 cpx0_0 xpx0_0 F ro r (F41.t (callW Tryd.prog ora) lf ro px0 0 h) := by
  unfold F41.t
  unfold F41.p at hp
  refine st_load (Q := F41.Post px0 apx0_0 cpx0_0 xpx0_0 F ro r) isO hs agg3 rfl ?_
  refine st_int (Q := F41.Post px0 apx0_0 cpx0_0 xpx0_0 F ro r) ?_
  obtain ⟨r_292, hx_293, hp⟩ := bindp_some hp
  obtain ⟨h_294, e_296, hs_295⟩ := F51.ok hora (ro := ro) (F := .own ro (some ⟨px0, 0, none⟩) 1 [.slice apx0_0 xpx0_0.length cpx0_0, .int .i64 mpx0_1, .int .i64 mpx0_2, .slice apx0_3 xpx0_3.length xpx0_3.length] :: .row apx0_0 cpx0_0 (xpx0_0.map Value.bool) :: .own ro apx0_3 1 (xpx0_3.map (Value.int .u8)) :: F) mpx0_2 _ hs hx_293
  refine st_ok (Q := F41.Post px0 apx0_0 cpx0_0 xpx0_0 F ro r) isO e_296 ?_
  refine st_int (Q := F41.Post px0 apx0_0 cpx0_0 xpx0_0 F ro r) ?_
  have hs_297 := hs_295.pull 1 rfl
  have hs_298 := hs_297.dup
  have hs_299 := hs_298.pull 3 rfl
  have hs_300 := hs_299.pull 1 rfl
  have hs_301 := hs_300.pull 3 rfl
  obtain ⟨r_302, hx_303, hp⟩ := bindp_some hp
  obtain ⟨a_307, h_304, e_306, hs_305⟩ := F63.ok hora (ro := ro) (px0 := px0) (apx0_0 := apx0_0) (cpx0_0 := cpx0_0) (xpx0_0 := xpx0_0) (F := .row apx0_0 cpx0_0 (xpx0_0.map Value.bool) :: F) mpx0_1 mpx0_2 apx0_3 xpx0_3 r_292 _ hs_301 hx_303
  refine st_ok (Q := F41.Post px0 apx0_0 cpx0_0 xpx0_0 F ro r) isO e_306 ?_
  refine st_tup (Q := F41.Post px0 apx0_0 cpx0_0 xpx0_0 F ro r) (l := [.int .i64 r_302.1, .bool r_302.2.1]) ?_
  refine st_cons (Q := F41.Post px0 apx0_0 cpx0_0 xpx0_0 F ro r) ?_
  refine st_int (Q := F41.Post px0 apx0_0 cpx0_0 xpx0_0 F ro r) ?_
  refine st_cons (Q := F41.Post px0 apx0_0 cpx0_0 xpx0_0 F ro r) ?_
  refine st_bool (Q := F41.Post px0 apx0_0 cpx0_0 xpx0_0 F ro r) ?_
  refine st_nil (Q := F41.Post px0 apx0_0 cpx0_0 xpx0_0 F ro r) ?_
  refine st_if (Q := F41.Post px0 apx0_0 cpx0_0 xpx0_0 F ro r) (fun hc_308 => ?_) (fun hc_308 => ?_)
  · replace hp := ifp_t hc_308 hp
    have hs_309 := hs_305.pull 2 rfl
    have hs_310 := hs_309.tail
    have hs_311 := hs_310.pull 1 rfl
    have hs_312 := hs_311.pull 1 rfl
    cases hp
    exact ⟨a_307, _, rfl, hs_312⟩
  · replace hp := ifp_f hc_308 hp
    have hs_391 := hs_305.pull 1 rfl
    have hs_392 := hs_391.pull 2 rfl
    have hs_393 := hs_392.pull 2 rfl
    exact F41.J4_ok hora r_302.2.2.1 r_302.2.2.2.1 a_307 r_302.2.2.2.2 r_302.1 _ hs_393 hp

theorem F41.ok {ora : Ora} (hora : HOra ora) {lf ro : Nat} {F : List Ent} {r : (Int × Int × Int × List Int)} {px0 : Nat} {apx0_0 : Option Addr} {cpx0_0 : Nat} {xpx0_0 : List Bool} (mpx0_1 : Int) (mpx0_2 : Int) (apx0_3 : Option Addr) (xpx0_3 : List Int) (h : Heap) (hs : Sat ro h (.own ro (some ⟨px0, 0, none⟩) 1 [.slice apx0_0 xpx0_0.length cpx0_0, .int .i64 mpx0_1, .int .i64 mpx0_2, .slice apx0_3 xpx0_3.length xpx0_3.length] :: .row apx0_0 cpx0_0 (xpx0_0.map Value.bool) :: .own ro apx0_3 1 (xpx0_3.map (Value.int .u8)) :: F)) (hp : F41.p lf xpx0_0 mpx0_1 mpx0_2 xpx0_3 = some r) : F41.Post px0 apx0_0 cpx0_0 xpx0_0 F ro r (callW Tryd.prog ora ro 41 [.pointer (some ⟨px0, 0, none⟩)] h) := by
  have h1 := F41.t_ok hora mpx0_1 mpx0_2 apx0_3 xpx0_3 h hs hp
  have h2 : callW Tryd.prog ora ro 41 [.pointer (some ⟨px0, 0, none⟩)] h = _ := callW_body (hora.none _ _ _ _ (by decide)) Tryd.func41 (F41.le (callW Tryd.prog ora) lf ro px0 0 h) (F41.Post.ne h1)
  rw [h2]; exact h1

def F16.Post (F : List Ent) (ro : Nat) (r : (List Int × Int)) (x : Out) : Prop := ∃ a0 h', x = .ok (.tuple #[.slice a0 r.1.length r.1.length, .int .i64 r.2]) h' ∧ Sat ro h' (.own ro a0 1 (r.1.map (Value.int .u8)) :: F)
theorem F16.Post.ne {F : List Ent} {ro : Nat} {r : (List Int × Int)} {x : Out} (hx : F16.Post F ro r x) : x ≠ .fail := by
  obtain ⟨a0, h', rfl, _⟩ := hx
  simp

def F16.J5p (lf : Nat) (kb4p : List Bool → Int → Int → List Int → Option (List Int × Int)) (xp13_0 : List Bool) (mp13_1 : Int) (mp13_2 : Int) (xp13_3 : List Int) : Option (List Int × Int) :=
  bindp (F41.p lf xp13_0 mp13_1 mp13_2 xp13_3) fun r_417 =>
  ifp (r_417.1 != 0) (
    some ([], r_417.1)) (
    kb4p xp13_0 r_417.2.1 r_417.2.2.1 r_417.2.2.2)

theorem F16.J5_ok {ora : Ora} (hora : HOra ora) {lf ro : Nat} {F : List Ent} {r : (List Int × Int)} {kb4p : List Bool → Int → Int → List Int → Option (List Int × Int)} {kb4 : Nat → Nat → Heap → Out} (hkb4 : ∀ (p5 : Nat) (ap5_0 : Option Addr) (cp5_0 : Nat) (xp5_0 : List Bool) (mp5_1 : Int) (mp5_2 : Int) (ap5_3 : Option Addr) (xp5_3 : List Int) (h : Heap), Sat ro h (.own ro (some ⟨p5, 0, none⟩) 1 [.slice ap5_0 xp5_0.length cp5_0, .int .i64 mp5_1, .int .i64 mp5_2, .slice ap5_3 xp5_3.length xp5_3.length] :: .row ap5_0 cp5_0 (xp5_0.map Value.bool) :: .own ro ap5_3 1 (xp5_3.map (Value.int .u8)) :: F) → kb4p xp5_0 mp5_1 mp5_2 xp5_3 = some r → F16.Post F ro r (kb4 p5 0 h)) (p13 : Nat) (ap13_0 : Option Addr) (cp13_0 : Nat) (xp13_0 : List Bool) (mp13_1 : Int) (mp13_2 : Int) (ap13_3 : Option Addr) (xp13_3 : List Int) (h : Heap) (hs : Sat ro h (.own ro (some ⟨p13, 0, none⟩) 1 [.slice ap13_0 xp13_0.length cp13_0, .int .i64 mp13_1, .int .i64 mp13_2, .slice ap13_3 xp13_3.length xp13_3.length] :: .row ap13_0 cp13_0 (xp13_0.map Value.bool) :: .own ro ap13_3 1 (xp13_3.map (Value.int .u8)) :: F)) (hp : F16.J5p lf kb4p xp13_0 mp13_1 mp13_2 xp13_3 = some r) : F16.Post F ro r (F16.J5 (callW Tryd.prog ora) lf ro kb4 p13 0 h) := by
  unfold F16.J5
  unfold F16.J5p at hp
  have hs_412 := hs.pull 1 rfl
  have hs_413 := hs_412.dup
  have hs_414 := hs_413.pull 3 rfl
  have hs_415 := hs_414.pull 1 rfl
  have hs_416 := hs_415.pull 3 rfl
  obtain ⟨r_417, hx_418, hp⟩ := bindp_some hp
  obtain ⟨a_422, h_419, e_421, hs_420⟩ := F41.ok hora (ro := ro) (px0 := p13) (apx0_0 := ap13_0) (cpx0_0 := cp13_0) (xpx0_0 := xp13_0) (F := .row ap13_0 cp13_0 (xp13_0.map Value.bool) :: F) mp13_1 mp13_2 ap13_3 xp13_3 _ hs_416 hx_418
  refine st_ok (Q := F16.Post F ro r) isO e_421 ?_
  refine st_int (Q := F16.Post F ro r) ?_
  refine st_if (Q := F16.Post F ro r) (fun hc_423 => ?_) (fun hc_423 => ?_)
  · replace hp := ifp_t hc_423 hp
    have hs_424 := hs_420.nilOwn ro 1
    have hs_425 := hs_424.pull 1 rfl
    have hs_426 := hs_425.tail
    have hs_427 := hs_426.pull 1 rfl
    have hs_428 := hs_427.tail
    have hs_429 := hs_428.pull 1 rfl
    have hs_430 := hs_429.tail
    cases hp
    exact ⟨none, _, rfl, hs_430⟩
  · replace hp := ifp_f hc_423 hp
    have hs_431 := hs_420.pull 1 rfl
    have hs_432 := hs_431.pull 2 rfl
    have hs_433 := hs_432.pull 2 rfl
    exact hkb4 p13 ap13_0 _ xp13_0 r_417.2.1 r_417.2.2.1 a_422 r_417.2.2.2 _ hs_433 hp

def F16.L4p (lf : Nat) : Nat → List Bool → Int → Int → List Int → Option (List Int × Int)
  | 0, _, _, _, _ => none
  | n + 1, xp5_0, mp5_1, mp5_2, xp5_3 =>
  bindp (F40.p lf xp5_0 mp5_1 mp5_2 xp5_3) fun r_405 =>
  ifp (!r_405.1) (
    F16.J5p lf (F16.L4p lf n) xp5_0 r_405.2.1 r_405.2.2.1 r_405.2.2.2) (
    some (r_405.2.2.2, 0))

theorem F16.L4_ok {ora : Ora} (hora : HOra ora) {lf ro : Nat} {F : List Ent} {r : (List Int × Int)} : ∀ (n : Nat) (p5 : Nat) (ap5_0 : Option Addr) (cp5_0 : Nat) (xp5_0 : List Bool) (mp5_1 : Int) (mp5_2 : Int) (ap5_3 : Option Addr) (xp5_3 : List Int) (h : Heap), Sat ro h (.own ro (some ⟨p5, 0, none⟩) 1 [.slice ap5_0 xp5_0.length cp5_0, .int .i64 mp5_1, .int .i64 mp5_2, .slice ap5_3 xp5_3.length xp5_3.length] :: .row ap5_0 cp5_0 (xp5_0.map Value.bool) :: .own ro ap5_3 1 (xp5_3.map (Value.int .u8)) :: F) → F16.L4p lf n xp5_0 mp5_1 mp5_2 xp5_3 = some r → F16.Post F ro r (F16.L4 (callW Tryd.prog ora) lf ro n p5 0 h) := by
  intro n
  induction n with
  | zero => intro p5 ap5_0 cp5_0 xp5_0 mp5_1 mp5_2 ap5_3 xp5_3 h hs hp; cases hp
  | succ n ih =>
    intro p5 ap5_0 cp5_0 xp5_0 mp5_1 mp5_2 ap5_3 xp5_3 h hs hp
    unfold F16.L4
    unfold F16.L4p at hp
    have hs_400 := hs.pull 1 rfl
    have hs_401 := hs_400.dup
    have hs_402 := hs_401.pull 3 rfl
    have hs_403 := hs_402.pull 1 rfl
    have hs_404 := hs_403.pull 3 rfl
    obtain ⟨r_405, hx_406, hp⟩ := bindp_some hp
    obtain ⟨a_410, h_407, e_409, hs_408⟩ := F40.ok hora (ro := ro) (px0 := p5) (apx0_0 := ap5_0) (cpx0_0 := cp5_0) (xpx0_0 := xp5_0) (F := .row ap5_0 cp5_0 (xp5_0.map Value.bool) :: F) mp5_1 mp5_2 ap5_3 xp5_3 _ hs_404 hx_406
    refine st_ok (Q := F16.Post F ro r) isO e_409 ?_
    refine st_bool (Q := F16.Post F ro r) ?_
    refine st_if (Q := F16.Post F ro r) (fun hc_411 => ?_) (fun hc_411 => ?_)
    · replace hp := ifp_t hc_411 hp
      have hs_434 := hs_408.pull 1 rfl
      have hs_435 := hs_434.pull 2 rfl
      have hs_436 := hs_435.pull 2 rfl
      exact F16.J5_ok hora ih p5 ap5_0 _ xp5_0 r_405.2.1 r_405.2.2.1 a_410 r_405.2.2.2 _ hs_436 hp
    · replace hp := ifp_f hc_411 hp
      refine st_load (Q := F16.Post F ro r) isO hs_408 agg22 rfl ?_
      refine st_slice (Q := F16.Post F ro r) ?_
      have hs_437 := hs_408.tail
      have hs_438 := hs_437.pull 1 rfl
      have hs_439 := hs_438.tail
      cases hp
      exact ⟨a_410, _, rfl, hs_439⟩

def F16.J3p (lf : Nat) (xa1 : List Bool) : Option (List Int × Int) :=
  F16.L4p lf lf xa1 0 0 []

theorem F16.J3_ok {ora : Ora} (hora : HOra ora) {lf ro : Nat} {F : List Ent} {r : (List Int × Int)} (a1 : Option Addr) (c1 : Nat) (xa1 : List Bool) (h : Heap) (hs : Sat ro h (.row a1 c1 (xa1.map Value.bool) :: F)) (hp : F16.J3p lf xa1 = some r) : F16.Post F ro r (F16.J3 (callW Tryd.prog ora) lf ro a1 xa1.length c1 h) := by
  unfold F16.J3
  unfold F16.J3p at hp
  refine st_pushJ (Q := F16.Post F ro r) hs hs.low rfl fun h_398 _ hs_399 => ?_
  have hs_440 := hs_399.nilOwn ro 1
  have hs_441 := hs_440.pull 2 rfl
  have hs_442 := hs_441.pull 2 rfl
  exact F16.L4_ok hora lf h.next a1 _ xa1 0 0 none [] _ hs_442 hp

def F16.p (lf : Nat) (xax0 : List Bool) : Option (List Int × Int) :=
  ifp (decide ((xax0.length : Int) > 1048576)) (
    some ([], 4)) (
    F16.J3p lf xax0)

theorem F16.t_ok {ora : Ora} (hora : HOra ora) {lf ro : Nat} {F : List Ent} {r : (List Int × Int)} (ax0 : Option Addr) (cx0 : Nat) (xax0 : List Bool) (h : Heap) (hs : Sat ro h (.row ax0 cx0 (xax0.map Value.bool) :: F)) (hp : F16.p lf xax0 = some r) : F16.Post F ro r (F16.t (callW Tryd.prog ora) lf ro ax0 xax0.length cx0 h) := by
  unfold F16.t
  unfold F16.p at hp
  refine st_if (Q := F16.Post F ro r) (fun hc_394 => ?_) (fun hc_394 => ?_)
  · replace hp := ifp_t hc_394 hp
    have hs_395 := hs.nilOwn ro 1
    have hs_396 := hs_395.pull 1 rfl
    have hs_397 := hs_396.tail
    cases hp
    exact ⟨none, _, rfl, hs_397⟩
  · replace hp := ifp_f hc_394 hp
    exact F16.J3_ok hora ax0 _ xax0 _ hs hp

theorem F16.ok {ora : Ora} (hora : HOra ora) {lf ro : Nat} {F : List Ent} {r : (List Int × Int)} (ax0 : Option Addr) (cx0 : Nat) (xax0 : List Bool) (h : Heap) (hs : Sat ro h (.row ax0 cx0 (xax0.map Value.bool) :: F)) (hp : F16.p lf xax0 = some r) : F16.Post F ro r (callW Tryd.prog ora ro 16 [.slice ax0 xax0.length cx0] h) := by
  have h1 := F16.t_ok hora ax0 cx0 xax0 h hs hp
  have h2 : callW Tryd.prog ora ro 16 [.slice ax0 xax0.length cx0] h = _ := callW_body (hora.none _ _ _ _ (by decide)) Tryd.func16 (F16.le (callW Tryd.prog ora) lf ro ax0 xax0.length cx0 h) (F16.Post.ne h1)
  rw [h2]; exact h1

def F67.Post (F : List Ent) (ro : Nat) (r : (Int × Int)) (x : Out) : Prop := ∃ h', x = .ok (.tuple #[.int .i64 r.1, .int .i64 r.2]) h' ∧ Sat ro h' (F)
theorem F67.Post.ne {F : List Ent} {ro : Nat} {r : (Int × Int)} {x : Out} (hx : F67.Post F ro r x) : x ≠ .fail := by
  obtain ⟨h', rfl, _⟩ := hx
  simp

def F67.J9p (lf : Nat) (kb7p : List Bool → Int → Int → Int → Int → Option (Int × Int)) (xa19 : List Bool) (n20 : Int) (n21 : Int) (n22 : Int) (n23 : Int) : Option (Int × Int) :=
  letJ (fun (n58 : Int) => (
    kb7p xa19 n20 n21 n58 (IntKind.i64.wrap (n23 + 1)) : Option (Int × Int))) fun j60p =>
  bindp (idxp xa19 n23) fun x_452 =>
  ifp x_452 (
    j60p (IntKind.i64.wrap ((IntKind.i64.wrap (2 * n22)) + 1))) (
    j60p (IntKind.i64.wrap (2 * n22)))

theorem F67.J9_ok {ora : Ora} (hora : HOra ora) {lf ro : Nat} {F : List Ent} {r : (Int × Int)} {kb7p : List Bool → Int → Int → Int → Int → Option (Int × Int)} {kb7 : (Option Addr) → Nat → Nat → Int → Int → Int → Int → Heap → Out} (hkb7 : ∀ (a13 : Option Addr) (c13 : Nat) (xa13 : List Bool) (n14 : Int) (n15 : Int) (n16 : Int) (n17 : Int) (h : Heap), Sat ro h (.row a13 c13 (xa13.map Value.bool) :: F) → kb7p xa13 n14 n15 n16 n17 = some r → F67.Post F ro r (kb7 a13 xa13.length c13 n14 n15 n16 n17 h)) (a19 : Option Addr) (c19 : Nat) (xa19 : List Bool) (n20 : Int) (n21 : Int) (n22 : Int) (n23 : Int) (h : Heap) (hs : Sat ro h (.row a19 c19 (xa19.map Value.bool) :: F)) (hp : F67.J9p lf kb7p xa19 n20 n21 n22 n23 = some r) : F67.Post F ro r (F67.J9 (callW Tryd.prog ora) lf ro kb7 a19 xa19.length c19 n20 n21 n22 n23 h) := by
  unfold F67.J9
  unfold F67.J9p at hp
  refine st_letJ hp (fun j60p j60 => ∀ (n58 : Int) (h_455 : Heap), Sat ro h_455 (.row a19 c19 (xa19.map Value.bool) :: F) → j60p n58 = some r → F67.Post F ro r (j60 n58 h_455)) ?_ ?_
  · intro n58 h_455 hs hp
    exact hkb7 a19 _ xa19 n20 n21 n58 (IntKind.i64.wrap (n23 + 1)) _ hs hp
  · intro j60p j60 hj60 hp
    obtain ⟨x_452, hx_453, hp⟩ := bindp_some hp
    refine st_idxR (Q := F67.Post F ro r) (l := xa19) (f := Value.bool) isO isO hs und24 siz4 agg4 rfl hx_453 ?_
    refine st_bool (Q := F67.Post F ro r) ?_
    refine st_if (Q := F67.Post F ro r) (fun hc_454 => ?_) (fun hc_454 => ?_)
    · replace hp := ifp_t hc_454 hp
      exact hj60 (IntKind.i64.wrap ((IntKind.i64.wrap (2 * n22)) + 1)) _ hs hp
    · replace hp := ifp_f hc_454 hp
      exact hj60 (IntKind.i64.wrap (2 * n22)) _ hs hp

def F67.L7p (lf : Nat) : Nat → List Bool → Int → Int → Int → Int → Option (Int × Int)
  | 0, _, _, _, _, _ => none
  | n + 1, xa13, n14, n15, n16, n17 =>
  ifp (decide (n17 < IntKind.i64.wrap (n14 + n15))) (
    F67.J9p lf (F67.L7p lf n) xa13 n14 n15 n16 n17) (
    some (n16, 0))

theorem F67.L7_ok {ora : Ora} (hora : HOra ora) {lf ro : Nat} {F : List Ent} {r : (Int × Int)} : ∀ (n : Nat) (a13 : Option Addr) (c13 : Nat) (xa13 : List Bool) (n14 : Int) (n15 : Int) (n16 : Int) (n17 : Int) (h : Heap), Sat ro h (.row a13 c13 (xa13.map Value.bool) :: F) → F67.L7p lf n xa13 n14 n15 n16 n17 = some r → F67.Post F ro r (F67.L7 (callW Tryd.prog ora) lf ro n a13 xa13.length c13 n14 n15 n16 n17 h) := by
  intro n
  induction n with
  | zero => intro a13 c13 xa13 n14 n15 n16 n17 h hs hp; cases hp
  | succ n ih =>
    intro a13 c13 xa13 n14 n15 n16 n17 h hs hp
    unfold F67.L7
    unfold F67.L7p at hp
    refine st_if (Q := F67.Post F ro r) (fun hc_451 => ?_) (fun hc_451 => ?_)
    · replace hp := ifp_t hc_451 hp
      exact F67.J9_ok hora ih a13 _ xa13 n14 n15 n16 n17 _ hs hp
    · replace hp := ifp_f hc_451 hp
      have hs_456 := hs.tail
      cases hp
      exact ⟨_, rfl, hs_456⟩

def F67.J5p (lf : Nat) (xa9 : List Bool) (n10 : Int) (n11 : Int) : Option (Int × Int) :=
  F67.L7p lf lf xa9 n10 n11 0 n10

theorem F67.J5_ok {ora : Ora} (hora : HOra ora) {lf ro : Nat} {F : List Ent} {r : (Int × Int)} (a9 : Option Addr) (c9 : Nat) (xa9 : List Bool) (n10 : Int) (n11 : Int) (h : Heap) (hs : Sat ro h (.row a9 c9 (xa9.map Value.bool) :: F)) (hp : F67.J5p lf xa9 n10 n11 = some r) : F67.Post F ro r (F67.J5 (callW Tryd.prog ora) lf ro a9 xa9.length c9 n10 n11 h) := by
  unfold F67.J5
  unfold F67.J5p at hp
  exact F67.L7_ok hora lf a9 _ xa9 n10 n11 0 n10 _ hs hp

def F67.J3p (lf : Nat) (xa5 : List Bool) (n6 : Int) (n7 : Int) : Option (Int × Int) :=
  ifp (decide (n7 > IntKind.i64.wrap ((xa5.length : Int) - n6))) (
    some (0, 10)) (
    F67.J5p lf xa5 n6 n7)

theorem F67.J3_ok {ora : Ora} (hora : HOra ora) {lf ro : Nat} {F : List Ent} {r : (Int × Int)} (a5 : Option Addr) (c5 : Nat) (xa5 : List Bool) (n6 : Int) (n7 : Int) (h : Heap) (hs : Sat ro h (.row a5 c5 (xa5.map Value.bool) :: F)) (hp : F67.J3p lf xa5 n6 n7 = some r) : F67.Post F ro r (F67.J3 (callW Tryd.prog ora) lf ro a5 xa5.length c5 n6 n7 h) := by
  unfold F67.J3
  unfold F67.J3p at hp
  refine st_if (Q := F67.Post F ro r) (fun hc_449 => ?_) (fun hc_449 => ?_)
  · replace hp := ifp_t hc_449 hp
    have hs_450 := hs.tail
    cases hp
    exact ⟨_, rfl, hs_450⟩
  · replace hp := ifp_f hc_449 hp
    exact F67.J5_ok hora a5 _ xa5 n6 n7 _ hs hp

def F67.p (lf : Nat) (xax0 : List Bool) (x1 : Int) (x2 : Int) : Option (Int × Int) :=
  letJ (fun (n1 : Int) (n2 : Int) (b3 : Bool) => (
    ifp b3 (
      some (0, 3)) (
      F67.J3p lf xax0 n1 n2) : Option (Int × Int))) fun j4p =>
  ifp (decide (x2 < 0)) (
    j4p x1 x2 true) (
    ifp (decide (x2 > 62)) (
      j4p x1 x2 true) (
      ifp (decide (x1 < 0)) (
        j4p x1 x2 true) (
        j4p x1 x2 (decide (x1 > (xax0.length : Int))))))

theorem F67.t_ok {ora : Ora} (hora : HOra ora) {lf ro : Nat} {F : List Ent} {r : (Int × Int)} (ax0 : Option Addr) (cx0 : Nat) (xax0 : List Bool) (x1 : Int) (x2 : Int) (h : Heap) (hs : Sat ro h (.row ax0 cx0 (xax0.map Value.bool) :: F)) (hp : F67.p lf xax0 x1 x2 = some r) : F67.Post F ro r (F67.t (callW Tryd.prog ora) lf ro ax0 xax0.length cx0 x1 x2 h) := by
  unfold F67.t
  unfold F67.p at hp
  refine st_letJ hp (fun j4p j4 => ∀ (n1 : Int) (n2 : Int) (b3 : Bool), Sat ro h (.row ax0 cx0 (xax0.map Value.bool) :: F) → j4p n1 n2 b3 = some r → F67.Post F ro r (j4 n1 n2 b3)) ?_ ?_
  · intro n1 n2 b3 hs hp
    refine st_if (Q := F67.Post F ro r) (fun hc_447 => ?_) (fun hc_447 => ?_)
    · replace hp := ifp_t hc_447 hp
      have hs_448 := hs.tail
      cases hp
      exact ⟨_, rfl, hs_448⟩
    · replace hp := ifp_f hc_447 hp
      exact F67.J3_ok hora ax0 _ xax0 n1 n2 _ hs hp
  · intro j4p j4 hj4 hp
    refine st_if (Q := F67.Post F ro r) (fun hc_443 => ?_) (fun hc_443 => ?_)
    · replace hp := ifp_t hc_443 hp
      exact hj4 x1 x2 true hs hp
    · replace hp := ifp_f hc_443 hp
      refine st_if (Q := F67.Post F ro r) (fun hc_444 => ?_) (fun hc_444 => ?_)
      · replace hp := ifp_t hc_444 hp
        exact hj4 x1 x2 true hs hp
      · replace hp := ifp_f hc_444 hp
        refine st_if (Q := F67.Post F ro r) (fun hc_445 => ?_) (fun hc_445 => ?_)
        · replace hp := ifp_t hc_445 hp
          exact hj4 x1 x2 true hs hp
        · replace hp := ifp_f hc_445 hp
          exact hj4 x1 x2 (decide (x1 > (xax0.length : Int))) hs hp

theorem F67.ok {ora : Ora} (hora : HOra ora) {lf ro : Nat} {F : List Ent} {r : (Int × Int)} (ax0 : Option Addr) (cx0 : Nat) (xax0 : List Bool) (x1 : Int) (x2 : Int) (h : Heap) (hs : Sat ro h (.row ax0 cx0 (xax0.map Value.bool) :: F)) (hp : F67.p lf xax0 x1 x2 = some r) : F67.Post F ro r (callW Tryd.prog ora ro 67 [.slice ax0 xax0.length cx0, .int .i64 x1, .int .i64 x2] h) := by
  have h1 := F67.t_ok hora ax0 cx0 xax0 x1 x2 h hs hp
  have h2 : callW Tryd.prog ora ro 67 [.slice ax0 xax0.length cx0, .int .i64 x1, .int .i64 x2] h = _ := callW_body (hora.none _ _ _ _ (by decide)) Tryd.func67 (F67.le (callW Tryd.prog ora) lf ro ax0 xax0.length cx0 x1 x2 h) (F67.Post.ne h1)
  rw [h2]; exact h1

def F42.Post (F : List Ent) (ro : Nat) (r : (Bool)) (x : Out) : Prop := ∃ h', x = .ok (.bool r) h' ∧ Sat ro h' (F)
theorem F42.Post.ne {F : List Ent} {ro : Nat} {r : (Bool)} {x : Out} (hx : F42.Post F ro r x) : x ≠ .fail := by
  obtain ⟨h', rfl, _⟩ := hx
  simp

def F42.J4p (lf : Nat) (kb2p : List Bool → Int → Int → Option (Bool)) (xa5 : List Bool) (n6 : Int) (n7 : Int) : Option (Bool) :=
  bindp (idxp xa5 n7) fun x_458 =>
  ifp (!x_458) (
    some false) (
    kb2p xa5 n6 (IntKind.i64.wrap (n7 + 1)))

theorem F42.J4_ok {ora : Ora} (hora : HOra ora) {lf ro : Nat} {F : List Ent} {r : (Bool)} {kb2p : List Bool → Int → Int → Option (Bool)} {kb2 : (Option Addr) → Nat → Nat → Int → Int → Heap → Out} (hkb2 : ∀ (a1 : Option Addr) (c1 : Nat) (xa1 : List Bool) (n2 : Int) (n3 : Int) (h : Heap), Sat ro h (.row a1 c1 (xa1.map Value.bool) :: F) → kb2p xa1 n2 n3 = some r → F42.Post F ro r (kb2 a1 xa1.length c1 n2 n3 h)) (a5 : Option Addr) (c5 : Nat) (xa5 : List Bool) (n6 : Int) (n7 : Int) (h : Heap) (hs : Sat ro h (.row a5 c5 (xa5.map Value.bool) :: F)) (hp : F42.J4p lf kb2p xa5 n6 n7 = some r) : F42.Post F ro r (F42.J4 (callW Tryd.prog ora) lf ro kb2 a5 xa5.length c5 n6 n7 h) := by
  unfold F42.J4
  unfold F42.J4p at hp
  obtain ⟨x_458, hx_459, hp⟩ := bindp_some hp
  refine st_idxR (Q := F42.Post F ro r) (l := xa5) (f := Value.bool) isO isO hs und24 siz4 agg4 rfl hx_459 ?_
  refine st_bool (Q := F42.Post F ro r) ?_
  refine st_if (Q := F42.Post F ro r) (fun hc_460 => ?_) (fun hc_460 => ?_)
  · replace hp := ifp_t hc_460 hp
    have hs_461 := hs.tail
    cases hp
    exact ⟨_, rfl, hs_461⟩
  · replace hp := ifp_f hc_460 hp
    exact hkb2 a5 _ xa5 n6 (IntKind.i64.wrap (n7 + 1)) _ hs hp

def F42.L2p (lf : Nat) : Nat → List Bool → Int → Int → Option (Bool)
  | 0, _, _, _ => none
  | n + 1, xa1, n2, n3 =>
  ifp (decide (n3 < (xa1.length : Int))) (
    F42.J4p lf (F42.L2p lf n) xa1 n2 n3) (
    some (decide (IntKind.i64.wrap ((xa1.length : Int) - n2) < 12)))

theorem F42.L2_ok {ora : Ora} (hora : HOra ora) {lf ro : Nat} {F : List Ent} {r : (Bool)} : ∀ (n : Nat) (a1 : Option Addr) (c1 : Nat) (xa1 : List Bool) (n2 : Int) (n3 : Int) (h : Heap), Sat ro h (.row a1 c1 (xa1.map Value.bool) :: F) → F42.L2p lf n xa1 n2 n3 = some r → F42.Post F ro r (F42.L2 (callW Tryd.prog ora) lf ro n a1 xa1.length c1 n2 n3 h) := by
  intro n
  induction n with
  | zero => intro a1 c1 xa1 n2 n3 h hs hp; cases hp
  | succ n ih =>
    intro a1 c1 xa1 n2 n3 h hs hp
    unfold F42.L2
    unfold F42.L2p at hp
    refine st_if (Q := F42.Post F ro r) (fun hc_457 => ?_) (fun hc_457 => ?_)
    · replace hp := ifp_t hc_457 hp
      exact F42.J4_ok hora ih a1 _ xa1 n2 n3 _ hs hp
    · replace hp := ifp_f hc_457 hp
      have hs_462 := hs.tail
      cases hp
      exact ⟨_, rfl, hs_462⟩

def F42.p (lf : Nat) (xax0 : List Bool) (x1 : Int) : Option (Bool) :=
  F42.L2p lf lf xax0 x1 x1

theorem F42.t_ok {ora : Ora} (hora : HOra ora) {lf ro : Nat} {F : List Ent} {r : (Bool)} (ax0 : Option Addr) (cx0 : Nat) (xax0 : List Bool) (x1 : Int) (h : Heap) (hs : Sat ro h (.row ax0 cx0 (xax0.map Value.bool) :: F)) (hp : F42.p lf xax0 x1 = some r) : F42.Post F ro r (F42.t (callW Tryd.prog ora) lf ro ax0 xax0.length cx0 x1 h) := by
  unfold F42.t
  unfold F42.p at hp
  exact F42.L2_ok hora lf ax0 _ xax0 x1 x1 _ hs hp

theorem F42.ok {ora : Ora} (hora : HOra ora) {lf ro : Nat} {F : List Ent} {r : (Bool)} (ax0 : Option Addr) (cx0 : Nat) (xax0 : List Bool) (x1 : Int) (h : Heap) (hs : Sat ro h (.row ax0 cx0 (xax0.map Value.bool) :: F)) (hp : F42.p lf xax0 x1 = some r) : F42.Post F ro r (callW Tryd.prog ora ro 42 [.slice ax0 xax0.length cx0, .int .i64 x1] h) := by
  have h1 := F42.t_ok hora ax0 cx0 xax0 x1 h hs hp
  have h2 : callW Tryd.prog ora ro 42 [.slice ax0 xax0.length cx0, .int .i64 x1] h = _ := callW_body (hora.none _ _ _ _ (by decide)) Tryd.func42 (F42.le (callW Tryd.prog ora) lf ro ax0 xax0.length cx0 x1 h) (F42.Post.ne h1)
  rw [h2]; exact h1

def F68.Post (F : List Ent) (ro : Nat) (r : (Int × Int × List Int × Int)) (x : Out) : Prop := ∃ a2 h', x = .ok (.tuple #[.agg #[.int .i64 r.1, .int .i64 r.2.1, .slice a2 r.2.2.1.length r.2.2.1.length], .int .i64 r.2.2.2]) h' ∧ Sat ro h' (.own ro a2 1 (r.2.2.1.map (Value.int .u8)) :: F)
theorem F68.Post.ne {F : List Ent} {ro : Nat} {r : (Int × Int × List Int × Int)} {x : Out} (hx : F68.Post F ro r x) : x ≠ .fail := by
  obtain ⟨a2, h', rfl, _⟩ := hx
  simp

def F68.J14p (lf : Nat) (kb12p : List Bool → Int → Int → List Int → Int → Int → Int → Int → Option (Int × Int × List Int × Int)) (xa173 : List Bool) (mp174_0 : Int) (mp174_1 : Int) (xp174_2 : List Int) (mp175_0 : Int) (mp175_1 : Int) (n176 : Int) (n177 : Int) : Option (Int × Int × List Int × Int) :=
  bindp (F67.p lf xa173 mp174_0 8) fun r_511 =>
  ifp (r_511.2 != 0) (
    some (mp174_0, mp174_1, xp174_2, 10)) (
    bindp (appp 1 xp174_2 [IntKind.u8.wrap r_511.1]) fun x_530 =>
    kb12p xa173 (IntKind.i64.wrap (mp174_0 + 8)) mp174_1 x_530 mp175_0 mp175_1 n176 (IntKind.i64.wrap (n177 + 1)))

theorem F68.J14_ok {ora : Ora} (hora : HOra ora) {lf ro : Nat} {F : List Ent} {r : (Int × Int × List Int × Int)} {kb12p : List Bool → Int → Int → List Int → Int → Int → Int → Int → Option (Int × Int × List Int × Int)} {kb12 : (Option Addr) → Nat → Nat → Nat → Nat → Nat → Nat → Int → Int → Heap → Out} (hkb12 : ∀ (a167 : Option Addr) (c167 : Nat) (xa167 : List Bool) (p168 : Nat) (mp168_0 : Int) (mp168_1 : Int) (ap168_2 : Option Addr) (xp168_2 : List Int) (p169 : Nat) (mp169_0 : Int) (mp169_1 : Int) (n170 : Int) (n171 : Int) (h : Heap), Sat ro h (.row a167 c167 (xa167.map Value.bool) :: .own ro (some ⟨p168, 0, none⟩) 1 [.int .i64 mp168_0, .int .i64 mp168_1, .slice ap168_2 xp168_2.length xp168_2.length] :: .own ro ap168_2 1 (xp168_2.map (Value.int .u8)) :: .own ro (some ⟨p169, 0, none⟩) 1 [.int .i64 mp169_0, .int .i64 mp169_1, .slice none 0 0] :: F) → kb12p xa167 mp168_0 mp168_1 xp168_2 mp169_0 mp169_1 n170 n171 = some r → F68.Post F ro r (kb12 a167 xa167.length c167 p168 0 p169 0 n170 n171 h)) (a173 : Option Addr) (c173 : Nat) (xa173 : List Bool) (p174 : Nat) (mp174_0 : Int) (mp174_1 : Int) (ap174_2 : Option Addr) (xp174_2 : List Int) (p175 : Nat) (mp175_0 : Int) (mp175_1 : Int) (n176 : Int) (n177 : Int) (h : Heap) (hs : Sat ro h (.row a173 c173 (xa173.map Value.bool) :: .own ro (some ⟨p174, 0, none⟩) 1 [.int .i64 mp174_0, .int .i64 mp174_1, .slice ap174_2 xp174_2.length xp174_2.length] :: .own ro ap174_2 1 (xp174_2.map (Value.int .u8)) :: .own ro (some ⟨p175, 0, none⟩) 1 [.int .i64 mp175_0, .int .i64 mp175_1, .slice none 0 0] :: F)) (hp : F68.J14p lf kb12p xa173 mp174_0 mp174_1 xp174_2 mp175_0 mp175_1 n176 n177 = some r) : F68.Post F ro r (F68.J14 (callW Tryd.prog ora) lf ro kb12 a173 xa173.length c173 p174 0 p175 0 n176 n177 h) := by
  unfold F68.J14
  unfold F68.J14p at hp
  have hs_508 := hs.pull 1 rfl
  refine st_load (Q := F68.Post F ro r) isO hs_508 agg3 rfl ?_
  refine st_int (Q := F68.Post F ro r) ?_
  have hs_509 := hs_508.pull 1 rfl
  have hs_510 := hs_509.dup
  obtain ⟨r_511, hx_512, hp⟩ := bindp_some hp
  obtain ⟨h_513, e_515, hs_514⟩ := F67.ok hora (ro := ro) (F := .row a173 c173 (xa173.map Value.bool) :: .own ro (some ⟨p174, 0, none⟩) 1 [.int .i64 mp174_0, .int .i64 mp174_1, .slice ap174_2 xp174_2.length xp174_2.length] :: .own ro ap174_2 1 (xp174_2.map (Value.int .u8)) :: .own ro (some ⟨p175, 0, none⟩) 1 [.int .i64 mp175_0, .int .i64 mp175_1, .slice none 0 0] :: F) a173 c173 xa173 mp174_0 8 _ hs_510 hx_512
  refine st_ok (Q := F68.Post F ro r) isO e_515 ?_
  refine st_tup (Q := F68.Post F ro r) (l := [.int .i64 r_511.1, .int .i64 r_511.2]) ?_
  refine st_cons (Q := F68.Post F ro r) ?_
  refine st_int (Q := F68.Post F ro r) ?_
  refine st_cons (Q := F68.Post F ro r) ?_
  refine st_int (Q := F68.Post F ro r) ?_
  refine st_nil (Q := F68.Post F ro r) ?_
  refine st_if (Q := F68.Post F ro r) (fun hc_516 => ?_) (fun hc_516 => ?_)
  · replace hp := ifp_t hc_516 hp
    have hs_517 := hs_514.pull 1 rfl
    refine st_loadA (Q := F68.Post F ro r) isO hs_517 agg84 siz84 rfl ?_
    refine st_agg (Q := F68.Post F ro r) (l := [.int .i64 mp174_0, .int .i64 mp174_1, .slice ap174_2 xp174_2.length xp174_2.length]) ?_
    refine st_cons (Q := F68.Post F ro r) ?_
    refine st_int (Q := F68.Post F ro r) ?_
    refine st_cons (Q := F68.Post F ro r) ?_
    refine st_int (Q := F68.Post F ro r) ?_
    refine st_cons (Q := F68.Post F ro r) ?_
    refine st_slice (Q := F68.Post F ro r) ?_
    refine st_nil (Q := F68.Post F ro r) ?_
    have hs_518 := hs_517.pull 3 rfl
    refine st_storeA (Q := F68.Post F ro r) (vs := [.int .i64 mp174_0, .int .i64 mp174_1, .slice ap174_2 xp174_2.length xp174_2.length]) isO hs_518 siz84 rfl rfl rfl rfl fun h_519 hs_520 => ?_
    have hc_521 := readCells_at (o := 0) (n := 3) (cs := [.int .i64 mp174_0, .int .i64 mp174_1, .slice ap174_2 xp174_2.length xp174_2.length]) hs_520 rfl
    refine st_res (Q := F68.Post F ro r) (show resVals _ _ _ _ = some [.agg #[.int .i64 mp174_0, .int .i64 mp174_1, .slice ap174_2 xp174_2.length xp174_2.length], .int .i64 10] from res_cellA ((EF_get (by decide)).trans rfl) agg84 siz84 hc_521 (res_tmp ((EF_get (by decide)).trans rfl) (res_nil))) ?_
    have hs_522 := hs_520.tail
    have hs_523 := hs_522.tail
    have hs_524 := hs_523.tail
    cases hp
    exact ⟨ap174_2, _, rfl, hs_524⟩
  · replace hp := ifp_f hc_516 hp
    have hs_525 := hs_514.pull 1 rfl
    refine st_load (Q := F68.Post F ro r) isO hs_525 agg3 rfl ?_
    refine st_int (Q := F68.Post F ro r) ?_
    refine st_store (Q := F68.Post F ro r) isO hs_525 siz3 rfl (Nat.le_of_ble_eq_true rfl) fun h_526 hs_527 => ?_
    refine st_load (Q := F68.Post F ro r) isO hs_527 agg22 rfl ?_
    refine st_slice (Q := F68.Post F ro r) ?_
    refine st_pushJ (Q := F68.Post F ro r) hs_527 hs_527.low rfl fun h_528 _ hs_529 => ?_
    have hs_535 := hs_529.pull 3 rfl
    obtain ⟨x_530, hx_531, hp⟩ := bindp_some hp
    refine st_appO (Q := F68.Post F ro r) isO (l := xp174_2) (x := [IntKind.u8.wrap r_511.1]) (f := (Value.int .u8)) hs_535 (fun _ => rfl) und22 und22 one5 rfl rfl rfl hx_531 fun a_532 h_533 hs_534 => ?_
    refine st_slice (Q := F68.Post F ro r) ?_
    have hs_536 := hs_534.pull 2 rfl
    refine st_store (Q := F68.Post F ro r) isO hs_536 siz22 rfl (Nat.le_of_ble_eq_true rfl) fun h_537 hs_538 => ?_
    have hs_539 := hs_538.pull 2 rfl
    have hs_540 := hs_539.tail
    have hs_541 := hs_540.pull 3 rfl
    have hs_542 := hs_541.pull 2 rfl
    have hs_543 := hs_542.pull 2 rfl
    have hs_544 := hs_543.pull 3 rfl
    exact hkb12 a173 _ xa173 p174 (IntKind.i64.wrap (mp174_0 + 8)) mp174_1 a_532 x_530 p175 mp175_0 mp175_1 n176 (IntKind.i64.wrap (n177 + 1)) _ hs_544 hp

def F68.L12p (lf : Nat) : Nat → List Bool → Int → Int → List Int → Int → Int → Int → Int → Option (Int × Int × List Int × Int)
  | 0, _, _, _, _, _, _, _, _ => none
  | n + 1, xa167, mp168_0, mp168_1, xp168_2, mp169_0, mp169_1, n170, n171 =>
  ifp (decide (n171 < n170)) (
    F68.J14p lf (F68.L12p lf n) xa167 mp168_0 mp168_1 xp168_2 mp169_0 mp169_1 n170 n171) (
    some (mp168_0, mp168_1, xp168_2, 0))

theorem F68.L12_ok {ora : Ora} (hora : HOra ora) {lf ro : Nat} {F : List Ent} {r : (Int × Int × List Int × Int)} : ∀ (n : Nat) (a167 : Option Addr) (c167 : Nat) (xa167 : List Bool) (p168 : Nat) (mp168_0 : Int) (mp168_1 : Int) (ap168_2 : Option Addr) (xp168_2 : List Int) (p169 : Nat) (mp169_0 : Int) (mp169_1 : Int) (n170 : Int) (n171 : Int) (h : Heap), Sat ro h (.row a167 c167 (xa167.map Value.bool) :: .own ro (some ⟨p168, 0, none⟩) 1 [.int .i64 mp168_0, .int .i64 mp168_1, .slice ap168_2 xp168_2.length xp168_2.length] :: .own ro ap168_2 1 (xp168_2.map (Value.int .u8)) :: .own ro (some ⟨p169, 0, none⟩) 1 [.int .i64 mp169_0, .int .i64 mp169_1, .slice none 0 0] :: F) → F68.L12p lf n xa167 mp168_0 mp168_1 xp168_2 mp169_0 mp169_1 n170 n171 = some r → F68.Post F ro r (F68.L12 (callW Tryd.prog ora) lf ro n a167 xa167.length c167 p168 0 p169 0 n170 n171 h) := by
  intro n
  induction n with
  | zero => intro a167 c167 xa167 p168 mp168_0 mp168_1 ap168_2 xp168_2 p169 mp169_0 mp169_1 n170 n171 h hs hp; cases hp
  | succ n ih =>
    intro a167 c167 xa167 p168 mp168_0 mp168_1 ap168_2 xp168_2 p169 mp169_0 mp169_1 n170 n171 h hs hp
    unfold F68.L12
    unfold F68.L12p at hp
    refine st_if (Q := F68.Post F ro r) (fun hc_507 => ?_) (fun hc_507 => ?_)
    · replace hp := ifp_t hc_507 hp
      have hs_545 := hs.pull 3 rfl
      have hs_546 := hs_545.pull 3 rfl
      have hs_547 := hs_546.pull 3 rfl
      have hs_548 := hs_547.pull 3 rfl
      exact F68.J14_ok hora ih a167 _ xa167 p168 mp168_0 mp168_1 ap168_2 xp168_2 p169 mp169_0 mp169_1 n170 n171 _ hs_548 hp
    · replace hp := ifp_f hc_507 hp
      have hs_549 := hs.pull 1 rfl
      refine st_loadA (Q := F68.Post F ro r) isO hs_549 agg84 siz84 rfl ?_
      refine st_agg (Q := F68.Post F ro r) (l := [.int .i64 mp168_0, .int .i64 mp168_1, .slice ap168_2 xp168_2.length xp168_2.length]) ?_
      refine st_cons (Q := F68.Post F ro r) ?_
      refine st_int (Q := F68.Post F ro r) ?_
      refine st_cons (Q := F68.Post F ro r) ?_
      refine st_int (Q := F68.Post F ro r) ?_
      refine st_cons (Q := F68.Post F ro r) ?_
      refine st_slice (Q := F68.Post F ro r) ?_
      refine st_nil (Q := F68.Post F ro r) ?_
      have hs_550 := hs_549.pull 3 rfl
      refine st_storeA (Q := F68.Post F ro r) (vs := [.int .i64 mp168_0, .int .i64 mp168_1, .slice ap168_2 xp168_2.length xp168_2.length]) isO hs_550 siz84 rfl rfl rfl rfl fun h_551 hs_552 => ?_
      have hc_553 := readCells_at (o := 0) (n := 3) (cs := [.int .i64 mp168_0, .int .i64 mp168_1, .slice ap168_2 xp168_2.length xp168_2.length]) hs_552 rfl
      refine st_res (Q := F68.Post F ro r) (show resVals _ _ _ _ = some [.agg #[.int .i64 mp168_0, .int .i64 mp168_1, .slice ap168_2 xp168_2.length xp168_2.length], .int .i64 0] from res_cellA ((EF_get (by decide)).trans rfl) agg84 siz84 hc_553 (res_tmp ((EF_get (by decide)).trans rfl) (res_nil))) ?_
      have hs_554 := hs_552.tail
      have hs_555 := hs_554.tail
      have hs_556 := hs_555.tail
      cases hp
      exact ⟨ap168_2, _, rfl, hs_556⟩

def F68.J11p (lf : Nat) (xa162 : List Bool) (mp163_0 : Int) (mp163_1 : Int) (xp163_2 : List Int) (mp164_0 : Int) (mp164_1 : Int) (n165 : Int) : Option (Int × Int × List Int × Int) :=
  F68.L12p lf lf xa162 mp163_0 mp163_1 xp163_2 mp164_0 mp164_1 n165 0

theorem F68.J11_ok {ora : Ora} (hora : HOra ora) {lf ro : Nat} {F : List Ent} {r : (Int × Int × List Int × Int)} (a162 : Option Addr) (c162 : Nat) (xa162 : List Bool) (p163 : Nat) (mp163_0 : Int) (mp163_1 : Int) (ap163_2 : Option Addr) (xp163_2 : List Int) (p164 : Nat) (mp164_0 : Int) (mp164_1 : Int) (n165 : Int) (h : Heap) (hs : Sat ro h (.row a162 c162 (xa162.map Value.bool) :: .own ro (some ⟨p163, 0, none⟩) 1 [.int .i64 mp163_0, .int .i64 mp163_1, .slice ap163_2 xp163_2.length xp163_2.length] :: .own ro ap163_2 1 (xp163_2.map (Value.int .u8)) :: .own ro (some ⟨p164, 0, none⟩) 1 [.int .i64 mp164_0, .int .i64 mp164_1, .slice none 0 0] :: F)) (hp : F68.J11p lf xa162 mp163_0 mp163_1 xp163_2 mp164_0 mp164_1 n165 = some r) : F68.Post F ro r (F68.J11 (callW Tryd.prog ora) lf ro a162 xa162.length c162 p163 0 p164 0 n165 h) := by
  unfold F68.J11
  unfold F68.J11p at hp
  have hs_557 := hs.pull 3 rfl
  have hs_558 := hs_557.pull 3 rfl
  have hs_559 := hs_558.pull 3 rfl
  have hs_560 := hs_559.pull 3 rfl
  exact F68.L12_ok hora lf a162 _ xa162 p163 mp163_0 mp163_1 ap163_2 xp163_2 p164 mp164_0 mp164_1 n165 0 _ hs_560 hp

def F68.J4p (lf : Nat) (xa57 : List Bool) (mp58_0 : Int) (mp58_1 : Int) (xp58_2 : List Int) (mp59_0 : Int) (mp59_1 : Int) (n60 : Int) : Option (Int × Int × List Int × Int) :=
  ifp (n60 == 0) (
    bindp (F67.p lf xa57 (IntKind.i64.wrap (mp58_0 + 5)) 11) fun r_490 =>
    ifp (r_490.2 != 0) (
      some ((IntKind.i64.wrap (mp58_0 + 5)), mp58_1, xp58_2, 10)) (
      F68.J11p lf xa57 (IntKind.i64.wrap ((IntKind.i64.wrap (mp58_0 + 5)) + 11)) mp58_1 xp58_2 mp59_0 mp59_1 (IntKind.i64.wrap (r_490.1 + 31)))) (
    F68.J11p lf xa57 (IntKind.i64.wrap (mp58_0 + 5)) mp58_1 xp58_2 mp59_0 mp59_1 n60)

theorem F68.J4_ok {ora : Ora} (hora : HOra ora) {lf ro : Nat} {F : List Ent} {r : (Int × Int × List Int × Int)} (a57 : Option Addr) (c57 : Nat) (xa57 : List Bool) (p58 : Nat) (mp58_0 : Int) (mp58_1 : Int) (ap58_2 : Option Addr) (xp58_2 : List Int) (p59 : Nat) (mp59_0 : Int) (mp59_1 : Int) (n60 : Int) (h : Heap) (hs : Sat ro h (.row a57 c57 (xa57.map Value.bool) :: .own ro (some ⟨p58, 0, none⟩) 1 [.int .i64 mp58_0, .int .i64 mp58_1, .slice ap58_2 xp58_2.length xp58_2.length] :: .own ro ap58_2 1 (xp58_2.map (Value.int .u8)) :: .own ro (some ⟨p59, 0, none⟩) 1 [.int .i64 mp59_0, .int .i64 mp59_1, .slice none 0 0] :: F)) (hp : F68.J4p lf xa57 mp58_0 mp58_1 xp58_2 mp59_0 mp59_1 n60 = some r) : F68.Post F ro r (F68.J4 (callW Tryd.prog ora) lf ro a57 xa57.length c57 p58 0 p59 0 n60 h) := by
  unfold F68.J4
  unfold F68.J4p at hp
  have hs_484 := hs.pull 1 rfl
  refine st_load (Q := F68.Post F ro r) isO hs_484 agg3 rfl ?_
  refine st_int (Q := F68.Post F ro r) ?_
  refine st_store (Q := F68.Post F ro r) isO hs_484 siz3 rfl (Nat.le_of_ble_eq_true rfl) fun h_485 hs_486 => ?_
  refine st_if (Q := F68.Post F ro r) (fun hc_487 => ?_) (fun hc_487 => ?_)
  · replace hp := ifp_t hc_487 hp
    refine st_load (Q := F68.Post F ro r) isO hs_486 agg3 rfl ?_
    refine st_int (Q := F68.Post F ro r) ?_
    have hs_488 := hs_486.pull 1 rfl
    have hs_489 := hs_488.dup
    obtain ⟨r_490, hx_491, hp⟩ := bindp_some hp
    obtain ⟨h_492, e_494, hs_493⟩ := F67.ok hora (ro := ro) (F := .row a57 c57 (xa57.map Value.bool) :: .own ro (some ⟨p58, 0, none⟩) 1 [.int .i64 (IntKind.i64.wrap (mp58_0 + 5)), .int .i64 mp58_1, .slice ap58_2 xp58_2.length xp58_2.length] :: .own ro ap58_2 1 (xp58_2.map (Value.int .u8)) :: .own ro (some ⟨p59, 0, none⟩) 1 [.int .i64 mp59_0, .int .i64 mp59_1, .slice none 0 0] :: F) a57 c57 xa57 (IntKind.i64.wrap (mp58_0 + 5)) 11 _ hs_489 hx_491
    refine st_ok (Q := F68.Post F ro r) isO e_494 ?_
    refine st_tup (Q := F68.Post F ro r) (l := [.int .i64 r_490.1, .int .i64 r_490.2]) ?_
    refine st_cons (Q := F68.Post F ro r) ?_
    refine st_int (Q := F68.Post F ro r) ?_
    refine st_cons (Q := F68.Post F ro r) ?_
    refine st_int (Q := F68.Post F ro r) ?_
    refine st_nil (Q := F68.Post F ro r) ?_
    refine st_if (Q := F68.Post F ro r) (fun hc_495 => ?_) (fun hc_495 => ?_)
    · replace hp := ifp_t hc_495 hp
      have hs_496 := hs_493.pull 1 rfl
      refine st_loadA (Q := F68.Post F ro r) isO hs_496 agg84 siz84 rfl ?_
      refine st_agg (Q := F68.Post F ro r) (l := [.int .i64 (IntKind.i64.wrap (mp58_0 + 5)), .int .i64 mp58_1, .slice ap58_2 xp58_2.length xp58_2.length]) ?_
      refine st_cons (Q := F68.Post F ro r) ?_
      refine st_int (Q := F68.Post F ro r) ?_
      refine st_cons (Q := F68.Post F ro r) ?_
      refine st_int (Q := F68.Post F ro r) ?_
      refine st_cons (Q := F68.Post F ro r) ?_
      refine st_slice (Q := F68.Post F ro r) ?_
      refine st_nil (Q := F68.Post F ro r) ?_
      have hs_497 := hs_496.pull 3 rfl
      refine st_storeA (Q := F68.Post F ro r) (vs := [.int .i64 (IntKind.i64.wrap (mp58_0 + 5)), .int .i64 mp58_1, .slice ap58_2 xp58_2.length xp58_2.length]) isO hs_497 siz84 rfl rfl rfl rfl fun h_498 hs_499 => ?_
      have hc_500 := readCells_at (o := 0) (n := 3) (cs := [.int .i64 (IntKind.i64.wrap (mp58_0 + 5)), .int .i64 mp58_1, .slice ap58_2 xp58_2.length xp58_2.length]) hs_499 rfl
      refine st_res (Q := F68.Post F ro r) (show resVals _ _ _ _ = some [.agg #[.int .i64 (IntKind.i64.wrap (mp58_0 + 5)), .int .i64 mp58_1, .slice ap58_2 xp58_2.length xp58_2.length], .int .i64 10] from res_cellA ((EF_get (by decide)).trans rfl) agg84 siz84 hc_500 (res_tmp ((EF_get (by decide)).trans rfl) (res_nil))) ?_
      have hs_501 := hs_499.tail
      have hs_502 := hs_501.tail
      have hs_503 := hs_502.tail
      cases hp
      exact ⟨ap58_2, _, rfl, hs_503⟩
    · replace hp := ifp_f hc_495 hp
      have hs_504 := hs_493.pull 1 rfl
      refine st_load (Q := F68.Post F ro r) isO hs_504 agg3 rfl ?_
      refine st_int (Q := F68.Post F ro r) ?_
      refine st_store (Q := F68.Post F ro r) isO hs_504 siz3 rfl (Nat.le_of_ble_eq_true rfl) fun h_505 hs_506 => ?_
      have hs_561 := hs_506.pull 3 rfl
      have hs_562 := hs_561.pull 3 rfl
      have hs_563 := hs_562.pull 2 rfl
      have hs_564 := hs_563.pull 3 rfl
      exact F68.J11_ok hora a57 _ xa57 p58 (IntKind.i64.wrap ((IntKind.i64.wrap (mp58_0 + 5)) + 11)) mp58_1 ap58_2 xp58_2 p59 mp59_0 mp59_1 (IntKind.i64.wrap (r_490.1 + 31)) _ hs_564 hp
  · replace hp := ifp_f hc_487 hp
    have hs_565 := hs_486.pull 3 rfl
    have hs_566 := hs_565.pull 3 rfl
    have hs_567 := hs_566.pull 2 rfl
    have hs_568 := hs_567.pull 3 rfl
    exact F68.J11_ok hora a57 _ xa57 p58 (IntKind.i64.wrap (mp58_0 + 5)) mp58_1 ap58_2 xp58_2 p59 mp59_0 mp59_1 n60 _ hs_568 hp

def F68.p (lf : Nat) (xax0 : List Bool) (x1_0 : Int) (x1_1 : Int) (xax1_2 : List Int) : Option (Int × Int × List Int × Int) :=
  bindp (F67.p lf xax0 x1_0 5) fun r_470 =>
  ifp (r_470.2 != 0) (
    some (x1_0, x1_1, xax1_2, 10)) (
    F68.J4p lf xax0 x1_0 x1_1 xax1_2 0 0 r_470.1)

theorem F68.t_ok {ora : Ora} (hora : HOra ora) {lf ro : Nat} {F : List Ent} {r : (Int × Int × List Int × Int)} (ax0 : Option Addr) (cx0 : Nat) (xax0 : List Bool) (x1_0 : Int) (x1_1 : Int) (ax1_2 : Option Addr) (xax1_2 : List Int) (h : Heap) (hs : Sat ro h (.row ax0 cx0 (xax0.map Value.bool) :: .own ro ax1_2 1 (xax1_2.map (Value.int .u8)) :: F)) (hp : F68.p lf xax0 x1_0 x1_1 xax1_2 = some r) : F68.Post F ro r (F68.t (callW Tryd.prog ora) lf ro ax0 xax0.length cx0 x1_0 x1_1 ax1_2 xax1_2.length xax1_2.length h) := by
  unfold F68.t
  unfold F68.p at hp
  refine st_pushJ (Q := F68.Post F ro r) hs hs.low rfl fun h_463 _ hs_464 => ?_
  refine st_pushJ (Q := F68.Post F ro r) hs_464 hs_464.low rfl fun h_465 _ hs_466 => ?_
  have hs_467 := hs_466.pull 1 rfl
  refine st_load (Q := F68.Post F ro r) isO hs_467 agg3 rfl ?_
  refine st_int (Q := F68.Post F ro r) ?_
  have hs_468 := hs_467.pull 2 rfl
  have hs_469 := hs_468.dup
  obtain ⟨r_470, hx_471, hp⟩ := bindp_some hp
  obtain ⟨h_472, e_474, hs_473⟩ := F67.ok hora (ro := ro) (F := .row ax0 cx0 (xax0.map Value.bool) :: .own ro (some ⟨h.next, 0, none⟩) 1 [.int .i64 x1_0, .int .i64 x1_1, .slice ax1_2 xax1_2.length xax1_2.length] :: .own ro (some ⟨h_463.next, 0, none⟩) 1 [.int .i64 0, .int .i64 0, .slice none 0 0] :: .own ro ax1_2 1 (xax1_2.map (Value.int .u8)) :: F) ax0 cx0 xax0 x1_0 5 _ hs_469 hx_471
  refine st_ok (Q := F68.Post F ro r) isO e_474 ?_
  refine st_tup (Q := F68.Post F ro r) (l := [.int .i64 r_470.1, .int .i64 r_470.2]) ?_
  refine st_cons (Q := F68.Post F ro r) ?_
  refine st_int (Q := F68.Post F ro r) ?_
  refine st_cons (Q := F68.Post F ro r) ?_
  refine st_int (Q := F68.Post F ro r) ?_
  refine st_nil (Q := F68.Post F ro r) ?_
  refine st_if (Q := F68.Post F ro r) (fun hc_475 => ?_) (fun hc_475 => ?_)
  · replace hp := ifp_t hc_475 hp
    have hs_476 := hs_473.pull 1 rfl
    refine st_loadA (Q := F68.Post F ro r) isO hs_476 agg84 siz84 rfl ?_
    refine st_agg (Q := F68.Post F ro r) (l := [.int .i64 x1_0, .int .i64 x1_1, .slice ax1_2 xax1_2.length xax1_2.length]) ?_
    refine st_cons (Q := F68.Post F ro r) ?_
    refine st_int (Q := F68.Post F ro r) ?_
    refine st_cons (Q := F68.Post F ro r) ?_
    refine st_int (Q := F68.Post F ro r) ?_
    refine st_cons (Q := F68.Post F ro r) ?_
    refine st_slice (Q := F68.Post F ro r) ?_
    refine st_nil (Q := F68.Post F ro r) ?_
    have hs_477 := hs_476.pull 2 rfl
    refine st_storeA (Q := F68.Post F ro r) (vs := [.int .i64 x1_0, .int .i64 x1_1, .slice ax1_2 xax1_2.length xax1_2.length]) isO hs_477 siz84 rfl rfl rfl rfl fun h_478 hs_479 => ?_
    have hc_480 := readCells_at (o := 0) (n := 3) (cs := [.int .i64 x1_0, .int .i64 x1_1, .slice ax1_2 xax1_2.length xax1_2.length]) hs_479 rfl
    refine st_res (Q := F68.Post F ro r) (show resVals _ _ _ _ = some [.agg #[.int .i64 x1_0, .int .i64 x1_1, .slice ax1_2 xax1_2.length xax1_2.length], .int .i64 10] from res_cellA ((EF_get (by decide)).trans rfl) agg84 siz84 hc_480 (res_tmp ((EF_get (by decide)).trans rfl) (res_nil))) ?_
    have hs_481 := hs_479.tail
    have hs_482 := hs_481.tail
    have hs_483 := hs_482.tail
    cases hp
    exact ⟨ax1_2, _, rfl, hs_483⟩
  · replace hp := ifp_f hc_475 hp
    have hs_569 := hs_473.pull 2 rfl
    have hs_570 := hs_569.pull 3 rfl
    have hs_571 := hs_570.pull 3 rfl
    have hs_572 := hs_571.pull 3 rfl
    exact F68.J4_ok hora ax0 _ xax0 h.next x1_0 x1_1 ax1_2 xax1_2 h_463.next 0 0 r_470.1 _ hs_572 hp

theorem F68.ok {ora : Ora} (hora : HOra ora) {lf ro : Nat} {F : List Ent} {r : (Int × Int × List Int × Int)} (ax0 : Option Addr) (cx0 : Nat) (xax0 : List Bool) (x1_0 : Int) (x1_1 : Int) (ax1_2 : Option Addr) (xax1_2 : List Int) (h : Heap) (hs : Sat ro h (.row ax0 cx0 (xax0.map Value.bool) :: .own ro ax1_2 1 (xax1_2.map (Value.int .u8)) :: F)) (hp : F68.p lf xax0 x1_0 x1_1 xax1_2 = some r) : F68.Post F ro r (callW Tryd.prog ora ro 68 [.slice ax0 xax0.length cx0, .agg #[.int .i64 x1_0, .int .i64 x1_1, .slice ax1_2 xax1_2.length xax1_2.length]] h) := by
  have h1 := F68.t_ok hora ax0 cx0 xax0 x1_0 x1_1 ax1_2 xax1_2 h hs hp
  have h2 : callW Tryd.prog ora ro 68 [.slice ax0 xax0.length cx0, .agg #[.int .i64 x1_0, .int .i64 x1_1, .slice ax1_2 xax1_2.length xax1_2.length]] h = _ := callW_body (hora.none _ _ _ _ (by decide)) Tryd.func68 (F68.le (callW Tryd.prog ora) lf ro ax0 xax0.length cx0 x1_0 x1_1 ax1_2 xax1_2.length xax1_2.length h) (F68.Post.ne h1)
  rw [h2]; exact h1

def F43.Post (F : List Ent) (ro : Nat) (r : (Int × Int × List Int × Int)) (x : Out) : Prop := ∃ a2 h', x = .ok (.tuple #[.agg #[.int .i64 r.1, .int .i64 r.2.1, .slice a2 r.2.2.1.length r.2.2.1.length], .int .i64 r.2.2.2]) h' ∧ Sat ro h' (.own ro a2 1 (r.2.2.1.map (Value.int .u8)) :: F)
theorem F43.Post.ne {F : List Ent} {ro : Nat} {r : (Int × Int × List Int × Int)} {x : Out} (hx : F43.Post F ro r x) : x ≠ .fail := by
  obtain ⟨a2, h', rfl, _⟩ := hx
  simp

def F43.J15p (lf : Nat) (mp200_0 : Int) (mp200_1 : Int) (xp200_2 : List Int) (mp201_0 : Int) (mp201_1 : Int) (n202 : Int) (n203 : Int) : Option (Int × Int × List Int × Int) :=
  letJ (fun (mj390_0_0 : Int) (mj390_0_1 : Int) (xj390_0_2 : List Int) => (
    some (mj390_0_0, mj390_0_1, xj390_0_2, 0) : Option (Int × Int × List Int × Int))) fun j390p =>
  bindp (F61.p lf mp200_1 n202) fun r_667 =>
  bindp (F58.p lf r_667 n203) fun r_672 =>
  ifp (r_672.toList == (⟨#[]⟩ : ByteArray).toList) (
    some (mp200_0, mp200_1, xp200_2, 22)) (
    bindp (appp 1 xp200_2 (bytp r_672)) fun x_686 =>
    j390p (IntKind.i64.wrap (mp200_0 + 5)) mp200_1 x_686)

theorem F43.J15_ok {ora : Ora} (hora : HOra ora) {lf ro : Nat} {F : List Ent} {r : (Int × Int × List Int × Int)} (p200 : Nat) (mp200_0 : Int) (mp200_1 : Int) (ap200_2 : Option Addr) (xp200_2 : List Int) (p201 : Nat) (mp201_0 : Int) (mp201_1 : Int) (n202 : Int) (n203 : Int) (h : Heap) (hs : Sat ro h (.own ro (some ⟨p200, 0, none⟩) 1 [.int .i64 mp200_0, .int .i64 mp200_1, .slice ap200_2 xp200_2.length xp200_2.length] :: .own ro ap200_2 1 (xp200_2.map (Value.int .u8)) :: .own ro (some ⟨p201, 0, none⟩) 1 [.int .i64 mp201_0, .int .i64 mp201_1, .slice none 0 0] :: F)) (hp : F43.J15p lf mp200_0 mp200_1 xp200_2 mp201_0 mp201_1 n202 n203 = some r) : F43.Post F ro r (F43.J15 (callW Tryd.prog ora) lf ro p200 0 p201 0 n202 n203 h) := by
  unfold F43.J15
  unfold F43.J15p at hp
  refine st_letJ hp (fun j390p j390 => ∀ (mj390_0_0 : Int) (mj390_0_1 : Int) (aj390_0_2 : Option Addr) (xj390_0_2 : List Int) (h_698 : Heap), Sat ro h_698 (.own ro (some ⟨p200, 0, none⟩) 1 [.int .i64 mj390_0_0, .int .i64 mj390_0_1, .slice aj390_0_2 xj390_0_2.length xj390_0_2.length] :: .own ro (some ⟨p201, 0, none⟩) 1 [.int .i64 mp201_0, .int .i64 mp201_1, .slice none 0 0] :: .own ro aj390_0_2 1 (xj390_0_2.map (Value.int .u8)) :: F) → j390p mj390_0_0 mj390_0_1 xj390_0_2 = some r → F43.Post F ro r (j390 h_698)) ?_ ?_
  · intro mj390_0_0 mj390_0_1 aj390_0_2 xj390_0_2 h_698 hs hp
    refine st_loadA (Q := F43.Post F ro r) isO hs agg84 siz84 rfl ?_
    refine st_agg (Q := F43.Post F ro r) (l := [.int .i64 mj390_0_0, .int .i64 mj390_0_1, .slice aj390_0_2 xj390_0_2.length xj390_0_2.length]) ?_
    refine st_cons (Q := F43.Post F ro r) ?_
    refine st_int (Q := F43.Post F ro r) ?_
    refine st_cons (Q := F43.Post F ro r) ?_
    refine st_int (Q := F43.Post F ro r) ?_
    refine st_cons (Q := F43.Post F ro r) ?_
    refine st_slice (Q := F43.Post F ro r) ?_
    refine st_nil (Q := F43.Post F ro r) ?_
    have hs_699 := hs.pull 1 rfl
    refine st_storeA (Q := F43.Post F ro r) (vs := [.int .i64 mj390_0_0, .int .i64 mj390_0_1, .slice aj390_0_2 xj390_0_2.length xj390_0_2.length]) isO hs_699 siz84 rfl rfl rfl rfl fun h_700 hs_701 => ?_
    have hc_702 := readCells_at (o := 0) (n := 3) (cs := [.int .i64 mj390_0_0, .int .i64 mj390_0_1, .slice aj390_0_2 xj390_0_2.length xj390_0_2.length]) hs_701 rfl
    refine st_res (Q := F43.Post F ro r) (show resVals _ _ _ _ = some [.agg #[.int .i64 mj390_0_0, .int .i64 mj390_0_1, .slice aj390_0_2 xj390_0_2.length xj390_0_2.length], .int .i64 0] from res_cellA ((EF_get (by decide)).trans rfl) agg84 siz84 hc_702 (res_tmp ((EF_get (by decide)).trans rfl) (res_nil))) ?_
    have hs_703 := hs_701.tail
    have hs_704 := hs_703.tail
    cases hp
    exact ⟨aj390_0_2, _, rfl, hs_704⟩
  · intro j390p j390 hj390 hp
    refine st_load (Q := F43.Post F ro r) isO hs agg3 rfl ?_
    refine st_int (Q := F43.Post F ro r) ?_
    obtain ⟨r_667, hx_668, hp⟩ := bindp_some hp
    obtain ⟨h_669, e_671, hs_670⟩ := F61.ok hora (ro := ro) (F := .own ro (some ⟨p200, 0, none⟩) 1 [.int .i64 mp200_0, .int .i64 mp200_1, .slice ap200_2 xp200_2.length xp200_2.length] :: .own ro ap200_2 1 (xp200_2.map (Value.int .u8)) :: .own ro (some ⟨p201, 0, none⟩) 1 [.int .i64 mp201_0, .int .i64 mp201_1, .slice none 0 0] :: F) mp200_1 n202 _ hs hx_668
    refine st_ok (Q := F43.Post F ro r) isO e_671 ?_
    refine st_int (Q := F43.Post F ro r) ?_
    obtain ⟨r_672, hx_673, hp⟩ := bindp_some hp
    obtain ⟨h_674, e_676, hs_675⟩ := F58.ok hora (ro := ro) (F := .own ro (some ⟨p200, 0, none⟩) 1 [.int .i64 mp200_0, .int .i64 mp200_1, .slice ap200_2 xp200_2.length xp200_2.length] :: .own ro ap200_2 1 (xp200_2.map (Value.int .u8)) :: .own ro (some ⟨p201, 0, none⟩) 1 [.int .i64 mp201_0, .int .i64 mp201_1, .slice none 0 0] :: F) r_667 n203 _ hs_670 hx_673
    refine st_ok (Q := F43.Post F ro r) isO e_676 ?_
    refine st_str (Q := F43.Post F ro r) ?_
    refine st_if (Q := F43.Post F ro r) (fun hc_677 => ?_) (fun hc_677 => ?_)
    · replace hp := ifp_t hc_677 hp
      refine st_loadA (Q := F43.Post F ro r) isO hs_675 agg84 siz84 rfl ?_
      refine st_agg (Q := F43.Post F ro r) (l := [.int .i64 mp200_0, .int .i64 mp200_1, .slice ap200_2 xp200_2.length xp200_2.length]) ?_
      refine st_cons (Q := F43.Post F ro r) ?_
      refine st_int (Q := F43.Post F ro r) ?_
      refine st_cons (Q := F43.Post F ro r) ?_
      refine st_int (Q := F43.Post F ro r) ?_
      refine st_cons (Q := F43.Post F ro r) ?_
      refine st_slice (Q := F43.Post F ro r) ?_
      refine st_nil (Q := F43.Post F ro r) ?_
      have hs_678 := hs_675.pull 2 rfl
      refine st_storeA (Q := F43.Post F ro r) (vs := [.int .i64 mp200_0, .int .i64 mp200_1, .slice ap200_2 xp200_2.length xp200_2.length]) isO hs_678 siz84 rfl rfl rfl rfl fun h_679 hs_680 => ?_
      have hc_681 := readCells_at (o := 0) (n := 3) (cs := [.int .i64 mp200_0, .int .i64 mp200_1, .slice ap200_2 xp200_2.length xp200_2.length]) hs_680 rfl
      refine st_res (Q := F43.Post F ro r) (show resVals _ _ _ _ = some [.agg #[.int .i64 mp200_0, .int .i64 mp200_1, .slice ap200_2 xp200_2.length xp200_2.length], .int .i64 22] from res_cellA ((EF_get (by decide)).trans rfl) agg84 siz84 hc_681 (res_tmp ((EF_get (by decide)).trans rfl) (res_nil))) ?_
      have hs_682 := hs_680.tail
      have hs_683 := hs_682.tail
      cases hp
      exact ⟨ap200_2, _, rfl, hs_683⟩
    · replace hp := ifp_f hc_677 hp
      refine st_load (Q := F43.Post F ro r) isO hs_675 agg3 rfl ?_
      refine st_int (Q := F43.Post F ro r) ?_
      refine st_store (Q := F43.Post F ro r) isO hs_675 siz3 rfl (Nat.le_of_ble_eq_true rfl) fun h_684 hs_685 => ?_
      refine st_load (Q := F43.Post F ro r) isO hs_685 agg22 rfl ?_
      refine st_slice (Q := F43.Post F ro r) ?_
      have hs_691 := hs_685.pull 1 rfl
      obtain ⟨x_686, hx_687, hp⟩ := bindp_some hp
      refine st_appS (Q := F43.Post F ro r) (l := xp200_2) isO hs_691 und22 und9 one5 rfl rfl hx_687 fun a_688 h_689 hs_690 => ?_
      refine st_slice (Q := F43.Post F ro r) ?_
      have hs_692 := hs_690.pull 1 rfl
      refine st_store (Q := F43.Post F ro r) isO hs_692 siz22 rfl (Nat.le_of_ble_eq_true rfl) fun h_693 hs_694 => ?_
      have hs_695 := hs_694.pull 1 rfl
      have hs_696 := hs_695.pull 2 rfl
      have hs_697 := hs_696.pull 2 rfl
      exact hj390 (IntKind.i64.wrap (mp200_0 + 5)) mp200_1 a_688 x_686 _ hs_697 hp

def F43.J4p (lf : Nat) (xa69 : List Bool) (mp70_0 : Int) (mp70_1 : Int) (xp70_2 : List Int) (mp71_0 : Int) (mp71_1 : Int) (n72 : Int) : Option (Int × Int × List Int × Int) :=
  bindp (F57.p lf mp70_1) fun r_600 =>
  bindp (F58.p lf mp70_1 n72) fun r_607 =>
  letJ (fun (mj706_0_0 : Int) (mj706_0_1 : Int) (xj706_0_2 : List Int) => (
    some (mj706_0_0, mj706_0_1, xj706_0_2, 0) : Option (Int × Int × List Int × Int))) fun j706p =>
  ifp (!(r_607.toList == (⟨#[]⟩ : ByteArray).toList)) (
    bindp (appp 1 xp70_2 (bytp r_607)) fun x_613 =>
    j706p (IntKind.i64.wrap (mp70_0 + r_600)) mp70_1 x_613) (
    bindp (F60.p lf mp70_1 n72) fun r_627 =>
    ifp (decide (r_627 ≥ 0)) (
      bindp (F60.p lf mp70_1 n72) fun r_633 =>
      j706p (IntKind.i64.wrap (mp70_0 + r_600)) r_633 xp70_2) (
      bindp (F61.p lf mp70_1 n72) fun r_645 =>
      ifp (decide (r_645 ≥ 0)) (
        bindp (F67.p lf xa69 (IntKind.i64.wrap (mp70_0 + r_600)) 5) fun r_653 =>
        ifp (r_653.2 != 0) (
          some ((IntKind.i64.wrap (mp70_0 + r_600)), mp70_1, xp70_2, 10)) (
          F43.J15p lf (IntKind.i64.wrap (mp70_0 + r_600)) mp70_1 xp70_2 mp71_0 mp71_1 n72 r_653.1)) (
        ifp (mp70_1 == 3) (
          some ((IntKind.i64.wrap (mp70_0 + r_600)), mp70_1, xp70_2, 22)) (
          bindp (F68.p lf xa69 (IntKind.i64.wrap (mp70_0 + r_600)) mp70_1 xp70_2) fun r_721 =>
          some (r_721.1, r_721.2.1, r_721.2.2.1, r_721.2.2.2)))))

theorem F43.J4_ok {ora : Ora} (hora : HOra ora) {lf ro : Nat} {F : List Ent} {r : (Int × Int × List Int × Int)} (a69 : Option Addr) (c69 : Nat) (xa69 : List Bool) (p70 : Nat) (mp70_0 : Int) (mp70_1 : Int) (ap70_2 : Option Addr) (xp70_2 : List Int) (p71 : Nat) (mp71_0 : Int) (mp71_1 : Int) (n72 : Int) (h : Heap) (hs : Sat ro h (.row a69 c69 (xa69.map Value.bool) :: .own ro (some ⟨p70, 0, none⟩) 1 [.int .i64 mp70_0, .int .i64 mp70_1, .slice ap70_2 xp70_2.length xp70_2.length] :: .own ro ap70_2 1 (xp70_2.map (Value.int .u8)) :: .own ro (some ⟨p71, 0, none⟩) 1 [.int .i64 mp71_0, .int .i64 mp71_1, .slice none 0 0] :: F)) (hp : F43.J4p lf xa69 mp70_0 mp70_1 xp70_2 mp71_0 mp71_1 n72 = some r) : F43.Post F ro r (F43.J4 (callW Tryd.prog ora) lf ro a69 xa69.length c69 p70 0 p71 0 n72 h) := by
  unfold F43.J4
  unfold F43.J4p at hp
  have hs_599 := hs.pull 1 rfl
  refine st_load (Q := F43.Post F ro r) isN hs_599 agg3 rfl ?_
  refine st_int (Q := F43.Post F ro r) ?_
  refine st_load (Q := F43.Post F ro r) isN hs_599 agg3 rfl ?_
  refine st_int (Q := F43.Post F ro r) ?_
  obtain ⟨r_600, hx_601, hp⟩ := bindp_some hp
  obtain ⟨h_602, e_604, hs_603⟩ := F57.ok hora (ro := h.next) (F := .own ro (some ⟨p70, 0, none⟩) 1 [.int .i64 mp70_0, .int .i64 mp70_1, .slice ap70_2 xp70_2.length xp70_2.length] :: .row a69 c69 (xa69.map Value.bool) :: .own ro ap70_2 1 (xp70_2.map (Value.int .u8)) :: .own ro (some ⟨p71, 0, none⟩) 1 [.int .i64 mp71_0, .int .i64 mp71_1, .slice none 0 0] :: F) mp70_1 _ (hs_599.ro' (Nat.le_refl _)) hx_601
  refine st_ok (Q := F43.Post F ro r) isN e_604 ?_
  replace hs_603 := hs_603.ro' (Nat.le_trans hs_599.low hs_603.low)
  refine st_int (Q := F43.Post F ro r) ?_
  refine st_store (Q := F43.Post F ro r) isO hs_603 siz3 rfl (Nat.le_of_ble_eq_true rfl) fun h_605 hs_606 => ?_
  refine st_load (Q := F43.Post F ro r) isO hs_606 agg3 rfl ?_
  refine st_int (Q := F43.Post F ro r) ?_
  obtain ⟨r_607, hx_608, hp⟩ := bindp_some hp
  obtain ⟨h_609, e_611, hs_610⟩ := F58.ok hora (ro := ro) (F := .own ro (some ⟨p70, 0, none⟩) 1 [.int .i64 (IntKind.i64.wrap (mp70_0 + r_600)), .int .i64 mp70_1, .slice ap70_2 xp70_2.length xp70_2.length] :: .row a69 c69 (xa69.map Value.bool) :: .own ro ap70_2 1 (xp70_2.map (Value.int .u8)) :: .own ro (some ⟨p71, 0, none⟩) 1 [.int .i64 mp71_0, .int .i64 mp71_1, .slice none 0 0] :: F) mp70_1 n72 _ hs_606 hx_608
  refine st_ok (Q := F43.Post F ro r) isO e_611 ?_
  refine st_str (Q := F43.Post F ro r) ?_
  refine st_letJ hp (fun j706p j706 => ∀ (mj706_0_0 : Int) (mj706_0_1 : Int) (aj706_0_2 : Option Addr) (xj706_0_2 : List Int) (h_736 : Heap), Sat ro h_736 (.own ro (some ⟨p70, 0, none⟩) 1 [.int .i64 mj706_0_0, .int .i64 mj706_0_1, .slice aj706_0_2 xj706_0_2.length xj706_0_2.length] :: .own ro (some ⟨p71, 0, none⟩) 1 [.int .i64 mp71_0, .int .i64 mp71_1, .slice none 0 0] :: .own ro aj706_0_2 1 (xj706_0_2.map (Value.int .u8)) :: F) → j706p mj706_0_0 mj706_0_1 xj706_0_2 = some r → F43.Post F ro r (j706 h_736)) ?_ ?_
  · intro mj706_0_0 mj706_0_1 aj706_0_2 xj706_0_2 h_736 hs hp
    refine st_loadA (Q := F43.Post F ro r) isO hs agg84 siz84 rfl ?_
    refine st_agg (Q := F43.Post F ro r) (l := [.int .i64 mj706_0_0, .int .i64 mj706_0_1, .slice aj706_0_2 xj706_0_2.length xj706_0_2.length]) ?_
    refine st_cons (Q := F43.Post F ro r) ?_
    refine st_int (Q := F43.Post F ro r) ?_
    refine st_cons (Q := F43.Post F ro r) ?_
    refine st_int (Q := F43.Post F ro r) ?_
    refine st_cons (Q := F43.Post F ro r) ?_
    refine st_slice (Q := F43.Post F ro r) ?_
    refine st_nil (Q := F43.Post F ro r) ?_
    have hs_737 := hs.pull 1 rfl
    refine st_storeA (Q := F43.Post F ro r) (vs := [.int .i64 mj706_0_0, .int .i64 mj706_0_1, .slice aj706_0_2 xj706_0_2.length xj706_0_2.length]) isO hs_737 siz84 rfl rfl rfl rfl fun h_738 hs_739 => ?_
    have hc_740 := readCells_at (o := 0) (n := 3) (cs := [.int .i64 mj706_0_0, .int .i64 mj706_0_1, .slice aj706_0_2 xj706_0_2.length xj706_0_2.length]) hs_739 rfl
    refine st_res (Q := F43.Post F ro r) (show resVals _ _ _ _ = some [.agg #[.int .i64 mj706_0_0, .int .i64 mj706_0_1, .slice aj706_0_2 xj706_0_2.length xj706_0_2.length], .int .i64 0] from res_cellA ((EF_get (by decide)).trans rfl) agg84 siz84 hc_740 (res_tmp ((EF_get (by decide)).trans rfl) (res_nil))) ?_
    have hs_741 := hs_739.tail
    have hs_742 := hs_741.tail
    cases hp
    exact ⟨aj706_0_2, _, rfl, hs_742⟩
  · intro j706p j706 hj706 hp
    refine st_if (Q := F43.Post F ro r) (fun hc_612 => ?_) (fun hc_612 => ?_)
    · replace hp := ifp_t hc_612 hp
      refine st_load (Q := F43.Post F ro r) isO hs_610 agg22 rfl ?_
      refine st_slice (Q := F43.Post F ro r) ?_
      have hs_618 := hs_610.pull 2 rfl
      obtain ⟨x_613, hx_614, hp⟩ := bindp_some hp
      refine st_appS (Q := F43.Post F ro r) (l := xp70_2) isO hs_618 und22 und9 one5 rfl rfl hx_614 fun a_615 h_616 hs_617 => ?_
      refine st_slice (Q := F43.Post F ro r) ?_
      have hs_619 := hs_617.pull 1 rfl
      refine st_store (Q := F43.Post F ro r) isO hs_619 siz22 rfl (Nat.le_of_ble_eq_true rfl) fun h_620 hs_621 => ?_
      have hs_622 := hs_621.pull 2 rfl
      have hs_623 := hs_622.tail
      have hs_624 := hs_623.pull 1 rfl
      have hs_625 := hs_624.pull 2 rfl
      have hs_626 := hs_625.pull 2 rfl
      exact hj706 (IntKind.i64.wrap (mp70_0 + r_600)) mp70_1 a_615 x_613 _ hs_626 hp
    · replace hp := ifp_f hc_612 hp
      refine st_load (Q := F43.Post F ro r) isO hs_610 agg3 rfl ?_
      refine st_int (Q := F43.Post F ro r) ?_
      obtain ⟨r_627, hx_628, hp⟩ := bindp_some hp
      obtain ⟨h_629, e_631, hs_630⟩ := F60.ok hora (ro := ro) (F := .own ro (some ⟨p70, 0, none⟩) 1 [.int .i64 (IntKind.i64.wrap (mp70_0 + r_600)), .int .i64 mp70_1, .slice ap70_2 xp70_2.length xp70_2.length] :: .row a69 c69 (xa69.map Value.bool) :: .own ro ap70_2 1 (xp70_2.map (Value.int .u8)) :: .own ro (some ⟨p71, 0, none⟩) 1 [.int .i64 mp71_0, .int .i64 mp71_1, .slice none 0 0] :: F) mp70_1 n72 _ hs_610 hx_628
      refine st_ok (Q := F43.Post F ro r) isO e_631 ?_
      refine st_int (Q := F43.Post F ro r) ?_
      refine st_if (Q := F43.Post F ro r) (fun hc_632 => ?_) (fun hc_632 => ?_)
      · replace hp := ifp_t hc_632 hp
        refine st_load (Q := F43.Post F ro r) isO hs_630 agg3 rfl ?_
        refine st_int (Q := F43.Post F ro r) ?_
        obtain ⟨r_633, hx_634, hp⟩ := bindp_some hp
        obtain ⟨h_635, e_637, hs_636⟩ := F60.ok hora (ro := ro) (F := .own ro (some ⟨p70, 0, none⟩) 1 [.int .i64 (IntKind.i64.wrap (mp70_0 + r_600)), .int .i64 mp70_1, .slice ap70_2 xp70_2.length xp70_2.length] :: .row a69 c69 (xa69.map Value.bool) :: .own ro ap70_2 1 (xp70_2.map (Value.int .u8)) :: .own ro (some ⟨p71, 0, none⟩) 1 [.int .i64 mp71_0, .int .i64 mp71_1, .slice none 0 0] :: F) mp70_1 n72 _ hs_630 hx_634
        refine st_ok (Q := F43.Post F ro r) isO e_637 ?_
        refine st_int (Q := F43.Post F ro r) ?_
        refine st_store (Q := F43.Post F ro r) isO hs_636 siz3 rfl (Nat.le_of_ble_eq_true rfl) fun h_638 hs_639 => ?_
        have hs_640 := hs_639.pull 1 rfl
        have hs_641 := hs_640.tail
        have hs_642 := hs_641.pull 1 rfl
        have hs_643 := hs_642.pull 2 rfl
        have hs_644 := hs_643.pull 2 rfl
        exact hj706 (IntKind.i64.wrap (mp70_0 + r_600)) r_633 ap70_2 xp70_2 _ hs_644 hp
      · replace hp := ifp_f hc_632 hp
        refine st_load (Q := F43.Post F ro r) isO hs_630 agg3 rfl ?_
        refine st_int (Q := F43.Post F ro r) ?_
        obtain ⟨r_645, hx_646, hp⟩ := bindp_some hp
        obtain ⟨h_647, e_649, hs_648⟩ := F61.ok hora (ro := ro) (F := .own ro (some ⟨p70, 0, none⟩) 1 [.int .i64 (IntKind.i64.wrap (mp70_0 + r_600)), .int .i64 mp70_1, .slice ap70_2 xp70_2.length xp70_2.length] :: .row a69 c69 (xa69.map Value.bool) :: .own ro ap70_2 1 (xp70_2.map (Value.int .u8)) :: .own ro (some ⟨p71, 0, none⟩) 1 [.int .i64 mp71_0, .int .i64 mp71_1, .slice none 0 0] :: F) mp70_1 n72 _ hs_630 hx_646
        refine st_ok (Q := F43.Post F ro r) isO e_649 ?_
        refine st_int (Q := F43.Post F ro r) ?_
        refine st_if (Q := F43.Post F ro r) (fun hc_650 => ?_) (fun hc_650 => ?_)
        · replace hp := ifp_t hc_650 hp
          refine st_load (Q := F43.Post F ro r) isO hs_648 agg3 rfl ?_
          refine st_int (Q := F43.Post F ro r) ?_
          have hs_651 := hs_648.pull 1 rfl
          have hs_652 := hs_651.dup
          obtain ⟨r_653, hx_654, hp⟩ := bindp_some hp
          obtain ⟨h_655, e_657, hs_656⟩ := F67.ok hora (ro := ro) (F := .row a69 c69 (xa69.map Value.bool) :: .own ro (some ⟨p70, 0, none⟩) 1 [.int .i64 (IntKind.i64.wrap (mp70_0 + r_600)), .int .i64 mp70_1, .slice ap70_2 xp70_2.length xp70_2.length] :: .own ro ap70_2 1 (xp70_2.map (Value.int .u8)) :: .own ro (some ⟨p71, 0, none⟩) 1 [.int .i64 mp71_0, .int .i64 mp71_1, .slice none 0 0] :: F) a69 c69 xa69 (IntKind.i64.wrap (mp70_0 + r_600)) 5 _ hs_652 hx_654
          refine st_ok (Q := F43.Post F ro r) isO e_657 ?_
          refine st_tup (Q := F43.Post F ro r) (l := [.int .i64 r_653.1, .int .i64 r_653.2]) ?_
          refine st_cons (Q := F43.Post F ro r) ?_
          refine st_int (Q := F43.Post F ro r) ?_
          refine st_cons (Q := F43.Post F ro r) ?_
          refine st_int (Q := F43.Post F ro r) ?_
          refine st_nil (Q := F43.Post F ro r) ?_
          refine st_if (Q := F43.Post F ro r) (fun hc_658 => ?_) (fun hc_658 => ?_)
          · replace hp := ifp_t hc_658 hp
            have hs_659 := hs_656.pull 1 rfl
            refine st_loadA (Q := F43.Post F ro r) isO hs_659 agg84 siz84 rfl ?_
            refine st_agg (Q := F43.Post F ro r) (l := [.int .i64 (IntKind.i64.wrap (mp70_0 + r_600)), .int .i64 mp70_1, .slice ap70_2 xp70_2.length xp70_2.length]) ?_
            refine st_cons (Q := F43.Post F ro r) ?_
            refine st_int (Q := F43.Post F ro r) ?_
            refine st_cons (Q := F43.Post F ro r) ?_
            refine st_int (Q := F43.Post F ro r) ?_
            refine st_cons (Q := F43.Post F ro r) ?_
            refine st_slice (Q := F43.Post F ro r) ?_
            refine st_nil (Q := F43.Post F ro r) ?_
            have hs_660 := hs_659.pull 3 rfl
            refine st_storeA (Q := F43.Post F ro r) (vs := [.int .i64 (IntKind.i64.wrap (mp70_0 + r_600)), .int .i64 mp70_1, .slice ap70_2 xp70_2.length xp70_2.length]) isO hs_660 siz84 rfl rfl rfl rfl fun h_661 hs_662 => ?_
            have hc_663 := readCells_at (o := 0) (n := 3) (cs := [.int .i64 (IntKind.i64.wrap (mp70_0 + r_600)), .int .i64 mp70_1, .slice ap70_2 xp70_2.length xp70_2.length]) hs_662 rfl
            refine st_res (Q := F43.Post F ro r) (show resVals _ _ _ _ = some [.agg #[.int .i64 (IntKind.i64.wrap (mp70_0 + r_600)), .int .i64 mp70_1, .slice ap70_2 xp70_2.length xp70_2.length], .int .i64 10] from res_cellA ((EF_get (by decide)).trans rfl) agg84 siz84 hc_663 (res_tmp ((EF_get (by decide)).trans rfl) (res_nil))) ?_
            have hs_664 := hs_662.tail
            have hs_665 := hs_664.tail
            have hs_666 := hs_665.tail
            cases hp
            exact ⟨ap70_2, _, rfl, hs_666⟩
          · replace hp := ifp_f hc_658 hp
            have hs_705 := hs_656.tail
            have hs_706 := hs_705.pull 2 rfl
            have hs_707 := hs_706.pull 2 rfl
            have hs_708 := hs_707.pull 2 rfl
            exact F43.J15_ok hora p70 (IntKind.i64.wrap (mp70_0 + r_600)) mp70_1 ap70_2 xp70_2 p71 mp71_0 mp71_1 n72 r_653.1 _ hs_708 hp
        · replace hp := ifp_f hc_650 hp
          refine st_load (Q := F43.Post F ro r) isO hs_648 agg3 rfl ?_
          refine st_int (Q := F43.Post F ro r) ?_
          refine st_if (Q := F43.Post F ro r) (fun hc_709 => ?_) (fun hc_709 => ?_)
          · replace hp := ifp_t hc_709 hp
            refine st_loadA (Q := F43.Post F ro r) isO hs_648 agg84 siz84 rfl ?_
            refine st_agg (Q := F43.Post F ro r) (l := [.int .i64 (IntKind.i64.wrap (mp70_0 + r_600)), .int .i64 mp70_1, .slice ap70_2 xp70_2.length xp70_2.length]) ?_
            refine st_cons (Q := F43.Post F ro r) ?_
            refine st_int (Q := F43.Post F ro r) ?_
            refine st_cons (Q := F43.Post F ro r) ?_
            refine st_int (Q := F43.Post F ro r) ?_
            refine st_cons (Q := F43.Post F ro r) ?_
            refine st_slice (Q := F43.Post F ro r) ?_
            refine st_nil (Q := F43.Post F ro r) ?_
            have hs_710 := hs_648.pull 3 rfl
            refine st_storeA (Q := F43.Post F ro r) (vs := [.int .i64 (IntKind.i64.wrap (mp70_0 + r_600)), .int .i64 mp70_1, .slice ap70_2 xp70_2.length xp70_2.length]) isO hs_710 siz84 rfl rfl rfl rfl fun h_711 hs_712 => ?_
            have hc_713 := readCells_at (o := 0) (n := 3) (cs := [.int .i64 (IntKind.i64.wrap (mp70_0 + r_600)), .int .i64 mp70_1, .slice ap70_2 xp70_2.length xp70_2.length]) hs_712 rfl
            refine st_res (Q := F43.Post F ro r) (show resVals _ _ _ _ = some [.agg #[.int .i64 (IntKind.i64.wrap (mp70_0 + r_600)), .int .i64 mp70_1, .slice ap70_2 xp70_2.length xp70_2.length], .int .i64 22] from res_cellA ((EF_get (by decide)).trans rfl) agg84 siz84 hc_713 (res_tmp ((EF_get (by decide)).trans rfl) (res_nil))) ?_
            have hs_714 := hs_712.tail
            have hs_715 := hs_714.tail
            have hs_716 := hs_715.tail
            cases hp
            exact ⟨ap70_2, _, rfl, hs_716⟩
          · replace hp := ifp_f hc_709 hp
            refine st_loadA (Q := F43.Post F ro r) isO hs_648 agg84 siz84 rfl ?_
            refine st_agg (Q := F43.Post F ro r) (l := [.int .i64 (IntKind.i64.wrap (mp70_0 + r_600)), .int .i64 mp70_1, .slice ap70_2 xp70_2.length xp70_2.length]) ?_
            refine st_cons (Q := F43.Post F ro r) ?_
            refine st_int (Q := F43.Post F ro r) ?_
            refine st_cons (Q := F43.Post F ro r) ?_
            refine st_int (Q := F43.Post F ro r) ?_
            refine st_cons (Q := F43.Post F ro r) ?_
            refine st_slice (Q := F43.Post F ro r) ?_
            refine st_nil (Q := F43.Post F ro r) ?_
            have hs_717 := hs_648.pull 1 rfl
            have hs_718 := hs_717.dup
            have hs_719 := hs_718.pull 3 rfl
            have hs_720 := hs_719.pull 1 rfl
            obtain ⟨r_721, hx_722, hp⟩ := bindp_some hp
            obtain ⟨a_726, h_723, e_725, hs_724⟩ := F68.ok hora (ro := ro) (F := .row a69 c69 (xa69.map Value.bool) :: .own ro (some ⟨p70, 0, none⟩) 1 [.int .i64 (IntKind.i64.wrap (mp70_0 + r_600)), .int .i64 mp70_1, .slice ap70_2 xp70_2.length xp70_2.length] :: .own ro (some ⟨p71, 0, none⟩) 1 [.int .i64 mp71_0, .int .i64 mp71_1, .slice none 0 0] :: F) a69 c69 xa69 (IntKind.i64.wrap (mp70_0 + r_600)) mp70_1 ap70_2 xp70_2 _ hs_720 hx_722
            refine st_ok (Q := F43.Post F ro r) isO e_725 ?_
            refine st_tup (Q := F43.Post F ro r) (l := [.agg #[.int .i64 r_721.1, .int .i64 r_721.2.1, .slice a_726 (r_721.2.2.1).length (r_721.2.2.1).length], .int .i64 r_721.2.2.2]) ?_
            refine st_cons (Q := F43.Post F ro r) ?_
            refine st_agg (Q := F43.Post F ro r) (l := [.int .i64 r_721.1, .int .i64 r_721.2.1, .slice a_726 (r_721.2.2.1).length (r_721.2.2.1).length]) ?_
            refine st_cons (Q := F43.Post F ro r) ?_
            refine st_int (Q := F43.Post F ro r) ?_
            refine st_cons (Q := F43.Post F ro r) ?_
            refine st_int (Q := F43.Post F ro r) ?_
            refine st_cons (Q := F43.Post F ro r) ?_
            refine st_slice (Q := F43.Post F ro r) ?_
            refine st_nil (Q := F43.Post F ro r) ?_
            refine st_cons (Q := F43.Post F ro r) ?_
            refine st_int (Q := F43.Post F ro r) ?_
            refine st_nil (Q := F43.Post F ro r) ?_
            have hs_727 := hs_724.pull 3 rfl
            refine st_storeA (Q := F43.Post F ro r) (vs := [.int .i64 r_721.1, .int .i64 r_721.2.1, .slice a_726 (r_721.2.2.1).length (r_721.2.2.1).length]) isO hs_727 siz84 rfl rfl rfl rfl fun h_728 hs_729 => ?_
            have hc_730 := readCells_at (o := 0) (n := 3) (cs := [.int .i64 r_721.1, .int .i64 r_721.2.1, .slice a_726 (r_721.2.2.1).length (r_721.2.2.1).length]) hs_729 rfl
            refine st_res (Q := F43.Post F ro r) (show resVals _ _ _ _ = some [.agg #[.int .i64 r_721.1, .int .i64 r_721.2.1, .slice a_726 (r_721.2.2.1).length (r_721.2.2.1).length], .int .i64 r_721.2.2.2] from res_cellA ((EF_get (by decide)).trans rfl) agg84 siz84 hc_730 (res_tmp ((EF_get (by decide)).trans rfl) (res_nil))) ?_
            have hs_731 := hs_729.tail
            have hs_732 := hs_731.pull 1 rfl
            have hs_733 := hs_732.tail
            have hs_734 := hs_733.pull 1 rfl
            have hs_735 := hs_734.tail
            cases hp
            exact ⟨a_726, _, rfl, hs_735⟩

def F43.p (lf : Nat) (xax0 : List Bool) (x1_0 : Int) (x1_1 : Int) (xax1_2 : List Int) : Option (Int × Int × List Int × Int) :=
  bindp (F57.p lf x1_1) fun r_578 =>
  bindp (F67.p lf xax0 x1_0 r_578) fun r_585 =>
  ifp (r_585.2 != 0) (
    some (x1_0, x1_1, xax1_2, 10)) (
    F43.J4p lf xax0 x1_0 x1_1 xax1_2 0 0 r_585.1)

theorem F43.t_ok {ora : Ora} (hora : HOra ora) {lf ro : Nat} {F : List Ent} {r : (Int × Int × List Int × Int)} (ax0 : Option Addr) (cx0 : Nat) (xax0 : List Bool) (x1_0 : Int) (x1_1 : Int) (ax1_2 : Option Addr) (xax1_2 : List Int) (h : Heap) (hs : Sat ro h (.row ax0 cx0 (xax0.map Value.bool) :: .own ro ax1_2 1 (xax1_2.map (Value.int .u8)) :: F)) (hp : F43.p lf xax0 x1_0 x1_1 xax1_2 = some r) : F43.Post F ro r (F43.t (callW Tryd.prog ora) lf ro ax0 xax0.length cx0 x1_0 x1_1 ax1_2 xax1_2.length xax1_2.length h) := by
  unfold F43.t
  unfold F43.p at hp
  refine st_pushJ (Q := F43.Post F ro r) hs hs.low rfl fun h_573 _ hs_574 => ?_
  refine st_pushJ (Q := F43.Post F ro r) hs_574 hs_574.low rfl fun h_575 _ hs_576 => ?_
  have hs_577 := hs_576.pull 1 rfl
  refine st_load (Q := F43.Post F ro r) isN hs_577 agg3 rfl ?_
  refine st_int (Q := F43.Post F ro r) ?_
  refine st_load (Q := F43.Post F ro r) isN hs_577 agg3 rfl ?_
  refine st_int (Q := F43.Post F ro r) ?_
  obtain ⟨r_578, hx_579, hp⟩ := bindp_some hp
  obtain ⟨h_580, e_582, hs_581⟩ := F57.ok hora (ro := h_575.next) (F := .own ro (some ⟨h.next, 0, none⟩) 1 [.int .i64 x1_0, .int .i64 x1_1, .slice ax1_2 xax1_2.length xax1_2.length] :: .own ro (some ⟨h_573.next, 0, none⟩) 1 [.int .i64 0, .int .i64 0, .slice none 0 0] :: .row ax0 cx0 (xax0.map Value.bool) :: .own ro ax1_2 1 (xax1_2.map (Value.int .u8)) :: F) x1_1 _ (hs_577.ro' (Nat.le_refl _)) hx_579
  refine st_ok (Q := F43.Post F ro r) isN e_582 ?_
  replace hs_581 := hs_581.ro' (Nat.le_trans hs_577.low hs_581.low)
  refine st_int (Q := F43.Post F ro r) ?_
  have hs_583 := hs_581.pull 2 rfl
  have hs_584 := hs_583.dup
  obtain ⟨r_585, hx_586, hp⟩ := bindp_some hp
  obtain ⟨h_587, e_589, hs_588⟩ := F67.ok hora (ro := ro) (F := .row ax0 cx0 (xax0.map Value.bool) :: .own ro (some ⟨h.next, 0, none⟩) 1 [.int .i64 x1_0, .int .i64 x1_1, .slice ax1_2 xax1_2.length xax1_2.length] :: .own ro (some ⟨h_573.next, 0, none⟩) 1 [.int .i64 0, .int .i64 0, .slice none 0 0] :: .own ro ax1_2 1 (xax1_2.map (Value.int .u8)) :: F) ax0 cx0 xax0 x1_0 r_578 _ hs_584 hx_586
  refine st_ok (Q := F43.Post F ro r) isN e_589 ?_
  refine st_tup (Q := F43.Post F ro r) (l := [.int .i64 r_585.1, .int .i64 r_585.2]) ?_
  refine st_cons (Q := F43.Post F ro r) ?_
  refine st_int (Q := F43.Post F ro r) ?_
  refine st_cons (Q := F43.Post F ro r) ?_
  refine st_int (Q := F43.Post F ro r) ?_
  refine st_nil (Q := F43.Post F ro r) ?_
  refine st_if (Q := F43.Post F ro r) (fun hc_590 => ?_) (fun hc_590 => ?_)
  · replace hp := ifp_t hc_590 hp
    have hs_591 := hs_588.pull 1 rfl
    refine st_loadA (Q := F43.Post F ro r) isO hs_591 agg84 siz84 rfl ?_
    refine st_agg (Q := F43.Post F ro r) (l := [.int .i64 x1_0, .int .i64 x1_1, .slice ax1_2 xax1_2.length xax1_2.length]) ?_
    refine st_cons (Q := F43.Post F ro r) ?_
    refine st_int (Q := F43.Post F ro r) ?_
    refine st_cons (Q := F43.Post F ro r) ?_
    refine st_int (Q := F43.Post F ro r) ?_
    refine st_cons (Q := F43.Post F ro r) ?_
    refine st_slice (Q := F43.Post F ro r) ?_
    refine st_nil (Q := F43.Post F ro r) ?_
    have hs_592 := hs_591.pull 2 rfl
    refine st_storeA (Q := F43.Post F ro r) (vs := [.int .i64 x1_0, .int .i64 x1_1, .slice ax1_2 xax1_2.length xax1_2.length]) isO hs_592 siz84 rfl rfl rfl rfl fun h_593 hs_594 => ?_
    have hc_595 := readCells_at (o := 0) (n := 3) (cs := [.int .i64 x1_0, .int .i64 x1_1, .slice ax1_2 xax1_2.length xax1_2.length]) hs_594 rfl
    refine st_res (Q := F43.Post F ro r) (show resVals _ _ _ _ = some [.agg #[.int .i64 x1_0, .int .i64 x1_1, .slice ax1_2 xax1_2.length xax1_2.length], .int .i64 10] from res_cellA ((EF_get (by decide)).trans rfl) agg84 siz84 hc_595 (res_tmp ((EF_get (by decide)).trans rfl) (res_nil))) ?_
    have hs_596 := hs_594.tail
    have hs_597 := hs_596.tail
    have hs_598 := hs_597.tail
    cases hp
    exact ⟨ax1_2, _, rfl, hs_598⟩
  · replace hp := ifp_f hc_590 hp
    have hs_743 := hs_588.pull 2 rfl
    have hs_744 := hs_743.pull 3 rfl
    have hs_745 := hs_744.pull 3 rfl
    have hs_746 := hs_745.pull 3 rfl
    exact F43.J4_ok hora ax0 _ xax0 h.next x1_0 x1_1 ax1_2 xax1_2 h_573.next 0 0 r_585.1 _ hs_746 hp

theorem F43.ok {ora : Ora} (hora : HOra ora) {lf ro : Nat} {F : List Ent} {r : (Int × Int × List Int × Int)} (ax0 : Option Addr) (cx0 : Nat) (xax0 : List Bool) (x1_0 : Int) (x1_1 : Int) (ax1_2 : Option Addr) (xax1_2 : List Int) (h : Heap) (hs : Sat ro h (.row ax0 cx0 (xax0.map Value.bool) :: .own ro ax1_2 1 (xax1_2.map (Value.int .u8)) :: F)) (hp : F43.p lf xax0 x1_0 x1_1 xax1_2 = some r) : F43.Post F ro r (callW Tryd.prog ora ro 43 [.slice ax0 xax0.length cx0, .agg #[.int .i64 x1_0, .int .i64 x1_1, .slice ax1_2 xax1_2.length xax1_2.length]] h) := by
  have h1 := F43.t_ok hora ax0 cx0 xax0 x1_0 x1_1 ax1_2 xax1_2 h hs hp
  have h2 : callW Tryd.prog ora ro 43 [.slice ax0 xax0.length cx0, .agg #[.int .i64 x1_0, .int .i64 x1_1, .slice ax1_2 xax1_2.length xax1_2.length]] h = _ := callW_body (hora.none _ _ _ _ (by decide)) Tryd.func43 (F43.le (callW Tryd.prog ora) lf ro ax0 xax0.length cx0 x1_0 x1_1 ax1_2 xax1_2.length xax1_2.length h) (F43.Post.ne h1)
  rw [h2]; exact h1

def F17.Post (F : List Ent) (ro : Nat) (r : (List Int × Int)) (x : Out) : Prop := ∃ a0 h', x = .ok (.tuple #[.slice a0 r.1.length r.1.length, .int .i64 r.2]) h' ∧ Sat ro h' (.own ro a0 1 (r.1.map (Value.int .u8)) :: F)
theorem F17.Post.ne {F : List Ent} {ro : Nat} {r : (List Int × Int)} {x : Out} (hx : F17.Post F ro r x) : x ≠ .fail := by
  obtain ⟨a0, h', rfl, _⟩ := hx
  simp

def F17.J7p (lf : Nat) (mp22_0 : Int) (mp22_1 : Int) (xp22_2 : List Int) (n23 : Int) : Option (List Int × Int) :=
  ifp (n23 != 0) (
    some ([], n23)) (
    some (xp22_2, 0))

theorem F17.J7_ok {ora : Ora} (hora : HOra ora) {lf ro : Nat} {F : List Ent} {r : (List Int × Int)} (p22 : Nat) (mp22_0 : Int) (mp22_1 : Int) (ap22_2 : Option Addr) (xp22_2 : List Int) (n23 : Int) (h : Heap) (hs : Sat ro h (.own ro (some ⟨p22, 0, none⟩) 1 [.int .i64 mp22_0, .int .i64 mp22_1, .slice ap22_2 xp22_2.length xp22_2.length] :: .own ro ap22_2 1 (xp22_2.map (Value.int .u8)) :: F)) (hp : F17.J7p lf mp22_0 mp22_1 xp22_2 n23 = some r) : F17.Post F ro r (F17.J7 (callW Tryd.prog ora) lf ro p22 0 n23 h) := by
  unfold F17.J7
  unfold F17.J7p at hp
  refine st_if (Q := F17.Post F ro r) (fun hc_789 => ?_) (fun hc_789 => ?_)
  · replace hp := ifp_t hc_789 hp
    have hs_790 := hs.nilOwn ro 1
    have hs_791 := hs_790.pull 1 rfl
    have hs_792 := hs_791.tail
    have hs_793 := hs_792.pull 1 rfl
    have hs_794 := hs_793.tail
    cases hp
    exact ⟨none, _, rfl, hs_794⟩
  · replace hp := ifp_f hc_789 hp
    refine st_load (Q := F17.Post F ro r) isO hs agg22 rfl ?_
    refine st_slice (Q := F17.Post F ro r) ?_
    have hs_795 := hs.tail
    cases hp
    exact ⟨ap22_2, _, rfl, hs_795⟩

def F17.L5p (lf : Nat) : Nat → List Bool → Int → Int → List Int → Int → Option (List Int × Int)
  | 0, _, _, _, _, _ => none
  | n + 1, xa9, mp10_0, mp10_1, xp10_2, n11 =>
  letJ (fun (b19 : Bool) => (
    ifp b19 (
      bindp (F43.p lf xa9 mp10_0 mp10_1 xp10_2) fun r_777 =>
      F17.L5p lf n xa9 r_777.1 r_777.2.1 r_777.2.2.1 r_777.2.2.2) (
      F17.J7p lf mp10_0 mp10_1 xp10_2 n11) : Option (List Int × Int))) fun j21p =>
  bindp (F42.p lf xa9 mp10_0) fun r_758 =>
  ifp (!r_758) (
    j21p (n11 == 0)) (
    j21p false)

theorem F17.L5_ok {ora : Ora} (hora : HOra ora) {lf ro : Nat} {F : List Ent} {r : (List Int × Int)} : ∀ (n : Nat) (a9 : Option Addr) (c9 : Nat) (xa9 : List Bool) (p10 : Nat) (mp10_0 : Int) (mp10_1 : Int) (ap10_2 : Option Addr) (xp10_2 : List Int) (n11 : Int) (h : Heap), Sat ro h (.row a9 c9 (xa9.map Value.bool) :: .own ro (some ⟨p10, 0, none⟩) 1 [.int .i64 mp10_0, .int .i64 mp10_1, .slice ap10_2 xp10_2.length xp10_2.length] :: .own ro ap10_2 1 (xp10_2.map (Value.int .u8)) :: F) → F17.L5p lf n xa9 mp10_0 mp10_1 xp10_2 n11 = some r → F17.Post F ro r (F17.L5 (callW Tryd.prog ora) lf ro n a9 xa9.length c9 p10 0 n11 h) := by
  intro n
  induction n with
  | zero => intro a9 c9 xa9 p10 mp10_0 mp10_1 ap10_2 xp10_2 n11 h hs hp; cases hp
  | succ n ih =>
    intro a9 c9 xa9 p10 mp10_0 mp10_1 ap10_2 xp10_2 n11 h hs hp
    unfold F17.L5
    unfold F17.L5p at hp
    refine st_letJ hp (fun j21p j21 => ∀ (b19 : Bool) (h_770 : Heap), Sat ro h_770 (.row a9 c9 (xa9.map Value.bool) :: .own ro (some ⟨p10, 0, none⟩) 1 [.int .i64 mp10_0, .int .i64 mp10_1, .slice ap10_2 xp10_2.length xp10_2.length] :: .own ro ap10_2 1 (xp10_2.map (Value.int .u8)) :: F) → j21p b19 = some r → F17.Post F ro r (j21 b19 h_770)) ?_ ?_
    · intro b19 h_770 hs hp
      refine st_if (Q := F17.Post F ro r) (fun hc_771 => ?_) (fun hc_771 => ?_)
      · replace hp := ifp_t hc_771 hp
        have hs_772 := hs.pull 1 rfl
        refine st_loadA (Q := F17.Post F ro r) isO hs_772 agg84 siz84 rfl ?_
        refine st_agg (Q := F17.Post F ro r) (l := [.int .i64 mp10_0, .int .i64 mp10_1, .slice ap10_2 xp10_2.length xp10_2.length]) ?_
        refine st_cons (Q := F17.Post F ro r) ?_
        refine st_int (Q := F17.Post F ro r) ?_
        refine st_cons (Q := F17.Post F ro r) ?_
        refine st_int (Q := F17.Post F ro r) ?_
        refine st_cons (Q := F17.Post F ro r) ?_
        refine st_slice (Q := F17.Post F ro r) ?_
        refine st_nil (Q := F17.Post F ro r) ?_
        have hs_773 := hs_772.pull 1 rfl
        have hs_774 := hs_773.dup
        have hs_775 := hs_774.pull 3 rfl
        have hs_776 := hs_775.pull 1 rfl
        obtain ⟨r_777, hx_778, hp⟩ := bindp_some hp
        obtain ⟨a_782, h_779, e_781, hs_780⟩ := F43.ok hora (ro := ro) (F := .row a9 c9 (xa9.map Value.bool) :: .own ro (some ⟨p10, 0, none⟩) 1 [.int .i64 mp10_0, .int .i64 mp10_1, .slice ap10_2 xp10_2.length xp10_2.length] :: F) a9 c9 xa9 mp10_0 mp10_1 ap10_2 xp10_2 _ hs_776 hx_778
        refine st_ok (Q := F17.Post F ro r) isO e_781 ?_
        refine st_tup (Q := F17.Post F ro r) (l := [.agg #[.int .i64 r_777.1, .int .i64 r_777.2.1, .slice a_782 (r_777.2.2.1).length (r_777.2.2.1).length], .int .i64 r_777.2.2.2]) ?_
        refine st_cons (Q := F17.Post F ro r) ?_
        refine st_agg (Q := F17.Post F ro r) (l := [.int .i64 r_777.1, .int .i64 r_777.2.1, .slice a_782 (r_777.2.2.1).length (r_777.2.2.1).length]) ?_
        refine st_cons (Q := F17.Post F ro r) ?_
        refine st_int (Q := F17.Post F ro r) ?_
        refine st_cons (Q := F17.Post F ro r) ?_
        refine st_int (Q := F17.Post F ro r) ?_
        refine st_cons (Q := F17.Post F ro r) ?_
        refine st_slice (Q := F17.Post F ro r) ?_
        refine st_nil (Q := F17.Post F ro r) ?_
        refine st_cons (Q := F17.Post F ro r) ?_
        refine st_int (Q := F17.Post F ro r) ?_
        refine st_nil (Q := F17.Post F ro r) ?_
        have hs_783 := hs_780.pull 2 rfl
        refine st_storeA (Q := F17.Post F ro r) (vs := [.int .i64 r_777.1, .int .i64 r_777.2.1, .slice a_782 (r_777.2.2.1).length (r_777.2.2.1).length]) isO hs_783 siz84 rfl rfl rfl rfl fun h_784 hs_785 => ?_
        have hs_786 := hs_785.pull 1 rfl
        have hs_787 := hs_786.pull 1 rfl
        have hs_788 := hs_787.pull 2 rfl
        exact ih a9 _ xa9 p10 r_777.1 r_777.2.1 a_782 r_777.2.2.1 r_777.2.2.2 _ hs_788 hp
      · replace hp := ifp_f hc_771 hp
        have hs_796 := hs.tail
        have hs_797 := hs_796.pull 1 rfl
        have hs_798 := hs_797.pull 1 rfl
        exact F17.J7_ok hora p10 mp10_0 mp10_1 ap10_2 xp10_2 n11 _ hs_798 hp
    · intro j21p j21 hj21 hp
      have hs_755 := hs.pull 1 rfl
      refine st_load (Q := F17.Post F ro r) isO hs_755 agg3 rfl ?_
      refine st_int (Q := F17.Post F ro r) ?_
      have hs_756 := hs_755.pull 1 rfl
      have hs_757 := hs_756.dup
      obtain ⟨r_758, hx_759, hp⟩ := bindp_some hp
      obtain ⟨h_760, e_762, hs_761⟩ := F42.ok hora (ro := ro) (F := .row a9 c9 (xa9.map Value.bool) :: .own ro (some ⟨p10, 0, none⟩) 1 [.int .i64 mp10_0, .int .i64 mp10_1, .slice ap10_2 xp10_2.length xp10_2.length] :: .own ro ap10_2 1 (xp10_2.map (Value.int .u8)) :: F) a9 c9 xa9 mp10_0 _ hs_757 hx_759
      refine st_ok (Q := F17.Post F ro r) isO e_762 ?_
      refine st_bool (Q := F17.Post F ro r) ?_
      refine st_if (Q := F17.Post F ro r) (fun hc_763 => ?_) (fun hc_763 => ?_)
      · replace hp := ifp_t hc_763 hp
        have hs_764 := hs_761.pull 2 rfl
        have hs_765 := hs_764.pull 2 rfl
        have hs_766 := hs_765.pull 2 rfl
        exact hj21 (n11 == 0) _ hs_766 hp
      · replace hp := ifp_f hc_763 hp
        have hs_767 := hs_761.pull 2 rfl
        have hs_768 := hs_767.pull 2 rfl
        have hs_769 := hs_768.pull 2 rfl
        exact hj21 false _ hs_769 hp

def F17.J3p (lf : Nat) (xa1 : List Bool) : Option (List Int × Int) :=
  F17.L5p lf lf xa1 0 0 [] 0

theorem F17.J3_ok {ora : Ora} (hora : HOra ora) {lf ro : Nat} {F : List Ent} {r : (List Int × Int)} (a1 : Option Addr) (c1 : Nat) (xa1 : List Bool) (h : Heap) (hs : Sat ro h (.row a1 c1 (xa1.map Value.bool) :: F)) (hp : F17.J3p lf xa1 = some r) : F17.Post F ro r (F17.J3 (callW Tryd.prog ora) lf ro a1 xa1.length c1 h) := by
  unfold F17.J3
  unfold F17.J3p at hp
  refine st_pushJ (Q := F17.Post F ro r) hs hs.low rfl fun h_751 _ hs_752 => ?_
  refine st_storeA (Q := F17.Post F ro r) (vs := [.int .i64 0, .int .i64 0, .slice none 0 0]) isO hs_752 siz84 rfl rfl rfl rfl fun h_753 hs_754 => ?_
  have hs_799 := hs_754.nilOwn ro 1
  have hs_800 := hs_799.pull 1 rfl
  have hs_801 := hs_800.pull 2 rfl
  exact F17.L5_ok hora lf a1 _ xa1 h.next 0 0 none [] 0 _ hs_801 hp

def F17.p (lf : Nat) (xax0 : List Bool) : Option (List Int × Int) :=
  ifp (decide ((xax0.length : Int) > 1048576)) (
    some ([], 4)) (
    F17.J3p lf xax0)

theorem F17.t_ok {ora : Ora} (hora : HOra ora) {lf ro : Nat} {F : List Ent} {r : (List Int × Int)} (ax0 : Option Addr) (cx0 : Nat) (xax0 : List Bool) (h : Heap) (hs : Sat ro h (.row ax0 cx0 (xax0.map Value.bool) :: F)) (hp : F17.p lf xax0 = some r) : F17.Post F ro r (F17.t (callW Tryd.prog ora) lf ro ax0 xax0.length cx0 h) := by
  unfold F17.t
  unfold F17.p at hp
  refine st_if (Q := F17.Post F ro r) (fun hc_747 => ?_) (fun hc_747 => ?_)
  · replace hp := ifp_t hc_747 hp
    have hs_748 := hs.nilOwn ro 1
    have hs_749 := hs_748.pull 1 rfl
    have hs_750 := hs_749.tail
    cases hp
    exact ⟨none, _, rfl, hs_750⟩
  · replace hp := ifp_f hc_747 hp
    exact F17.J3_ok hora ax0 _ xax0 _ hs hp

theorem F17.ok {ora : Ora} (hora : HOra ora) {lf ro : Nat} {F : List Ent} {r : (List Int × Int)} (ax0 : Option Addr) (cx0 : Nat) (xax0 : List Bool) (h : Heap) (hs : Sat ro h (.row ax0 cx0 (xax0.map Value.bool) :: F)) (hp : F17.p lf xax0 = some r) : F17.Post F ro r (callW Tryd.prog ora ro 17 [.slice ax0 xax0.length cx0] h) := by
  have h1 := F17.t_ok hora ax0 cx0 xax0 h hs hp
  have h2 : callW Tryd.prog ora ro 17 [.slice ax0 xax0.length cx0] h = _ := callW_body (hora.none _ _ _ _ (by decide)) Tryd.func17 (F17.le (callW Tryd.prog ora) lf ro ax0 xax0.length cx0 h) (F17.Post.ne h1)
  rw [h2]; exact h1

def F4.Post (F : List Ent) (ro : Nat) (r : (Bool)) (x : Out) : Prop := ∃ h', x = .ok (.bool r) h' ∧ Sat ro h' (F)
theorem F4.Post.ne {F : List Ent} {ro : Nat} {r : (Bool)} {x : Out} (hx : F4.Post F ro r x) : x ≠ .fail := by
  obtain ⟨h', rfl, _⟩ := hx
  simp

def F4.J3p (lf : Nat) (xa7 : List Bool) : Option (Bool) :=
  bindp (F16.p lf xa7) fun r_810 =>
  bindp (F17.p lf xa7) fun r_818 =>
  letJ (fun (b54 : Bool) => (
    some b54 : Option (Bool))) fun j56p =>
  ifp ((strp r_810.1).toList == (strp r_818.1).toList) (
    ifp (r_810.2 == r_818.2) (
      bindp (F11.p lf) fun r_828 =>
      j56p r_828) (
      j56p false)) (
    j56p false)

theorem F4.J3_ok {ora : Ora} (hora : HOra ora) {lf ro : Nat} {F : List Ent} {r : (Bool)} (a7 : Option Addr) (c7 : Nat) (xa7 : List Bool) (h : Heap) (hs : Sat ro h (.row a7 c7 (xa7.map Value.bool) :: F)) (hp : F4.J3p lf xa7 = some r) : F4.Post F ro r (F4.J3 (callW Tryd.prog ora) lf ro a7 xa7.length c7 h) := by
  unfold F4.J3
  unfold F4.J3p at hp
  have hs_809 := hs.dup
  obtain ⟨r_810, hx_811, hp⟩ := bindp_some hp
  obtain ⟨a_815, h_812, e_814, hs_813⟩ := F16.ok hora (ro := ro) (F := .row a7 c7 (xa7.map Value.bool) :: F) a7 c7 xa7 _ hs_809 hx_811
  refine st_ok (Q := F4.Post F ro r) isO e_814 ?_
  refine st_tup (Q := F4.Post F ro r) (l := [.slice a_815 (r_810.1).length (r_810.1).length, .int .i64 r_810.2]) ?_
  refine st_cons (Q := F4.Post F ro r) ?_
  refine st_slice (Q := F4.Post F ro r) ?_
  refine st_cons (Q := F4.Post F ro r) ?_
  refine st_int (Q := F4.Post F ro r) ?_
  refine st_nil (Q := F4.Post F ro r) ?_
  have hs_816 := hs_813.pull 1 rfl
  have hs_817 := hs_816.dup
  obtain ⟨r_818, hx_819, hp⟩ := bindp_some hp
  obtain ⟨a_823, h_820, e_822, hs_821⟩ := F17.ok hora (ro := ro) (F := .row a7 c7 (xa7.map Value.bool) :: .own ro a_815 1 (r_810.1.map (Value.int .u8)) :: F) a7 c7 xa7 _ hs_817 hx_819
  refine st_ok (Q := F4.Post F ro r) isO e_822 ?_
  refine st_tup (Q := F4.Post F ro r) (l := [.slice a_823 (r_818.1).length (r_818.1).length, .int .i64 r_818.2]) ?_
  refine st_cons (Q := F4.Post F ro r) ?_
  refine st_slice (Q := F4.Post F ro r) ?_
  refine st_cons (Q := F4.Post F ro r) ?_
  refine st_int (Q := F4.Post F ro r) ?_
  refine st_nil (Q := F4.Post F ro r) ?_
  refine st_letJ hp (fun j56p j56 => ∀ (b54 : Bool) (h_842 : Heap), Sat ro h_842 (F) → j56p b54 = some r → F4.Post F ro r (j56 b54 h_842)) ?_ ?_
  · intro b54 h_842 hs hp
    cases hp
    exact ⟨_, rfl, hs⟩
  · intro j56p j56 hj56 hp
    have hs_824 := hs_821.pull 2 rfl
    refine st_strO (Q := F4.Post F ro r) (l := r_810.1) isO hs_824 und22 und9 und5 rfl ?_
    refine st_str (Q := F4.Post F ro r) ?_
    have hs_825 := hs_824.pull 1 rfl
    refine st_strO (Q := F4.Post F ro r) (l := r_818.1) isO hs_825 und22 und9 und5 rfl ?_
    refine st_str (Q := F4.Post F ro r) ?_
    refine st_if (Q := F4.Post F ro r) (fun hc_826 => ?_) (fun hc_826 => ?_)
    · replace hp := ifp_t hc_826 hp
      refine st_if (Q := F4.Post F ro r) (fun hc_827 => ?_) (fun hc_827 => ?_)
      · replace hp := ifp_t hc_827 hp
        obtain ⟨r_828, hx_829, hp⟩ := bindp_some hp
        obtain ⟨h_830, e_832, hs_831⟩ := F11.ok hora (ro := ro) (F := .own ro a_823 1 (r_818.1.map (Value.int .u8)) :: .own ro a_815 1 (r_810.1.map (Value.int .u8)) :: .row a7 c7 (xa7.map Value.bool) :: F)  _ hs_825 hx_829
        refine st_ok (Q := F4.Post F ro r) isO e_832 ?_
        refine st_bool (Q := F4.Post F ro r) ?_
        have hs_833 := hs_831.tail
        have hs_834 := hs_833.tail
        have hs_835 := hs_834.tail
        exact hj56 r_828 _ hs_835 hp
      · replace hp := ifp_f hc_827 hp
        have hs_836 := hs_825.tail
        have hs_837 := hs_836.tail
        have hs_838 := hs_837.tail
        exact hj56 false _ hs_838 hp
    · replace hp := ifp_f hc_826 hp
      have hs_839 := hs_825.tail
      have hs_840 := hs_839.tail
      have hs_841 := hs_840.tail
      exact hj56 false _ hs_841 hp

def F4.p (lf : Nat) (xax0 : List Bool) : Option (Bool) :=
  ifp (decide ((xax0.length : Int) > 2000)) (
    bindp (F11.p lf) fun r_803 =>
    some r_803) (
    F4.J3p lf xax0)

theorem F4.t_ok {ora : Ora} (hora : HOra ora) {lf ro : Nat} {F : List Ent} {r : (Bool)} (ax0 : Option Addr) (cx0 : Nat) (xax0 : List Bool) (h : Heap) (hs : Sat ro h (.row ax0 cx0 (xax0.map Value.bool) :: F)) (hp : F4.p lf xax0 = some r) : F4.Post F ro r (F4.t (callW Tryd.prog ora) lf ro ax0 xax0.length cx0 h) := by
  unfold F4.t
  unfold F4.p at hp
  refine st_if (Q := F4.Post F ro r) (fun hc_802 => ?_) (fun hc_802 => ?_)
  · replace hp := ifp_t hc_802 hp
    obtain ⟨r_803, hx_804, hp⟩ := bindp_some hp
    obtain ⟨h_805, e_807, hs_806⟩ := F11.ok hora (ro := ro) (F := .row ax0 cx0 (xax0.map Value.bool) :: F)  _ hs hx_804
    refine st_ok (Q := F4.Post F ro r) isO e_807 ?_
    refine st_bool (Q := F4.Post F ro r) ?_
    have hs_808 := hs_806.tail
    cases hp
    exact ⟨_, rfl, hs_808⟩
  · replace hp := ifp_f hc_802 hp
    exact F4.J3_ok hora ax0 _ xax0 _ hs hp

theorem F4.ok {ora : Ora} (hora : HOra ora) {lf ro : Nat} {F : List Ent} {r : (Bool)} (ax0 : Option Addr) (cx0 : Nat) (xax0 : List Bool) (h : Heap) (hs : Sat ro h (.row ax0 cx0 (xax0.map Value.bool) :: F)) (hp : F4.p lf xax0 = some r) : F4.Post F ro r (callW Tryd.prog ora ro 4 [.slice ax0 xax0.length cx0] h) := by
  have h1 := F4.t_ok hora ax0 cx0 xax0 h hs hp
  have h2 : callW Tryd.prog ora ro 4 [.slice ax0 xax0.length cx0] h = _ := callW_body (hora.none _ _ _ _ (by decide)) Tryd.func4 (F4.le (callW Tryd.prog ora) lf ro ax0 xax0.length cx0 h) (F4.Post.ne h1)
  rw [h2]; exact h1

end Go.Proofs.YtfadfpcelhdfbaaDoor
