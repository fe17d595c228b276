/-
  The functions that read as plain functions of numbers and lists, and that they answer as the program does where they answer at all; no statement of the seat is proved in this file.
-/
import Derived.Test.YtgpnjdldpehidaaDoorTextJ
import Derived.Test.YtgpnjdldpehidaaDoorTextP
import Derived.Test.YtgpnjdldpehidaaDoorAbsC
open Go Go.Abs Go.Proofs
set_option maxRecDepth 100000
set_option linter.unusedVariables false
set_option linter.unusedSimpArgs false
namespace Go.Proofs.YtgpnjdldpehidaaDoor

theorem inf5 : Tryd.prog.info? 5 = some Tryd.t5 := by kernel_rfl
theorem siz22 : sizeOf? Tryd.prog 22 = some 1 := by kernel_rfl
theorem siz3 : sizeOf? Tryd.prog 3 = some 1 := by kernel_rfl
theorem zer5 : zeroOf Tryd.prog 5 = some (Value.int .u8 0) := by kernel_rfl

def F12.Post (F : List Ent) (ro : Nat) (r : (List Int × Int)) (x : Out) : Prop := ∃ a0 h', x = .ok (.tuple #[.slice a0 r.1.length r.1.length, .int .i64 r.2]) h' ∧ Sat ro h' (.own ro a0 1 (r.1.map (Value.int .u8)) :: F)
theorem F12.Post.ne {F : List Ent} {ro : Nat} {r : (List Int × Int)} {x : Out} (hx : F12.Post F ro r x) : x ≠ .fail := by
  obtain ⟨a0, h', rfl, _⟩ := hx
  simp

def F12.J6p (lf : Nat) (mp7_0 : Int) (mp7_1 : Int) (xp7_2 : List Int) (n8 : Int) : Option (List Int × Int) :=
  bindp (F10.p lf mp7_0 mp7_1 xp7_2 n8) fun r_10 =>
  letJ (fun (b55 : Bool) => (
    ifp b55 (
      some ([], 0)) (
      some (r_10.1, n8)) : Option (List Int × Int))) fun j57p =>
  ifp (r_10.2 != 0) (
    j57p true) (
    j57p (decide ((xp7_2.length : Int) > 2000)))

theorem F12.J6_ok {ora : Ora} (hora : HOra ora) {lf ro : Nat} {F : List Ent} {r : (List Int × Int)} (p7 : Nat) (mp7_0 : Int) (mp7_1 : Int) (ap7_2 : Option Addr) (cp7_2 : Nat) (xp7_2 : List Int) (n8 : Int) (h : Heap) (hs : Sat ro h (.own ro (some ⟨p7, 0, none⟩) 1 [.int .i64 mp7_0, .int .i64 mp7_1, .slice ap7_2 xp7_2.length cp7_2] :: .row ap7_2 cp7_2 (xp7_2.map (Value.int .u8)) :: .row (some ⟨0, 0, none⟩) 20 (gl0.map (Value.int .u64)) :: F)) (hp : F12.J6p lf mp7_0 mp7_1 xp7_2 n8 = some r) : F12.Post F ro r (F12.J6 (callW Tryd.prog ora) lf ro p7 0 n8 h) := by
  unfold F12.J6
  unfold F12.J6p at hp
  refine st_loadA (Q := F12.Post F ro r) isO hs agg24 siz24 rfl ?_
  refine st_agg (Q := F12.Post F ro r) (l := [.int .i64 mp7_0, .int .i64 mp7_1, .slice ap7_2 xp7_2.length cp7_2]) ?_
  refine st_cons (Q := F12.Post F ro r) ?_
  refine st_int (Q := F12.Post F ro r) ?_
  refine st_cons (Q := F12.Post F ro r) ?_
  refine st_int (Q := F12.Post F ro r) ?_
  refine st_cons (Q := F12.Post F ro r) ?_
  refine st_slice (Q := F12.Post F ro r) ?_
  refine st_nil (Q := F12.Post F ro r) ?_
  have hs_5 := hs.pull 1 rfl
  have hs_6 := hs_5.dup
  have hs_7 := hs_6.pull 3 rfl
  have hs_8 := hs_7.dup
  have hs_9 := hs_8.pull 2 rfl
  obtain ⟨r_10, hx_11, hp⟩ := bindp_some hp
  obtain ⟨a_15, h_12, e_14, hs_13⟩ := F10.ok hora (ro := ro) (F := .row (some ⟨0, 0, none⟩) 20 (gl0.map (Value.int .u64)) :: .row ap7_2 cp7_2 (xp7_2.map (Value.int .u8)) :: .own ro (some ⟨p7, 0, none⟩) 1 [.int .i64 mp7_0, .int .i64 mp7_1, .slice ap7_2 xp7_2.length cp7_2] :: F) mp7_0 mp7_1 ap7_2 cp7_2 xp7_2 n8 _ hs_9 hx_11
  refine st_ok (Q := F12.Post F ro r) isO e_14 ?_
  refine st_tup (Q := F12.Post F ro r) (l := [.slice a_15 (r_10.1).length (r_10.1).length, .int .i64 r_10.2]) ?_
  refine st_cons (Q := F12.Post F ro r) ?_
  refine st_slice (Q := F12.Post F ro r) ?_
  refine st_cons (Q := F12.Post F ro r) ?_
  refine st_int (Q := F12.Post F ro r) ?_
  refine st_nil (Q := F12.Post F ro r) ?_
  refine st_letJ hp (fun j57p j57 => ∀ (b55 : Bool) (h_29 : Heap), Sat ro h_29 (.own ro a_15 1 (r_10.1.map (Value.int .u8)) :: .row (some ⟨0, 0, none⟩) 20 (gl0.map (Value.int .u64)) :: F) → j57p b55 = some r → F12.Post F ro r (j57 b55 h_29)) ?_ ?_
  · intro b55 h_29 hs hp
    refine st_if (Q := F12.Post F ro r) (fun hc_30 => ?_) (fun hc_30 => ?_)
    · replace hp := ifp_t hc_30 hp
      have hs_31 := hs.nilOwn ro 1
      have hs_32 := hs_31.pull 1 rfl
      have hs_33 := hs_32.tail
      have hs_34 := hs_33.pull 1 rfl
      have hs_35 := hs_34.tail
      cases hp
      exact ⟨none, _, rfl, hs_35⟩
    · replace hp := ifp_f hc_30 hp
      have hs_36 := hs.pull 1 rfl
      have hs_37 := hs_36.tail
      cases hp
      exact ⟨a_15, _, rfl, hs_37⟩
  · intro j57p j57 hj57 hp
    refine st_if (Q := F12.Post F ro r) (fun hc_16 => ?_) (fun hc_16 => ?_)
    · replace hp := ifp_t hc_16 hp
      have hs_17 := hs_13.pull 2 rfl
      have hs_18 := hs_17.tail
      have hs_19 := hs_18.pull 2 rfl
      have hs_20 := hs_19.tail
      have hs_21 := hs_20.pull 1 rfl
      have hs_22 := hs_21.pull 1 rfl
      exact hj57 true _ hs_22 hp
    · replace hp := ifp_f hc_16 hp
      have hs_23 := hs_13.pull 3 rfl
      refine st_load (Q := F12.Post F ro r) isO hs_23 agg22 rfl ?_
      refine st_slice (Q := F12.Post F ro r) ?_
      have hs_24 := hs_23.tail
      have hs_25 := hs_24.pull 2 rfl
      have hs_26 := hs_25.tail
      have hs_27 := hs_26.pull 1 rfl
      have hs_28 := hs_27.pull 1 rfl
      exact hj57 (decide ((xp7_2.length : Int) > 2000)) _ hs_28 hp

def F12.J4p (lf : Nat) (n3 : Int) (mp4_0 : Int) (mp4_1 : Int) (xp4_2 : List Int) (n5 : Int) : Option (List Int × Int) :=
  ifp (decide (Int.tmod n3 4 > 1)) (
    F12.J6p lf mp4_0 mp4_1 xp4_2 (IntKind.i64.wrap (n5 + 3))) (
    F12.J6p lf mp4_0 mp4_1 xp4_2 n5)

theorem F12.J4_ok {ora : Ora} (hora : HOra ora) {lf ro : Nat} {F : List Ent} {r : (List Int × Int)} (n3 : Int) (p4 : Nat) (mp4_0 : Int) (mp4_1 : Int) (ap4_2 : Option Addr) (cp4_2 : Nat) (xp4_2 : List Int) (n5 : Int) (h : Heap) (hs : Sat ro h (.own ro (some ⟨p4, 0, none⟩) 1 [.int .i64 mp4_0, .int .i64 mp4_1, .slice ap4_2 xp4_2.length cp4_2] :: .row ap4_2 cp4_2 (xp4_2.map (Value.int .u8)) :: .row (some ⟨0, 0, none⟩) 20 (gl0.map (Value.int .u64)) :: F)) (hp : F12.J4p lf n3 mp4_0 mp4_1 xp4_2 n5 = some r) : F12.Post F ro r (F12.J4 (callW Tryd.prog ora) lf ro n3 p4 0 n5 h) := by
  unfold F12.J4
  unfold F12.J4p at hp
  refine st_if (Q := F12.Post F ro r) (fun hc_4 => ?_) (fun hc_4 => ?_)
  · replace hp := ifp_t hc_4 hp
    have hs_38 := hs.pull 2 rfl
    have hs_39 := hs_38.pull 2 rfl
    have hs_40 := hs_39.pull 2 rfl
    exact F12.J6_ok hora p4 mp4_0 mp4_1 ap4_2 _ xp4_2 (IntKind.i64.wrap (n5 + 3)) _ hs_40 hp
  · replace hp := ifp_f hc_4 hp
    have hs_41 := hs.pull 2 rfl
    have hs_42 := hs_41.pull 2 rfl
    have hs_43 := hs_42.pull 2 rfl
    exact F12.J6_ok hora p4 mp4_0 mp4_1 ap4_2 _ xp4_2 n5 _ hs_43 hp

def F12.p (lf : Nat) (x0_0 : Int) (x0_1 : Int) (xax0_2 : List Int) (x1 : Int) : Option (List Int × Int) :=
  ifp ((Int.tmod x1 2) == 1) (
    F12.J4p lf x1 x0_0 x0_1 xax0_2 2) (
    F12.J4p lf x1 x0_0 x0_1 xax0_2 1)

theorem F12.t_ok {ora : Ora} (hora : HOra ora) {lf ro : Nat} {F : List Ent} {r : (List Int × Int)} (x0_0 : Int) (x0_1 : Int) (ax0_2 : Option Addr) (cx0_2 : Nat) (xax0_2 : List Int) (x1 : Int) (h : Heap) (hs : Sat ro h (.row ax0_2 cx0_2 (xax0_2.map (Value.int .u8)) :: .row (some ⟨0, 0, none⟩) 20 (gl0.map (Value.int .u64)) :: F)) (hp : F12.p lf x0_0 x0_1 xax0_2 x1 = some r) : F12.Post F ro r (F12.t (callW Tryd.prog ora) lf ro x0_0 x0_1 ax0_2 xax0_2.length cx0_2 x1 h) := by
  unfold F12.t
  unfold F12.p at hp
  refine st_pushJ (Q := F12.Post F ro r) hs hs.low rfl fun h_1 _ hs_2 => ?_
  refine st_if (Q := F12.Post F ro r) (fun hc_3 => ?_) (fun hc_3 => ?_)
  · replace hp := ifp_t hc_3 hp
    have hs_44 := hs_2.pull 2 rfl
    have hs_45 := hs_44.pull 2 rfl
    have hs_46 := hs_45.pull 2 rfl
    exact F12.J4_ok hora x1 h.next x0_0 x0_1 ax0_2 _ xax0_2 2 _ hs_46 hp
  · replace hp := ifp_f hc_3 hp
    have hs_47 := hs_2.pull 2 rfl
    have hs_48 := hs_47.pull 2 rfl
    have hs_49 := hs_48.pull 2 rfl
    exact F12.J4_ok hora x1 h.next x0_0 x0_1 ax0_2 _ xax0_2 1 _ hs_49 hp

theorem F12.ok {ora : Ora} (hora : HOra ora) {lf ro : Nat} {F : List Ent} {r : (List Int × Int)} (x0_0 : Int) (x0_1 : Int) (ax0_2 : Option Addr) (cx0_2 : Nat) (xax0_2 : List Int) (x1 : Int) (h : Heap) (hs : Sat ro h (.row ax0_2 cx0_2 (xax0_2.map (Value.int .u8)) :: .row (some ⟨0, 0, none⟩) 20 (gl0.map (Value.int .u64)) :: F)) (hp : F12.p lf x0_0 x0_1 xax0_2 x1 = some r) : F12.Post F ro r (callW Tryd.prog ora ro 12 [.agg #[.int .i64 x0_0, .int .i64 x0_1, .slice ax0_2 xax0_2.length cx0_2], .int .u8 x1] h) := by
  have h1 := F12.t_ok hora x0_0 x0_1 ax0_2 cx0_2 xax0_2 x1 h hs hp
  have h2 : callW Tryd.prog ora ro 12 [.agg #[.int .i64 x0_0, .int .i64 x0_1, .slice ax0_2 xax0_2.length cx0_2], .int .u8 x1] h = _ := callW_body (hora.none _ _ _ _ (by decide)) Tryd.func12 (F12.le (callW Tryd.prog ora) lf ro x0_0 x0_1 ax0_2 xax0_2.length cx0_2 x1 h) (F12.Post.ne h1)
  rw [h2]; exact h1

def F14.Post (F : List Ent) (ro : Nat) (r : (Int)) (x : Out) : Prop := ∃ h', x = .ok (.int .i64 r) h' ∧ Sat ro h' (F)
theorem F14.Post.ne {F : List Ent} {ro : Nat} {r : (Int)} {x : Out} (hx : F14.Post F ro r x) : x ≠ .fail := by
  obtain ⟨h', rfl, _⟩ := hx
  simp

def F14.p (lf : Nat) (xax0 : List Int) (x1 : Int) : Option (Int) :=
  ifp (decide (x1 < 4)) (
    some (IntKind.i64.wrap ((xax0.length : Int) - 1))) (
    some (xax0.length : Int))

theorem F14.t_ok {ora : Ora} (hora : HOra ora) {lf ro : Nat} {F : List Ent} {r : (Int)} (ax0 : Option Addr) (cx0 : Nat) (xax0 : List Int) (x1 : Int) (h : Heap) (hs : Sat ro h (.row ax0 cx0 (xax0.map (Value.int .u8)) :: F)) (hp : F14.p lf xax0 x1 = some r) : F14.Post F ro r (F14.t (callW Tryd.prog ora) lf ro ax0 xax0.length cx0 x1 h) := by
  unfold F14.t
  unfold F14.p at hp
  refine st_if (Q := F14.Post F ro r) (fun hc_50 => ?_) (fun hc_50 => ?_)
  · replace hp := ifp_t hc_50 hp
    have hs_51 := hs.tail
    cases hp
    exact ⟨_, rfl, hs_51⟩
  · replace hp := ifp_f hc_50 hp
    have hs_52 := hs.tail
    cases hp
    exact ⟨_, rfl, hs_52⟩

theorem F14.ok {ora : Ora} (hora : HOra ora) {lf ro : Nat} {F : List Ent} {r : (Int)} (ax0 : Option Addr) (cx0 : Nat) (xax0 : List Int) (x1 : Int) (h : Heap) (hs : Sat ro h (.row ax0 cx0 (xax0.map (Value.int .u8)) :: F)) (hp : F14.p lf xax0 x1 = some r) : F14.Post F ro r (callW Tryd.prog ora ro 14 [.slice ax0 xax0.length cx0, .int .i64 x1] h) := by
  have h1 := F14.t_ok hora ax0 cx0 xax0 x1 h hs hp
  have h2 : callW Tryd.prog ora ro 14 [.slice ax0 xax0.length cx0, .int .i64 x1] h = _ := callW_body (hora.none _ _ _ _ (by decide)) Tryd.func14 (F14.le (callW Tryd.prog ora) lf ro ax0 xax0.length cx0 x1 h) (F14.Post.ne h1)
  rw [h2]; exact h1

def F15.Post (F : List Ent) (ro : Nat) (r : (Bool)) (x : Out) : Prop := ∃ h', x = .ok (.bool r) h' ∧ Sat ro h' (F)
theorem F15.Post.ne {F : List Ent} {ro : Nat} {r : (Bool)} {x : Out} (hx : F15.Post F ro r x) : x ≠ .fail := by
  obtain ⟨h', rfl, _⟩ := hx
  simp

def F15.J6p (lf : Nat) (kb4p : Int → Int → List Int → Int → Int → List Int → Int → Option (Bool)) (mp39_0 : Int) (mp39_1 : Int) (xp39_2 : List Int) (mp40_0 : Int) (mp40_1 : Int) (xp40_2 : List Int) (n41 : Int) : Option (Bool) :=
  bindp (idxp xp39_2 n41) fun x_84 =>
  bindp (idxp xp40_2 n41) fun x_88 =>
  ifp (x_84 != x_88) (
    some false) (
    kb4p mp39_0 mp39_1 xp39_2 mp40_0 mp40_1 xp40_2 (IntKind.i64.wrap (n41 + 1)))

theorem F15.J6_ok {ora : Ora} (hora : HOra ora) {lf ro : Nat} {F : List Ent} {r : (Bool)} {kb4p : Int → Int → List Int → Int → Int → List Int → Int → Option (Bool)} {kb4 : Nat → Nat → Nat → Nat → Int → Heap → Out} (hkb4 : ∀ (p29 : Nat) (mp29_0 : Int) (mp29_1 : Int) (ap29_2 : Option Addr) (cp29_2 : Nat) (xp29_2 : List Int) (p30 : Nat) (mp30_0 : Int) (mp30_1 : Int) (ap30_2 : Option Addr) (cp30_2 : Nat) (xp30_2 : List Int) (n31 : Int) (h : Heap), Sat ro h (.own ro (some ⟨p29, 0, none⟩) 1 [.int .i64 mp29_0, .int .i64 mp29_1, .slice ap29_2 xp29_2.length cp29_2] :: .row ap29_2 cp29_2 (xp29_2.map (Value.int .u8)) :: .own ro (some ⟨p30, 0, none⟩) 1 [.int .i64 mp30_0, .int .i64 mp30_1, .slice ap30_2 xp30_2.length cp30_2] :: .row ap30_2 cp30_2 (xp30_2.map (Value.int .u8)) :: F) → kb4p mp29_0 mp29_1 xp29_2 mp30_0 mp30_1 xp30_2 n31 = some r → F15.Post F ro r (kb4 p29 0 p30 0 n31 h)) (p39 : Nat) (mp39_0 : Int) (mp39_1 : Int) (ap39_2 : Option Addr) (cp39_2 : Nat) (xp39_2 : List Int) (p40 : Nat) (mp40_0 : Int) (mp40_1 : Int) (ap40_2 : Option Addr) (cp40_2 : Nat) (xp40_2 : List Int) (n41 : Int) (h : Heap) (hs : Sat ro h (.own ro (some ⟨p39, 0, none⟩) 1 [.int .i64 mp39_0, .int .i64 mp39_1, .slice ap39_2 xp39_2.length cp39_2] :: .row ap39_2 cp39_2 (xp39_2.map (Value.int .u8)) :: .own ro (some ⟨p40, 0, none⟩) 1 [.int .i64 mp40_0, .int .i64 mp40_1, .slice ap40_2 xp40_2.length cp40_2] :: .row ap40_2 cp40_2 (xp40_2.map (Value.int .u8)) :: F)) (hp : F15.J6p lf kb4p mp39_0 mp39_1 xp39_2 mp40_0 mp40_1 xp40_2 n41 = some r) : F15.Post F ro r (F15.J6 (callW Tryd.prog ora) lf ro kb4 p39 0 p40 0 n41 h) := by
  unfold F15.J6
  unfold F15.J6p at hp
  refine st_load (Q := F15.Post F ro r) isN hs agg22 rfl ?_
  refine st_slice (Q := F15.Post F ro r) ?_
  have hs_86 := hs.pull 1 rfl
  obtain ⟨x_84, hx_85, hp⟩ := bindp_some hp
  refine st_idxR (Q := F15.Post F ro r) (l := xp39_2) (f := (Value.int .u8)) isN isN hs_86 und22 siz5 agg5 rfl hx_85 ?_
  refine st_int (Q := F15.Post F ro r) ?_
  have hs_87 := hs_86.pull 2 rfl
  refine st_load (Q := F15.Post F ro r) isN hs_87 agg22 rfl ?_
  refine st_slice (Q := F15.Post F ro r) ?_
  have hs_90 := hs_87.pull 3 rfl
  obtain ⟨x_88, hx_89, hp⟩ := bindp_some hp
  refine st_idxR (Q := F15.Post F ro r) (l := xp40_2) (f := (Value.int .u8)) isN isN hs_90 und22 siz5 agg5 rfl hx_89 ?_
  refine st_int (Q := F15.Post F ro r) ?_
  refine st_if (Q := F15.Post F ro r) (fun hc_91 => ?_) (fun hc_91 => ?_)
  · replace hp := ifp_t hc_91 hp
    have hs_92 := hs_90.tail
    have hs_93 := hs_92.tail
    have hs_94 := hs_93.tail
    have hs_95 := hs_94.tail
    cases hp
    exact ⟨_, rfl, hs_95⟩
  · replace hp := ifp_f hc_91 hp
    have hs_96 := hs_90.pull 1 rfl
    have hs_97 := hs_96.pull 2 rfl
    have hs_98 := hs_97.pull 3 rfl
    exact hkb4 p39 mp39_0 mp39_1 ap39_2 _ xp39_2 p40 mp40_0 mp40_1 ap40_2 _ xp40_2 (IntKind.i64.wrap (n41 + 1)) _ hs_98 hp

def F15.L4p (lf : Nat) : Nat → Int → Int → List Int → Int → Int → List Int → Int → Option (Bool)
  | 0, _, _, _, _, _, _, _ => none
  | n + 1, mp29_0, mp29_1, xp29_2, mp30_0, mp30_1, xp30_2, n31 =>
  ifp (decide (n31 < (xp29_2.length : Int))) (
    F15.J6p lf (F15.L4p lf n) mp29_0 mp29_1 xp29_2 mp30_0 mp30_1 xp30_2 n31) (
    some true)

theorem F15.L4_ok {ora : Ora} (hora : HOra ora) {lf ro : Nat} {F : List Ent} {r : (Bool)} : ∀ (n : Nat) (p29 : Nat) (mp29_0 : Int) (mp29_1 : Int) (ap29_2 : Option Addr) (cp29_2 : Nat) (xp29_2 : List Int) (p30 : Nat) (mp30_0 : Int) (mp30_1 : Int) (ap30_2 : Option Addr) (cp30_2 : Nat) (xp30_2 : List Int) (n31 : Int) (h : Heap), Sat ro h (.own ro (some ⟨p29, 0, none⟩) 1 [.int .i64 mp29_0, .int .i64 mp29_1, .slice ap29_2 xp29_2.length cp29_2] :: .row ap29_2 cp29_2 (xp29_2.map (Value.int .u8)) :: .own ro (some ⟨p30, 0, none⟩) 1 [.int .i64 mp30_0, .int .i64 mp30_1, .slice ap30_2 xp30_2.length cp30_2] :: .row ap30_2 cp30_2 (xp30_2.map (Value.int .u8)) :: F) → F15.L4p lf n mp29_0 mp29_1 xp29_2 mp30_0 mp30_1 xp30_2 n31 = some r → F15.Post F ro r (F15.L4 (callW Tryd.prog ora) lf ro n p29 0 p30 0 n31 h) := by
  intro n
  induction n with
  | zero => intro p29 mp29_0 mp29_1 ap29_2 cp29_2 xp29_2 p30 mp30_0 mp30_1 ap30_2 cp30_2 xp30_2 n31 h hs hp; cases hp
  | succ n ih =>
    intro p29 mp29_0 mp29_1 ap29_2 cp29_2 xp29_2 p30 mp30_0 mp30_1 ap30_2 cp30_2 xp30_2 n31 h hs hp
    unfold F15.L4
    unfold F15.L4p at hp
    refine st_load (Q := F15.Post F ro r) isO hs agg22 rfl ?_
    refine st_slice (Q := F15.Post F ro r) ?_
    refine st_if (Q := F15.Post F ro r) (fun hc_83 => ?_) (fun hc_83 => ?_)
    · replace hp := ifp_t hc_83 hp
      have hs_99 := hs.pull 3 rfl
      have hs_100 := hs_99.pull 3 rfl
      have hs_101 := hs_100.pull 3 rfl
      have hs_102 := hs_101.pull 3 rfl
      exact F15.J6_ok hora ih p29 mp29_0 mp29_1 ap29_2 _ xp29_2 p30 mp30_0 mp30_1 ap30_2 _ xp30_2 n31 _ hs_102 hp
    · replace hp := ifp_f hc_83 hp
      have hs_103 := hs.tail
      have hs_104 := hs_103.tail
      have hs_105 := hs_104.tail
      have hs_106 := hs_105.tail
      cases hp
      exact ⟨_, rfl, hs_106⟩

def F15.J3p (lf : Nat) (mp26_0 : Int) (mp26_1 : Int) (xp26_2 : List Int) (mp27_0 : Int) (mp27_1 : Int) (xp27_2 : List Int) : Option (Bool) :=
  F15.L4p lf lf mp26_0 mp26_1 xp26_2 mp27_0 mp27_1 xp27_2 0

theorem F15.J3_ok {ora : Ora} (hora : HOra ora) {lf ro : Nat} {F : List Ent} {r : (Bool)} (p26 : Nat) (mp26_0 : Int) (mp26_1 : Int) (ap26_2 : Option Addr) (cp26_2 : Nat) (xp26_2 : List Int) (p27 : Nat) (mp27_0 : Int) (mp27_1 : Int) (ap27_2 : Option Addr) (cp27_2 : Nat) (xp27_2 : List Int) (h : Heap) (hs : Sat ro h (.own ro (some ⟨p26, 0, none⟩) 1 [.int .i64 mp26_0, .int .i64 mp26_1, .slice ap26_2 xp26_2.length cp26_2] :: .row ap26_2 cp26_2 (xp26_2.map (Value.int .u8)) :: .own ro (some ⟨p27, 0, none⟩) 1 [.int .i64 mp27_0, .int .i64 mp27_1, .slice ap27_2 xp27_2.length cp27_2] :: .row ap27_2 cp27_2 (xp27_2.map (Value.int .u8)) :: F)) (hp : F15.J3p lf mp26_0 mp26_1 xp26_2 mp27_0 mp27_1 xp27_2 = some r) : F15.Post F ro r (F15.J3 (callW Tryd.prog ora) lf ro p26 0 p27 0 h) := by
  unfold F15.J3
  unfold F15.J3p at hp
  have hs_107 := hs.pull 3 rfl
  have hs_108 := hs_107.pull 3 rfl
  have hs_109 := hs_108.pull 3 rfl
  have hs_110 := hs_109.pull 3 rfl
  exact F15.L4_ok hora lf p26 mp26_0 mp26_1 ap26_2 _ xp26_2 p27 mp27_0 mp27_1 ap27_2 _ xp27_2 0 _ hs_110 hp

def F15.p (lf : Nat) (x0_0 : Int) (x0_1 : Int) (xax0_2 : List Int) (x1_0 : Int) (x1_1 : Int) (xax1_2 : List Int) : Option (Bool) :=
  letJ (fun (b23 : Bool) => (
    ifp b23 (
      some false) (
      F15.J3p lf x0_0 x0_1 xax0_2 x1_0 x1_1 xax1_2) : Option (Bool))) fun j25p =>
  ifp (x0_0 != x1_0) (
    j25p true) (
    ifp (x0_1 != x1_1) (
      j25p true) (
      j25p ((xax0_2.length : Int) != (xax1_2.length : Int))))

theorem F15.t_ok {ora : Ora} (hora : HOra ora) {lf ro : Nat} {F : List Ent} {r : (Bool)} (x0_0 : Int) (x0_1 : Int) (ax0_2 : Option Addr) (cx0_2 : Nat) (xax0_2 : List Int) (x1_0 : Int) (x1_1 : Int) (ax1_2 : Option Addr) (cx1_2 : Nat) (xax1_2 : List Int) (h : Heap) (hs : Sat ro h (.row ax0_2 cx0_2 (xax0_2.map (Value.int .u8)) :: .row ax1_2 cx1_2 (xax1_2.map (Value.int .u8)) :: F)) (hp : F15.p lf x0_0 x0_1 xax0_2 x1_0 x1_1 xax1_2 = some r) : F15.Post F ro r (F15.t (callW Tryd.prog ora) lf ro x0_0 x0_1 ax0_2 xax0_2.length cx0_2 x1_0 x1_1 ax1_2 xax1_2.length cx1_2 h) := by
  unfold F15.t
  unfold F15.p at hp
  refine st_pushJ (Q := F15.Post F ro r) hs hs.low rfl fun h_53 _ hs_54 => ?_
  refine st_pushJ (Q := F15.Post F ro r) hs_54 hs_54.low rfl fun h_55 _ hs_56 => ?_
  refine st_letJ hp (fun j25p j25 => ∀ (b23 : Bool) (h_77 : Heap), Sat ro h_77 (.own ro (some ⟨h_53.next, 0, none⟩) 1 [.int .i64 x1_0, .int .i64 x1_1, .slice ax1_2 xax1_2.length cx1_2] :: .own ro (some ⟨h.next, 0, none⟩) 1 [.int .i64 x0_0, .int .i64 x0_1, .slice ax0_2 xax0_2.length cx0_2] :: .row ax0_2 cx0_2 (xax0_2.map (Value.int .u8)) :: .row ax1_2 cx1_2 (xax1_2.map (Value.int .u8)) :: F) → j25p b23 = some r → F15.Post F ro r (j25 b23 h_77)) ?_ ?_
  · intro b23 h_77 hs hp
    refine st_if (Q := F15.Post F ro r) (fun hc_78 => ?_) (fun hc_78 => ?_)
    · replace hp := ifp_t hc_78 hp
      have hs_79 := hs.tail
      have hs_80 := hs_79.tail
      have hs_81 := hs_80.tail
      have hs_82 := hs_81.tail
      cases hp
      exact ⟨_, rfl, hs_82⟩
    · replace hp := ifp_f hc_78 hp
      have hs_111 := hs.pull 3 rfl
      have hs_112 := hs_111.pull 1 rfl
      have hs_113 := hs_112.pull 3 rfl
      have hs_114 := hs_113.pull 3 rfl
      exact F15.J3_ok hora h.next x0_0 x0_1 ax0_2 _ xax0_2 h_53.next x1_0 x1_1 ax1_2 _ xax1_2 _ hs_114 hp
  · intro j25p j25 hj25 hp
    have hs_57 := hs_56.pull 1 rfl
    refine st_load (Q := F15.Post F ro r) isO hs_57 agg3 rfl ?_
    refine st_int (Q := F15.Post F ro r) ?_
    have hs_58 := hs_57.pull 1 rfl
    refine st_load (Q := F15.Post F ro r) isO hs_58 agg3 rfl ?_
    refine st_int (Q := F15.Post F ro r) ?_
    refine st_if (Q := F15.Post F ro r) (fun hc_59 => ?_) (fun hc_59 => ?_)
    · replace hp := ifp_t hc_59 hp
      have hs_60 := hs_58.pull 3 rfl
      have hs_61 := hs_60.pull 3 rfl
      have hs_62 := hs_61.pull 3 rfl
      have hs_63 := hs_62.pull 3 rfl
      exact hj25 true _ hs_63 hp
    · replace hp := ifp_f hc_59 hp
      have hs_64 := hs_58.pull 1 rfl
      refine st_load (Q := F15.Post F ro r) isO hs_64 agg3 rfl ?_
      refine st_int (Q := F15.Post F ro r) ?_
      have hs_65 := hs_64.pull 1 rfl
      refine st_load (Q := F15.Post F ro r) isO hs_65 agg3 rfl ?_
      refine st_int (Q := F15.Post F ro r) ?_
      refine st_if (Q := F15.Post F ro r) (fun hc_66 => ?_) (fun hc_66 => ?_)
      · replace hp := ifp_t hc_66 hp
        have hs_67 := hs_65.pull 3 rfl
        have hs_68 := hs_67.pull 3 rfl
        have hs_69 := hs_68.pull 3 rfl
        have hs_70 := hs_69.pull 3 rfl
        exact hj25 true _ hs_70 hp
      · replace hp := ifp_f hc_66 hp
        have hs_71 := hs_65.pull 1 rfl
        refine st_load (Q := F15.Post F ro r) isO hs_71 agg22 rfl ?_
        refine st_slice (Q := F15.Post F ro r) ?_
        have hs_72 := hs_71.pull 1 rfl
        refine st_load (Q := F15.Post F ro r) isO hs_72 agg22 rfl ?_
        refine st_slice (Q := F15.Post F ro r) ?_
        have hs_73 := hs_72.pull 3 rfl
        have hs_74 := hs_73.pull 3 rfl
        have hs_75 := hs_74.pull 3 rfl
        have hs_76 := hs_75.pull 3 rfl
        exact hj25 ((xax0_2.length : Int) != (xax1_2.length : Int)) _ hs_76 hp

theorem F15.ok {ora : Ora} (hora : HOra ora) {lf ro : Nat} {F : List Ent} {r : (Bool)} (x0_0 : Int) (x0_1 : Int) (ax0_2 : Option Addr) (cx0_2 : Nat) (xax0_2 : List Int) (x1_0 : Int) (x1_1 : Int) (ax1_2 : Option Addr) (cx1_2 : Nat) (xax1_2 : List Int) (h : Heap) (hs : Sat ro h (.row ax0_2 cx0_2 (xax0_2.map (Value.int .u8)) :: .row ax1_2 cx1_2 (xax1_2.map (Value.int .u8)) :: F)) (hp : F15.p lf x0_0 x0_1 xax0_2 x1_0 x1_1 xax1_2 = some r) : F15.Post F ro r (callW Tryd.prog ora ro 15 [.agg #[.int .i64 x0_0, .int .i64 x0_1, .slice ax0_2 xax0_2.length cx0_2], .agg #[.int .i64 x1_0, .int .i64 x1_1, .slice ax1_2 xax1_2.length cx1_2]] h) := by
  have h1 := F15.t_ok hora x0_0 x0_1 ax0_2 cx0_2 xax0_2 x1_0 x1_1 ax1_2 cx1_2 xax1_2 h hs hp
  have h2 : callW Tryd.prog ora ro 15 [.agg #[.int .i64 x0_0, .int .i64 x0_1, .slice ax0_2 xax0_2.length cx0_2], .agg #[.int .i64 x1_0, .int .i64 x1_1, .slice ax1_2 xax1_2.length cx1_2]] h = _ := callW_body (hora.none _ _ _ _ (by decide)) Tryd.func15 (F15.le (callW Tryd.prog ora) lf ro x0_0 x0_1 ax0_2 xax0_2.length cx0_2 x1_0 x1_1 ax1_2 xax1_2.length cx1_2 h) (F15.Post.ne h1)
  rw [h2]; exact h1

def F36.Post (F : List Ent) (ro : Nat) (r : (Bool)) (x : Out) : Prop := ∃ h', x = .ok (.bool r) h' ∧ Sat ro h' (F)
theorem F36.Post.ne {F : List Ent} {ro : Nat} {r : (Bool)} {x : Out} (hx : F36.Post F ro r x) : x ≠ .fail := by
  obtain ⟨h', rfl, _⟩ := hx
  simp

def F36.p (lf : Nat) (x0 : Int) : Option (Bool) :=
  letJ (fun (b1 : Bool) => (
    some b1 : Option (Bool))) fun j2p =>
  ifp (x0 == 32) (
    j2p true) (
    ifp (x0 == 9) (
      j2p true) (
      ifp (x0 == 10) (
        j2p true) (
        j2p (x0 == 13))))

theorem F36.t_ok {ora : Ora} (hora : HOra ora) {lf ro : Nat} {F : List Ent} {r : (Bool)} (x0 : Int) (h : Heap) (hs : Sat ro h (F)) (hp : F36.p lf x0 = some r) : F36.Post F ro r (F36.t (callW Tryd.prog ora) lf ro x0 h) := by
  unfold F36.t
  unfold F36.p at hp
  refine st_letJ hp (fun j2p j2 => ∀ (b1 : Bool), Sat ro h (F) → j2p b1 = some r → F36.Post F ro r (j2 b1)) ?_ ?_
  · intro b1 hs hp
    cases hp
    exact ⟨_, rfl, hs⟩
  · intro j2p j2 hj2 hp
    refine st_if (Q := F36.Post F ro r) (fun hc_115 => ?_) (fun hc_115 => ?_)
    · replace hp := ifp_t hc_115 hp
      exact hj2 true hs hp
    · replace hp := ifp_f hc_115 hp
      refine st_if (Q := F36.Post F ro r) (fun hc_116 => ?_) (fun hc_116 => ?_)
      · replace hp := ifp_t hc_116 hp
        exact hj2 true hs hp
      · replace hp := ifp_f hc_116 hp
        refine st_if (Q := F36.Post F ro r) (fun hc_117 => ?_) (fun hc_117 => ?_)
        · replace hp := ifp_t hc_117 hp
          exact hj2 true hs hp
        · replace hp := ifp_f hc_117 hp
          exact hj2 (x0 == 13) hs hp

theorem F36.ok {ora : Ora} (hora : HOra ora) {lf ro : Nat} {F : List Ent} {r : (Bool)} (x0 : Int) (h : Heap) (hs : Sat ro h (F)) (hp : F36.p lf x0 = some r) : F36.Post F ro r (callW Tryd.prog ora ro 36 [.int .u8 x0] h) := by
  have h1 := F36.t_ok hora x0 h hs hp
  have h2 : callW Tryd.prog ora ro 36 [.int .u8 x0] h = _ := callW_body (hora.none _ _ _ _ (by decide)) Tryd.func36 (F36.le (callW Tryd.prog ora) lf ro x0 h) (F36.Post.ne h1)
  rw [h2]; exact h1

def F51.Post (F : List Ent) (ro : Nat) (r : (Bool)) (x : Out) : Prop := ∃ h', x = .ok (.bool r) h' ∧ Sat ro h' (F)
theorem F51.Post.ne {F : List Ent} {ro : Nat} {r : (Bool)} {x : Out} (hx : F51.Post F ro r x) : x ≠ .fail := by
  obtain ⟨h', rfl, _⟩ := hx
  simp

def F51.p (lf : Nat) (x0 : Int) : Option (Bool) :=
  letJ (fun (b1 : Bool) => (
    some b1 : Option (Bool))) fun j2p =>
  ifp (decide (x0 ≥ 48)) (
    j2p (decide (x0 ≤ 57))) (
    j2p false)

theorem F51.t_ok {ora : Ora} (hora : HOra ora) {lf ro : Nat} {F : List Ent} {r : (Bool)} (x0 : Int) (h : Heap) (hs : Sat ro h (F)) (hp : F51.p lf x0 = some r) : F51.Post F ro r (F51.t (callW Tryd.prog ora) lf ro x0 h) := by
  unfold F51.t
  unfold F51.p at hp
  refine st_letJ hp (fun j2p j2 => ∀ (b1 : Bool), Sat ro h (F) → j2p b1 = some r → F51.Post F ro r (j2 b1)) ?_ ?_
  · intro b1 hs hp
    cases hp
    exact ⟨_, rfl, hs⟩
  · intro j2p j2 hj2 hp
    refine st_if (Q := F51.Post F ro r) (fun hc_119 => ?_) (fun hc_119 => ?_)
    · replace hp := ifp_t hc_119 hp
      exact hj2 (decide (x0 ≤ 57)) hs hp
    · replace hp := ifp_f hc_119 hp
      exact hj2 false hs hp

theorem F51.ok {ora : Ora} (hora : HOra ora) {lf ro : Nat} {F : List Ent} {r : (Bool)} (x0 : Int) (h : Heap) (hs : Sat ro h (F)) (hp : F51.p lf x0 = some r) : F51.Post F ro r (callW Tryd.prog ora ro 51 [.int .u8 x0] h) := by
  have h1 := F51.t_ok hora x0 h hs hp
  have h2 : callW Tryd.prog ora ro 51 [.int .u8 x0] h = _ := callW_body (hora.none _ _ _ _ (by decide)) Tryd.func51 (F51.le (callW Tryd.prog ora) lf ro x0 h) (F51.Post.ne h1)
  rw [h2]; exact h1

def F54.Post (F : List Ent) (ro : Nat) (r : (Bool)) (x : Out) : Prop := ∃ h', x = .ok (.bool r) h' ∧ Sat ro h' (F)
theorem F54.Post.ne {F : List Ent} {ro : Nat} {r : (Bool)} {x : Out} (hx : F54.Post F ro r x) : x ≠ .fail := by
  obtain ⟨h', rfl, _⟩ := hx
  simp

def F54.p (lf : Nat) (x0 : Int) : Option (Bool) :=
  letJ (fun (b1 : Bool) => (
    some b1 : Option (Bool))) fun j2p =>
  ifp (x0 == 1) (
    j2p true) (
    j2p (x0 == 2))

theorem F54.t_ok {ora : Ora} (hora : HOra ora) {lf ro : Nat} {F : List Ent} {r : (Bool)} (x0 : Int) (h : Heap) (hs : Sat ro h (F)) (hp : F54.p lf x0 = some r) : F54.Post F ro r (F54.t (callW Tryd.prog ora) lf ro x0 h) := by
  unfold F54.t
  unfold F54.p at hp
  refine st_letJ hp (fun j2p j2 => ∀ (b1 : Bool), Sat ro h (F) → j2p b1 = some r → F54.Post F ro r (j2 b1)) ?_ ?_
  · intro b1 hs hp
    cases hp
    exact ⟨_, rfl, hs⟩
  · intro j2p j2 hj2 hp
    refine st_if (Q := F54.Post F ro r) (fun hc_121 => ?_) (fun hc_121 => ?_)
    · replace hp := ifp_t hc_121 hp
      exact hj2 true hs hp
    · replace hp := ifp_f hc_121 hp
      exact hj2 (x0 == 2) hs hp

theorem F54.ok {ora : Ora} (hora : HOra ora) {lf ro : Nat} {F : List Ent} {r : (Bool)} (x0 : Int) (h : Heap) (hs : Sat ro h (F)) (hp : F54.p lf x0 = some r) : F54.Post F ro r (callW Tryd.prog ora ro 54 [.int .i64 x0] h) := by
  have h1 := F54.t_ok hora x0 h hs hp
  have h2 : callW Tryd.prog ora ro 54 [.int .i64 x0] h = _ := callW_body (hora.none _ _ _ _ (by decide)) Tryd.func54 (F54.le (callW Tryd.prog ora) lf ro x0 h) (F54.Post.ne h1)
  rw [h2]; exact h1

def F52.Post (px0 : Nat) (apx0_0 : Option Addr) (cpx0_0 : Nat) (xpx0_0 : List Int) (F : List Ent) (ro : Nat) (r : (Res (Int) (Int × Int))) (x : Out) : Prop := match r with
  | .ok r => ∃ h', x = .ok (.tuple #[]) h' ∧ Sat ro h' (.own ro (some ⟨px0, 0, none⟩) 1 [.slice apx0_0 xpx0_0.length cpx0_0, .int .i64 r] :: F)
  | .pan r => ∃ h', x = .panic (.iface 77 (.agg #[.int .i64 r.1])) h' ∧ Sat ro h' (.own ro (some ⟨px0, 0, none⟩) 1 [.slice apx0_0 xpx0_0.length cpx0_0, .int .i64 r.2] :: F)
theorem F52.Post.ne {px0 : Nat} {apx0_0 : Option Addr} {cpx0_0 : Nat} {xpx0_0 : List Int} {F : List Ent} {ro : Nat} {r : (Res (Int) (Int × Int))} {x : Out} (hx : F52.Post px0 apx0_0 cpx0_0 xpx0_0 F ro r x) : x ≠ .fail := by
  cases r with
  | ok r => obtain ⟨h', rfl, _⟩ := hx; simp
  | pan r => obtain ⟨h', rfl, _⟩ := hx; simp

def F52.p (lf : Nat) (xpx0_0 : List Int) (mpx0_1 : Int) (x1 : Bool) (x2 : Int) : Option (Res (Int) (Int × Int)) :=
  ifp (!x1) (
    some (.pan (x2, mpx0_1))) (
    some (.ok mpx0_1))

theorem F52.t_ok {ora : Ora} (hora : HOra ora) {lf ro : Nat} {F : List Ent} {r : (Res (Int) (Int × Int))} {px0 : Nat} {apx0_0 : Option Addr} {cpx0_0 : Nat} {xpx0_0 : List Int} (mpx0_1 : Int) (x1 : Bool) (x2 : Int) (h : Heap) (hs : Sat ro h (.own ro (some ⟨px0, 0, none⟩) 1 [.slice apx0_0 xpx0_0.length cpx0_0, .int .i64 mpx0_1] :: .row apx0_0 cpx0_0 (xpx0_0.map (Value.int .u8)) :: F)) (hp : F52.p lf xpx0_0 mpx0_1 x1 x2 = some r) : F52.Post px0 apx0_0 cpx0_0 xpx0_0 F ro r (F52.t (callW Tryd.prog ora) lf ro px0 0 x1 x2 h) := by
  unfold F52.t
  unfold F52.p at hp
  refine st_if (Q := F52.Post px0 apx0_0 cpx0_0 xpx0_0 F ro r) (fun hc_123 => ?_) (fun hc_123 => ?_)
  · replace hp := ifp_t hc_123 hp
    have hs_124 := hs.pull 1 rfl
    have hs_125 := hs_124.tail
    cases hp
    exact ⟨_, rfl, hs_125⟩
  · replace hp := ifp_f hc_123 hp
    have hs_126 := hs.pull 1 rfl
    have hs_127 := hs_126.tail
    cases hp
    exact ⟨_, rfl, hs_127⟩

theorem F52.ok {ora : Ora} (hora : HOra ora) {lf ro : Nat} {F : List Ent} {r : (Res (Int) (Int × Int))} {px0 : Nat} {apx0_0 : Option Addr} {cpx0_0 : Nat} {xpx0_0 : List Int} (mpx0_1 : Int) (x1 : Bool) (x2 : Int) (h : Heap) (hs : Sat ro h (.own ro (some ⟨px0, 0, none⟩) 1 [.slice apx0_0 xpx0_0.length cpx0_0, .int .i64 mpx0_1] :: .row apx0_0 cpx0_0 (xpx0_0.map (Value.int .u8)) :: F)) (hp : F52.p lf xpx0_0 mpx0_1 x1 x2 = some r) : F52.Post px0 apx0_0 cpx0_0 xpx0_0 F ro r (callW Tryd.prog ora ro 52 [.pointer (some ⟨px0, 0, none⟩), .bool x1, .int .i64 x2] h) := by
  have h1 := F52.t_ok hora mpx0_1 x1 x2 h hs hp
  have h2 : callW Tryd.prog ora ro 52 [.pointer (some ⟨px0, 0, none⟩), .bool x1, .int .i64 x2] h = _ := callW_body (hora.none _ _ _ _ (by decide)) Tryd.func52 (F52.le (callW Tryd.prog ora) lf ro px0 0 x1 x2 h) (F52.Post.ne h1)
  rw [h2]; exact h1

def F67.Post (px0 : Nat) (apx0_0 : Option Addr) (cpx0_0 : Nat) (xpx0_0 : List Int) (F : List Ent) (ro : Nat) (r : (Int)) (x : Out) : Prop := ∃ h', x = .ok (.tuple #[]) h' ∧ Sat ro h' (.own ro (some ⟨px0, 0, none⟩) 1 [.slice apx0_0 xpx0_0.length cpx0_0, .int .i64 r] :: F)
theorem F67.Post.ne {px0 : Nat} {apx0_0 : Option Addr} {cpx0_0 : Nat} {xpx0_0 : List Int} {F : List Ent} {ro : Nat} {r : (Int)} {x : Out} (hx : F67.Post px0 apx0_0 cpx0_0 xpx0_0 F ro r x) : x ≠ .fail := by
  obtain ⟨h', rfl, _⟩ := hx
  simp

def F67.L5p (lf : Nat) (kb0p : List Int → Int → Option (Int)) : Nat → List Int → Int → Option (Int)
  | 0, _, _ => none
  | n + 1, xpx0_0, mpx0_1 =>
  letJ (fun (b80 : Bool) => (
    ifp b80 (
      F67.L5p lf kb0p n xpx0_0 (IntKind.i64.wrap (mpx0_1 + 1))) (
      kb0p xpx0_0 mpx0_1) : Option (Int))) fun j82p =>
  ifp (decide (mpx0_1 < (xpx0_0.length : Int))) (
    bindp (idxp xpx0_0 mpx0_1) fun x_145 =>
    ifp (x_145 != 10) (
      bindp (idxp xpx0_0 mpx0_1) fun x_150 =>
      j82p (x_150 != 13)) (
      j82p false)) (
    j82p false)

theorem F67.L5_ok {ora : Ora} (hora : HOra ora) {lf ro : Nat} {F : List Ent} {r : (Int)} {px0 : Nat} {apx0_0 : Option Addr} {cpx0_0 : Nat} {xpx0_0 : List Int} {kb0p : List Int → Int → Option (Int)} {kb0 : Nat → Nat → Heap → Out} (hkb0 : ∀ (mpx0_1 : Int) (h : Heap), Sat ro h (.own ro (some ⟨px0, 0, none⟩) 1 [.slice apx0_0 xpx0_0.length cpx0_0, .int .i64 mpx0_1] :: .row apx0_0 cpx0_0 (xpx0_0.map (Value.int .u8)) :: F) → kb0p xpx0_0 mpx0_1 = some r → F67.Post px0 apx0_0 cpx0_0 xpx0_0 F ro r (kb0 px0 0 h)) : ∀ (n : Nat) (mpx0_1 : Int) (h : Heap), Sat ro h (.own ro (some ⟨px0, 0, none⟩) 1 [.slice apx0_0 xpx0_0.length cpx0_0, .int .i64 mpx0_1] :: .row apx0_0 cpx0_0 (xpx0_0.map (Value.int .u8)) :: F) → F67.L5p lf kb0p n xpx0_0 mpx0_1 = some r → F67.Post px0 apx0_0 cpx0_0 xpx0_0 F ro r (F67.L5 (callW Tryd.prog ora) lf ro kb0 n px0 0 h) := by
  intro n
  induction n with
  | zero => intro mpx0_1 h hs hp; cases hp
  | succ n ih =>
    intro mpx0_1 h hs hp
    unfold F67.L5
    unfold F67.L5p at hp
    refine st_letJ hp (fun j82p j82 => ∀ (b80 : Bool) (h_157 : Heap), Sat ro h_157 (.own ro (some ⟨px0, 0, none⟩) 1 [.slice apx0_0 xpx0_0.length cpx0_0, .int .i64 mpx0_1] :: .row apx0_0 cpx0_0 (xpx0_0.map (Value.int .u8)) :: F) → j82p b80 = some r → F67.Post px0 apx0_0 cpx0_0 xpx0_0 F ro r (j82 b80 h_157)) ?_ ?_
    · intro b80 h_157 hs hp
      refine st_if (Q := F67.Post px0 apx0_0 cpx0_0 xpx0_0 F ro r) (fun hc_158 => ?_) (fun hc_158 => ?_)
      · replace hp := ifp_t hc_158 hp
        refine st_load (Q := F67.Post px0 apx0_0 cpx0_0 xpx0_0 F ro r) isO hs agg3 rfl ?_
        refine st_int (Q := F67.Post px0 apx0_0 cpx0_0 xpx0_0 F ro r) ?_
        refine st_store (Q := F67.Post px0 apx0_0 cpx0_0 xpx0_0 F ro r) isO hs siz3 rfl (Nat.le_of_ble_eq_true rfl) fun h_159 hs_160 => ?_
        have hs_161 := hs_160.pull 1 rfl
        have hs_162 := hs_161.pull 1 rfl
        exact ih (IntKind.i64.wrap (mpx0_1 + 1)) _ hs_162 hp
      · replace hp := ifp_f hc_158 hp
        have hs_163 := hs.pull 1 rfl
        have hs_164 := hs_163.pull 1 rfl
        exact hkb0 mpx0_1 _ hs_164 hp
    · intro j82p j82 hj82 hp
      refine st_load (Q := F67.Post px0 apx0_0 cpx0_0 xpx0_0 F ro r) isN hs agg3 rfl ?_
      refine st_int (Q := F67.Post px0 apx0_0 cpx0_0 xpx0_0 F ro r) ?_
      refine st_load (Q := F67.Post px0 apx0_0 cpx0_0 xpx0_0 F ro r) isN hs agg22 rfl ?_
      refine st_slice (Q := F67.Post px0 apx0_0 cpx0_0 xpx0_0 F ro r) ?_
      refine st_if (Q := F67.Post px0 apx0_0 cpx0_0 xpx0_0 F ro r) (fun hc_144 => ?_) (fun hc_144 => ?_)
      · replace hp := ifp_t hc_144 hp
        refine st_load (Q := F67.Post px0 apx0_0 cpx0_0 xpx0_0 F ro r) isN hs agg22 rfl ?_
        refine st_slice (Q := F67.Post px0 apx0_0 cpx0_0 xpx0_0 F ro r) ?_
        refine st_load (Q := F67.Post px0 apx0_0 cpx0_0 xpx0_0 F ro r) isN hs agg3 rfl ?_
        refine st_int (Q := F67.Post px0 apx0_0 cpx0_0 xpx0_0 F ro r) ?_
        have hs_147 := hs.pull 1 rfl
        obtain ⟨x_145, hx_146, hp⟩ := bindp_some hp
        refine st_idxR (Q := F67.Post px0 apx0_0 cpx0_0 xpx0_0 F ro r) (l := xpx0_0) (f := (Value.int .u8)) isN isN hs_147 und22 siz5 agg5 rfl hx_146 ?_
        refine st_int (Q := F67.Post px0 apx0_0 cpx0_0 xpx0_0 F ro r) ?_
        refine st_if (Q := F67.Post px0 apx0_0 cpx0_0 xpx0_0 F ro r) (fun hc_148 => ?_) (fun hc_148 => ?_)
        · replace hp := ifp_t hc_148 hp
          have hs_149 := hs_147.pull 1 rfl
          refine st_load (Q := F67.Post px0 apx0_0 cpx0_0 xpx0_0 F ro r) isN hs_149 agg22 rfl ?_
          refine st_slice (Q := F67.Post px0 apx0_0 cpx0_0 xpx0_0 F ro r) ?_
          refine st_load (Q := F67.Post px0 apx0_0 cpx0_0 xpx0_0 F ro r) isN hs_149 agg3 rfl ?_
          refine st_int (Q := F67.Post px0 apx0_0 cpx0_0 xpx0_0 F ro r) ?_
          have hs_152 := hs_149.pull 1 rfl
          obtain ⟨x_150, hx_151, hp⟩ := bindp_some hp
          refine st_idxR (Q := F67.Post px0 apx0_0 cpx0_0 xpx0_0 F ro r) (l := xpx0_0) (f := (Value.int .u8)) isO isO hs_152 und22 siz5 agg5 rfl hx_151 ?_
          refine st_int (Q := F67.Post px0 apx0_0 cpx0_0 xpx0_0 F ro r) ?_
          have hs_153 := hs_152.pull 1 rfl
          exact hj82 (x_150 != 13) _ hs_153 hp
        · replace hp := ifp_f hc_148 hp
          have hs_154 := hs_147.pull 1 rfl
          exact hj82 false _ hs_154 hp
      · replace hp := ifp_f hc_144 hp
        have hs_155 := hs.pull 1 rfl
        have hs_156 := hs_155.pull 1 rfl
        exact hj82 false _ hs_156 hp

def F67.J1p (lf : Nat) (kb0p : List Int → Int → Option (Int)) (xpx0_0 : List Int) (mpx0_1 : Int) : Option (Int) :=
  bindp (idxp xpx0_0 mpx0_1) fun x_129 =>
  bindp (F36.p lf x_129) fun r_132 =>
  ifp r_132 (
    kb0p xpx0_0 (IntKind.i64.wrap (mpx0_1 + 1))) (
    ifp (x_129 == 35) (
      F67.L5p lf kb0p lf xpx0_0 mpx0_1) (
      some mpx0_1))

theorem F67.J1_ok {ora : Ora} (hora : HOra ora) {lf ro : Nat} {F : List Ent} {r : (Int)} {px0 : Nat} {apx0_0 : Option Addr} {cpx0_0 : Nat} {xpx0_0 : List Int} {kb0p : List Int → Int → Option (Int)} {kb0 : Nat → Nat → Heap → Out} (hkb0 : ∀ (mpx0_1 : Int) (h : Heap), Sat ro h (.own ro (some ⟨px0, 0, none⟩) 1 [.slice apx0_0 xpx0_0.length cpx0_0, .int .i64 mpx0_1] :: .row apx0_0 cpx0_0 (xpx0_0.map (Value.int .u8)) :: F) → kb0p xpx0_0 mpx0_1 = some r → F67.Post px0 apx0_0 cpx0_0 xpx0_0 F ro r (kb0 px0 0 h)) (mpx0_1 : Int) (h : Heap) (hs : Sat ro h (.own ro (some ⟨px0, 0, none⟩) 1 [.slice apx0_0 xpx0_0.length cpx0_0, .int .i64 mpx0_1] :: .row apx0_0 cpx0_0 (xpx0_0.map (Value.int .u8)) :: F)) (hp : F67.J1p lf kb0p xpx0_0 mpx0_1 = some r) : F67.Post px0 apx0_0 cpx0_0 xpx0_0 F ro r (F67.J1 (callW Tryd.prog ora) lf ro kb0 px0 0 h) := by
  unfold F67.J1
  unfold F67.J1p at hp
  refine st_load (Q := F67.Post px0 apx0_0 cpx0_0 xpx0_0 F ro r) isN hs agg22 rfl ?_
  refine st_slice (Q := F67.Post px0 apx0_0 cpx0_0 xpx0_0 F ro r) ?_
  refine st_load (Q := F67.Post px0 apx0_0 cpx0_0 xpx0_0 F ro r) isN hs agg3 rfl ?_
  refine st_int (Q := F67.Post px0 apx0_0 cpx0_0 xpx0_0 F ro r) ?_
  have hs_131 := hs.pull 1 rfl
  obtain ⟨x_129, hx_130, hp⟩ := bindp_some hp
  refine st_idxR (Q := F67.Post px0 apx0_0 cpx0_0 xpx0_0 F ro r) (l := xpx0_0) (f := (Value.int .u8)) isO isO hs_131 und22 siz5 agg5 rfl hx_130 ?_
  refine st_int (Q := F67.Post px0 apx0_0 cpx0_0 xpx0_0 F ro r) ?_
  obtain ⟨r_132, hx_133, hp⟩ := bindp_some hp
  obtain ⟨h_134, e_136, hs_135⟩ := F36.ok hora (ro := ro) (F := .row apx0_0 cpx0_0 (xpx0_0.map (Value.int .u8)) :: .own ro (some ⟨px0, 0, none⟩) 1 [.slice apx0_0 xpx0_0.length cpx0_0, .int .i64 mpx0_1] :: F) x_129 _ hs_131 hx_133
  refine st_ok (Q := F67.Post px0 apx0_0 cpx0_0 xpx0_0 F ro r) isO e_136 ?_
  refine st_bool (Q := F67.Post px0 apx0_0 cpx0_0 xpx0_0 F ro r) ?_
  refine st_if (Q := F67.Post px0 apx0_0 cpx0_0 xpx0_0 F ro r) (fun hc_137 => ?_) (fun hc_137 => ?_)
  · replace hp := ifp_t hc_137 hp
    have hs_138 := hs_135.pull 1 rfl
    refine st_load (Q := F67.Post px0 apx0_0 cpx0_0 xpx0_0 F ro r) isO hs_138 agg3 rfl ?_
    refine st_int (Q := F67.Post px0 apx0_0 cpx0_0 xpx0_0 F ro r) ?_
    refine st_store (Q := F67.Post px0 apx0_0 cpx0_0 xpx0_0 F ro r) isO hs_138 siz3 rfl (Nat.le_of_ble_eq_true rfl) fun h_139 hs_140 => ?_
    have hs_141 := hs_140.pull 1 rfl
    have hs_142 := hs_141.pull 1 rfl
    exact hkb0 (IntKind.i64.wrap (mpx0_1 + 1)) _ hs_142 hp
  · replace hp := ifp_f hc_137 hp
    refine st_if (Q := F67.Post px0 apx0_0 cpx0_0 xpx0_0 F ro r) (fun hc_143 => ?_) (fun hc_143 => ?_)
    · replace hp := ifp_t hc_143 hp
      have hs_165 := hs_135.pull 1 rfl
      exact F67.L5_ok hora hkb0 lf mpx0_1 _ hs_165 hp
    · replace hp := ifp_f hc_143 hp
      have hs_166 := hs_135.tail
      cases hp
      exact ⟨_, rfl, hs_166⟩

def F67.L0p (lf : Nat) : Nat → List Int → Int → Option (Int)
  | 0, _, _ => none
  | n + 1, xpx0_0, mpx0_1 =>
  ifp (decide (mpx0_1 < (xpx0_0.length : Int))) (
    F67.J1p lf (F67.L0p lf n) xpx0_0 mpx0_1) (
    some mpx0_1)

theorem F67.L0_ok {ora : Ora} (hora : HOra ora) {lf ro : Nat} {F : List Ent} {r : (Int)} {px0 : Nat} {apx0_0 : Option Addr} {cpx0_0 : Nat} {xpx0_0 : List Int} : ∀ (n : Nat) (mpx0_1 : Int) (h : Heap), Sat ro h (.own ro (some ⟨px0, 0, none⟩) 1 [.slice apx0_0 xpx0_0.length cpx0_0, .int .i64 mpx0_1] :: .row apx0_0 cpx0_0 (xpx0_0.map (Value.int .u8)) :: F) → F67.L0p lf n xpx0_0 mpx0_1 = some r → F67.Post px0 apx0_0 cpx0_0 xpx0_0 F ro r (F67.L0 (callW Tryd.prog ora) lf ro n px0 0 h) := by
  intro n
  induction n with
  | zero => intro mpx0_1 h hs hp; cases hp
  | succ n ih =>
    intro mpx0_1 h hs hp
    unfold F67.L0
    unfold F67.L0p at hp
    refine st_load (Q := F67.Post px0 apx0_0 cpx0_0 xpx0_0 F ro r) isN hs agg3 rfl ?_
    refine st_int (Q := F67.Post px0 apx0_0 cpx0_0 xpx0_0 F ro r) ?_
    refine st_load (Q := F67.Post px0 apx0_0 cpx0_0 xpx0_0 F ro r) isN hs agg22 rfl ?_
    refine st_slice (Q := F67.Post px0 apx0_0 cpx0_0 xpx0_0 F ro r) ?_
    refine st_if (Q := F67.Post px0 apx0_0 cpx0_0 xpx0_0 F ro r) (fun hc_128 => ?_) (fun hc_128 => ?_)
    · replace hp := ifp_t hc_128 hp
      have hs_167 := hs.pull 1 rfl
      have hs_168 := hs_167.pull 1 rfl
      exact F67.J1_ok hora ih mpx0_1 _ hs_168 hp
    · replace hp := ifp_f hc_128 hp
      have hs_169 := hs.pull 1 rfl
      have hs_170 := hs_169.tail
      cases hp
      exact ⟨_, rfl, hs_170⟩

def F67.p (lf : Nat) (xpx0_0 : List Int) (mpx0_1 : Int) : Option (Int) :=
  F67.L0p lf lf xpx0_0 mpx0_1

theorem F67.t_ok {ora : Ora} (hora : HOra ora) {lf ro : Nat} {F : List Ent} {r : (Int)} {px0 : Nat} {apx0_0 : Option Addr} {cpx0_0 : Nat} {xpx0_0 : List Int} (mpx0_1 : Int) (h : Heap) (hs : Sat ro h (.own ro (some ⟨px0, 0, none⟩) 1 [.slice apx0_0 xpx0_0.length cpx0_0, .int .i64 mpx0_1] :: .row apx0_0 cpx0_0 (xpx0_0.map (Value.int .u8)) :: F)) (hp : F67.p lf xpx0_0 mpx0_1 = some r) : F67.Post px0 apx0_0 cpx0_0 xpx0_0 F ro r (F67.t (callW Tryd.prog ora) lf ro px0 0 h) := by
  unfold F67.t
  unfold F67.p at hp
  have hs_171 := hs.pull 1 rfl
  have hs_172 := hs_171.pull 1 rfl
  exact F67.L0_ok hora lf mpx0_1 _ hs_172 hp

theorem F67.ok {ora : Ora} (hora : HOra ora) {lf ro : Nat} {F : List Ent} {r : (Int)} {px0 : Nat} {apx0_0 : Option Addr} {cpx0_0 : Nat} {xpx0_0 : List Int} (mpx0_1 : Int) (h : Heap) (hs : Sat ro h (.own ro (some ⟨px0, 0, none⟩) 1 [.slice apx0_0 xpx0_0.length cpx0_0, .int .i64 mpx0_1] :: .row apx0_0 cpx0_0 (xpx0_0.map (Value.int .u8)) :: F)) (hp : F67.p lf xpx0_0 mpx0_1 = some r) : F67.Post px0 apx0_0 cpx0_0 xpx0_0 F ro r (callW Tryd.prog ora ro 67 [.pointer (some ⟨px0, 0, none⟩)] h) := by
  have h1 := F67.t_ok hora mpx0_1 h hs hp
  have h2 : callW Tryd.prog ora ro 67 [.pointer (some ⟨px0, 0, none⟩)] h = _ := callW_body (hora.none _ _ _ _ (by decide)) Tryd.func67 (F67.le (callW Tryd.prog ora) lf ro px0 0 h) (F67.Post.ne h1)
  rw [h2]; exact h1

def F65.Post (px0 : Nat) (apx0_0 : Option Addr) (cpx0_0 : Nat) (xpx0_0 : List Int) (F : List Ent) (ro : Nat) (r : (Res (Int × Int) (Int × Int))) (x : Out) : Prop := match r with
  | .ok r => ∃ h', x = .ok (.int .i64 r.1) h' ∧ Sat ro h' (.own ro (some ⟨px0, 0, none⟩) 1 [.slice apx0_0 xpx0_0.length cpx0_0, .int .i64 r.2] :: F)
  | .pan r => ∃ h', x = .panic (.iface 77 (.agg #[.int .i64 r.1])) h' ∧ Sat ro h' (.own ro (some ⟨px0, 0, none⟩) 1 [.slice apx0_0 xpx0_0.length cpx0_0, .int .i64 r.2] :: F)
theorem F65.Post.ne {px0 : Nat} {apx0_0 : Option Addr} {cpx0_0 : Nat} {xpx0_0 : List Int} {F : List Ent} {ro : Nat} {r : (Res (Int × Int) (Int × Int))} {x : Out} (hx : F65.Post px0 apx0_0 cpx0_0 xpx0_0 F ro r x) : x ≠ .fail := by
  cases r with
  | ok r => obtain ⟨h', rfl, _⟩ := hx; simp
  | pan r => obtain ⟨h', rfl, _⟩ := hx; simp

def F65.L7p (lf : Nat) : Nat → List Int → Int → Int → Option (Res (Int × Int) (Int × Int))
  | 0, _, _, _ => none
  | n + 1, xpx0_0, mpx0_1, n97 =>
  letJ ((
    some (.ok (n97, mpx0_1)) : Option (Res (Int × Int) (Int × Int)))) fun j170p =>
  letJ (fun (b191 : Bool) => (
    ifp b191 (
      bindp (idxp xpx0_0 mpx0_1) fun x_254 =>
      F65.L7p lf n xpx0_0 (IntKind.i64.wrap (mpx0_1 + 1)) (if 65536 < IntKind.i64.wrap ((IntKind.i64.wrap (10 * n97)) + (IntKind.i64.wrap (IntKind.u8.wrap (x_254 - 48)))) then 65536 else IntKind.i64.wrap ((IntKind.i64.wrap (10 * n97)) + (IntKind.i64.wrap (IntKind.u8.wrap (x_254 - 48)))))) (
      j170p) : Option (Res (Int × Int) (Int × Int)))) fun j193p =>
  ifp (decide (mpx0_1 < (xpx0_0.length : Int))) (
    bindp (idxp xpx0_0 mpx0_1) fun x_241 =>
    bindp (F51.p lf x_241) fun r_244 =>
    j193p r_244) (
    j193p false)

theorem F65.L7_ok {ora : Ora} (hora : HOra ora) {lf ro : Nat} {F : List Ent} {r : (Res (Int × Int) (Int × Int))} {px0 : Nat} {apx0_0 : Option Addr} {cpx0_0 : Nat} {xpx0_0 : List Int} : ∀ (n : Nat) (mpx0_1 : Int) (n97 : Int) (h : Heap), Sat ro h (.own ro (some ⟨px0, 0, none⟩) 1 [.slice apx0_0 xpx0_0.length cpx0_0, .int .i64 mpx0_1] :: .row apx0_0 cpx0_0 (xpx0_0.map (Value.int .u8)) :: F) → F65.L7p lf n xpx0_0 mpx0_1 n97 = some r → F65.Post px0 apx0_0 cpx0_0 xpx0_0 F ro r (F65.L7 (callW Tryd.prog ora) lf ro n px0 0 n97 h) := by
  intro n
  induction n with
  | zero => intro mpx0_1 n97 h hs hp; cases hp
  | succ n ih =>
    intro mpx0_1 n97 h hs hp
    unfold F65.L7
    unfold F65.L7p at hp
    refine st_letJ hp (fun j170p j170 => ∀  (h_264 : Heap), Sat ro h_264 (.own ro (some ⟨px0, 0, none⟩) 1 [.slice apx0_0 xpx0_0.length cpx0_0, .int .i64 mpx0_1] :: .row apx0_0 cpx0_0 (xpx0_0.map (Value.int .u8)) :: F) → j170p = some r → F65.Post px0 apx0_0 cpx0_0 xpx0_0 F ro r (j170 h_264)) ?_ ?_
    · intro  h_264 hs hp
      have hs_265 := hs.pull 1 rfl
      have hs_266 := hs_265.tail
      cases hp
      exact ⟨_, rfl, hs_266⟩
    · intro j170p j170 hj170 hp
      refine st_letJ hp (fun j193p j193 => ∀ (b191 : Bool) (h_252 : Heap), Sat ro h_252 (.own ro (some ⟨px0, 0, none⟩) 1 [.slice apx0_0 xpx0_0.length cpx0_0, .int .i64 mpx0_1] :: .row apx0_0 cpx0_0 (xpx0_0.map (Value.int .u8)) :: F) → j193p b191 = some r → F65.Post px0 apx0_0 cpx0_0 xpx0_0 F ro r (j193 b191 h_252)) ?_ ?_
      · intro b191 h_252 hs hp
        refine st_if (Q := F65.Post px0 apx0_0 cpx0_0 xpx0_0 F ro r) (fun hc_253 => ?_) (fun hc_253 => ?_)
        · replace hp := ifp_t hc_253 hp
          refine st_load (Q := F65.Post px0 apx0_0 cpx0_0 xpx0_0 F ro r) isN hs agg22 rfl ?_
          refine st_slice (Q := F65.Post px0 apx0_0 cpx0_0 xpx0_0 F ro r) ?_
          refine st_load (Q := F65.Post px0 apx0_0 cpx0_0 xpx0_0 F ro r) isN hs agg3 rfl ?_
          refine st_int (Q := F65.Post px0 apx0_0 cpx0_0 xpx0_0 F ro r) ?_
          have hs_256 := hs.pull 1 rfl
          obtain ⟨x_254, hx_255, hp⟩ := bindp_some hp
          refine st_idxR (Q := F65.Post px0 apx0_0 cpx0_0 xpx0_0 F ro r) (l := xpx0_0) (f := (Value.int .u8)) isN isN hs_256 und22 siz5 agg5 rfl hx_255 ?_
          refine st_int (Q := F65.Post px0 apx0_0 cpx0_0 xpx0_0 F ro r) ?_
          have hs_257 := hs_256.pull 1 rfl
          refine st_load (Q := F65.Post px0 apx0_0 cpx0_0 xpx0_0 F ro r) isO hs_257 agg3 rfl ?_
          refine st_int (Q := F65.Post px0 apx0_0 cpx0_0 xpx0_0 F ro r) ?_
          refine st_store (Q := F65.Post px0 apx0_0 cpx0_0 xpx0_0 F ro r) isO hs_257 siz3 rfl (Nat.le_of_ble_eq_true rfl) fun h_258 hs_259 => ?_
          have hs_260 := hs_259.pull 1 rfl
          have hs_261 := hs_260.pull 1 rfl
          exact ih (IntKind.i64.wrap (mpx0_1 + 1)) (if 65536 < IntKind.i64.wrap ((IntKind.i64.wrap (10 * n97)) + (IntKind.i64.wrap (IntKind.u8.wrap (x_254 - 48)))) then 65536 else IntKind.i64.wrap ((IntKind.i64.wrap (10 * n97)) + (IntKind.i64.wrap (IntKind.u8.wrap (x_254 - 48))))) _ hs_261 hp
        · replace hp := ifp_f hc_253 hp
          have hs_262 := hs.pull 1 rfl
          have hs_263 := hs_262.pull 1 rfl
          exact hj170 _ hs_263 hp
      · intro j193p j193 hj193 hp
        refine st_load (Q := F65.Post px0 apx0_0 cpx0_0 xpx0_0 F ro r) isN hs agg3 rfl ?_
        refine st_int (Q := F65.Post px0 apx0_0 cpx0_0 xpx0_0 F ro r) ?_
        refine st_load (Q := F65.Post px0 apx0_0 cpx0_0 xpx0_0 F ro r) isN hs agg22 rfl ?_
        refine st_slice (Q := F65.Post px0 apx0_0 cpx0_0 xpx0_0 F ro r) ?_
        refine st_if (Q := F65.Post px0 apx0_0 cpx0_0 xpx0_0 F ro r) (fun hc_240 => ?_) (fun hc_240 => ?_)
        · replace hp := ifp_t hc_240 hp
          refine st_load (Q := F65.Post px0 apx0_0 cpx0_0 xpx0_0 F ro r) isN hs agg22 rfl ?_
          refine st_slice (Q := F65.Post px0 apx0_0 cpx0_0 xpx0_0 F ro r) ?_
          refine st_load (Q := F65.Post px0 apx0_0 cpx0_0 xpx0_0 F ro r) isN hs agg3 rfl ?_
          refine st_int (Q := F65.Post px0 apx0_0 cpx0_0 xpx0_0 F ro r) ?_
          have hs_243 := hs.pull 1 rfl
          obtain ⟨x_241, hx_242, hp⟩ := bindp_some hp
          refine st_idxR (Q := F65.Post px0 apx0_0 cpx0_0 xpx0_0 F ro r) (l := xpx0_0) (f := (Value.int .u8)) isO isO hs_243 und22 siz5 agg5 rfl hx_242 ?_
          refine st_int (Q := F65.Post px0 apx0_0 cpx0_0 xpx0_0 F ro r) ?_
          obtain ⟨r_244, hx_245, hp⟩ := bindp_some hp
          obtain ⟨h_246, e_248, hs_247⟩ := F51.ok hora (ro := ro) (F := .row apx0_0 cpx0_0 (xpx0_0.map (Value.int .u8)) :: .own ro (some ⟨px0, 0, none⟩) 1 [.slice apx0_0 xpx0_0.length cpx0_0, .int .i64 mpx0_1] :: F) x_241 _ hs_243 hx_245
          refine st_ok (Q := F65.Post px0 apx0_0 cpx0_0 xpx0_0 F ro r) isO e_248 ?_
          refine st_bool (Q := F65.Post px0 apx0_0 cpx0_0 xpx0_0 F ro r) ?_
          have hs_249 := hs_247.pull 1 rfl
          exact hj193 r_244 _ hs_249 hp
        · replace hp := ifp_f hc_240 hp
          have hs_250 := hs.pull 1 rfl
          have hs_251 := hs_250.pull 1 rfl
          exact hj193 false _ hs_251 hp

def F65.J3p (lf : Nat) (xpx0_0 : List Int) (mpx0_1 : Int) : Option (Res (Int × Int) (Int × Int)) :=
  bindp (F67.p lf xpx0_0 mpx0_1) fun r_206 =>
  bindr (F52.p lf xpx0_0 r_206 (decide (r_206 < (xpx0_0.length : Int))) 10) (fun r_220 => some (.pan (r_220.1, r_220.2))) fun r_219 =>
  bindp (idxp xpx0_0 r_219) fun x_222 =>
  bindp (F51.p lf x_222) fun r_225 =>
  bindr (F52.p lf xpx0_0 r_219 r_225 9) (fun r_238 => some (.pan (r_238.1, r_238.2))) fun r_237 =>
  F65.L7p lf lf xpx0_0 r_237 0

theorem F65.J3_ok {ora : Ora} (hora : HOra ora) {lf ro : Nat} {F : List Ent} {r : (Res (Int × Int) (Int × Int))} {px0 : Nat} {apx0_0 : Option Addr} {cpx0_0 : Nat} {xpx0_0 : List Int} (mpx0_1 : Int) (h : Heap) (hs : Sat ro h (.own ro (some ⟨px0, 0, none⟩) 1 [.slice apx0_0 xpx0_0.length cpx0_0, .int .i64 mpx0_1] :: .row apx0_0 cpx0_0 (xpx0_0.map (Value.int .u8)) :: F)) (hp : F65.J3p lf xpx0_0 mpx0_1 = some r) : F65.Post px0 apx0_0 cpx0_0 xpx0_0 F ro r (F65.J3 (callW Tryd.prog ora) lf ro px0 0 h) := by
  unfold F65.J3
  unfold F65.J3p at hp
  have hs_203 := hs.pull 1 rfl
  have hs_204 := hs_203.dup
  have hs_205 := hs_204.pull 2 rfl
  obtain ⟨r_206, hx_207, hp⟩ := bindp_some hp
  obtain ⟨h_208, e_210, hs_209⟩ := F67.ok hora (ro := ro) (px0 := px0) (apx0_0 := apx0_0) (cpx0_0 := cpx0_0) (xpx0_0 := xpx0_0) (F := .row apx0_0 cpx0_0 (xpx0_0.map (Value.int .u8)) :: F) mpx0_1 _ hs_205 hx_207
  refine st_ok (Q := F65.Post px0 apx0_0 cpx0_0 xpx0_0 F ro r) isO e_210 ?_
  refine st_tup (Q := F65.Post px0 apx0_0 cpx0_0 xpx0_0 F ro r) (l := []) ?_
  refine st_nil (Q := F65.Post px0 apx0_0 cpx0_0 xpx0_0 F ro r) ?_
  refine st_load (Q := F65.Post px0 apx0_0 cpx0_0 xpx0_0 F ro r) isN hs_209 agg3 rfl ?_
  refine st_int (Q := F65.Post px0 apx0_0 cpx0_0 xpx0_0 F ro r) ?_
  refine st_load (Q := F65.Post px0 apx0_0 cpx0_0 xpx0_0 F ro r) isN hs_209 agg22 rfl ?_
  refine st_slice (Q := F65.Post px0 apx0_0 cpx0_0 xpx0_0 F ro r) ?_
  have hs_211 := hs_209.pull 1 rfl
  have hs_212 := hs_211.dup
  have hs_213 := hs_212.pull 2 rfl
  obtain ⟨r_214, hx_215, hp⟩ := bindr_some hp
  have hc_221 := F52.ok hora (ro := ro) (px0 := px0) (apx0_0 := apx0_0) (cpx0_0 := cpx0_0) (xpx0_0 := xpx0_0) (F := .row apx0_0 cpx0_0 (xpx0_0.map (Value.int .u8)) :: F) r_206 (decide (r_206 < (xpx0_0.length : Int))) 10 _ hs_213 hx_215
  cases r_214 with
  | ok r_219 =>
    replace hp := bindr_ok hp
    obtain ⟨h_216, e_218, hs_217⟩ := hc_221
    refine st_ok (Q := F65.Post px0 apx0_0 cpx0_0 xpx0_0 F ro r) isO e_218 ?_
    refine st_tup (Q := F65.Post px0 apx0_0 cpx0_0 xpx0_0 F ro r) (l := []) ?_
    refine st_nil (Q := F65.Post px0 apx0_0 cpx0_0 xpx0_0 F ro r) ?_
    refine st_load (Q := F65.Post px0 apx0_0 cpx0_0 xpx0_0 F ro r) isN hs_217 agg22 rfl ?_
    refine st_slice (Q := F65.Post px0 apx0_0 cpx0_0 xpx0_0 F ro r) ?_
    refine st_load (Q := F65.Post px0 apx0_0 cpx0_0 xpx0_0 F ro r) isN hs_217 agg3 rfl ?_
    refine st_int (Q := F65.Post px0 apx0_0 cpx0_0 xpx0_0 F ro r) ?_
    have hs_224 := hs_217.pull 1 rfl
    obtain ⟨x_222, hx_223, hp⟩ := bindp_some hp
    refine st_idxR (Q := F65.Post px0 apx0_0 cpx0_0 xpx0_0 F ro r) (l := xpx0_0) (f := (Value.int .u8)) isN isN hs_224 und22 siz5 agg5 rfl hx_223 ?_
    refine st_int (Q := F65.Post px0 apx0_0 cpx0_0 xpx0_0 F ro r) ?_
    obtain ⟨r_225, hx_226, hp⟩ := bindp_some hp
    obtain ⟨h_227, e_229, hs_228⟩ := F51.ok hora (ro := ro) (F := .row apx0_0 cpx0_0 (xpx0_0.map (Value.int .u8)) :: .own ro (some ⟨px0, 0, none⟩) 1 [.slice apx0_0 xpx0_0.length cpx0_0, .int .i64 r_219] :: F) x_222 _ hs_224 hx_226
    refine st_ok (Q := F65.Post px0 apx0_0 cpx0_0 xpx0_0 F ro r) isN e_229 ?_
    refine st_bool (Q := F65.Post px0 apx0_0 cpx0_0 xpx0_0 F ro r) ?_
    have hs_230 := hs_228.dup
    have hs_231 := hs_230.pull 2 rfl
    obtain ⟨r_232, hx_233, hp⟩ := bindr_some hp
    have hc_239 := F52.ok hora (ro := ro) (px0 := px0) (apx0_0 := apx0_0) (cpx0_0 := cpx0_0) (xpx0_0 := xpx0_0) (F := .row apx0_0 cpx0_0 (xpx0_0.map (Value.int .u8)) :: F) r_219 r_225 9 _ hs_231 hx_233
    cases r_232 with
    | ok r_237 =>
      replace hp := bindr_ok hp
      obtain ⟨h_234, e_236, hs_235⟩ := hc_239
      refine st_ok (Q := F65.Post px0 apx0_0 cpx0_0 xpx0_0 F ro r) isO e_236 ?_
      refine st_tup (Q := F65.Post px0 apx0_0 cpx0_0 xpx0_0 F ro r) (l := []) ?_
      refine st_nil (Q := F65.Post px0 apx0_0 cpx0_0 xpx0_0 F ro r) ?_
      have hs_267 := hs_235.pull 1 rfl
      have hs_268 := hs_267.pull 1 rfl
      exact F65.L7_ok hora lf r_237 0 _ hs_268 hp
    | pan r_238 =>
      replace hp := bindr_pan hp
      obtain ⟨h_269, e_271, hs_270⟩ := hc_239
      refine st_pan (Q := F65.Post px0 apx0_0 cpx0_0 xpx0_0 F ro r) e_271 ?_
      have hs_272 := hs_270.pull 1 rfl
      have hs_273 := hs_272.tail
      cases hp
      exact ⟨_, rfl, hs_273⟩
  | pan r_220 =>
    replace hp := bindr_pan hp
    obtain ⟨h_274, e_276, hs_275⟩ := hc_221
    refine st_pan (Q := F65.Post px0 apx0_0 cpx0_0 xpx0_0 F ro r) e_276 ?_
    have hs_277 := hs_275.pull 1 rfl
    have hs_278 := hs_277.tail
    cases hp
    exact ⟨_, rfl, hs_278⟩

def F65.p (lf : Nat) (xpx0_0 : List Int) (mpx0_1 : Int) : Option (Res (Int × Int) (Int × Int)) :=
  bindr (F52.p lf xpx0_0 mpx0_1 (decide (mpx0_1 < (xpx0_0.length : Int))) 10) (fun r_182 => some (.pan (r_182.1, r_182.2))) fun r_181 =>
  bindp (idxp xpx0_0 r_181) fun x_184 =>
  bindp (F36.p lf x_184) fun r_187 =>
  ifp r_187 (
    bindr (F52.p lf xpx0_0 r_181 true 9) (fun r_201 => some (.pan (r_201.1, r_201.2))) fun r_200 =>
    F65.J3p lf xpx0_0 r_200) (
    bindp (idxp xpx0_0 r_181) fun x_287 =>
    bindr (F52.p lf xpx0_0 r_181 (x_287 == 35) 9) (fun r_298 => some (.pan (r_298.1, r_298.2))) fun r_297 =>
    F65.J3p lf xpx0_0 r_297)

theorem F65.t_ok {ora : Ora} (hora : HOra ora) {lf ro : Nat} {F : List Ent} {r : (Res (Int × Int) (Int × Int))} {px0 : Nat} {apx0_0 : Option Addr} {cpx0_0 : Nat} {xpx0_0 : List Int} (mpx0_1 : Int) (h : Heap) (hs : Sat ro h (.own ro (some ⟨px0, 0, none⟩) 1 [.slice apx0_0 xpx0_0.length cpx0_0, .int .i64 mpx0_1] :: .row apx0_0 cpx0_0 (xpx0_0.map (Value.int .u8)) :: F)) (hp : F65.p lf xpx0_0 mpx0_1 = some r) : F65.Post px0 apx0_0 cpx0_0 xpx0_0 F ro r (F65.t (callW Tryd.prog ora) lf ro px0 0 h) := by
  unfold F65.t
  unfold F65.p at hp
  refine st_load (Q := F65.Post px0 apx0_0 cpx0_0 xpx0_0 F ro r) isN hs agg3 rfl ?_
  refine st_int (Q := F65.Post px0 apx0_0 cpx0_0 xpx0_0 F ro r) ?_
  refine st_load (Q := F65.Post px0 apx0_0 cpx0_0 xpx0_0 F ro r) isN hs agg22 rfl ?_
  refine st_slice (Q := F65.Post px0 apx0_0 cpx0_0 xpx0_0 F ro r) ?_
  have hs_173 := hs.pull 1 rfl
  have hs_174 := hs_173.dup
  have hs_175 := hs_174.pull 2 rfl
  obtain ⟨r_176, hx_177, hp⟩ := bindr_some hp
  have hc_183 := F52.ok hora (ro := ro) (px0 := px0) (apx0_0 := apx0_0) (cpx0_0 := cpx0_0) (xpx0_0 := xpx0_0) (F := .row apx0_0 cpx0_0 (xpx0_0.map (Value.int .u8)) :: F) mpx0_1 (decide (mpx0_1 < (xpx0_0.length : Int))) 10 _ hs_175 hx_177
  cases r_176 with
  | ok r_181 =>
    replace hp := bindr_ok hp
    obtain ⟨h_178, e_180, hs_179⟩ := hc_183
    refine st_ok (Q := F65.Post px0 apx0_0 cpx0_0 xpx0_0 F ro r) isO e_180 ?_
    refine st_tup (Q := F65.Post px0 apx0_0 cpx0_0 xpx0_0 F ro r) (l := []) ?_
    refine st_nil (Q := F65.Post px0 apx0_0 cpx0_0 xpx0_0 F ro r) ?_
    refine st_load (Q := F65.Post px0 apx0_0 cpx0_0 xpx0_0 F ro r) isN hs_179 agg22 rfl ?_
    refine st_slice (Q := F65.Post px0 apx0_0 cpx0_0 xpx0_0 F ro r) ?_
    refine st_load (Q := F65.Post px0 apx0_0 cpx0_0 xpx0_0 F ro r) isN hs_179 agg3 rfl ?_
    refine st_int (Q := F65.Post px0 apx0_0 cpx0_0 xpx0_0 F ro r) ?_
    have hs_186 := hs_179.pull 1 rfl
    obtain ⟨x_184, hx_185, hp⟩ := bindp_some hp
    refine st_idxR (Q := F65.Post px0 apx0_0 cpx0_0 xpx0_0 F ro r) (l := xpx0_0) (f := (Value.int .u8)) isN isN hs_186 und22 siz5 agg5 rfl hx_185 ?_
    refine st_int (Q := F65.Post px0 apx0_0 cpx0_0 xpx0_0 F ro r) ?_
    obtain ⟨r_187, hx_188, hp⟩ := bindp_some hp
    obtain ⟨h_189, e_191, hs_190⟩ := F36.ok hora (ro := ro) (F := .row apx0_0 cpx0_0 (xpx0_0.map (Value.int .u8)) :: .own ro (some ⟨px0, 0, none⟩) 1 [.slice apx0_0 xpx0_0.length cpx0_0, .int .i64 r_181] :: F) x_184 _ hs_186 hx_188
    refine st_ok (Q := F65.Post px0 apx0_0 cpx0_0 xpx0_0 F ro r) isN e_191 ?_
    refine st_bool (Q := F65.Post px0 apx0_0 cpx0_0 xpx0_0 F ro r) ?_
    refine st_if (Q := F65.Post px0 apx0_0 cpx0_0 xpx0_0 F ro r) (fun hc_192 => ?_) (fun hc_192 => ?_)
    · replace hp := ifp_t hc_192 hp
      have hs_193 := hs_190.dup
      have hs_194 := hs_193.pull 2 rfl
      obtain ⟨r_195, hx_196, hp⟩ := bindr_some hp
      have hc_202 := F52.ok hora (ro := ro) (px0 := px0) (apx0_0 := apx0_0) (cpx0_0 := cpx0_0) (xpx0_0 := xpx0_0) (F := .row apx0_0 cpx0_0 (xpx0_0.map (Value.int .u8)) :: F) r_181 true 9 _ hs_194 hx_196
      cases r_195 with
      | ok r_200 =>
        replace hp := bindr_ok hp
        obtain ⟨h_197, e_199, hs_198⟩ := hc_202
        refine st_ok (Q := F65.Post px0 apx0_0 cpx0_0 xpx0_0 F ro r) isO e_199 ?_
        refine st_tup (Q := F65.Post px0 apx0_0 cpx0_0 xpx0_0 F ro r) (l := []) ?_
        refine st_nil (Q := F65.Post px0 apx0_0 cpx0_0 xpx0_0 F ro r) ?_
        have hs_279 := hs_198.pull 1 rfl
        have hs_280 := hs_279.pull 1 rfl
        exact F65.J3_ok hora r_200 _ hs_280 hp
      | pan r_201 =>
        replace hp := bindr_pan hp
        obtain ⟨h_281, e_283, hs_282⟩ := hc_202
        refine st_pan (Q := F65.Post px0 apx0_0 cpx0_0 xpx0_0 F ro r) e_283 ?_
        have hs_284 := hs_282.pull 1 rfl
        have hs_285 := hs_284.tail
        cases hp
        exact ⟨_, rfl, hs_285⟩
    · replace hp := ifp_f hc_192 hp
      have hs_286 := hs_190.pull 1 rfl
      refine st_load (Q := F65.Post px0 apx0_0 cpx0_0 xpx0_0 F ro r) isN hs_286 agg22 rfl ?_
      refine st_slice (Q := F65.Post px0 apx0_0 cpx0_0 xpx0_0 F ro r) ?_
      refine st_load (Q := F65.Post px0 apx0_0 cpx0_0 xpx0_0 F ro r) isN hs_286 agg3 rfl ?_
      refine st_int (Q := F65.Post px0 apx0_0 cpx0_0 xpx0_0 F ro r) ?_
      have hs_289 := hs_286.pull 1 rfl
      obtain ⟨x_287, hx_288, hp⟩ := bindp_some hp
      refine st_idxR (Q := F65.Post px0 apx0_0 cpx0_0 xpx0_0 F ro r) (l := xpx0_0) (f := (Value.int .u8)) isN isN hs_289 und22 siz5 agg5 rfl hx_288 ?_
      refine st_int (Q := F65.Post px0 apx0_0 cpx0_0 xpx0_0 F ro r) ?_
      have hs_290 := hs_289.dup
      have hs_291 := hs_290.pull 2 rfl
      obtain ⟨r_292, hx_293, hp⟩ := bindr_some hp
      have hc_299 := F52.ok hora (ro := ro) (px0 := px0) (apx0_0 := apx0_0) (cpx0_0 := cpx0_0) (xpx0_0 := xpx0_0) (F := .row apx0_0 cpx0_0 (xpx0_0.map (Value.int .u8)) :: F) r_181 (x_287 == 35) 9 _ hs_291 hx_293
      cases r_292 with
      | ok r_297 =>
        replace hp := bindr_ok hp
        obtain ⟨h_294, e_296, hs_295⟩ := hc_299
        refine st_ok (Q := F65.Post px0 apx0_0 cpx0_0 xpx0_0 F ro r) isO e_296 ?_
        refine st_tup (Q := F65.Post px0 apx0_0 cpx0_0 xpx0_0 F ro r) (l := []) ?_
        refine st_nil (Q := F65.Post px0 apx0_0 cpx0_0 xpx0_0 F ro r) ?_
        have hs_300 := hs_295.pull 1 rfl
        have hs_301 := hs_300.pull 1 rfl
        exact F65.J3_ok hora r_297 _ hs_301 hp
      | pan r_298 =>
        replace hp := bindr_pan hp
        obtain ⟨h_302, e_304, hs_303⟩ := hc_299
        refine st_pan (Q := F65.Post px0 apx0_0 cpx0_0 xpx0_0 F ro r) e_304 ?_
        have hs_305 := hs_303.pull 1 rfl
        have hs_306 := hs_305.tail
        cases hp
        exact ⟨_, rfl, hs_306⟩
  | pan r_182 =>
    replace hp := bindr_pan hp
    obtain ⟨h_307, e_309, hs_308⟩ := hc_183
    refine st_pan (Q := F65.Post px0 apx0_0 cpx0_0 xpx0_0 F ro r) e_309 ?_
    have hs_310 := hs_308.pull 1 rfl
    have hs_311 := hs_310.tail
    cases hp
    exact ⟨_, rfl, hs_311⟩

theorem F65.ok {ora : Ora} (hora : HOra ora) {lf ro : Nat} {F : List Ent} {r : (Res (Int × Int) (Int × Int))} {px0 : Nat} {apx0_0 : Option Addr} {cpx0_0 : Nat} {xpx0_0 : List Int} (mpx0_1 : Int) (h : Heap) (hs : Sat ro h (.own ro (some ⟨px0, 0, none⟩) 1 [.slice apx0_0 xpx0_0.length cpx0_0, .int .i64 mpx0_1] :: .row apx0_0 cpx0_0 (xpx0_0.map (Value.int .u8)) :: F)) (hp : F65.p lf xpx0_0 mpx0_1 = some r) : F65.Post px0 apx0_0 cpx0_0 xpx0_0 F ro r (callW Tryd.prog ora ro 65 [.pointer (some ⟨px0, 0, none⟩)] h) := by
  have h1 := F65.t_ok hora mpx0_1 h hs hp
  have h2 : callW Tryd.prog ora ro 65 [.pointer (some ⟨px0, 0, none⟩)] h = _ := callW_body (hora.none _ _ _ _ (by decide)) Tryd.func65 (F65.le (callW Tryd.prog ora) lf ro px0 0 h) (F65.Post.ne h1)
  rw [h2]; exact h1

def F53.Post (px0 : Nat) (apx0_0 : Option Addr) (cpx0_0 : Nat) (xpx0_0 : List Int) (F : List Ent) (ro : Nat) (r : (Res (Int × Int) (Int × Int))) (x : Out) : Prop := match r with
  | .ok r => ∃ h', x = .ok (.int .i64 r.1) h' ∧ Sat ro h' (.own ro (some ⟨px0, 0, none⟩) 1 [.slice apx0_0 xpx0_0.length cpx0_0, .int .i64 r.2] :: F)
  | .pan r => ∃ h', x = .panic (.iface 77 (.agg #[.int .i64 r.1])) h' ∧ Sat ro h' (.own ro (some ⟨px0, 0, none⟩) 1 [.slice apx0_0 xpx0_0.length cpx0_0, .int .i64 r.2] :: F)
theorem F53.Post.ne {px0 : Nat} {apx0_0 : Option Addr} {cpx0_0 : Nat} {xpx0_0 : List Int} {F : List Ent} {ro : Nat} {r : (Res (Int × Int) (Int × Int))} {x : Out} (hx : F53.Post px0 apx0_0 cpx0_0 xpx0_0 F ro r x) : x ≠ .fail := by
  cases r with
  | ok r => obtain ⟨h', rfl, _⟩ := hx; simp
  | pan r => obtain ⟨h', rfl, _⟩ := hx; simp

def F53.p (lf : Nat) (xpx0_0 : List Int) (mpx0_1 : Int) (x1 : Int) (x2 : Int) : Option (Res (Int × Int) (Int × Int)) :=
  bindr (F65.p lf xpx0_0 mpx0_1) (fun r_321 => some (.pan (r_321.1, r_321.2))) fun r_320 =>
  bindr (F52.p lf xpx0_0 r_320.2 (decide (r_320.2 < (xpx0_0.length : Int))) 10) (fun r_332 => some (.pan (r_332.1, r_332.2))) fun r_331 =>
  letJ (fun (mj32_0_1 : Int) => (
    some (.ok (r_320.1, mj32_0_1)) : Option (Res (Int × Int) (Int × Int)))) fun j32p =>
  ifp (decide (r_320.1 ≥ x1)) (
    bindr (F52.p lf xpx0_0 r_331 (decide (r_320.1 ≤ x2)) 3) (fun r_344 => some (.pan (r_344.1, r_344.2))) fun r_343 =>
    j32p r_343) (
    bindr (F52.p lf xpx0_0 r_331 false 3) (fun r_362 => some (.pan (r_362.1, r_362.2))) fun r_361 =>
    j32p r_361)

theorem F53.t_ok {ora : Ora} (hora : HOra ora) {lf ro : Nat} {F : List Ent} {r : (Res (Int × Int) (Int × Int))} {px0 : Nat} {apx0_0 : Option Addr} {cpx0_0 : Nat} {xpx0_0 : List Int} (mpx0_1 : Int) (x1 : Int) (x2 : Int) (h : Heap) (hs : Sat ro h (.own ro (some ⟨px0, 0, none⟩) 1 [.slice apx0_0 xpx0_0.length cpx0_0, .int .i64 mpx0_1] :: .row apx0_0 cpx0_0 (xpx0_0.map (Value.int .u8)) :: F)) (hp : F53.p lf xpx0_0 mpx0_1 x1 x2 = some r) : F53.Post px0 apx0_0 cpx0_0 xpx0_0 F ro r (F53.t (callW Tryd.prog ora) lf ro px0 0 x1 x2 h) := by
  unfold F53.t
  unfold F53.p at hp
  have hs_312 := hs.pull 1 rfl
  have hs_313 := hs_312.dup
  have hs_314 := hs_313.pull 2 rfl
  obtain ⟨r_315, hx_316, hp⟩ := bindr_some hp
  have hc_322 := F65.ok hora (ro := ro) (px0 := px0) (apx0_0 := apx0_0) (cpx0_0 := cpx0_0) (xpx0_0 := xpx0_0) (F := .row apx0_0 cpx0_0 (xpx0_0.map (Value.int .u8)) :: F) mpx0_1 _ hs_314 hx_316
  cases r_315 with
  | ok r_320 =>
    replace hp := bindr_ok hp
    obtain ⟨h_317, e_319, hs_318⟩ := hc_322
    refine st_ok (Q := F53.Post px0 apx0_0 cpx0_0 xpx0_0 F ro r) isO e_319 ?_
    refine st_int (Q := F53.Post px0 apx0_0 cpx0_0 xpx0_0 F ro r) ?_
    refine st_load (Q := F53.Post px0 apx0_0 cpx0_0 xpx0_0 F ro r) isN hs_318 agg3 rfl ?_
    refine st_int (Q := F53.Post px0 apx0_0 cpx0_0 xpx0_0 F ro r) ?_
    refine st_load (Q := F53.Post px0 apx0_0 cpx0_0 xpx0_0 F ro r) isN hs_318 agg22 rfl ?_
    refine st_slice (Q := F53.Post px0 apx0_0 cpx0_0 xpx0_0 F ro r) ?_
    have hs_323 := hs_318.pull 1 rfl
    have hs_324 := hs_323.dup
    have hs_325 := hs_324.pull 2 rfl
    obtain ⟨r_326, hx_327, hp⟩ := bindr_some hp
    have hc_333 := F52.ok hora (ro := ro) (px0 := px0) (apx0_0 := apx0_0) (cpx0_0 := cpx0_0) (xpx0_0 := xpx0_0) (F := .row apx0_0 cpx0_0 (xpx0_0.map (Value.int .u8)) :: F) r_320.2 (decide (r_320.2 < (xpx0_0.length : Int))) 10 _ hs_325 hx_327
    cases r_326 with
    | ok r_331 =>
      replace hp := bindr_ok hp
      obtain ⟨h_328, e_330, hs_329⟩ := hc_333
      refine st_ok (Q := F53.Post px0 apx0_0 cpx0_0 xpx0_0 F ro r) isO e_330 ?_
      refine st_tup (Q := F53.Post px0 apx0_0 cpx0_0 xpx0_0 F ro r) (l := []) ?_
      refine st_nil (Q := F53.Post px0 apx0_0 cpx0_0 xpx0_0 F ro r) ?_
      refine st_letJ hp (fun j32p j32 => ∀ (mj32_0_1 : Int) (h_371 : Heap), Sat ro h_371 (.own ro (some ⟨px0, 0, none⟩) 1 [.slice apx0_0 xpx0_0.length cpx0_0, .int .i64 mj32_0_1] :: .row apx0_0 cpx0_0 (xpx0_0.map (Value.int .u8)) :: F) → j32p mj32_0_1 = some r → F53.Post px0 apx0_0 cpx0_0 xpx0_0 F ro r (j32 h_371)) ?_ ?_
      · intro mj32_0_1 h_371 hs hp
        have hs_372 := hs.pull 1 rfl
        have hs_373 := hs_372.tail
        cases hp
        exact ⟨_, rfl, hs_373⟩
      · intro j32p j32 hj32 hp
        refine st_if (Q := F53.Post px0 apx0_0 cpx0_0 xpx0_0 F ro r) (fun hc_334 => ?_) (fun hc_334 => ?_)
        · replace hp := ifp_t hc_334 hp
          have hs_335 := hs_329.pull 1 rfl
          have hs_336 := hs_335.dup
          have hs_337 := hs_336.pull 2 rfl
          obtain ⟨r_338, hx_339, hp⟩ := bindr_some hp
          have hc_345 := F52.ok hora (ro := ro) (px0 := px0) (apx0_0 := apx0_0) (cpx0_0 := cpx0_0) (xpx0_0 := xpx0_0) (F := .row apx0_0 cpx0_0 (xpx0_0.map (Value.int .u8)) :: F) r_331 (decide (r_320.1 ≤ x2)) 3 _ hs_337 hx_339
          cases r_338 with
          | ok r_343 =>
            replace hp := bindr_ok hp
            obtain ⟨h_340, e_342, hs_341⟩ := hc_345
            refine st_ok (Q := F53.Post px0 apx0_0 cpx0_0 xpx0_0 F ro r) isO e_342 ?_
            refine st_tup (Q := F53.Post px0 apx0_0 cpx0_0 xpx0_0 F ro r) (l := []) ?_
            refine st_nil (Q := F53.Post px0 apx0_0 cpx0_0 xpx0_0 F ro r) ?_
            have hs_346 := hs_341.pull 1 rfl
            have hs_347 := hs_346.pull 1 rfl
            exact hj32 r_343 _ hs_347 hp
          | pan r_344 =>
            replace hp := bindr_pan hp
            obtain ⟨h_348, e_350, hs_349⟩ := hc_345
            refine st_pan (Q := F53.Post px0 apx0_0 cpx0_0 xpx0_0 F ro r) e_350 ?_
            have hs_351 := hs_349.pull 1 rfl
            have hs_352 := hs_351.tail
            cases hp
            exact ⟨_, rfl, hs_352⟩
        · replace hp := ifp_f hc_334 hp
          have hs_353 := hs_329.pull 1 rfl
          have hs_354 := hs_353.dup
          have hs_355 := hs_354.pull 2 rfl
          obtain ⟨r_356, hx_357, hp⟩ := bindr_some hp
          have hc_363 := F52.ok hora (ro := ro) (px0 := px0) (apx0_0 := apx0_0) (cpx0_0 := cpx0_0) (xpx0_0 := xpx0_0) (F := .row apx0_0 cpx0_0 (xpx0_0.map (Value.int .u8)) :: F) r_331 false 3 _ hs_355 hx_357
          cases r_356 with
          | ok r_361 =>
            replace hp := bindr_ok hp
            obtain ⟨h_358, e_360, hs_359⟩ := hc_363
            refine st_ok (Q := F53.Post px0 apx0_0 cpx0_0 xpx0_0 F ro r) isO e_360 ?_
            refine st_tup (Q := F53.Post px0 apx0_0 cpx0_0 xpx0_0 F ro r) (l := []) ?_
            refine st_nil (Q := F53.Post px0 apx0_0 cpx0_0 xpx0_0 F ro r) ?_
            have hs_364 := hs_359.pull 1 rfl
            have hs_365 := hs_364.pull 1 rfl
            exact hj32 r_361 _ hs_365 hp
          | pan r_362 =>
            replace hp := bindr_pan hp
            obtain ⟨h_366, e_368, hs_367⟩ := hc_363
            refine st_pan (Q := F53.Post px0 apx0_0 cpx0_0 xpx0_0 F ro r) e_368 ?_
            have hs_369 := hs_367.pull 1 rfl
            have hs_370 := hs_369.tail
            cases hp
            exact ⟨_, rfl, hs_370⟩
    | pan r_332 =>
      replace hp := bindr_pan hp
      obtain ⟨h_374, e_376, hs_375⟩ := hc_333
      refine st_pan (Q := F53.Post px0 apx0_0 cpx0_0 xpx0_0 F ro r) e_376 ?_
      have hs_377 := hs_375.pull 1 rfl
      have hs_378 := hs_377.tail
      cases hp
      exact ⟨_, rfl, hs_378⟩
  | pan r_321 =>
    replace hp := bindr_pan hp
    obtain ⟨h_379, e_381, hs_380⟩ := hc_322
    refine st_pan (Q := F53.Post px0 apx0_0 cpx0_0 xpx0_0 F ro r) e_381 ?_
    have hs_382 := hs_380.pull 1 rfl
    have hs_383 := hs_382.tail
    cases hp
    exact ⟨_, rfl, hs_383⟩

theorem F53.ok {ora : Ora} (hora : HOra ora) {lf ro : Nat} {F : List Ent} {r : (Res (Int × Int) (Int × Int))} {px0 : Nat} {apx0_0 : Option Addr} {cpx0_0 : Nat} {xpx0_0 : List Int} (mpx0_1 : Int) (x1 : Int) (x2 : Int) (h : Heap) (hs : Sat ro h (.own ro (some ⟨px0, 0, none⟩) 1 [.slice apx0_0 xpx0_0.length cpx0_0, .int .i64 mpx0_1] :: .row apx0_0 cpx0_0 (xpx0_0.map (Value.int .u8)) :: F)) (hp : F53.p lf xpx0_0 mpx0_1 x1 x2 = some r) : F53.Post px0 apx0_0 cpx0_0 xpx0_0 F ro r (callW Tryd.prog ora ro 53 [.pointer (some ⟨px0, 0, none⟩), .int .i64 x1, .int .i64 x2] h) := by
  have h1 := F53.t_ok hora mpx0_1 x1 x2 h hs hp
  have h2 : callW Tryd.prog ora ro 53 [.pointer (some ⟨px0, 0, none⟩), .int .i64 x1, .int .i64 x2] h = _ := callW_body (hora.none _ _ _ _ (by decide)) Tryd.func53 (F53.le (callW Tryd.prog ora) lf ro px0 0 x1 x2 h) (F53.Post.ne h1)
  rw [h2]; exact h1

def F66.Post (F : List Ent) (ro : Nat) (r : (Int)) (x : Out) : Prop := ∃ h', x = .ok (.int .u8 r) h' ∧ Sat ro h' (F)
theorem F66.Post.ne {F : List Ent} {ro : Nat} {r : (Int)} {x : Out} (hx : F66.Post F ro r x) : x ≠ .fail := by
  obtain ⟨h', rfl, _⟩ := hx
  simp

def F66.p (lf : Nat) (x0 : Int) (x1 : Int) : Option (Int) :=
  bindp (quop .i64 (IntKind.i64.wrap ((IntKind.i64.wrap (255 * x0)) + (IntKind.i64.wrap (Int.tdiv x1 2)))) x1) fun n_384 =>
  some (IntKind.u8.wrap n_384)

theorem F66.t_ok {ora : Ora} (hora : HOra ora) {lf ro : Nat} {F : List Ent} {r : (Int)} (x0 : Int) (x1 : Int) (h : Heap) (hs : Sat ro h (F)) (hp : F66.p lf x0 x1 = some r) : F66.Post F ro r (F66.t (callW Tryd.prog ora) lf ro x0 x1 h) := by
  unfold F66.t
  unfold F66.p at hp
  obtain ⟨n_384, hx_385, hp⟩ := bindp_some hp
  refine st_quo (Q := F66.Post F ro r) isO hx_385 ?_
  refine st_int (Q := F66.Post F ro r) ?_
  cases hp
  exact ⟨_, rfl, hs⟩

theorem F66.ok {ora : Ora} (hora : HOra ora) {lf ro : Nat} {F : List Ent} {r : (Int)} (x0 : Int) (x1 : Int) (h : Heap) (hs : Sat ro h (F)) (hp : F66.p lf x0 x1 = some r) : F66.Post F ro r (callW Tryd.prog ora ro 66 [.int .i64 x0, .int .i64 x1] h) := by
  have h1 := F66.t_ok hora x0 x1 h hs hp
  have h2 : callW Tryd.prog ora ro 66 [.int .i64 x0, .int .i64 x1] h = _ := callW_body (hora.none _ _ _ _ (by decide)) Tryd.func66 (F66.le (callW Tryd.prog ora) lf ro x0 x1 h) (F66.Post.ne h1)
  rw [h2]; exact h1

def F68.Post (F : List Ent) (ro : Nat) (r : (Int)) (x : Out) : Prop := ∃ h', x = .ok (.int .u8 r) h' ∧ Sat ro h' (F)
theorem F68.Post.ne {F : List Ent} {ro : Nat} {r : (Int)} {x : Out} (hx : F68.Post F ro r x) : x ≠ .fail := by
  obtain ⟨h', rfl, _⟩ := hx
  simp

def F68.p (lf : Nat) (x0 : Bool) : Option (Int) :=
  ifp x0 (
    some 0) (
    some 255)

theorem F68.t_ok {ora : Ora} (hora : HOra ora) {lf ro : Nat} {F : List Ent} {r : (Int)} (x0 : Bool) (h : Heap) (hs : Sat ro h (F)) (hp : F68.p lf x0 = some r) : F68.Post F ro r (F68.t (callW Tryd.prog ora) lf ro x0 h) := by
  unfold F68.t
  unfold F68.p at hp
  refine st_if (Q := F68.Post F ro r) (fun hc_386 => ?_) (fun hc_386 => ?_)
  · replace hp := ifp_t hc_386 hp
    cases hp
    exact ⟨_, rfl, hs⟩
  · replace hp := ifp_f hc_386 hp
    cases hp
    exact ⟨_, rfl, hs⟩

theorem F68.ok {ora : Ora} (hora : HOra ora) {lf ro : Nat} {F : List Ent} {r : (Int)} (x0 : Bool) (h : Heap) (hs : Sat ro h (F)) (hp : F68.p lf x0 = some r) : F68.Post F ro r (callW Tryd.prog ora ro 68 [.bool x0] h) := by
  have h1 := F68.t_ok hora x0 h hs hp
  have h2 : callW Tryd.prog ora ro 68 [.bool x0] h = _ := callW_body (hora.none _ _ _ _ (by decide)) Tryd.func68 (F68.le (callW Tryd.prog ora) lf ro x0 h) (F68.Post.ne h1)
  rw [h2]; exact h1

def F56.Post (px0 : Nat) (apx0_0 : Option Addr) (cpx0_0 : Nat) (xpx0_0 : List Int) (px1 : Nat) (F : List Ent) (ro : Nat) (r : (Res (Int × Int × Int × List Int) (Int × Int × Int × Int × List Int))) (x : Out) : Prop := match r with
  | .ok r => ∃ bpx1_2 h', x = .ok (.tuple #[]) h' ∧ Sat ro h' (.own ro (some ⟨px0, 0, none⟩) 1 [.slice apx0_0 xpx0_0.length cpx0_0, .int .i64 r.1] :: .own ro (some ⟨px1, 0, none⟩) 1 [.int .i64 r.2.1, .int .i64 r.2.2.1, .slice bpx1_2 r.2.2.2.length r.2.2.2.length] :: .own ro bpx1_2 1 (r.2.2.2.map (Value.int .u8)) :: F)
  | .pan r => ∃ bpx1_2 h', x = .panic (.iface 77 (.agg #[.int .i64 r.1])) h' ∧ Sat ro h' (.own ro (some ⟨px0, 0, none⟩) 1 [.slice apx0_0 xpx0_0.length cpx0_0, .int .i64 r.2.1] :: .own ro (some ⟨px1, 0, none⟩) 1 [.int .i64 r.2.2.1, .int .i64 r.2.2.2.1, .slice bpx1_2 r.2.2.2.2.length r.2.2.2.2.length] :: .own ro bpx1_2 1 (r.2.2.2.2.map (Value.int .u8)) :: F)
theorem F56.Post.ne {px0 : Nat} {apx0_0 : Option Addr} {cpx0_0 : Nat} {xpx0_0 : List Int} {px1 : Nat} {F : List Ent} {ro : Nat} {r : (Res (Int × Int × Int × List Int) (Int × Int × Int × Int × List Int))} {x : Out} (hx : F56.Post px0 apx0_0 cpx0_0 xpx0_0 px1 F ro r x) : x ≠ .fail := by
  cases r with
  | ok r => obtain ⟨bpx1_2, h', rfl, _⟩ := hx; simp
  | pan r => obtain ⟨bpx1_2, h', rfl, _⟩ := hx; simp

def F56.J8p (lf : Nat) (kb7p : List Int → Int → Int → Int → List Int → Int → Int → Int → Int → Int → Option (Res (Int × Int × Int × List Int) (Int × Int × Int × Int × List Int))) (xpx0_0 : List Int) (mpx0_1 : Int) (mpx1_0 : Int) (mpx1_1 : Int) (xpx1_2 : List Int) (n100 : Int) (n101 : Int) (n102 : Int) (n103 : Int) (n104 : Int) : Option (Res (Int × Int × Int × List Int) (Int × Int × Int × Int × List Int)) :=
  letJ (fun (mj583_0_1 : Int) (mj583_2_0 : Int) (mj583_2_1 : Int) (xj583_2_2 : List Int) => (
    kb7p xpx0_0 mj583_0_1 mj583_2_0 mj583_2_1 xj583_2_2 n100 n101 n102 n103 (IntKind.i64.wrap (n104 + 1)) : Option (Res (Int × Int × Int × List Int) (Int × Int × Int × Int × List Int)))) fun j583p =>
  bindp (remp n104 mpx1_0) fun n_424 =>
  bindp (quop .i64 n104 mpx1_0) fun n_426 =>
  ifp (n100 == 4) (
    bindp (idxp xpx0_0 (IntKind.i64.wrap ((IntKind.i64.wrap (mpx0_1 + (IntKind.i64.wrap (n_426 * n102)))) + (IntKind.i64.wrap (Int.tdiv n_424 8))))) fun x_430 =>
    bindp (shrp .u8 x_430 (IntKind.u64.wrap (IntKind.i64.wrap (7 - (Int.tmod n_424 8))))) fun n_433 =>
    bindp (F68.p lf ((bAnd .u8 n_433 1) == 1)) fun r_435 =>
    bindp (setp xpx1_2 n104 r_435) fun x_440 =>
    j583p mpx0_1 mpx1_0 mpx1_1 x_440) (
    bindp (idxp xpx0_0 (IntKind.i64.wrap (mpx0_1 + n104))) fun x_450 =>
    bindr (F52.p lf xpx0_0 mpx0_1 (decide (IntKind.i64.wrap x_450 ≤ n101)) 3) (fun r_461 => some (.pan (r_461.1, r_461.2, mpx1_0, mpx1_1, xpx1_2))) fun r_460 =>
    bindp (F66.p lf (IntKind.i64.wrap x_450) n101) fun r_464 =>
    bindp (setp xpx1_2 n104 r_464) fun x_469 =>
    j583p r_460 mpx1_0 mpx1_1 x_469)

theorem F56.J8_ok {ora : Ora} (hora : HOra ora) {lf ro : Nat} {F : List Ent} {r : (Res (Int × Int × Int × List Int) (Int × Int × Int × Int × List Int))} {px0 : Nat} {apx0_0 : Option Addr} {cpx0_0 : Nat} {xpx0_0 : List Int} {px1 : Nat} {kb7p : List Int → Int → Int → Int → List Int → Int → Int → Int → Int → Int → Option (Res (Int × Int × Int × List Int) (Int × Int × Int × Int × List Int))} {kb7 : Nat → Nat → Nat → Nat → Int → Int → Int → Int → Int → Heap → Out} (hkb7 : ∀ (mpx0_1 : Int) (mpx1_0 : Int) (mpx1_1 : Int) (apx1_2 : Option Addr) (xpx1_2 : List Int) (n92 : Int) (n93 : Int) (n94 : Int) (n95 : Int) (n96 : Int) (h : Heap), Sat ro h (.own ro (some ⟨px0, 0, none⟩) 1 [.slice apx0_0 xpx0_0.length cpx0_0, .int .i64 mpx0_1] :: .row apx0_0 cpx0_0 (xpx0_0.map (Value.int .u8)) :: .own ro (some ⟨px1, 0, none⟩) 1 [.int .i64 mpx1_0, .int .i64 mpx1_1, .slice apx1_2 xpx1_2.length xpx1_2.length] :: .own ro apx1_2 1 (xpx1_2.map (Value.int .u8)) :: F) → kb7p xpx0_0 mpx0_1 mpx1_0 mpx1_1 xpx1_2 n92 n93 n94 n95 n96 = some r → F56.Post px0 apx0_0 cpx0_0 xpx0_0 px1 F ro r (kb7 px0 0 px1 0 n92 n93 n94 n95 n96 h)) (mpx0_1 : Int) (mpx1_0 : Int) (mpx1_1 : Int) (apx1_2 : Option Addr) (xpx1_2 : List Int) (n100 : Int) (n101 : Int) (n102 : Int) (n103 : Int) (n104 : Int) (h : Heap) (hs : Sat ro h (.own ro (some ⟨px0, 0, none⟩) 1 [.slice apx0_0 xpx0_0.length cpx0_0, .int .i64 mpx0_1] :: .row apx0_0 cpx0_0 (xpx0_0.map (Value.int .u8)) :: .own ro (some ⟨px1, 0, none⟩) 1 [.int .i64 mpx1_0, .int .i64 mpx1_1, .slice apx1_2 xpx1_2.length xpx1_2.length] :: .own ro apx1_2 1 (xpx1_2.map (Value.int .u8)) :: F)) (hp : F56.J8p lf kb7p xpx0_0 mpx0_1 mpx1_0 mpx1_1 xpx1_2 n100 n101 n102 n103 n104 = some r) : F56.Post px0 apx0_0 cpx0_0 xpx0_0 px1 F ro r (F56.J8 (callW Tryd.prog ora) lf ro kb7 px0 0 px1 0 n100 n101 n102 n103 n104 h) := by
  unfold F56.J8
  unfold F56.J8p at hp
  refine st_letJ hp (fun j583p j583 => ∀ (mj583_0_1 : Int) (mj583_2_0 : Int) (mj583_2_1 : Int) (aj583_2_2 : Option Addr) (xj583_2_2 : List Int) (h_486 : Heap), Sat ro h_486 (.own ro (some ⟨px0, 0, none⟩) 1 [.slice apx0_0 xpx0_0.length cpx0_0, .int .i64 mj583_0_1] :: .row apx0_0 cpx0_0 (xpx0_0.map (Value.int .u8)) :: .own ro (some ⟨px1, 0, none⟩) 1 [.int .i64 mj583_2_0, .int .i64 mj583_2_1, .slice aj583_2_2 xj583_2_2.length xj583_2_2.length] :: .own ro aj583_2_2 1 (xj583_2_2.map (Value.int .u8)) :: F) → j583p mj583_0_1 mj583_2_0 mj583_2_1 xj583_2_2 = some r → F56.Post px0 apx0_0 cpx0_0 xpx0_0 px1 F ro r (j583 h_486)) ?_ ?_
  · intro mj583_0_1 mj583_2_0 mj583_2_1 aj583_2_2 xj583_2_2 h_486 hs hp
    have hs_487 := hs.pull 3 rfl
    have hs_488 := hs_487.pull 3 rfl
    have hs_489 := hs_488.pull 3 rfl
    have hs_490 := hs_489.pull 3 rfl
    exact hkb7 mj583_0_1 mj583_2_0 mj583_2_1 aj583_2_2 xj583_2_2 n100 n101 n102 n103 (IntKind.i64.wrap (n104 + 1)) _ hs_490 hp
  · intro j583p j583 hj583 hp
    have hs_423 := hs.pull 2 rfl
    refine st_load (Q := F56.Post px0 apx0_0 cpx0_0 xpx0_0 px1 F ro r) isN hs_423 agg3 rfl ?_
    refine st_int (Q := F56.Post px0 apx0_0 cpx0_0 xpx0_0 px1 F ro r) ?_
    obtain ⟨n_424, hx_425, hp⟩ := bindp_some hp
    refine st_rem (Q := F56.Post px0 apx0_0 cpx0_0 xpx0_0 px1 F ro r) isN hx_425 ?_
    refine st_int (Q := F56.Post px0 apx0_0 cpx0_0 xpx0_0 px1 F ro r) ?_
    refine st_load (Q := F56.Post px0 apx0_0 cpx0_0 xpx0_0 px1 F ro r) isN hs_423 agg3 rfl ?_
    refine st_int (Q := F56.Post px0 apx0_0 cpx0_0 xpx0_0 px1 F ro r) ?_
    obtain ⟨n_426, hx_427, hp⟩ := bindp_some hp
    refine st_quo (Q := F56.Post px0 apx0_0 cpx0_0 xpx0_0 px1 F ro r) isN hx_427 ?_
    refine st_int (Q := F56.Post px0 apx0_0 cpx0_0 xpx0_0 px1 F ro r) ?_
    refine st_if (Q := F56.Post px0 apx0_0 cpx0_0 xpx0_0 px1 F ro r) (fun hc_428 => ?_) (fun hc_428 => ?_)
    · replace hp := ifp_t hc_428 hp
      refine st_load (Q := F56.Post px0 apx0_0 cpx0_0 xpx0_0 px1 F ro r) isN hs_423 agg22 rfl ?_
      refine st_slice (Q := F56.Post px0 apx0_0 cpx0_0 xpx0_0 px1 F ro r) ?_
      have hs_429 := hs_423.pull 1 rfl
      refine st_load (Q := F56.Post px0 apx0_0 cpx0_0 xpx0_0 px1 F ro r) isN hs_429 agg22 rfl ?_
      refine st_slice (Q := F56.Post px0 apx0_0 cpx0_0 xpx0_0 px1 F ro r) ?_
      refine st_load (Q := F56.Post px0 apx0_0 cpx0_0 xpx0_0 px1 F ro r) isN hs_429 agg3 rfl ?_
      refine st_int (Q := F56.Post px0 apx0_0 cpx0_0 xpx0_0 px1 F ro r) ?_
      have hs_432 := hs_429.pull 2 rfl
      obtain ⟨x_430, hx_431, hp⟩ := bindp_some hp
      refine st_idxR (Q := F56.Post px0 apx0_0 cpx0_0 xpx0_0 px1 F ro r) (l := xpx0_0) (f := (Value.int .u8)) isN isN hs_432 und22 siz5 agg5 rfl hx_431 ?_
      refine st_int (Q := F56.Post px0 apx0_0 cpx0_0 xpx0_0 px1 F ro r) ?_
      obtain ⟨n_433, hx_434, hp⟩ := bindp_some hp
      refine st_shr (Q := F56.Post px0 apx0_0 cpx0_0 xpx0_0 px1 F ro r) isN hx_434 ?_
      refine st_int (Q := F56.Post px0 apx0_0 cpx0_0 xpx0_0 px1 F ro r) ?_
      obtain ⟨r_435, hx_436, hp⟩ := bindp_some hp
      obtain ⟨h_437, e_439, hs_438⟩ := F68.ok hora (ro := h.next) (F := .row apx0_0 cpx0_0 (xpx0_0.map (Value.int .u8)) :: .own ro (some ⟨px0, 0, none⟩) 1 [.slice apx0_0 xpx0_0.length cpx0_0, .int .i64 mpx0_1] :: .own ro (some ⟨px1, 0, none⟩) 1 [.int .i64 mpx1_0, .int .i64 mpx1_1, .slice apx1_2 xpx1_2.length xpx1_2.length] :: .own ro apx1_2 1 (xpx1_2.map (Value.int .u8)) :: F) ((bAnd .u8 n_433 1) == 1) _ (hs_432.ro' (Nat.le_refl _)) hx_436
      refine st_ok (Q := F56.Post px0 apx0_0 cpx0_0 xpx0_0 px1 F ro r) isN e_439 ?_
      replace hs_438 := hs_438.ro' (Nat.le_trans hs_432.low hs_438.low)
      refine st_int (Q := F56.Post px0 apx0_0 cpx0_0 xpx0_0 px1 F ro r) ?_
      have hs_442 := hs_438.pull 3 rfl
      obtain ⟨x_440, hx_441, hp⟩ := bindp_some hp
      refine st_idxS (Q := F56.Post px0 apx0_0 cpx0_0 xpx0_0 px1 F ro r) (l := xpx1_2) (f := (Value.int .u8)) isO isO hs_442 und22 siz5 siz5 (fun _ => rfl) rfl hx_441 fun h_443 hs_444 => ?_
      have hl_445 := setp_len hx_441
      try simp only [hl_445] at hs_444 hp ⊢
      have hs_446 := hs_444.pull 3 rfl
      have hs_447 := hs_446.pull 2 rfl
      have hs_448 := hs_447.pull 3 rfl
      exact hj583 mpx0_1 mpx1_0 mpx1_1 apx1_2 x_440 _ hs_448 hp
    · replace hp := ifp_f hc_428 hp
      have hs_449 := hs_423.pull 1 rfl
      refine st_load (Q := F56.Post px0 apx0_0 cpx0_0 xpx0_0 px1 F ro r) isN hs_449 agg22 rfl ?_
      refine st_slice (Q := F56.Post px0 apx0_0 cpx0_0 xpx0_0 px1 F ro r) ?_
      refine st_load (Q := F56.Post px0 apx0_0 cpx0_0 xpx0_0 px1 F ro r) isN hs_449 agg3 rfl ?_
      refine st_int (Q := F56.Post px0 apx0_0 cpx0_0 xpx0_0 px1 F ro r) ?_
      have hs_452 := hs_449.pull 2 rfl
      obtain ⟨x_450, hx_451, hp⟩ := bindp_some hp
      refine st_idxR (Q := F56.Post px0 apx0_0 cpx0_0 xpx0_0 px1 F ro r) (l := xpx0_0) (f := (Value.int .u8)) isO isO hs_452 und22 siz5 agg5 rfl hx_451 ?_
      refine st_int (Q := F56.Post px0 apx0_0 cpx0_0 xpx0_0 px1 F ro r) ?_
      have hs_453 := hs_452.dup
      have hs_454 := hs_453.pull 2 rfl
      obtain ⟨r_455, hx_456, hp⟩ := bindr_some hp
      have hc_462 := F52.ok hora (ro := ro) (px0 := px0) (apx0_0 := apx0_0) (cpx0_0 := cpx0_0) (xpx0_0 := xpx0_0) (F := .row apx0_0 cpx0_0 (xpx0_0.map (Value.int .u8)) :: .own ro (some ⟨px1, 0, none⟩) 1 [.int .i64 mpx1_0, .int .i64 mpx1_1, .slice apx1_2 xpx1_2.length xpx1_2.length] :: .own ro apx1_2 1 (xpx1_2.map (Value.int .u8)) :: F) mpx0_1 (decide (IntKind.i64.wrap x_450 ≤ n101)) 3 _ hs_454 hx_456
      cases r_455 with
      | ok r_460 =>
        replace hp := bindr_ok hp
        obtain ⟨h_457, e_459, hs_458⟩ := hc_462
        refine st_ok (Q := F56.Post px0 apx0_0 cpx0_0 xpx0_0 px1 F ro r) isO e_459 ?_
        refine st_tup (Q := F56.Post px0 apx0_0 cpx0_0 xpx0_0 px1 F ro r) (l := []) ?_
        refine st_nil (Q := F56.Post px0 apx0_0 cpx0_0 xpx0_0 px1 F ro r) ?_
        have hs_463 := hs_458.pull 2 rfl
        refine st_load (Q := F56.Post px0 apx0_0 cpx0_0 xpx0_0 px1 F ro r) isN hs_463 agg22 rfl ?_
        refine st_slice (Q := F56.Post px0 apx0_0 cpx0_0 xpx0_0 px1 F ro r) ?_
        obtain ⟨r_464, hx_465, hp⟩ := bindp_some hp
        obtain ⟨h_466, e_468, hs_467⟩ := F66.ok hora (ro := h_457.next) (F := .own ro (some ⟨px1, 0, none⟩) 1 [.int .i64 mpx1_0, .int .i64 mpx1_1, .slice apx1_2 xpx1_2.length xpx1_2.length] :: .own ro (some ⟨px0, 0, none⟩) 1 [.slice apx0_0 xpx0_0.length cpx0_0, .int .i64 r_460] :: .row apx0_0 cpx0_0 (xpx0_0.map (Value.int .u8)) :: .own ro apx1_2 1 (xpx1_2.map (Value.int .u8)) :: F) (IntKind.i64.wrap x_450) n101 _ (hs_463.ro' (Nat.le_refl _)) hx_465
        refine st_ok (Q := F56.Post px0 apx0_0 cpx0_0 xpx0_0 px1 F ro r) isN e_468 ?_
        replace hs_467 := hs_467.ro' (Nat.le_trans hs_463.low hs_467.low)
        refine st_int (Q := F56.Post px0 apx0_0 cpx0_0 xpx0_0 px1 F ro r) ?_
        have hs_471 := hs_467.pull 3 rfl
        obtain ⟨x_469, hx_470, hp⟩ := bindp_some hp
        refine st_idxS (Q := F56.Post px0 apx0_0 cpx0_0 xpx0_0 px1 F ro r) (l := xpx1_2) (f := (Value.int .u8)) isO isO hs_471 und22 siz5 siz5 (fun _ => rfl) rfl hx_470 fun h_472 hs_473 => ?_
        have hl_474 := setp_len hx_470
        try simp only [hl_474] at hs_473 hp ⊢
        have hs_475 := hs_473.pull 1 rfl
        have hs_476 := hs_475.pull 3 rfl
        have hs_477 := hs_476.pull 3 rfl
        exact hj583 r_460 mpx1_0 mpx1_1 apx1_2 x_469 _ hs_477 hp
      | pan r_461 =>
        replace hp := bindr_pan hp
        obtain ⟨h_478, e_480, hs_479⟩ := hc_462
        refine st_pan (Q := F56.Post px0 apx0_0 cpx0_0 xpx0_0 px1 F ro r) e_480 ?_
        have hs_481 := hs_479.pull 1 rfl
        have hs_482 := hs_481.tail
        have hs_483 := hs_482.pull 2 rfl
        have hs_484 := hs_483.pull 2 rfl
        have hs_485 := hs_484.pull 2 rfl
        cases hp
        exact ⟨apx1_2, _, rfl, hs_485⟩

def F56.L7p (lf : Nat) : Nat → List Int → Int → Int → Int → List Int → Int → Int → Int → Int → Int → Option (Res (Int × Int × Int × List Int) (Int × Int × Int × Int × List Int))
  | 0, _, _, _, _, _, _, _, _, _, _ => none
  | n + 1, xpx0_0, mpx0_1, mpx1_0, mpx1_1, xpx1_2, n92, n93, n94, n95, n96 =>
  ifp (decide (n96 < n95)) (
    F56.J8p lf (F56.L7p lf n) xpx0_0 mpx0_1 mpx1_0 mpx1_1 xpx1_2 n92 n93 n94 n95 n96) (
    some (.ok (IntKind.i64.wrap (mpx0_1 + (IntKind.i64.wrap (n94 * mpx1_1))), mpx1_0, mpx1_1, xpx1_2)))

theorem F56.L7_ok {ora : Ora} (hora : HOra ora) {lf ro : Nat} {F : List Ent} {r : (Res (Int × Int × Int × List Int) (Int × Int × Int × Int × List Int))} {px0 : Nat} {apx0_0 : Option Addr} {cpx0_0 : Nat} {xpx0_0 : List Int} {px1 : Nat} : ∀ (n : Nat) (mpx0_1 : Int) (mpx1_0 : Int) (mpx1_1 : Int) (apx1_2 : Option Addr) (xpx1_2 : List Int) (n92 : Int) (n93 : Int) (n94 : Int) (n95 : Int) (n96 : Int) (h : Heap), Sat ro h (.own ro (some ⟨px0, 0, none⟩) 1 [.slice apx0_0 xpx0_0.length cpx0_0, .int .i64 mpx0_1] :: .row apx0_0 cpx0_0 (xpx0_0.map (Value.int .u8)) :: .own ro (some ⟨px1, 0, none⟩) 1 [.int .i64 mpx1_0, .int .i64 mpx1_1, .slice apx1_2 xpx1_2.length xpx1_2.length] :: .own ro apx1_2 1 (xpx1_2.map (Value.int .u8)) :: F) → F56.L7p lf n xpx0_0 mpx0_1 mpx1_0 mpx1_1 xpx1_2 n92 n93 n94 n95 n96 = some r → F56.Post px0 apx0_0 cpx0_0 xpx0_0 px1 F ro r (F56.L7 (callW Tryd.prog ora) lf ro n px0 0 px1 0 n92 n93 n94 n95 n96 h) := by
  intro n
  induction n with
  | zero => intro mpx0_1 mpx1_0 mpx1_1 apx1_2 xpx1_2 n92 n93 n94 n95 n96 h hs hp; cases hp
  | succ n ih =>
    intro mpx0_1 mpx1_0 mpx1_1 apx1_2 xpx1_2 n92 n93 n94 n95 n96 h hs hp
    unfold F56.L7
    unfold F56.L7p at hp
    refine st_if (Q := F56.Post px0 apx0_0 cpx0_0 xpx0_0 px1 F ro r) (fun hc_422 => ?_) (fun hc_422 => ?_)
    · replace hp := ifp_t hc_422 hp
      have hs_491 := hs.pull 3 rfl
      have hs_492 := hs_491.pull 3 rfl
      have hs_493 := hs_492.pull 3 rfl
      have hs_494 := hs_493.pull 3 rfl
      exact F56.J8_ok hora ih mpx0_1 mpx1_0 mpx1_1 apx1_2 xpx1_2 n92 n93 n94 n95 n96 _ hs_494 hp
    · replace hp := ifp_f hc_422 hp
      refine st_load (Q := F56.Post px0 apx0_0 cpx0_0 xpx0_0 px1 F ro r) isN hs agg3 rfl ?_
      refine st_int (Q := F56.Post px0 apx0_0 cpx0_0 xpx0_0 px1 F ro r) ?_
      have hs_495 := hs.pull 2 rfl
      refine st_load (Q := F56.Post px0 apx0_0 cpx0_0 xpx0_0 px1 F ro r) isN hs_495 agg3 rfl ?_
      refine st_int (Q := F56.Post px0 apx0_0 cpx0_0 xpx0_0 px1 F ro r) ?_
      have hs_496 := hs_495.pull 1 rfl
      refine st_store (Q := F56.Post px0 apx0_0 cpx0_0 xpx0_0 px1 F ro r) isO hs_496 siz3 rfl (Nat.le_of_ble_eq_true rfl) fun h_497 hs_498 => ?_
      have hs_499 := hs_498.pull 2 rfl
      have hs_500 := hs_499.tail
      have hs_501 := hs_500.pull 2 rfl
      have hs_502 := hs_501.pull 2 rfl
      have hs_503 := hs_502.pull 2 rfl
      cases hp
      exact ⟨apx1_2, _, rfl, hs_503⟩

def F56.J5p (lf : Nat) (xpx0_0 : List Int) (mpx0_1 : Int) (mpx1_0 : Int) (mpx1_1 : Int) (xpx1_2 : List Int) (n56 : Int) (n57 : Int) (n58 : Int) : Option (Res (Int × Int × Int × List Int) (Int × Int × Int × Int × List Int)) :=
  bindr (F52.p lf xpx0_0 mpx0_1 (decide (IntKind.i64.wrap ((xpx0_0.length : Int) - mpx0_1) ≥ IntKind.i64.wrap (n58 * mpx1_1))) 10) (fun r_419 => some (.pan (r_419.1, r_419.2, mpx1_0, mpx1_1, xpx1_2))) fun r_418 =>
  F56.L7p lf lf xpx0_0 r_418 mpx1_0 mpx1_1 xpx1_2 n56 n57 n58 (xpx1_2.length : Int) 0

theorem F56.J5_ok {ora : Ora} (hora : HOra ora) {lf ro : Nat} {F : List Ent} {r : (Res (Int × Int × Int × List Int) (Int × Int × Int × Int × List Int))} {px0 : Nat} {apx0_0 : Option Addr} {cpx0_0 : Nat} {xpx0_0 : List Int} {px1 : Nat} (mpx0_1 : Int) (mpx1_0 : Int) (mpx1_1 : Int) (apx1_2 : Option Addr) (xpx1_2 : List Int) (n56 : Int) (n57 : Int) (n58 : Int) (h : Heap) (hs : Sat ro h (.own ro (some ⟨px0, 0, none⟩) 1 [.slice apx0_0 xpx0_0.length cpx0_0, .int .i64 mpx0_1] :: .row apx0_0 cpx0_0 (xpx0_0.map (Value.int .u8)) :: .own ro (some ⟨px1, 0, none⟩) 1 [.int .i64 mpx1_0, .int .i64 mpx1_1, .slice apx1_2 xpx1_2.length xpx1_2.length] :: .own ro apx1_2 1 (xpx1_2.map (Value.int .u8)) :: F)) (hp : F56.J5p lf xpx0_0 mpx0_1 mpx1_0 mpx1_1 xpx1_2 n56 n57 n58 = some r) : F56.Post px0 apx0_0 cpx0_0 xpx0_0 px1 F ro r (F56.J5 (callW Tryd.prog ora) lf ro px0 0 px1 0 n56 n57 n58 h) := by
  unfold F56.J5
  unfold F56.J5p at hp
  refine st_load (Q := F56.Post px0 apx0_0 cpx0_0 xpx0_0 px1 F ro r) isN hs agg22 rfl ?_
  refine st_slice (Q := F56.Post px0 apx0_0 cpx0_0 xpx0_0 px1 F ro r) ?_
  refine st_load (Q := F56.Post px0 apx0_0 cpx0_0 xpx0_0 px1 F ro r) isN hs agg3 rfl ?_
  refine st_int (Q := F56.Post px0 apx0_0 cpx0_0 xpx0_0 px1 F ro r) ?_
  have hs_409 := hs.pull 2 rfl
  refine st_load (Q := F56.Post px0 apx0_0 cpx0_0 xpx0_0 px1 F ro r) isN hs_409 agg3 rfl ?_
  refine st_int (Q := F56.Post px0 apx0_0 cpx0_0 xpx0_0 px1 F ro r) ?_
  have hs_410 := hs_409.pull 2 rfl
  have hs_411 := hs_410.dup
  have hs_412 := hs_411.pull 3 rfl
  obtain ⟨r_413, hx_414, hp⟩ := bindr_some hp
  have hc_420 := F52.ok hora (ro := ro) (px0 := px0) (apx0_0 := apx0_0) (cpx0_0 := cpx0_0) (xpx0_0 := xpx0_0) (F := .row apx0_0 cpx0_0 (xpx0_0.map (Value.int .u8)) :: .own ro (some ⟨px1, 0, none⟩) 1 [.int .i64 mpx1_0, .int .i64 mpx1_1, .slice apx1_2 xpx1_2.length xpx1_2.length] :: .own ro apx1_2 1 (xpx1_2.map (Value.int .u8)) :: F) mpx0_1 (decide (IntKind.i64.wrap ((xpx0_0.length : Int) - mpx0_1) ≥ IntKind.i64.wrap (n58 * mpx1_1))) 10 _ hs_412 hx_414
  cases r_413 with
  | ok r_418 =>
    replace hp := bindr_ok hp
    obtain ⟨h_415, e_417, hs_416⟩ := hc_420
    refine st_ok (Q := F56.Post px0 apx0_0 cpx0_0 xpx0_0 px1 F ro r) isO e_417 ?_
    refine st_tup (Q := F56.Post px0 apx0_0 cpx0_0 xpx0_0 px1 F ro r) (l := []) ?_
    refine st_nil (Q := F56.Post px0 apx0_0 cpx0_0 xpx0_0 px1 F ro r) ?_
    have hs_421 := hs_416.pull 2 rfl
    refine st_load (Q := F56.Post px0 apx0_0 cpx0_0 xpx0_0 px1 F ro r) isO hs_421 agg22 rfl ?_
    refine st_slice (Q := F56.Post px0 apx0_0 cpx0_0 xpx0_0 px1 F ro r) ?_
    have hs_504 := hs_421.pull 3 rfl
    have hs_505 := hs_504.pull 1 rfl
    have hs_506 := hs_505.pull 3 rfl
    have hs_507 := hs_506.pull 3 rfl
    exact F56.L7_ok hora lf r_418 mpx1_0 mpx1_1 apx1_2 xpx1_2 n56 n57 n58 (xpx1_2.length : Int) 0 _ hs_507 hp
  | pan r_419 =>
    replace hp := bindr_pan hp
    obtain ⟨h_508, e_510, hs_509⟩ := hc_420
    refine st_pan (Q := F56.Post px0 apx0_0 cpx0_0 xpx0_0 px1 F ro r) e_510 ?_
    have hs_511 := hs_509.pull 1 rfl
    have hs_512 := hs_511.tail
    have hs_513 := hs_512.pull 2 rfl
    have hs_514 := hs_513.pull 2 rfl
    have hs_515 := hs_514.pull 2 rfl
    cases hp
    exact ⟨apx1_2, _, rfl, hs_515⟩

def F56.p (lf : Nat) (xpx0_0 : List Int) (mpx0_1 : Int) (mpx1_0 : Int) (mpx1_1 : Int) (xpx1_2 : List Int) (x2 : Int) (x3 : Int) : Option (Res (Int × Int × Int × List Int) (Int × Int × Int × Int × List Int)) :=
  bindp (idxp xpx0_0 mpx0_1) fun x_387 =>
  bindp (F36.p lf x_387) fun r_390 =>
  bindr (F52.p lf xpx0_0 mpx0_1 r_390 9) (fun r_403 => some (.pan (r_403.1, r_403.2, mpx1_0, mpx1_1, xpx1_2))) fun r_402 =>
  ifp (x2 == 4) (
    F56.J5p lf xpx0_0 (IntKind.i64.wrap (r_402 + 1)) mpx1_0 mpx1_1 xpx1_2 x2 x3 (IntKind.i64.wrap (Int.tdiv (IntKind.i64.wrap (mpx1_0 + 7)) 8))) (
    F56.J5p lf xpx0_0 (IntKind.i64.wrap (r_402 + 1)) mpx1_0 mpx1_1 xpx1_2 x2 x3 mpx1_0)

theorem F56.t_ok {ora : Ora} (hora : HOra ora) {lf ro : Nat} {F : List Ent} {r : (Res (Int × Int × Int × List Int) (Int × Int × Int × Int × List Int))} {px0 : Nat} {apx0_0 : Option Addr} {cpx0_0 : Nat} {xpx0_0 : List Int} {px1 : Nat} (mpx0_1 : Int) (mpx1_0 : Int) (mpx1_1 : Int) (apx1_2 : Option Addr) (xpx1_2 : List Int) (x2 : Int) (x3 : Int) (h : Heap) (hs : Sat ro h (.own ro (some ⟨px0, 0, none⟩) 1 [.slice apx0_0 xpx0_0.length cpx0_0, .int .i64 mpx0_1] :: .row apx0_0 cpx0_0 (xpx0_0.map (Value.int .u8)) :: .own ro (some ⟨px1, 0, none⟩) 1 [.int .i64 mpx1_0, .int .i64 mpx1_1, .slice apx1_2 xpx1_2.length xpx1_2.length] :: .own ro apx1_2 1 (xpx1_2.map (Value.int .u8)) :: F)) (hp : F56.p lf xpx0_0 mpx0_1 mpx1_0 mpx1_1 xpx1_2 x2 x3 = some r) : F56.Post px0 apx0_0 cpx0_0 xpx0_0 px1 F ro r (F56.t (callW Tryd.prog ora) lf ro px0 0 px1 0 x2 x3 h) := by
  unfold F56.t
  unfold F56.p at hp
  refine st_load (Q := F56.Post px0 apx0_0 cpx0_0 xpx0_0 px1 F ro r) isN hs agg22 rfl ?_
  refine st_slice (Q := F56.Post px0 apx0_0 cpx0_0 xpx0_0 px1 F ro r) ?_
  refine st_load (Q := F56.Post px0 apx0_0 cpx0_0 xpx0_0 px1 F ro r) isN hs agg3 rfl ?_
  refine st_int (Q := F56.Post px0 apx0_0 cpx0_0 xpx0_0 px1 F ro r) ?_
  have hs_389 := hs.pull 1 rfl
  obtain ⟨x_387, hx_388, hp⟩ := bindp_some hp
  refine st_idxR (Q := F56.Post px0 apx0_0 cpx0_0 xpx0_0 px1 F ro r) (l := xpx0_0) (f := (Value.int .u8)) isN isN hs_389 und22 siz5 agg5 rfl hx_388 ?_
  refine st_int (Q := F56.Post px0 apx0_0 cpx0_0 xpx0_0 px1 F ro r) ?_
  obtain ⟨r_390, hx_391, hp⟩ := bindp_some hp
  obtain ⟨h_392, e_394, hs_393⟩ := F36.ok hora (ro := ro) (F := .row apx0_0 cpx0_0 (xpx0_0.map (Value.int .u8)) :: .own ro (some ⟨px0, 0, none⟩) 1 [.slice apx0_0 xpx0_0.length cpx0_0, .int .i64 mpx0_1] :: .own ro (some ⟨px1, 0, none⟩) 1 [.int .i64 mpx1_0, .int .i64 mpx1_1, .slice apx1_2 xpx1_2.length xpx1_2.length] :: .own ro apx1_2 1 (xpx1_2.map (Value.int .u8)) :: F) x_387 _ hs_389 hx_391
  refine st_ok (Q := F56.Post px0 apx0_0 cpx0_0 xpx0_0 px1 F ro r) isN e_394 ?_
  refine st_bool (Q := F56.Post px0 apx0_0 cpx0_0 xpx0_0 px1 F ro r) ?_
  have hs_395 := hs_393.dup
  have hs_396 := hs_395.pull 2 rfl
  obtain ⟨r_397, hx_398, hp⟩ := bindr_some hp
  have hc_404 := F52.ok hora (ro := ro) (px0 := px0) (apx0_0 := apx0_0) (cpx0_0 := cpx0_0) (xpx0_0 := xpx0_0) (F := .row apx0_0 cpx0_0 (xpx0_0.map (Value.int .u8)) :: .own ro (some ⟨px1, 0, none⟩) 1 [.int .i64 mpx1_0, .int .i64 mpx1_1, .slice apx1_2 xpx1_2.length xpx1_2.length] :: .own ro apx1_2 1 (xpx1_2.map (Value.int .u8)) :: F) mpx0_1 r_390 9 _ hs_396 hx_398
  cases r_397 with
  | ok r_402 =>
    replace hp := bindr_ok hp
    obtain ⟨h_399, e_401, hs_400⟩ := hc_404
    refine st_ok (Q := F56.Post px0 apx0_0 cpx0_0 xpx0_0 px1 F ro r) isO e_401 ?_
    refine st_tup (Q := F56.Post px0 apx0_0 cpx0_0 xpx0_0 px1 F ro r) (l := []) ?_
    refine st_nil (Q := F56.Post px0 apx0_0 cpx0_0 xpx0_0 px1 F ro r) ?_
    refine st_load (Q := F56.Post px0 apx0_0 cpx0_0 xpx0_0 px1 F ro r) isO hs_400 agg3 rfl ?_
    refine st_int (Q := F56.Post px0 apx0_0 cpx0_0 xpx0_0 px1 F ro r) ?_
    refine st_store (Q := F56.Post px0 apx0_0 cpx0_0 xpx0_0 px1 F ro r) isO hs_400 siz3 rfl (Nat.le_of_ble_eq_true rfl) fun h_405 hs_406 => ?_
    have hs_407 := hs_406.pull 2 rfl
    refine st_load (Q := F56.Post px0 apx0_0 cpx0_0 xpx0_0 px1 F ro r) isO hs_407 agg3 rfl ?_
    refine st_int (Q := F56.Post px0 apx0_0 cpx0_0 xpx0_0 px1 F ro r) ?_
    refine st_if (Q := F56.Post px0 apx0_0 cpx0_0 xpx0_0 px1 F ro r) (fun hc_408 => ?_) (fun hc_408 => ?_)
    · replace hp := ifp_t hc_408 hp
      refine st_load (Q := F56.Post px0 apx0_0 cpx0_0 xpx0_0 px1 F ro r) isO hs_407 agg3 rfl ?_
      refine st_int (Q := F56.Post px0 apx0_0 cpx0_0 xpx0_0 px1 F ro r) ?_
      have hs_516 := hs_407.pull 3 rfl
      have hs_517 := hs_516.pull 1 rfl
      have hs_518 := hs_517.pull 3 rfl
      have hs_519 := hs_518.pull 3 rfl
      exact F56.J5_ok hora (IntKind.i64.wrap (r_402 + 1)) mpx1_0 mpx1_1 apx1_2 xpx1_2 x2 x3 (IntKind.i64.wrap (Int.tdiv (IntKind.i64.wrap (mpx1_0 + 7)) 8)) _ hs_519 hp
    · replace hp := ifp_f hc_408 hp
      have hs_520 := hs_407.pull 3 rfl
      have hs_521 := hs_520.pull 1 rfl
      have hs_522 := hs_521.pull 3 rfl
      have hs_523 := hs_522.pull 3 rfl
      exact F56.J5_ok hora (IntKind.i64.wrap (r_402 + 1)) mpx1_0 mpx1_1 apx1_2 xpx1_2 x2 x3 mpx1_0 _ hs_523 hp
  | pan r_403 =>
    replace hp := bindr_pan hp
    obtain ⟨h_524, e_526, hs_525⟩ := hc_404
    refine st_pan (Q := F56.Post px0 apx0_0 cpx0_0 xpx0_0 px1 F ro r) e_526 ?_
    have hs_527 := hs_525.pull 1 rfl
    have hs_528 := hs_527.tail
    have hs_529 := hs_528.pull 2 rfl
    have hs_530 := hs_529.pull 2 rfl
    have hs_531 := hs_530.pull 2 rfl
    cases hp
    exact ⟨apx1_2, _, rfl, hs_531⟩

theorem F56.ok {ora : Ora} (hora : HOra ora) {lf ro : Nat} {F : List Ent} {r : (Res (Int × Int × Int × List Int) (Int × Int × Int × Int × List Int))} {px0 : Nat} {apx0_0 : Option Addr} {cpx0_0 : Nat} {xpx0_0 : List Int} {px1 : Nat} (mpx0_1 : Int) (mpx1_0 : Int) (mpx1_1 : Int) (apx1_2 : Option Addr) (xpx1_2 : List Int) (x2 : Int) (x3 : Int) (h : Heap) (hs : Sat ro h (.own ro (some ⟨px0, 0, none⟩) 1 [.slice apx0_0 xpx0_0.length cpx0_0, .int .i64 mpx0_1] :: .row apx0_0 cpx0_0 (xpx0_0.map (Value.int .u8)) :: .own ro (some ⟨px1, 0, none⟩) 1 [.int .i64 mpx1_0, .int .i64 mpx1_1, .slice apx1_2 xpx1_2.length xpx1_2.length] :: .own ro apx1_2 1 (xpx1_2.map (Value.int .u8)) :: F)) (hp : F56.p lf xpx0_0 mpx0_1 mpx1_0 mpx1_1 xpx1_2 x2 x3 = some r) : F56.Post px0 apx0_0 cpx0_0 xpx0_0 px1 F ro r (callW Tryd.prog ora ro 56 [.pointer (some ⟨px0, 0, none⟩), .pointer (some ⟨px1, 0, none⟩), .int .i64 x2, .int .i64 x3] h) := by
  have h1 := F56.t_ok hora mpx0_1 mpx1_0 mpx1_1 apx1_2 xpx1_2 x2 x3 h hs hp
  have h2 : callW Tryd.prog ora ro 56 [.pointer (some ⟨px0, 0, none⟩), .pointer (some ⟨px1, 0, none⟩), .int .i64 x2, .int .i64 x3] h = _ := callW_body (hora.none _ _ _ _ (by decide)) Tryd.func56 (F56.le (callW Tryd.prog ora) lf ro px0 0 px1 0 x2 x3 h) (F56.Post.ne h1)
  rw [h2]; exact h1

def F55.Post (px0 : Nat) (apx0_0 : Option Addr) (cpx0_0 : Nat) (xpx0_0 : List Int) (px1 : Nat) (F : List Ent) (ro : Nat) (r : (Res (Int × Int × Int × List Int) (Int × Int × Int × Int × List Int))) (x : Out) : Prop := match r with
  | .ok r => ∃ bpx1_2 h', x = .ok (.tuple #[]) h' ∧ Sat ro h' (.own ro (some ⟨px0, 0, none⟩) 1 [.slice apx0_0 xpx0_0.length cpx0_0, .int .i64 r.1] :: .own ro (some ⟨px1, 0, none⟩) 1 [.int .i64 r.2.1, .int .i64 r.2.2.1, .slice bpx1_2 r.2.2.2.length r.2.2.2.length] :: .own ro bpx1_2 1 (r.2.2.2.map (Value.int .u8)) :: F)
  | .pan r => ∃ bpx1_2 h', x = .panic (.iface 77 (.agg #[.int .i64 r.1])) h' ∧ Sat ro h' (.own ro (some ⟨px0, 0, none⟩) 1 [.slice apx0_0 xpx0_0.length cpx0_0, .int .i64 r.2.1] :: .own ro (some ⟨px1, 0, none⟩) 1 [.int .i64 r.2.2.1, .int .i64 r.2.2.2.1, .slice bpx1_2 r.2.2.2.2.length r.2.2.2.2.length] :: .own ro bpx1_2 1 (r.2.2.2.2.map (Value.int .u8)) :: F)
theorem F55.Post.ne {px0 : Nat} {apx0_0 : Option Addr} {cpx0_0 : Nat} {xpx0_0 : List Int} {px1 : Nat} {F : List Ent} {ro : Nat} {r : (Res (Int × Int × Int × List Int) (Int × Int × Int × Int × List Int))} {x : Out} (hx : F55.Post px0 apx0_0 cpx0_0 xpx0_0 px1 F ro r x) : x ≠ .fail := by
  cases r with
  | ok r => obtain ⟨bpx1_2, h', rfl, _⟩ := hx; simp
  | pan r => obtain ⟨bpx1_2, h', rfl, _⟩ := hx; simp

def F55.J7p (lf : Nat) (kb1p : List Int → Int → Int → Int → List Int → Int → Int → Int → Int → Option (Res (Int × Int × Int × List Int) (Int × Int × Int × Int × List Int))) (xpx0_0 : List Int) (mpx0_1 : Int) (mpx1_0 : Int) (mpx1_1 : Int) (xpx1_2 : List Int) (n55 : Int) (n56 : Int) (n57 : Int) (n58 : Int) (n59 : Int) : Option (Res (Int × Int × Int × List Int) (Int × Int × Int × Int × List Int)) :=
  letJ (fun (mj232_0_1 : Int) (mj232_2_0 : Int) (mj232_2_1 : Int) (xj232_2_2 : List Int) => (
    kb1p xpx0_0 mj232_0_1 mj232_2_0 mj232_2_1 xj232_2_2 n55 n56 n58 (IntKind.i64.wrap (n59 + 1)) : Option (Res (Int × Int × Int × List Int) (Int × Int × Int × Int × List Int)))) fun j232p =>
  bindp (F67.p lf xpx0_0 mpx0_1) fun r_591 =>
  bindr (F52.p lf xpx0_0 r_591 (decide (r_591 < (xpx0_0.length : Int))) 10) (fun r_605 => some (.pan (r_605.1, r_605.2, mpx1_0, mpx1_1, xpx1_2))) fun r_604 =>
  bindp (idxp xpx0_0 r_604) fun x_607 =>
  letJ (fun (mj371_1_1 : Int) => (
    bindp (F68.p lf (x_607 == 49)) fun r_657 =>
    bindp (setp xpx1_2 n57 r_657) fun x_662 =>
    j232p (IntKind.i64.wrap (mj371_1_1 + 1)) mpx1_0 mpx1_1 x_662 : Option (Res (Int × Int × Int × List Int) (Int × Int × Int × Int × List Int)))) fun j371p =>
  ifp (x_607 == 48) (
    bindr (F52.p lf xpx0_0 r_604 true 9) (fun r_619 => some (.pan (r_619.1, r_619.2, mpx1_0, mpx1_1, xpx1_2))) fun r_618 =>
    j371p r_618) (
    bindr (F52.p lf xpx0_0 r_604 (x_607 == 49) 9) (fun r_641 => some (.pan (r_641.1, r_641.2, mpx1_0, mpx1_1, xpx1_2))) fun r_640 =>
    j371p r_640)

theorem F55.J7_ok {ora : Ora} (hora : HOra ora) {lf ro : Nat} {F : List Ent} {r : (Res (Int × Int × Int × List Int) (Int × Int × Int × Int × List Int))} {px0 : Nat} {apx0_0 : Option Addr} {cpx0_0 : Nat} {xpx0_0 : List Int} {px1 : Nat} {kb1p : List Int → Int → Int → Int → List Int → Int → Int → Int → Int → Option (Res (Int × Int × Int × List Int) (Int × Int × Int × Int × List Int))} {kb1 : Nat → Nat → Nat → Nat → Int → Int → Int → Int → Heap → Out} (hkb1 : ∀ (mpx0_1 : Int) (mpx1_0 : Int) (mpx1_1 : Int) (apx1_2 : Option Addr) (xpx1_2 : List Int) (n9 : Int) (n10 : Int) (n11 : Int) (n12 : Int) (h : Heap), Sat ro h (.own ro (some ⟨px0, 0, none⟩) 1 [.slice apx0_0 xpx0_0.length cpx0_0, .int .i64 mpx0_1] :: .row apx0_0 cpx0_0 (xpx0_0.map (Value.int .u8)) :: .own ro (some ⟨px1, 0, none⟩) 1 [.int .i64 mpx1_0, .int .i64 mpx1_1, .slice apx1_2 xpx1_2.length xpx1_2.length] :: .own ro apx1_2 1 (xpx1_2.map (Value.int .u8)) :: F) → kb1p xpx0_0 mpx0_1 mpx1_0 mpx1_1 xpx1_2 n9 n10 n11 n12 = some r → F55.Post px0 apx0_0 cpx0_0 xpx0_0 px1 F ro r (kb1 px0 0 px1 0 n9 n10 n11 n12 h)) (mpx0_1 : Int) (mpx1_0 : Int) (mpx1_1 : Int) (apx1_2 : Option Addr) (xpx1_2 : List Int) (n55 : Int) (n56 : Int) (n57 : Int) (n58 : Int) (n59 : Int) (h : Heap) (hs : Sat ro h (.own ro (some ⟨px0, 0, none⟩) 1 [.slice apx0_0 xpx0_0.length cpx0_0, .int .i64 mpx0_1] :: .row apx0_0 cpx0_0 (xpx0_0.map (Value.int .u8)) :: .own ro (some ⟨px1, 0, none⟩) 1 [.int .i64 mpx1_0, .int .i64 mpx1_1, .slice apx1_2 xpx1_2.length xpx1_2.length] :: .own ro apx1_2 1 (xpx1_2.map (Value.int .u8)) :: F)) (hp : F55.J7p lf kb1p xpx0_0 mpx0_1 mpx1_0 mpx1_1 xpx1_2 n55 n56 n57 n58 n59 = some r) : F55.Post px0 apx0_0 cpx0_0 xpx0_0 px1 F ro r (F55.J7 (callW Tryd.prog ora) lf ro kb1 px0 0 px1 0 n55 n56 n57 n58 n59 h) := by
  unfold F55.J7
  unfold F55.J7p at hp
  refine st_letJ hp (fun j232p j232 => ∀ (mj232_0_1 : Int) (mj232_2_0 : Int) (mj232_2_1 : Int) (aj232_2_2 : Option Addr) (xj232_2_2 : List Int) (h_683 : Heap), Sat ro h_683 (.own ro (some ⟨px0, 0, none⟩) 1 [.slice apx0_0 xpx0_0.length cpx0_0, .int .i64 mj232_0_1] :: .row apx0_0 cpx0_0 (xpx0_0.map (Value.int .u8)) :: .own ro (some ⟨px1, 0, none⟩) 1 [.int .i64 mj232_2_0, .int .i64 mj232_2_1, .slice aj232_2_2 xj232_2_2.length xj232_2_2.length] :: .own ro aj232_2_2 1 (xj232_2_2.map (Value.int .u8)) :: F) → j232p mj232_0_1 mj232_2_0 mj232_2_1 xj232_2_2 = some r → F55.Post px0 apx0_0 cpx0_0 xpx0_0 px1 F ro r (j232 h_683)) ?_ ?_
  · intro mj232_0_1 mj232_2_0 mj232_2_1 aj232_2_2 xj232_2_2 h_683 hs hp
    have hs_684 := hs.pull 3 rfl
    have hs_685 := hs_684.pull 3 rfl
    have hs_686 := hs_685.pull 3 rfl
    have hs_687 := hs_686.pull 3 rfl
    exact hkb1 mj232_0_1 mj232_2_0 mj232_2_1 aj232_2_2 xj232_2_2 n55 n56 n58 (IntKind.i64.wrap (n59 + 1)) _ hs_687 hp
  · intro j232p j232 hj232 hp
    have hs_588 := hs.pull 1 rfl
    have hs_589 := hs_588.dup
    have hs_590 := hs_589.pull 2 rfl
    obtain ⟨r_591, hx_592, hp⟩ := bindp_some hp
    obtain ⟨h_593, e_595, hs_594⟩ := F67.ok hora (ro := ro) (px0 := px0) (apx0_0 := apx0_0) (cpx0_0 := cpx0_0) (xpx0_0 := xpx0_0) (F := .row apx0_0 cpx0_0 (xpx0_0.map (Value.int .u8)) :: .own ro (some ⟨px1, 0, none⟩) 1 [.int .i64 mpx1_0, .int .i64 mpx1_1, .slice apx1_2 xpx1_2.length xpx1_2.length] :: .own ro apx1_2 1 (xpx1_2.map (Value.int .u8)) :: F) mpx0_1 _ hs_590 hx_592
    refine st_ok (Q := F55.Post px0 apx0_0 cpx0_0 xpx0_0 px1 F ro r) isO e_595 ?_
    refine st_tup (Q := F55.Post px0 apx0_0 cpx0_0 xpx0_0 px1 F ro r) (l := []) ?_
    refine st_nil (Q := F55.Post px0 apx0_0 cpx0_0 xpx0_0 px1 F ro r) ?_
    refine st_load (Q := F55.Post px0 apx0_0 cpx0_0 xpx0_0 px1 F ro r) isN hs_594 agg3 rfl ?_
    refine st_int (Q := F55.Post px0 apx0_0 cpx0_0 xpx0_0 px1 F ro r) ?_
    refine st_load (Q := F55.Post px0 apx0_0 cpx0_0 xpx0_0 px1 F ro r) isN hs_594 agg22 rfl ?_
    refine st_slice (Q := F55.Post px0 apx0_0 cpx0_0 xpx0_0 px1 F ro r) ?_
    have hs_596 := hs_594.pull 1 rfl
    have hs_597 := hs_596.dup
    have hs_598 := hs_597.pull 2 rfl
    obtain ⟨r_599, hx_600, hp⟩ := bindr_some hp
    have hc_606 := F52.ok hora (ro := ro) (px0 := px0) (apx0_0 := apx0_0) (cpx0_0 := cpx0_0) (xpx0_0 := xpx0_0) (F := .row apx0_0 cpx0_0 (xpx0_0.map (Value.int .u8)) :: .own ro (some ⟨px1, 0, none⟩) 1 [.int .i64 mpx1_0, .int .i64 mpx1_1, .slice apx1_2 xpx1_2.length xpx1_2.length] :: .own ro apx1_2 1 (xpx1_2.map (Value.int .u8)) :: F) r_591 (decide (r_591 < (xpx0_0.length : Int))) 10 _ hs_598 hx_600
    cases r_599 with
    | ok r_604 =>
      replace hp := bindr_ok hp
      obtain ⟨h_601, e_603, hs_602⟩ := hc_606
      refine st_ok (Q := F55.Post px0 apx0_0 cpx0_0 xpx0_0 px1 F ro r) isO e_603 ?_
      refine st_tup (Q := F55.Post px0 apx0_0 cpx0_0 xpx0_0 px1 F ro r) (l := []) ?_
      refine st_nil (Q := F55.Post px0 apx0_0 cpx0_0 xpx0_0 px1 F ro r) ?_
      refine st_load (Q := F55.Post px0 apx0_0 cpx0_0 xpx0_0 px1 F ro r) isN hs_602 agg22 rfl ?_
      refine st_slice (Q := F55.Post px0 apx0_0 cpx0_0 xpx0_0 px1 F ro r) ?_
      refine st_load (Q := F55.Post px0 apx0_0 cpx0_0 xpx0_0 px1 F ro r) isN hs_602 agg3 rfl ?_
      refine st_int (Q := F55.Post px0 apx0_0 cpx0_0 xpx0_0 px1 F ro r) ?_
      have hs_609 := hs_602.pull 1 rfl
      obtain ⟨x_607, hx_608, hp⟩ := bindp_some hp
      refine st_idxR (Q := F55.Post px0 apx0_0 cpx0_0 xpx0_0 px1 F ro r) (l := xpx0_0) (f := (Value.int .u8)) isO isO hs_609 und22 siz5 agg5 rfl hx_608 ?_
      refine st_int (Q := F55.Post px0 apx0_0 cpx0_0 xpx0_0 px1 F ro r) ?_
      refine st_letJ hp (fun j371p j371 => ∀ (mj371_1_1 : Int) (h_655 : Heap), Sat ro h_655 (.row apx0_0 cpx0_0 (xpx0_0.map (Value.int .u8)) :: .own ro (some ⟨px0, 0, none⟩) 1 [.slice apx0_0 xpx0_0.length cpx0_0, .int .i64 mj371_1_1] :: .own ro (some ⟨px1, 0, none⟩) 1 [.int .i64 mpx1_0, .int .i64 mpx1_1, .slice apx1_2 xpx1_2.length xpx1_2.length] :: .own ro apx1_2 1 (xpx1_2.map (Value.int .u8)) :: F) → j371p mj371_1_1 = some r → F55.Post px0 apx0_0 cpx0_0 xpx0_0 px1 F ro r (j371 h_655)) ?_ ?_
      · intro mj371_1_1 h_655 hs hp
        have hs_656 := hs.pull 2 rfl
        refine st_load (Q := F55.Post px0 apx0_0 cpx0_0 xpx0_0 px1 F ro r) isN hs_656 agg22 rfl ?_
        refine st_slice (Q := F55.Post px0 apx0_0 cpx0_0 xpx0_0 px1 F ro r) ?_
        obtain ⟨r_657, hx_658, hp⟩ := bindp_some hp
        obtain ⟨h_659, e_661, hs_660⟩ := F68.ok hora (ro := h_655.next) (F := .own ro (some ⟨px1, 0, none⟩) 1 [.int .i64 mpx1_0, .int .i64 mpx1_1, .slice apx1_2 xpx1_2.length xpx1_2.length] :: .row apx0_0 cpx0_0 (xpx0_0.map (Value.int .u8)) :: .own ro (some ⟨px0, 0, none⟩) 1 [.slice apx0_0 xpx0_0.length cpx0_0, .int .i64 mj371_1_1] :: .own ro apx1_2 1 (xpx1_2.map (Value.int .u8)) :: F) (x_607 == 49) _ (hs_656.ro' (Nat.le_refl _)) hx_658
        refine st_ok (Q := F55.Post px0 apx0_0 cpx0_0 xpx0_0 px1 F ro r) isN e_661 ?_
        replace hs_660 := hs_660.ro' (Nat.le_trans hs_656.low hs_660.low)
        refine st_int (Q := F55.Post px0 apx0_0 cpx0_0 xpx0_0 px1 F ro r) ?_
        have hs_664 := hs_660.pull 3 rfl
        obtain ⟨x_662, hx_663, hp⟩ := bindp_some hp
        refine st_idxS (Q := F55.Post px0 apx0_0 cpx0_0 xpx0_0 px1 F ro r) (l := xpx1_2) (f := (Value.int .u8)) isO isO hs_664 und22 siz5 siz5 (fun _ => rfl) rfl hx_663 fun h_665 hs_666 => ?_
        have hl_667 := setp_len hx_663
        try simp only [hl_667] at hs_666 hp ⊢
        have hs_668 := hs_666.pull 3 rfl
        refine st_load (Q := F55.Post px0 apx0_0 cpx0_0 xpx0_0 px1 F ro r) isO hs_668 agg3 rfl ?_
        refine st_int (Q := F55.Post px0 apx0_0 cpx0_0 xpx0_0 px1 F ro r) ?_
        refine st_store (Q := F55.Post px0 apx0_0 cpx0_0 xpx0_0 px1 F ro r) isO hs_668 siz3 rfl (Nat.le_of_ble_eq_true rfl) fun h_669 hs_670 => ?_
        have hs_671 := hs_670.pull 1 rfl
        have hs_672 := hs_671.pull 2 rfl
        have hs_673 := hs_672.pull 3 rfl
        have hs_674 := hs_673.pull 3 rfl
        exact hj232 (IntKind.i64.wrap (mj371_1_1 + 1)) mpx1_0 mpx1_1 apx1_2 x_662 _ hs_674 hp
      · intro j371p j371 hj371 hp
        refine st_if (Q := F55.Post px0 apx0_0 cpx0_0 xpx0_0 px1 F ro r) (fun hc_610 => ?_) (fun hc_610 => ?_)
        · replace hp := ifp_t hc_610 hp
          have hs_611 := hs_609.dup
          have hs_612 := hs_611.pull 2 rfl
          obtain ⟨r_613, hx_614, hp⟩ := bindr_some hp
          have hc_620 := F52.ok hora (ro := ro) (px0 := px0) (apx0_0 := apx0_0) (cpx0_0 := cpx0_0) (xpx0_0 := xpx0_0) (F := .row apx0_0 cpx0_0 (xpx0_0.map (Value.int .u8)) :: .own ro (some ⟨px1, 0, none⟩) 1 [.int .i64 mpx1_0, .int .i64 mpx1_1, .slice apx1_2 xpx1_2.length xpx1_2.length] :: .own ro apx1_2 1 (xpx1_2.map (Value.int .u8)) :: F) r_604 true 9 _ hs_612 hx_614
          cases r_613 with
          | ok r_618 =>
            replace hp := bindr_ok hp
            obtain ⟨h_615, e_617, hs_616⟩ := hc_620
            refine st_ok (Q := F55.Post px0 apx0_0 cpx0_0 xpx0_0 px1 F ro r) isO e_617 ?_
            refine st_tup (Q := F55.Post px0 apx0_0 cpx0_0 xpx0_0 px1 F ro r) (l := []) ?_
            refine st_nil (Q := F55.Post px0 apx0_0 cpx0_0 xpx0_0 px1 F ro r) ?_
            have hs_621 := hs_616.pull 3 rfl
            have hs_622 := hs_621.pull 3 rfl
            have hs_623 := hs_622.pull 2 rfl
            have hs_624 := hs_623.pull 3 rfl
            exact hj371 r_618 _ hs_624 hp
          | pan r_619 =>
            replace hp := bindr_pan hp
            obtain ⟨h_625, e_627, hs_626⟩ := hc_620
            refine st_pan (Q := F55.Post px0 apx0_0 cpx0_0 xpx0_0 px1 F ro r) e_627 ?_
            have hs_628 := hs_626.pull 1 rfl
            have hs_629 := hs_628.tail
            have hs_630 := hs_629.pull 2 rfl
            have hs_631 := hs_630.pull 2 rfl
            have hs_632 := hs_631.pull 2 rfl
            cases hp
            exact ⟨apx1_2, _, rfl, hs_632⟩
        · replace hp := ifp_f hc_610 hp
          have hs_633 := hs_609.dup
          have hs_634 := hs_633.pull 2 rfl
          obtain ⟨r_635, hx_636, hp⟩ := bindr_some hp
          have hc_642 := F52.ok hora (ro := ro) (px0 := px0) (apx0_0 := apx0_0) (cpx0_0 := cpx0_0) (xpx0_0 := xpx0_0) (F := .row apx0_0 cpx0_0 (xpx0_0.map (Value.int .u8)) :: .own ro (some ⟨px1, 0, none⟩) 1 [.int .i64 mpx1_0, .int .i64 mpx1_1, .slice apx1_2 xpx1_2.length xpx1_2.length] :: .own ro apx1_2 1 (xpx1_2.map (Value.int .u8)) :: F) r_604 (x_607 == 49) 9 _ hs_634 hx_636
          cases r_635 with
          | ok r_640 =>
            replace hp := bindr_ok hp
            obtain ⟨h_637, e_639, hs_638⟩ := hc_642
            refine st_ok (Q := F55.Post px0 apx0_0 cpx0_0 xpx0_0 px1 F ro r) isO e_639 ?_
            refine st_tup (Q := F55.Post px0 apx0_0 cpx0_0 xpx0_0 px1 F ro r) (l := []) ?_
            refine st_nil (Q := F55.Post px0 apx0_0 cpx0_0 xpx0_0 px1 F ro r) ?_
            have hs_643 := hs_638.pull 3 rfl
            have hs_644 := hs_643.pull 3 rfl
            have hs_645 := hs_644.pull 2 rfl
            have hs_646 := hs_645.pull 3 rfl
            exact hj371 r_640 _ hs_646 hp
          | pan r_641 =>
            replace hp := bindr_pan hp
            obtain ⟨h_647, e_649, hs_648⟩ := hc_642
            refine st_pan (Q := F55.Post px0 apx0_0 cpx0_0 xpx0_0 px1 F ro r) e_649 ?_
            have hs_650 := hs_648.pull 1 rfl
            have hs_651 := hs_650.tail
            have hs_652 := hs_651.pull 2 rfl
            have hs_653 := hs_652.pull 2 rfl
            have hs_654 := hs_653.pull 2 rfl
            cases hp
            exact ⟨apx1_2, _, rfl, hs_654⟩
    | pan r_605 =>
      replace hp := bindr_pan hp
      obtain ⟨h_675, e_677, hs_676⟩ := hc_606
      refine st_pan (Q := F55.Post px0 apx0_0 cpx0_0 xpx0_0 px1 F ro r) e_677 ?_
      have hs_678 := hs_676.pull 1 rfl
      have hs_679 := hs_678.tail
      have hs_680 := hs_679.pull 2 rfl
      have hs_681 := hs_680.pull 2 rfl
      have hs_682 := hs_681.pull 2 rfl
      cases hp
      exact ⟨apx1_2, _, rfl, hs_682⟩

def F55.J2p (lf : Nat) (kb1p : List Int → Int → Int → Int → List Int → Int → Int → Int → Int → Option (Res (Int × Int × Int × List Int) (Int × Int × Int × Int × List Int))) (xpx0_0 : List Int) (mpx0_1 : Int) (mpx1_0 : Int) (mpx1_1 : Int) (xpx1_2 : List Int) (n16 : Int) (n17 : Int) (n18 : Int) (n19 : Int) : Option (Res (Int × Int × Int × List Int) (Int × Int × Int × Int × List Int)) :=
  ifp (n16 == 2) (
    bindr (F65.p lf xpx0_0 mpx0_1) (fun r_544 => some (.pan (r_544.1, r_544.2, mpx1_0, mpx1_1, xpx1_2))) fun r_543 =>
    bindr (F52.p lf xpx0_0 r_543.2 (decide (r_543.1 ≤ n17)) 3) (fun r_555 => some (.pan (r_555.1, r_555.2, mpx1_0, mpx1_1, xpx1_2))) fun r_554 =>
    bindp (F66.p lf r_543.1 n17) fun r_558 =>
    bindp (setp xpx1_2 n19 r_558) fun x_563 =>
    kb1p xpx0_0 r_554 mpx1_0 mpx1_1 x_563 n16 n17 n18 (IntKind.i64.wrap (n19 + 1))) (
    F55.J7p lf kb1p xpx0_0 mpx0_1 mpx1_0 mpx1_1 xpx1_2 n16 n17 n19 n18 n19)

theorem F55.J2_ok {ora : Ora} (hora : HOra ora) {lf ro : Nat} {F : List Ent} {r : (Res (Int × Int × Int × List Int) (Int × Int × Int × Int × List Int))} {px0 : Nat} {apx0_0 : Option Addr} {cpx0_0 : Nat} {xpx0_0 : List Int} {px1 : Nat} {kb1p : List Int → Int → Int → Int → List Int → Int → Int → Int → Int → Option (Res (Int × Int × Int × List Int) (Int × Int × Int × Int × List Int))} {kb1 : Nat → Nat → Nat → Nat → Int → Int → Int → Int → Heap → Out} (hkb1 : ∀ (mpx0_1 : Int) (mpx1_0 : Int) (mpx1_1 : Int) (apx1_2 : Option Addr) (xpx1_2 : List Int) (n9 : Int) (n10 : Int) (n11 : Int) (n12 : Int) (h : Heap), Sat ro h (.own ro (some ⟨px0, 0, none⟩) 1 [.slice apx0_0 xpx0_0.length cpx0_0, .int .i64 mpx0_1] :: .row apx0_0 cpx0_0 (xpx0_0.map (Value.int .u8)) :: .own ro (some ⟨px1, 0, none⟩) 1 [.int .i64 mpx1_0, .int .i64 mpx1_1, .slice apx1_2 xpx1_2.length xpx1_2.length] :: .own ro apx1_2 1 (xpx1_2.map (Value.int .u8)) :: F) → kb1p xpx0_0 mpx0_1 mpx1_0 mpx1_1 xpx1_2 n9 n10 n11 n12 = some r → F55.Post px0 apx0_0 cpx0_0 xpx0_0 px1 F ro r (kb1 px0 0 px1 0 n9 n10 n11 n12 h)) (mpx0_1 : Int) (mpx1_0 : Int) (mpx1_1 : Int) (apx1_2 : Option Addr) (xpx1_2 : List Int) (n16 : Int) (n17 : Int) (n18 : Int) (n19 : Int) (h : Heap) (hs : Sat ro h (.own ro (some ⟨px0, 0, none⟩) 1 [.slice apx0_0 xpx0_0.length cpx0_0, .int .i64 mpx0_1] :: .row apx0_0 cpx0_0 (xpx0_0.map (Value.int .u8)) :: .own ro (some ⟨px1, 0, none⟩) 1 [.int .i64 mpx1_0, .int .i64 mpx1_1, .slice apx1_2 xpx1_2.length xpx1_2.length] :: .own ro apx1_2 1 (xpx1_2.map (Value.int .u8)) :: F)) (hp : F55.J2p lf kb1p xpx0_0 mpx0_1 mpx1_0 mpx1_1 xpx1_2 n16 n17 n18 n19 = some r) : F55.Post px0 apx0_0 cpx0_0 xpx0_0 px1 F ro r (F55.J2 (callW Tryd.prog ora) lf ro kb1 px0 0 px1 0 n16 n17 n18 n19 h) := by
  unfold F55.J2
  unfold F55.J2p at hp
  refine st_if (Q := F55.Post px0 apx0_0 cpx0_0 xpx0_0 px1 F ro r) (fun hc_534 => ?_) (fun hc_534 => ?_)
  · replace hp := ifp_t hc_534 hp
    have hs_535 := hs.pull 1 rfl
    have hs_536 := hs_535.dup
    have hs_537 := hs_536.pull 2 rfl
    obtain ⟨r_538, hx_539, hp⟩ := bindr_some hp
    have hc_545 := F65.ok hora (ro := ro) (px0 := px0) (apx0_0 := apx0_0) (cpx0_0 := cpx0_0) (xpx0_0 := xpx0_0) (F := .row apx0_0 cpx0_0 (xpx0_0.map (Value.int .u8)) :: .own ro (some ⟨px1, 0, none⟩) 1 [.int .i64 mpx1_0, .int .i64 mpx1_1, .slice apx1_2 xpx1_2.length xpx1_2.length] :: .own ro apx1_2 1 (xpx1_2.map (Value.int .u8)) :: F) mpx0_1 _ hs_537 hx_539
    cases r_538 with
    | ok r_543 =>
      replace hp := bindr_ok hp
      obtain ⟨h_540, e_542, hs_541⟩ := hc_545
      refine st_ok (Q := F55.Post px0 apx0_0 cpx0_0 xpx0_0 px1 F ro r) isO e_542 ?_
      refine st_int (Q := F55.Post px0 apx0_0 cpx0_0 xpx0_0 px1 F ro r) ?_
      have hs_546 := hs_541.pull 1 rfl
      have hs_547 := hs_546.dup
      have hs_548 := hs_547.pull 2 rfl
      obtain ⟨r_549, hx_550, hp⟩ := bindr_some hp
      have hc_556 := F52.ok hora (ro := ro) (px0 := px0) (apx0_0 := apx0_0) (cpx0_0 := cpx0_0) (xpx0_0 := xpx0_0) (F := .row apx0_0 cpx0_0 (xpx0_0.map (Value.int .u8)) :: .own ro (some ⟨px1, 0, none⟩) 1 [.int .i64 mpx1_0, .int .i64 mpx1_1, .slice apx1_2 xpx1_2.length xpx1_2.length] :: .own ro apx1_2 1 (xpx1_2.map (Value.int .u8)) :: F) r_543.2 (decide (r_543.1 ≤ n17)) 3 _ hs_548 hx_550
      cases r_549 with
      | ok r_554 =>
        replace hp := bindr_ok hp
        obtain ⟨h_551, e_553, hs_552⟩ := hc_556
        refine st_ok (Q := F55.Post px0 apx0_0 cpx0_0 xpx0_0 px1 F ro r) isO e_553 ?_
        refine st_tup (Q := F55.Post px0 apx0_0 cpx0_0 xpx0_0 px1 F ro r) (l := []) ?_
        refine st_nil (Q := F55.Post px0 apx0_0 cpx0_0 xpx0_0 px1 F ro r) ?_
        have hs_557 := hs_552.pull 2 rfl
        refine st_load (Q := F55.Post px0 apx0_0 cpx0_0 xpx0_0 px1 F ro r) isN hs_557 agg22 rfl ?_
        refine st_slice (Q := F55.Post px0 apx0_0 cpx0_0 xpx0_0 px1 F ro r) ?_
        obtain ⟨r_558, hx_559, hp⟩ := bindp_some hp
        obtain ⟨h_560, e_562, hs_561⟩ := F66.ok hora (ro := h_551.next) (F := .own ro (some ⟨px1, 0, none⟩) 1 [.int .i64 mpx1_0, .int .i64 mpx1_1, .slice apx1_2 xpx1_2.length xpx1_2.length] :: .own ro (some ⟨px0, 0, none⟩) 1 [.slice apx0_0 xpx0_0.length cpx0_0, .int .i64 r_554] :: .row apx0_0 cpx0_0 (xpx0_0.map (Value.int .u8)) :: .own ro apx1_2 1 (xpx1_2.map (Value.int .u8)) :: F) r_543.1 n17 _ (hs_557.ro' (Nat.le_refl _)) hx_559
        refine st_ok (Q := F55.Post px0 apx0_0 cpx0_0 xpx0_0 px1 F ro r) isN e_562 ?_
        replace hs_561 := hs_561.ro' (Nat.le_trans hs_557.low hs_561.low)
        refine st_int (Q := F55.Post px0 apx0_0 cpx0_0 xpx0_0 px1 F ro r) ?_
        have hs_565 := hs_561.pull 3 rfl
        obtain ⟨x_563, hx_564, hp⟩ := bindp_some hp
        refine st_idxS (Q := F55.Post px0 apx0_0 cpx0_0 xpx0_0 px1 F ro r) (l := xpx1_2) (f := (Value.int .u8)) isO isO hs_565 und22 siz5 siz5 (fun _ => rfl) rfl hx_564 fun h_566 hs_567 => ?_
        have hl_568 := setp_len hx_564
        try simp only [hl_568] at hs_567 hp ⊢
        have hs_569 := hs_567.pull 1 rfl
        have hs_570 := hs_569.pull 3 rfl
        have hs_571 := hs_570.pull 3 rfl
        exact hkb1 r_554 mpx1_0 mpx1_1 apx1_2 x_563 n16 n17 n18 (IntKind.i64.wrap (n19 + 1)) _ hs_571 hp
      | pan r_555 =>
        replace hp := bindr_pan hp
        obtain ⟨h_572, e_574, hs_573⟩ := hc_556
        refine st_pan (Q := F55.Post px0 apx0_0 cpx0_0 xpx0_0 px1 F ro r) e_574 ?_
        have hs_575 := hs_573.pull 1 rfl
        have hs_576 := hs_575.tail
        have hs_577 := hs_576.pull 2 rfl
        have hs_578 := hs_577.pull 2 rfl
        have hs_579 := hs_578.pull 2 rfl
        cases hp
        exact ⟨apx1_2, _, rfl, hs_579⟩
    | pan r_544 =>
      replace hp := bindr_pan hp
      obtain ⟨h_580, e_582, hs_581⟩ := hc_545
      refine st_pan (Q := F55.Post px0 apx0_0 cpx0_0 xpx0_0 px1 F ro r) e_582 ?_
      have hs_583 := hs_581.pull 1 rfl
      have hs_584 := hs_583.tail
      have hs_585 := hs_584.pull 2 rfl
      have hs_586 := hs_585.pull 2 rfl
      have hs_587 := hs_586.pull 2 rfl
      cases hp
      exact ⟨apx1_2, _, rfl, hs_587⟩
  · replace hp := ifp_f hc_534 hp
    have hs_688 := hs.pull 3 rfl
    have hs_689 := hs_688.pull 3 rfl
    have hs_690 := hs_689.pull 3 rfl
    have hs_691 := hs_690.pull 3 rfl
    exact F55.J7_ok hora hkb1 mpx0_1 mpx1_0 mpx1_1 apx1_2 xpx1_2 n16 n17 n19 n18 n19 _ hs_691 hp

def F55.J15p (lf : Nat) (xpx0_0 : List Int) (mpx0_1 : Int) (b458 : Bool) (mpx1_0 : Int) (mpx1_1 : Int) (xpx1_2 : List Int) : Option (Res (Int × Int × Int × List Int) (Int × Int × Int × Int × List Int)) :=
  ifp b458 (
    bindp (idxp xpx0_0 mpx0_1) fun x_698 =>
    bindp (F36.p lf x_698) fun r_701 =>
    ifp r_701 (
      bindr (F52.p lf xpx0_0 mpx0_1 true 9) (fun r_715 => some (.pan (r_715.1, r_715.2, mpx1_0, mpx1_1, xpx1_2))) fun r_714 =>
      some (.ok (r_714, mpx1_0, mpx1_1, xpx1_2))) (
      bindp (idxp xpx0_0 mpx0_1) fun x_731 =>
      bindr (F52.p lf xpx0_0 mpx0_1 (x_731 == 35) 9) (fun r_742 => some (.pan (r_742.1, r_742.2, mpx1_0, mpx1_1, xpx1_2))) fun r_741 =>
      some (.ok (r_741, mpx1_0, mpx1_1, xpx1_2)))) (
    some (.ok (mpx0_1, mpx1_0, mpx1_1, xpx1_2)))

theorem F55.J15_ok {ora : Ora} (hora : HOra ora) {lf ro : Nat} {F : List Ent} {r : (Res (Int × Int × Int × List Int) (Int × Int × Int × Int × List Int))} {px0 : Nat} {apx0_0 : Option Addr} {cpx0_0 : Nat} {xpx0_0 : List Int} {px1 : Nat} (mpx0_1 : Int) (b458 : Bool) (mpx1_0 : Int) (mpx1_1 : Int) (apx1_2 : Option Addr) (xpx1_2 : List Int) (h : Heap) (hs : Sat ro h (.own ro (some ⟨px0, 0, none⟩) 1 [.slice apx0_0 xpx0_0.length cpx0_0, .int .i64 mpx0_1] :: .row apx0_0 cpx0_0 (xpx0_0.map (Value.int .u8)) :: .own ro (some ⟨px1, 0, none⟩) 1 [.int .i64 mpx1_0, .int .i64 mpx1_1, .slice apx1_2 xpx1_2.length xpx1_2.length] :: .own ro apx1_2 1 (xpx1_2.map (Value.int .u8)) :: F)) (hp : F55.J15p lf xpx0_0 mpx0_1 b458 mpx1_0 mpx1_1 xpx1_2 = some r) : F55.Post px0 apx0_0 cpx0_0 xpx0_0 px1 F ro r (F55.J15 (callW Tryd.prog ora) lf ro px0 0 b458 h) := by
  unfold F55.J15
  unfold F55.J15p at hp
  refine st_if (Q := F55.Post px0 apx0_0 cpx0_0 xpx0_0 px1 F ro r) (fun hc_697 => ?_) (fun hc_697 => ?_)
  · replace hp := ifp_t hc_697 hp
    refine st_load (Q := F55.Post px0 apx0_0 cpx0_0 xpx0_0 px1 F ro r) isN hs agg22 rfl ?_
    refine st_slice (Q := F55.Post px0 apx0_0 cpx0_0 xpx0_0 px1 F ro r) ?_
    refine st_load (Q := F55.Post px0 apx0_0 cpx0_0 xpx0_0 px1 F ro r) isN hs agg3 rfl ?_
    refine st_int (Q := F55.Post px0 apx0_0 cpx0_0 xpx0_0 px1 F ro r) ?_
    have hs_700 := hs.pull 1 rfl
    obtain ⟨x_698, hx_699, hp⟩ := bindp_some hp
    refine st_idxR (Q := F55.Post px0 apx0_0 cpx0_0 xpx0_0 px1 F ro r) (l := xpx0_0) (f := (Value.int .u8)) isN isN hs_700 und22 siz5 agg5 rfl hx_699 ?_
    refine st_int (Q := F55.Post px0 apx0_0 cpx0_0 xpx0_0 px1 F ro r) ?_
    obtain ⟨r_701, hx_702, hp⟩ := bindp_some hp
    obtain ⟨h_703, e_705, hs_704⟩ := F36.ok hora (ro := ro) (F := .row apx0_0 cpx0_0 (xpx0_0.map (Value.int .u8)) :: .own ro (some ⟨px0, 0, none⟩) 1 [.slice apx0_0 xpx0_0.length cpx0_0, .int .i64 mpx0_1] :: .own ro (some ⟨px1, 0, none⟩) 1 [.int .i64 mpx1_0, .int .i64 mpx1_1, .slice apx1_2 xpx1_2.length xpx1_2.length] :: .own ro apx1_2 1 (xpx1_2.map (Value.int .u8)) :: F) x_698 _ hs_700 hx_702
    refine st_ok (Q := F55.Post px0 apx0_0 cpx0_0 xpx0_0 px1 F ro r) isN e_705 ?_
    refine st_bool (Q := F55.Post px0 apx0_0 cpx0_0 xpx0_0 px1 F ro r) ?_
    refine st_if (Q := F55.Post px0 apx0_0 cpx0_0 xpx0_0 px1 F ro r) (fun hc_706 => ?_) (fun hc_706 => ?_)
    · replace hp := ifp_t hc_706 hp
      have hs_707 := hs_704.dup
      have hs_708 := hs_707.pull 2 rfl
      obtain ⟨r_709, hx_710, hp⟩ := bindr_some hp
      have hc_716 := F52.ok hora (ro := ro) (px0 := px0) (apx0_0 := apx0_0) (cpx0_0 := cpx0_0) (xpx0_0 := xpx0_0) (F := .row apx0_0 cpx0_0 (xpx0_0.map (Value.int .u8)) :: .own ro (some ⟨px1, 0, none⟩) 1 [.int .i64 mpx1_0, .int .i64 mpx1_1, .slice apx1_2 xpx1_2.length xpx1_2.length] :: .own ro apx1_2 1 (xpx1_2.map (Value.int .u8)) :: F) mpx0_1 true 9 _ hs_708 hx_710
      cases r_709 with
      | ok r_714 =>
        replace hp := bindr_ok hp
        obtain ⟨h_711, e_713, hs_712⟩ := hc_716
        refine st_ok (Q := F55.Post px0 apx0_0 cpx0_0 xpx0_0 px1 F ro r) isO e_713 ?_
        refine st_tup (Q := F55.Post px0 apx0_0 cpx0_0 xpx0_0 px1 F ro r) (l := []) ?_
        refine st_nil (Q := F55.Post px0 apx0_0 cpx0_0 xpx0_0 px1 F ro r) ?_
        have hs_717 := hs_712.pull 1 rfl
        have hs_718 := hs_717.tail
        have hs_719 := hs_718.pull 2 rfl
        have hs_720 := hs_719.pull 2 rfl
        have hs_721 := hs_720.pull 2 rfl
        cases hp
        exact ⟨apx1_2, _, rfl, hs_721⟩
      | pan r_715 =>
        replace hp := bindr_pan hp
        obtain ⟨h_722, e_724, hs_723⟩ := hc_716
        refine st_pan (Q := F55.Post px0 apx0_0 cpx0_0 xpx0_0 px1 F ro r) e_724 ?_
        have hs_725 := hs_723.pull 1 rfl
        have hs_726 := hs_725.tail
        have hs_727 := hs_726.pull 2 rfl
        have hs_728 := hs_727.pull 2 rfl
        have hs_729 := hs_728.pull 2 rfl
        cases hp
        exact ⟨apx1_2, _, rfl, hs_729⟩
    · replace hp := ifp_f hc_706 hp
      have hs_730 := hs_704.pull 1 rfl
      refine st_load (Q := F55.Post px0 apx0_0 cpx0_0 xpx0_0 px1 F ro r) isN hs_730 agg22 rfl ?_
      refine st_slice (Q := F55.Post px0 apx0_0 cpx0_0 xpx0_0 px1 F ro r) ?_
      refine st_load (Q := F55.Post px0 apx0_0 cpx0_0 xpx0_0 px1 F ro r) isN hs_730 agg3 rfl ?_
      refine st_int (Q := F55.Post px0 apx0_0 cpx0_0 xpx0_0 px1 F ro r) ?_
      have hs_733 := hs_730.pull 1 rfl
      obtain ⟨x_731, hx_732, hp⟩ := bindp_some hp
      refine st_idxR (Q := F55.Post px0 apx0_0 cpx0_0 xpx0_0 px1 F ro r) (l := xpx0_0) (f := (Value.int .u8)) isN isN hs_733 und22 siz5 agg5 rfl hx_732 ?_
      refine st_int (Q := F55.Post px0 apx0_0 cpx0_0 xpx0_0 px1 F ro r) ?_
      have hs_734 := hs_733.dup
      have hs_735 := hs_734.pull 2 rfl
      obtain ⟨r_736, hx_737, hp⟩ := bindr_some hp
      have hc_743 := F52.ok hora (ro := ro) (px0 := px0) (apx0_0 := apx0_0) (cpx0_0 := cpx0_0) (xpx0_0 := xpx0_0) (F := .row apx0_0 cpx0_0 (xpx0_0.map (Value.int .u8)) :: .own ro (some ⟨px1, 0, none⟩) 1 [.int .i64 mpx1_0, .int .i64 mpx1_1, .slice apx1_2 xpx1_2.length xpx1_2.length] :: .own ro apx1_2 1 (xpx1_2.map (Value.int .u8)) :: F) mpx0_1 (x_731 == 35) 9 _ hs_735 hx_737
      cases r_736 with
      | ok r_741 =>
        replace hp := bindr_ok hp
        obtain ⟨h_738, e_740, hs_739⟩ := hc_743
        refine st_ok (Q := F55.Post px0 apx0_0 cpx0_0 xpx0_0 px1 F ro r) isO e_740 ?_
        refine st_tup (Q := F55.Post px0 apx0_0 cpx0_0 xpx0_0 px1 F ro r) (l := []) ?_
        refine st_nil (Q := F55.Post px0 apx0_0 cpx0_0 xpx0_0 px1 F ro r) ?_
        have hs_744 := hs_739.pull 1 rfl
        have hs_745 := hs_744.tail
        have hs_746 := hs_745.pull 2 rfl
        have hs_747 := hs_746.pull 2 rfl
        have hs_748 := hs_747.pull 2 rfl
        cases hp
        exact ⟨apx1_2, _, rfl, hs_748⟩
      | pan r_742 =>
        replace hp := bindr_pan hp
        obtain ⟨h_749, e_751, hs_750⟩ := hc_743
        refine st_pan (Q := F55.Post px0 apx0_0 cpx0_0 xpx0_0 px1 F ro r) e_751 ?_
        have hs_752 := hs_750.pull 1 rfl
        have hs_753 := hs_752.tail
        have hs_754 := hs_753.pull 2 rfl
        have hs_755 := hs_754.pull 2 rfl
        have hs_756 := hs_755.pull 2 rfl
        cases hp
        exact ⟨apx1_2, _, rfl, hs_756⟩
  · replace hp := ifp_f hc_697 hp
    have hs_757 := hs.pull 1 rfl
    have hs_758 := hs_757.tail
    have hs_759 := hs_758.pull 2 rfl
    have hs_760 := hs_759.pull 2 rfl
    have hs_761 := hs_760.pull 2 rfl
    cases hp
    exact ⟨apx1_2, _, rfl, hs_761⟩

def F55.J14p (lf : Nat) (xpx0_0 : List Int) (mpx0_1 : Int) (n449 : Int) (mpx1_0 : Int) (mpx1_1 : Int) (xpx1_2 : List Int) : Option (Res (Int × Int × Int × List Int) (Int × Int × Int × Int × List Int)) :=
  ifp (n449 == 2) (
    F55.J15p lf xpx0_0 mpx0_1 (decide (mpx0_1 < (xpx0_0.length : Int))) mpx1_0 mpx1_1 xpx1_2) (
    F55.J15p lf xpx0_0 mpx0_1 false mpx1_0 mpx1_1 xpx1_2)

theorem F55.J14_ok {ora : Ora} (hora : HOra ora) {lf ro : Nat} {F : List Ent} {r : (Res (Int × Int × Int × List Int) (Int × Int × Int × Int × List Int))} {px0 : Nat} {apx0_0 : Option Addr} {cpx0_0 : Nat} {xpx0_0 : List Int} {px1 : Nat} (mpx0_1 : Int) (n449 : Int) (mpx1_0 : Int) (mpx1_1 : Int) (apx1_2 : Option Addr) (xpx1_2 : List Int) (h : Heap) (hs : Sat ro h (.own ro (some ⟨px0, 0, none⟩) 1 [.slice apx0_0 xpx0_0.length cpx0_0, .int .i64 mpx0_1] :: .row apx0_0 cpx0_0 (xpx0_0.map (Value.int .u8)) :: .own ro (some ⟨px1, 0, none⟩) 1 [.int .i64 mpx1_0, .int .i64 mpx1_1, .slice apx1_2 xpx1_2.length xpx1_2.length] :: .own ro apx1_2 1 (xpx1_2.map (Value.int .u8)) :: F)) (hp : F55.J14p lf xpx0_0 mpx0_1 n449 mpx1_0 mpx1_1 xpx1_2 = some r) : F55.Post px0 apx0_0 cpx0_0 xpx0_0 px1 F ro r (F55.J14 (callW Tryd.prog ora) lf ro px0 0 n449 h) := by
  unfold F55.J14
  unfold F55.J14p at hp
  refine st_if (Q := F55.Post px0 apx0_0 cpx0_0 xpx0_0 px1 F ro r) (fun hc_696 => ?_) (fun hc_696 => ?_)
  · replace hp := ifp_t hc_696 hp
    refine st_load (Q := F55.Post px0 apx0_0 cpx0_0 xpx0_0 px1 F ro r) isN hs agg3 rfl ?_
    refine st_int (Q := F55.Post px0 apx0_0 cpx0_0 xpx0_0 px1 F ro r) ?_
    refine st_load (Q := F55.Post px0 apx0_0 cpx0_0 xpx0_0 px1 F ro r) isN hs agg22 rfl ?_
    refine st_slice (Q := F55.Post px0 apx0_0 cpx0_0 xpx0_0 px1 F ro r) ?_
    have hs_762 := hs.pull 3 rfl
    have hs_763 := hs_762.pull 3 rfl
    have hs_764 := hs_763.pull 3 rfl
    have hs_765 := hs_764.pull 3 rfl
    exact F55.J15_ok hora mpx0_1 (decide (mpx0_1 < (xpx0_0.length : Int))) mpx1_0 mpx1_1 apx1_2 xpx1_2 _ hs_765 hp
  · replace hp := ifp_f hc_696 hp
    have hs_766 := hs.pull 3 rfl
    have hs_767 := hs_766.pull 3 rfl
    have hs_768 := hs_767.pull 3 rfl
    have hs_769 := hs_768.pull 3 rfl
    exact F55.J15_ok hora mpx0_1 false mpx1_0 mpx1_1 apx1_2 xpx1_2 _ hs_769 hp

def F55.L1p (lf : Nat) : Nat → List Int → Int → Int → Int → List Int → Int → Int → Int → Int → Option (Res (Int × Int × Int × List Int) (Int × Int × Int × Int × List Int))
  | 0, _, _, _, _, _, _, _, _, _ => none
  | n + 1, xpx0_0, mpx0_1, mpx1_0, mpx1_1, xpx1_2, n9, n10, n11, n12 =>
  ifp (decide (n12 < n11)) (
    F55.J2p lf (F55.L1p lf n) xpx0_0 mpx0_1 mpx1_0 mpx1_1 xpx1_2 n9 n10 n11 n12) (
    F55.J14p lf xpx0_0 mpx0_1 n9 mpx1_0 mpx1_1 xpx1_2)

theorem F55.L1_ok {ora : Ora} (hora : HOra ora) {lf ro : Nat} {F : List Ent} {r : (Res (Int × Int × Int × List Int) (Int × Int × Int × Int × List Int))} {px0 : Nat} {apx0_0 : Option Addr} {cpx0_0 : Nat} {xpx0_0 : List Int} {px1 : Nat} : ∀ (n : Nat) (mpx0_1 : Int) (mpx1_0 : Int) (mpx1_1 : Int) (apx1_2 : Option Addr) (xpx1_2 : List Int) (n9 : Int) (n10 : Int) (n11 : Int) (n12 : Int) (h : Heap), Sat ro h (.own ro (some ⟨px0, 0, none⟩) 1 [.slice apx0_0 xpx0_0.length cpx0_0, .int .i64 mpx0_1] :: .row apx0_0 cpx0_0 (xpx0_0.map (Value.int .u8)) :: .own ro (some ⟨px1, 0, none⟩) 1 [.int .i64 mpx1_0, .int .i64 mpx1_1, .slice apx1_2 xpx1_2.length xpx1_2.length] :: .own ro apx1_2 1 (xpx1_2.map (Value.int .u8)) :: F) → F55.L1p lf n xpx0_0 mpx0_1 mpx1_0 mpx1_1 xpx1_2 n9 n10 n11 n12 = some r → F55.Post px0 apx0_0 cpx0_0 xpx0_0 px1 F ro r (F55.L1 (callW Tryd.prog ora) lf ro n px0 0 px1 0 n9 n10 n11 n12 h) := by
  intro n
  induction n with
  | zero => intro mpx0_1 mpx1_0 mpx1_1 apx1_2 xpx1_2 n9 n10 n11 n12 h hs hp; cases hp
  | succ n ih =>
    intro mpx0_1 mpx1_0 mpx1_1 apx1_2 xpx1_2 n9 n10 n11 n12 h hs hp
    unfold F55.L1
    unfold F55.L1p at hp
    refine st_if (Q := F55.Post px0 apx0_0 cpx0_0 xpx0_0 px1 F ro r) (fun hc_533 => ?_) (fun hc_533 => ?_)
    · replace hp := ifp_t hc_533 hp
      have hs_692 := hs.pull 3 rfl
      have hs_693 := hs_692.pull 3 rfl
      have hs_694 := hs_693.pull 3 rfl
      have hs_695 := hs_694.pull 3 rfl
      exact F55.J2_ok hora ih mpx0_1 mpx1_0 mpx1_1 apx1_2 xpx1_2 n9 n10 n11 n12 _ hs_695 hp
    · replace hp := ifp_f hc_533 hp
      have hs_770 := hs.pull 3 rfl
      have hs_771 := hs_770.pull 3 rfl
      have hs_772 := hs_771.pull 3 rfl
      have hs_773 := hs_772.pull 3 rfl
      exact F55.J14_ok hora mpx0_1 n9 mpx1_0 mpx1_1 apx1_2 xpx1_2 _ hs_773 hp

def F55.p (lf : Nat) (xpx0_0 : List Int) (mpx0_1 : Int) (mpx1_0 : Int) (mpx1_1 : Int) (xpx1_2 : List Int) (x2 : Int) (x3 : Int) : Option (Res (Int × Int × Int × List Int) (Int × Int × Int × Int × List Int)) :=
  F55.L1p lf lf xpx0_0 mpx0_1 mpx1_0 mpx1_1 xpx1_2 x2 x3 (xpx1_2.length : Int) 0

theorem F55.t_ok {ora : Ora} (hora : HOra ora) {lf ro : Nat} {F : List Ent} {r : (Res (Int × Int × Int × List Int) (Int × Int × Int × Int × List Int))} {px0 : Nat} {apx0_0 : Option Addr} {cpx0_0 : Nat} {xpx0_0 : List Int} {px1 : Nat} (mpx0_1 : Int) (mpx1_0 : Int) (mpx1_1 : Int) (apx1_2 : Option Addr) (xpx1_2 : List Int) (x2 : Int) (x3 : Int) (h : Heap) (hs : Sat ro h (.own ro (some ⟨px0, 0, none⟩) 1 [.slice apx0_0 xpx0_0.length cpx0_0, .int .i64 mpx0_1] :: .row apx0_0 cpx0_0 (xpx0_0.map (Value.int .u8)) :: .own ro (some ⟨px1, 0, none⟩) 1 [.int .i64 mpx1_0, .int .i64 mpx1_1, .slice apx1_2 xpx1_2.length xpx1_2.length] :: .own ro apx1_2 1 (xpx1_2.map (Value.int .u8)) :: F)) (hp : F55.p lf xpx0_0 mpx0_1 mpx1_0 mpx1_1 xpx1_2 x2 x3 = some r) : F55.Post px0 apx0_0 cpx0_0 xpx0_0 px1 F ro r (F55.t (callW Tryd.prog ora) lf ro px0 0 px1 0 x2 x3 h) := by
  unfold F55.t
  unfold F55.p at hp
  have hs_532 := hs.pull 2 rfl
  refine st_load (Q := F55.Post px0 apx0_0 cpx0_0 xpx0_0 px1 F ro r) isO hs_532 agg22 rfl ?_
  refine st_slice (Q := F55.Post px0 apx0_0 cpx0_0 xpx0_0 px1 F ro r) ?_
  have hs_774 := hs_532.pull 3 rfl
  have hs_775 := hs_774.pull 1 rfl
  have hs_776 := hs_775.pull 3 rfl
  have hs_777 := hs_776.pull 3 rfl
  exact F55.L1_ok hora lf mpx0_1 mpx1_0 mpx1_1 apx1_2 xpx1_2 x2 x3 (xpx1_2.length : Int) 0 _ hs_777 hp

theorem F55.ok {ora : Ora} (hora : HOra ora) {lf ro : Nat} {F : List Ent} {r : (Res (Int × Int × Int × List Int) (Int × Int × Int × Int × List Int))} {px0 : Nat} {apx0_0 : Option Addr} {cpx0_0 : Nat} {xpx0_0 : List Int} {px1 : Nat} (mpx0_1 : Int) (mpx1_0 : Int) (mpx1_1 : Int) (apx1_2 : Option Addr) (xpx1_2 : List Int) (x2 : Int) (x3 : Int) (h : Heap) (hs : Sat ro h (.own ro (some ⟨px0, 0, none⟩) 1 [.slice apx0_0 xpx0_0.length cpx0_0, .int .i64 mpx0_1] :: .row apx0_0 cpx0_0 (xpx0_0.map (Value.int .u8)) :: .own ro (some ⟨px1, 0, none⟩) 1 [.int .i64 mpx1_0, .int .i64 mpx1_1, .slice apx1_2 xpx1_2.length xpx1_2.length] :: .own ro apx1_2 1 (xpx1_2.map (Value.int .u8)) :: F)) (hp : F55.p lf xpx0_0 mpx0_1 mpx1_0 mpx1_1 xpx1_2 x2 x3 = some r) : F55.Post px0 apx0_0 cpx0_0 xpx0_0 px1 F ro r (callW Tryd.prog ora ro 55 [.pointer (some ⟨px0, 0, none⟩), .pointer (some ⟨px1, 0, none⟩), .int .i64 x2, .int .i64 x3] h) := by
  have h1 := F55.t_ok hora mpx0_1 mpx1_0 mpx1_1 apx1_2 xpx1_2 x2 x3 h hs hp
  have h2 : callW Tryd.prog ora ro 55 [.pointer (some ⟨px0, 0, none⟩), .pointer (some ⟨px1, 0, none⟩), .int .i64 x2, .int .i64 x3] h = _ := callW_body (hora.none _ _ _ _ (by decide)) Tryd.func55 (F55.le (callW Tryd.prog ora) lf ro px0 0 px1 0 x2 x3 h) (F55.Post.ne h1)
  rw [h2]; exact h1

def F44.Post (px0 : Nat) (apx0_0 : Option Addr) (cpx0_0 : Nat) (xpx0_0 : List Int) (F : List Ent) (ro : Nat) (r : (Res (Int × Int × List Int × Int × Int) (Int × Int))) (x : Out) : Prop := match r with
  | .ok r => ∃ a2 h', x = .ok (.tuple #[.agg #[.int .i64 r.1, .int .i64 r.2.1, .slice a2 r.2.2.1.length r.2.2.1.length], .int .i64 r.2.2.2.1]) h' ∧ Sat ro h' (.own ro a2 1 (r.2.2.1.map (Value.int .u8)) :: .own ro (some ⟨px0, 0, none⟩) 1 [.slice apx0_0 xpx0_0.length cpx0_0, .int .i64 r.2.2.2.2] :: F)
  | .pan r => ∃ h', x = .panic (.iface 77 (.agg #[.int .i64 r.1])) h' ∧ Sat ro h' (.own ro (some ⟨px0, 0, none⟩) 1 [.slice apx0_0 xpx0_0.length cpx0_0, .int .i64 r.2] :: F)
theorem F44.Post.ne {px0 : Nat} {apx0_0 : Option Addr} {cpx0_0 : Nat} {xpx0_0 : List Int} {F : List Ent} {ro : Nat} {r : (Res (Int × Int × List Int × Int × Int) (Int × Int))} {x : Out} (hx : F44.Post px0 apx0_0 cpx0_0 xpx0_0 F ro r x) : x ≠ .fail := by
  cases r with
  | ok r => obtain ⟨a2, h', rfl, _⟩ := hx; simp
  | pan r => obtain ⟨h', rfl, _⟩ := hx; simp

def F44.J13p (lf : Nat) (xpx0_0 : List Int) (mpx0_1 : Int) (mp138_0 : Int) (mp138_1 : Int) (n139 : Int) (mp140_0 : Int) (mp140_1 : Int) (n141 : Int) : Option (Res (Int × Int × List Int × Int × Int) (Int × Int)) :=
  bindp (repp 1 0 (IntKind.i64.wrap (mp140_0 * mp140_1))) fun x_882 =>
  bindp (F54.p lf n139) fun r_890 =>
  letJ (fun (mj178_0_0 : Int) (mj178_0_1 : Int) (xj178_0_2 : List Int) (mj178_2_1 : Int) => (
    some (.ok (mj178_0_0, mj178_0_1, xj178_0_2, n139, mj178_2_1)) : Option (Res (Int × Int × List Int × Int × Int) (Int × Int)))) fun j178p =>
  ifp r_890 (
    bindr (F55.p lf xpx0_0 mpx0_1 mp140_0 mp140_1 x_882 n139 n141) (fun r_908 => some (.pan (r_908.1, r_908.2.1))) fun r_907 =>
    j178p r_907.2.1 r_907.2.2.1 r_907.2.2.2 r_907.1) (
    bindr (F56.p lf xpx0_0 mpx0_1 mp140_0 mp140_1 x_882 n139 n141) (fun r_940 => some (.pan (r_940.1, r_940.2.1))) fun r_939 =>
    j178p r_939.2.1 r_939.2.2.1 r_939.2.2.2 r_939.1)

theorem F44.J13_ok {ora : Ora} (hora : HOra ora) {lf ro : Nat} {F : List Ent} {r : (Res (Int × Int × List Int × Int × Int) (Int × Int))} {px0 : Nat} {apx0_0 : Option Addr} {cpx0_0 : Nat} {xpx0_0 : List Int} (mpx0_1 : Int) (p138 : Nat) (mp138_0 : Int) (mp138_1 : Int) (n139 : Int) (p140 : Nat) (mp140_0 : Int) (mp140_1 : Int) (n141 : Int) (h : Heap) (hs : Sat ro h (.own ro (some ⟨px0, 0, none⟩) 1 [.slice apx0_0 xpx0_0.length cpx0_0, .int .i64 mpx0_1] :: .row apx0_0 cpx0_0 (xpx0_0.map (Value.int .u8)) :: .own ro (some ⟨p138, 0, none⟩) 1 [.int .i64 mp138_0, .int .i64 mp138_1, .slice none 0 0] :: .own ro (some ⟨p140, 0, none⟩) 1 [.int .i64 mp140_0, .int .i64 mp140_1, .slice none 0 0] :: F)) (hp : F44.J13p lf xpx0_0 mpx0_1 mp138_0 mp138_1 n139 mp140_0 mp140_1 n141 = some r) : F44.Post px0 apx0_0 cpx0_0 xpx0_0 F ro r (F44.J13 (callW Tryd.prog ora) lf ro px0 0 p138 0 n139 p140 0 n141 h) := by
  unfold F44.J13
  unfold F44.J13p at hp
  have hs_881 := hs.pull 3 rfl
  refine st_load (Q := F44.Post px0 apx0_0 cpx0_0 xpx0_0 F ro r) isO hs_881 agg3 rfl ?_
  refine st_int (Q := F44.Post px0 apx0_0 cpx0_0 xpx0_0 F ro r) ?_
  refine st_load (Q := F44.Post px0 apx0_0 cpx0_0 xpx0_0 F ro r) isO hs_881 agg3 rfl ?_
  refine st_int (Q := F44.Post px0 apx0_0 cpx0_0 xpx0_0 F ro r) ?_
  obtain ⟨x_882, hx_883, hp⟩ := bindp_some hp
  refine st_make (Q := F44.Post px0 apx0_0 cpx0_0 xpx0_0 F ro r) isO hs_881 (fun _ => rfl) und22 inf5 rfl rfl zer5 rfl hx_883 fun a_884 h_885 hs_886 => ?_
  refine st_slice (Q := F44.Post px0 apx0_0 cpx0_0 xpx0_0 F ro r) ?_
  have hs_887 := hs_886.pull 1 rfl
  refine st_store (Q := F44.Post px0 apx0_0 cpx0_0 xpx0_0 F ro r) isO hs_887 siz22 rfl (Nat.le_of_ble_eq_true rfl) fun h_888 hs_889 => ?_
  obtain ⟨r_890, hx_891, hp⟩ := bindp_some hp
  obtain ⟨h_892, e_894, hs_893⟩ := F54.ok hora (ro := ro) (F := .own ro (some ⟨p140, 0, none⟩) 1 [.int .i64 mp140_0, .int .i64 mp140_1, .slice a_884 x_882.length x_882.length] :: .own ro a_884 1 (x_882.map (Value.int .u8)) :: .own ro (some ⟨px0, 0, none⟩) 1 [.slice apx0_0 xpx0_0.length cpx0_0, .int .i64 mpx0_1] :: .row apx0_0 cpx0_0 (xpx0_0.map (Value.int .u8)) :: .own ro (some ⟨p138, 0, none⟩) 1 [.int .i64 mp138_0, .int .i64 mp138_1, .slice none 0 0] :: F) n139 _ hs_889 hx_891
  refine st_ok (Q := F44.Post px0 apx0_0 cpx0_0 xpx0_0 F ro r) isO e_894 ?_
  refine st_bool (Q := F44.Post px0 apx0_0 cpx0_0 xpx0_0 F ro r) ?_
  refine st_letJ hp (fun j178p j178 => ∀ (mj178_0_0 : Int) (mj178_0_1 : Int) (aj178_0_2 : Option Addr) (xj178_0_2 : List Int) (mj178_2_1 : Int) (h_960 : Heap), Sat ro h_960 (.own ro (some ⟨p140, 0, none⟩) 1 [.int .i64 mj178_0_0, .int .i64 mj178_0_1, .slice aj178_0_2 xj178_0_2.length xj178_0_2.length] :: .own ro (some ⟨px0, 0, none⟩) 1 [.slice apx0_0 xpx0_0.length cpx0_0, .int .i64 mj178_2_1] :: .row apx0_0 cpx0_0 (xpx0_0.map (Value.int .u8)) :: .own ro (some ⟨p138, 0, none⟩) 1 [.int .i64 mp138_0, .int .i64 mp138_1, .slice none 0 0] :: .own ro aj178_0_2 1 (xj178_0_2.map (Value.int .u8)) :: F) → j178p mj178_0_0 mj178_0_1 xj178_0_2 mj178_2_1 = some r → F44.Post px0 apx0_0 cpx0_0 xpx0_0 F ro r (j178 h_960)) ?_ ?_
  · intro mj178_0_0 mj178_0_1 aj178_0_2 xj178_0_2 mj178_2_1 h_960 hs hp
    refine st_loadA (Q := F44.Post px0 apx0_0 cpx0_0 xpx0_0 F ro r) isO hs agg24 siz24 rfl ?_
    refine st_agg (Q := F44.Post px0 apx0_0 cpx0_0 xpx0_0 F ro r) (l := [.int .i64 mj178_0_0, .int .i64 mj178_0_1, .slice aj178_0_2 xj178_0_2.length xj178_0_2.length]) ?_
    refine st_cons (Q := F44.Post px0 apx0_0 cpx0_0 xpx0_0 F ro r) ?_
    refine st_int (Q := F44.Post px0 apx0_0 cpx0_0 xpx0_0 F ro r) ?_
    refine st_cons (Q := F44.Post px0 apx0_0 cpx0_0 xpx0_0 F ro r) ?_
    refine st_int (Q := F44.Post px0 apx0_0 cpx0_0 xpx0_0 F ro r) ?_
    refine st_cons (Q := F44.Post px0 apx0_0 cpx0_0 xpx0_0 F ro r) ?_
    refine st_slice (Q := F44.Post px0 apx0_0 cpx0_0 xpx0_0 F ro r) ?_
    refine st_nil (Q := F44.Post px0 apx0_0 cpx0_0 xpx0_0 F ro r) ?_
    have hs_961 := hs.pull 3 rfl
    refine st_storeA (Q := F44.Post px0 apx0_0 cpx0_0 xpx0_0 F ro r) (vs := [.int .i64 mj178_0_0, .int .i64 mj178_0_1, .slice aj178_0_2 xj178_0_2.length xj178_0_2.length]) isO hs_961 siz24 rfl rfl rfl rfl fun h_962 hs_963 => ?_
    have hc_964 := readCells_at (o := 0) (n := 3) (cs := [.int .i64 mj178_0_0, .int .i64 mj178_0_1, .slice aj178_0_2 xj178_0_2.length xj178_0_2.length]) hs_963 rfl
    refine st_res (Q := F44.Post px0 apx0_0 cpx0_0 xpx0_0 F ro r) (show resVals _ _ _ _ = some [.agg #[.int .i64 mj178_0_0, .int .i64 mj178_0_1, .slice aj178_0_2 xj178_0_2.length xj178_0_2.length], .int .i64 n139] from res_cellA ((EF_get (by decide)).trans rfl) agg24 siz24 hc_964 (res_tmp ((EF_get (by decide)).trans rfl) (res_nil))) ?_
    have hs_965 := hs_963.tail
    have hs_966 := hs_965.tail
    have hs_967 := hs_966.pull 1 rfl
    have hs_968 := hs_967.tail
    have hs_969 := hs_968.pull 1 rfl
    cases hp
    exact ⟨aj178_0_2, _, rfl, hs_969⟩
  · intro j178p j178 hj178 hp
    refine st_if (Q := F44.Post px0 apx0_0 cpx0_0 xpx0_0 F ro r) (fun hc_895 => ?_) (fun hc_895 => ?_)
    · replace hp := ifp_t hc_895 hp
      have hs_896 := hs_893.pull 3 rfl
      have hs_897 := hs_896.dup
      have hs_898 := hs_897.pull 3 rfl
      have hs_899 := hs_898.pull 3 rfl
      have hs_900 := hs_899.pull 2 rfl
      have hs_901 := hs_900.pull 4 rfl
      obtain ⟨r_902, hx_903, hp⟩ := bindr_some hp
      have hc_909 := F55.ok hora (ro := ro) (px0 := px0) (apx0_0 := apx0_0) (cpx0_0 := cpx0_0) (xpx0_0 := xpx0_0) (px1 := p140) (F := .row apx0_0 cpx0_0 (xpx0_0.map (Value.int .u8)) :: .own ro (some ⟨p138, 0, none⟩) 1 [.int .i64 mp138_0, .int .i64 mp138_1, .slice none 0 0] :: F) mpx0_1 mp140_0 mp140_1 a_884 x_882 n139 n141 _ hs_901 hx_903
      cases r_902 with
      | ok r_907 =>
        replace hp := bindr_ok hp
        obtain ⟨a_910, h_904, e_906, hs_905⟩ := hc_909
        refine st_ok (Q := F44.Post px0 apx0_0 cpx0_0 xpx0_0 F ro r) isO e_906 ?_
        refine st_tup (Q := F44.Post px0 apx0_0 cpx0_0 xpx0_0 F ro r) (l := []) ?_
        refine st_nil (Q := F44.Post px0 apx0_0 cpx0_0 xpx0_0 F ro r) ?_
        have hs_911 := hs_905.pull 2 rfl
        have hs_912 := hs_911.pull 4 rfl
        have hs_913 := hs_912.pull 4 rfl
        have hs_914 := hs_913.pull 3 rfl
        have hs_915 := hs_914.pull 4 rfl
        exact hj178 r_907.2.1 r_907.2.2.1 a_910 r_907.2.2.2 r_907.1 _ hs_915 hp
      | pan r_908 =>
        replace hp := bindr_pan hp
        obtain ⟨a_916, h_917, e_919, hs_918⟩ := hc_909
        refine st_pan (Q := F44.Post px0 apx0_0 cpx0_0 xpx0_0 F ro r) e_919 ?_
        have hs_920 := hs_918.pull 1 rfl
        have hs_921 := hs_920.tail
        have hs_922 := hs_921.pull 1 rfl
        have hs_923 := hs_922.tail
        have hs_924 := hs_923.pull 1 rfl
        have hs_925 := hs_924.tail
        have hs_926 := hs_925.pull 1 rfl
        have hs_927 := hs_926.tail
        cases hp
        exact ⟨_, rfl, hs_927⟩
    · replace hp := ifp_f hc_895 hp
      have hs_928 := hs_893.pull 3 rfl
      have hs_929 := hs_928.dup
      have hs_930 := hs_929.pull 3 rfl
      have hs_931 := hs_930.pull 3 rfl
      have hs_932 := hs_931.pull 2 rfl
      have hs_933 := hs_932.pull 4 rfl
      obtain ⟨r_934, hx_935, hp⟩ := bindr_some hp
      have hc_941 := F56.ok hora (ro := ro) (px0 := px0) (apx0_0 := apx0_0) (cpx0_0 := cpx0_0) (xpx0_0 := xpx0_0) (px1 := p140) (F := .row apx0_0 cpx0_0 (xpx0_0.map (Value.int .u8)) :: .own ro (some ⟨p138, 0, none⟩) 1 [.int .i64 mp138_0, .int .i64 mp138_1, .slice none 0 0] :: F) mpx0_1 mp140_0 mp140_1 a_884 x_882 n139 n141 _ hs_933 hx_935
      cases r_934 with
      | ok r_939 =>
        replace hp := bindr_ok hp
        obtain ⟨a_942, h_936, e_938, hs_937⟩ := hc_941
        refine st_ok (Q := F44.Post px0 apx0_0 cpx0_0 xpx0_0 F ro r) isO e_938 ?_
        refine st_tup (Q := F44.Post px0 apx0_0 cpx0_0 xpx0_0 F ro r) (l := []) ?_
        refine st_nil (Q := F44.Post px0 apx0_0 cpx0_0 xpx0_0 F ro r) ?_
        have hs_943 := hs_937.pull 2 rfl
        have hs_944 := hs_943.pull 4 rfl
        have hs_945 := hs_944.pull 4 rfl
        have hs_946 := hs_945.pull 3 rfl
        have hs_947 := hs_946.pull 4 rfl
        exact hj178 r_939.2.1 r_939.2.2.1 a_942 r_939.2.2.2 r_939.1 _ hs_947 hp
      | pan r_940 =>
        replace hp := bindr_pan hp
        obtain ⟨a_948, h_949, e_951, hs_950⟩ := hc_941
        refine st_pan (Q := F44.Post px0 apx0_0 cpx0_0 xpx0_0 F ro r) e_951 ?_
        have hs_952 := hs_950.pull 1 rfl
        have hs_953 := hs_952.tail
        have hs_954 := hs_953.pull 1 rfl
        have hs_955 := hs_954.tail
        have hs_956 := hs_955.pull 1 rfl
        have hs_957 := hs_956.tail
        have hs_958 := hs_957.pull 1 rfl
        have hs_959 := hs_958.tail
        cases hp
        exact ⟨_, rfl, hs_959⟩

def F44.J10p (lf : Nat) (xpx0_0 : List Int) (mpx0_1 : Int) (mp124_0 : Int) (mp124_1 : Int) (n125 : Int) (mp126_0 : Int) (mp126_1 : Int) : Option (Res (Int × Int × List Int × Int × Int) (Int × Int)) :=
  bindp (F21.p lf n125) fun r_864 =>
  ifp (!r_864) (
    bindr (F53.p lf xpx0_0 mpx0_1 1 255) (fun r_879 => some (.pan (r_879.1, r_879.2))) fun r_878 =>
    F44.J13p lf xpx0_0 r_878.2 mp124_0 mp124_1 n125 mp126_0 mp126_1 r_878.1) (
    F44.J13p lf xpx0_0 mpx0_1 mp124_0 mp124_1 n125 mp126_0 mp126_1 1)

theorem F44.J10_ok {ora : Ora} (hora : HOra ora) {lf ro : Nat} {F : List Ent} {r : (Res (Int × Int × List Int × Int × Int) (Int × Int))} {px0 : Nat} {apx0_0 : Option Addr} {cpx0_0 : Nat} {xpx0_0 : List Int} (mpx0_1 : Int) (p124 : Nat) (mp124_0 : Int) (mp124_1 : Int) (n125 : Int) (p126 : Nat) (mp126_0 : Int) (mp126_1 : Int) (h : Heap) (hs : Sat ro h (.own ro (some ⟨px0, 0, none⟩) 1 [.slice apx0_0 xpx0_0.length cpx0_0, .int .i64 mpx0_1] :: .row apx0_0 cpx0_0 (xpx0_0.map (Value.int .u8)) :: .own ro (some ⟨p124, 0, none⟩) 1 [.int .i64 mp124_0, .int .i64 mp124_1, .slice none 0 0] :: .own ro (some ⟨p126, 0, none⟩) 1 [.int .i64 mp126_0, .int .i64 mp126_1, .slice none 0 0] :: F)) (hp : F44.J10p lf xpx0_0 mpx0_1 mp124_0 mp124_1 n125 mp126_0 mp126_1 = some r) : F44.Post px0 apx0_0 cpx0_0 xpx0_0 F ro r (F44.J10 (callW Tryd.prog ora) lf ro px0 0 p124 0 n125 p126 0 h) := by
  unfold F44.J10
  unfold F44.J10p at hp
  obtain ⟨r_864, hx_865, hp⟩ := bindp_some hp
  obtain ⟨h_866, e_868, hs_867⟩ := F21.ok hora (ro := ro) (F := .own ro (some ⟨px0, 0, none⟩) 1 [.slice apx0_0 xpx0_0.length cpx0_0, .int .i64 mpx0_1] :: .row apx0_0 cpx0_0 (xpx0_0.map (Value.int .u8)) :: .own ro (some ⟨p124, 0, none⟩) 1 [.int .i64 mp124_0, .int .i64 mp124_1, .slice none 0 0] :: .own ro (some ⟨p126, 0, none⟩) 1 [.int .i64 mp126_0, .int .i64 mp126_1, .slice none 0 0] :: F) n125 _ hs hx_865
  refine st_ok (Q := F44.Post px0 apx0_0 cpx0_0 xpx0_0 F ro r) isO e_868 ?_
  refine st_bool (Q := F44.Post px0 apx0_0 cpx0_0 xpx0_0 F ro r) ?_
  refine st_if (Q := F44.Post px0 apx0_0 cpx0_0 xpx0_0 F ro r) (fun hc_869 => ?_) (fun hc_869 => ?_)
  · replace hp := ifp_t hc_869 hp
    have hs_870 := hs_867.pull 1 rfl
    have hs_871 := hs_870.dup
    have hs_872 := hs_871.pull 2 rfl
    obtain ⟨r_873, hx_874, hp⟩ := bindr_some hp
    have hc_880 := F53.ok hora (ro := ro) (px0 := px0) (apx0_0 := apx0_0) (cpx0_0 := cpx0_0) (xpx0_0 := xpx0_0) (F := .row apx0_0 cpx0_0 (xpx0_0.map (Value.int .u8)) :: .own ro (some ⟨p124, 0, none⟩) 1 [.int .i64 mp124_0, .int .i64 mp124_1, .slice none 0 0] :: .own ro (some ⟨p126, 0, none⟩) 1 [.int .i64 mp126_0, .int .i64 mp126_1, .slice none 0 0] :: F) mpx0_1 1 255 _ hs_872 hx_874
    cases r_873 with
    | ok r_878 =>
      replace hp := bindr_ok hp
      obtain ⟨h_875, e_877, hs_876⟩ := hc_880
      refine st_ok (Q := F44.Post px0 apx0_0 cpx0_0 xpx0_0 F ro r) isO e_877 ?_
      refine st_int (Q := F44.Post px0 apx0_0 cpx0_0 xpx0_0 F ro r) ?_
      have hs_970 := hs_876.pull 3 rfl
      have hs_971 := hs_970.pull 3 rfl
      have hs_972 := hs_971.pull 3 rfl
      have hs_973 := hs_972.pull 3 rfl
      exact F44.J13_ok hora r_878.2 p124 mp124_0 mp124_1 n125 p126 mp126_0 mp126_1 r_878.1 _ hs_973 hp
    | pan r_879 =>
      replace hp := bindr_pan hp
      obtain ⟨h_974, e_976, hs_975⟩ := hc_880
      refine st_pan (Q := F44.Post px0 apx0_0 cpx0_0 xpx0_0 F ro r) e_976 ?_
      have hs_977 := hs_975.pull 1 rfl
      have hs_978 := hs_977.tail
      have hs_979 := hs_978.pull 1 rfl
      have hs_980 := hs_979.tail
      have hs_981 := hs_980.pull 1 rfl
      have hs_982 := hs_981.tail
      cases hp
      exact ⟨_, rfl, hs_982⟩
  · replace hp := ifp_f hc_869 hp
    have hs_983 := hs_867.pull 3 rfl
    have hs_984 := hs_983.pull 3 rfl
    have hs_985 := hs_984.pull 3 rfl
    have hs_986 := hs_985.pull 3 rfl
    exact F44.J13_ok hora mpx0_1 p124 mp124_0 mp124_1 n125 p126 mp126_0 mp126_1 1 _ hs_986 hp

def F44.J4p (lf : Nat) (xpx0_0 : List Int) (mpx0_1 : Int) (mp51_0 : Int) (mp51_1 : Int) (n52 : Int) : Option (Res (Int × Int × List Int × Int × Int) (Int × Int)) :=
  bindp (F20.p lf n52) fun r_799 =>
  bindr (F52.p lf xpx0_0 mpx0_1 r_799 25) (fun r_813 => some (.pan (r_813.1, r_813.2))) fun r_812 =>
  bindr (F53.p lf xpx0_0 (IntKind.i64.wrap (r_812 + 2)) 0 65535) (fun r_830 => some (.pan (r_830.1, r_830.2))) fun r_829 =>
  bindr (F53.p lf xpx0_0 r_829.2 0 65535) (fun r_844 => some (.pan (r_844.1, r_844.2))) fun r_843 =>
  ifp (decide (r_829.1 ≥ 1)) (
    ifp (decide (r_829.1 ≤ 4096)) (
      ifp (decide (r_843.1 ≥ 1)) (
        ifp (decide (r_843.1 ≤ 4096)) (
          bindr (F52.p lf xpx0_0 r_843.2 (decide (IntKind.i64.wrap (r_829.1 * r_843.1) ≤ 4194304)) 23) (fun r_862 => some (.pan (r_862.1, r_862.2))) fun r_861 =>
          F44.J10p lf xpx0_0 r_861 mp51_0 mp51_1 n52 r_829.1 r_843.1) (
          bindr (F52.p lf xpx0_0 r_843.2 false 23) (fun r_1009 => some (.pan (r_1009.1, r_1009.2))) fun r_1008 =>
          F44.J10p lf xpx0_0 r_1008 mp51_0 mp51_1 n52 r_829.1 r_843.1)) (
        bindr (F52.p lf xpx0_0 r_843.2 false 23) (fun r_1033 => some (.pan (r_1033.1, r_1033.2))) fun r_1032 =>
        F44.J10p lf xpx0_0 r_1032 mp51_0 mp51_1 n52 r_829.1 r_843.1)) (
      bindr (F52.p lf xpx0_0 r_843.2 false 23) (fun r_1057 => some (.pan (r_1057.1, r_1057.2))) fun r_1056 =>
      F44.J10p lf xpx0_0 r_1056 mp51_0 mp51_1 n52 r_829.1 r_843.1)) (
    bindr (F52.p lf xpx0_0 r_843.2 false 23) (fun r_1081 => some (.pan (r_1081.1, r_1081.2))) fun r_1080 =>
    F44.J10p lf xpx0_0 r_1080 mp51_0 mp51_1 n52 r_829.1 r_843.1)

theorem F44.J4_ok {ora : Ora} (hora : HOra ora) {lf ro : Nat} {F : List Ent} {r : (Res (Int × Int × List Int × Int × Int) (Int × Int))} {px0 : Nat} {apx0_0 : Option Addr} {cpx0_0 : Nat} {xpx0_0 : List Int} (mpx0_1 : Int) (p51 : Nat) (mp51_0 : Int) (mp51_1 : Int) (n52 : Int) (h : Heap) (hs : Sat ro h (.own ro (some ⟨px0, 0, none⟩) 1 [.slice apx0_0 xpx0_0.length cpx0_0, .int .i64 mpx0_1] :: .row apx0_0 cpx0_0 (xpx0_0.map (Value.int .u8)) :: .own ro (some ⟨p51, 0, none⟩) 1 [.int .i64 mp51_0, .int .i64 mp51_1, .slice none 0 0] :: F)) (hp : F44.J4p lf xpx0_0 mpx0_1 mp51_0 mp51_1 n52 = some r) : F44.Post px0 apx0_0 cpx0_0 xpx0_0 F ro r (F44.J4 (callW Tryd.prog ora) lf ro px0 0 p51 0 n52 h) := by
  unfold F44.J4
  unfold F44.J4p at hp
  obtain ⟨r_799, hx_800, hp⟩ := bindp_some hp
  obtain ⟨h_801, e_803, hs_802⟩ := F20.ok hora (ro := ro) (F := .own ro (some ⟨px0, 0, none⟩) 1 [.slice apx0_0 xpx0_0.length cpx0_0, .int .i64 mpx0_1] :: .row apx0_0 cpx0_0 (xpx0_0.map (Value.int .u8)) :: .own ro (some ⟨p51, 0, none⟩) 1 [.int .i64 mp51_0, .int .i64 mp51_1, .slice none 0 0] :: F) n52 _ hs hx_800
  refine st_ok (Q := F44.Post px0 apx0_0 cpx0_0 xpx0_0 F ro r) isO e_803 ?_
  refine st_bool (Q := F44.Post px0 apx0_0 cpx0_0 xpx0_0 F ro r) ?_
  have hs_804 := hs_802.pull 1 rfl
  have hs_805 := hs_804.dup
  have hs_806 := hs_805.pull 2 rfl
  obtain ⟨r_807, hx_808, hp⟩ := bindr_some hp
  have hc_814 := F52.ok hora (ro := ro) (px0 := px0) (apx0_0 := apx0_0) (cpx0_0 := cpx0_0) (xpx0_0 := xpx0_0) (F := .row apx0_0 cpx0_0 (xpx0_0.map (Value.int .u8)) :: .own ro (some ⟨p51, 0, none⟩) 1 [.int .i64 mp51_0, .int .i64 mp51_1, .slice none 0 0] :: F) mpx0_1 r_799 25 _ hs_806 hx_808
  cases r_807 with
  | ok r_812 =>
    replace hp := bindr_ok hp
    obtain ⟨h_809, e_811, hs_810⟩ := hc_814
    refine st_ok (Q := F44.Post px0 apx0_0 cpx0_0 xpx0_0 F ro r) isO e_811 ?_
    refine st_tup (Q := F44.Post px0 apx0_0 cpx0_0 xpx0_0 F ro r) (l := []) ?_
    refine st_nil (Q := F44.Post px0 apx0_0 cpx0_0 xpx0_0 F ro r) ?_
    refine st_load (Q := F44.Post px0 apx0_0 cpx0_0 xpx0_0 F ro r) isO hs_810 agg3 rfl ?_
    refine st_int (Q := F44.Post px0 apx0_0 cpx0_0 xpx0_0 F ro r) ?_
    refine st_store (Q := F44.Post px0 apx0_0 cpx0_0 xpx0_0 F ro r) isO hs_810 siz3 rfl (Nat.le_of_ble_eq_true rfl) fun h_815 hs_816 => ?_
    refine st_pushJ (Q := F44.Post px0 apx0_0 cpx0_0 xpx0_0 F ro r) hs_816 hs_816.low rfl fun h_817 _ hs_818 => ?_
    refine st_storeA (Q := F44.Post px0 apx0_0 cpx0_0 xpx0_0 F ro r) (vs := [.int .i64 0, .int .i64 0, .slice none 0 0]) isO hs_818 siz24 rfl rfl rfl rfl fun h_819 hs_820 => ?_
    have hs_821 := hs_820.pull 2 rfl
    have hs_822 := hs_821.dup
    have hs_823 := hs_822.pull 3 rfl
    obtain ⟨r_824, hx_825, hp⟩ := bindr_some hp
    have hc_831 := F53.ok hora (ro := ro) (px0 := px0) (apx0_0 := apx0_0) (cpx0_0 := cpx0_0) (xpx0_0 := xpx0_0) (F := .row apx0_0 cpx0_0 (xpx0_0.map (Value.int .u8)) :: .own ro (some ⟨h_815.next, 0, none⟩) 1 [.int .i64 0, .int .i64 0, .slice none 0 0] :: .own ro (some ⟨p51, 0, none⟩) 1 [.int .i64 mp51_0, .int .i64 mp51_1, .slice none 0 0] :: F) (IntKind.i64.wrap (r_812 + 2)) 0 65535 _ hs_823 hx_825
    cases r_824 with
    | ok r_829 =>
      replace hp := bindr_ok hp
      obtain ⟨h_826, e_828, hs_827⟩ := hc_831
      refine st_ok (Q := F44.Post px0 apx0_0 cpx0_0 xpx0_0 F ro r) isO e_828 ?_
      refine st_int (Q := F44.Post px0 apx0_0 cpx0_0 xpx0_0 F ro r) ?_
      have hs_832 := hs_827.pull 2 rfl
      refine st_store (Q := F44.Post px0 apx0_0 cpx0_0 xpx0_0 F ro r) isO hs_832 siz3 rfl (Nat.le_of_ble_eq_true rfl) fun h_833 hs_834 => ?_
      have hs_835 := hs_834.pull 2 rfl
      have hs_836 := hs_835.dup
      have hs_837 := hs_836.pull 3 rfl
      obtain ⟨r_838, hx_839, hp⟩ := bindr_some hp
      have hc_845 := F53.ok hora (ro := ro) (px0 := px0) (apx0_0 := apx0_0) (cpx0_0 := cpx0_0) (xpx0_0 := xpx0_0) (F := .row apx0_0 cpx0_0 (xpx0_0.map (Value.int .u8)) :: .own ro (some ⟨h_815.next, 0, none⟩) 1 [.int .i64 r_829.1, .int .i64 0, .slice none 0 0] :: .own ro (some ⟨p51, 0, none⟩) 1 [.int .i64 mp51_0, .int .i64 mp51_1, .slice none 0 0] :: F) r_829.2 0 65535 _ hs_837 hx_839
      cases r_838 with
      | ok r_843 =>
        replace hp := bindr_ok hp
        obtain ⟨h_840, e_842, hs_841⟩ := hc_845
        refine st_ok (Q := F44.Post px0 apx0_0 cpx0_0 xpx0_0 F ro r) isO e_842 ?_
        refine st_int (Q := F44.Post px0 apx0_0 cpx0_0 xpx0_0 F ro r) ?_
        have hs_846 := hs_841.pull 2 rfl
        refine st_store (Q := F44.Post px0 apx0_0 cpx0_0 xpx0_0 F ro r) isO hs_846 siz3 rfl (Nat.le_of_ble_eq_true rfl) fun h_847 hs_848 => ?_
        refine st_load (Q := F44.Post px0 apx0_0 cpx0_0 xpx0_0 F ro r) isO hs_848 agg3 rfl ?_
        refine st_int (Q := F44.Post px0 apx0_0 cpx0_0 xpx0_0 F ro r) ?_
        refine st_if (Q := F44.Post px0 apx0_0 cpx0_0 xpx0_0 F ro r) (fun hc_849 => ?_) (fun hc_849 => ?_)
        · replace hp := ifp_t hc_849 hp
          refine st_load (Q := F44.Post px0 apx0_0 cpx0_0 xpx0_0 F ro r) isO hs_848 agg3 rfl ?_
          refine st_int (Q := F44.Post px0 apx0_0 cpx0_0 xpx0_0 F ro r) ?_
          refine st_if (Q := F44.Post px0 apx0_0 cpx0_0 xpx0_0 F ro r) (fun hc_850 => ?_) (fun hc_850 => ?_)
          · replace hp := ifp_t hc_850 hp
            refine st_load (Q := F44.Post px0 apx0_0 cpx0_0 xpx0_0 F ro r) isO hs_848 agg3 rfl ?_
            refine st_int (Q := F44.Post px0 apx0_0 cpx0_0 xpx0_0 F ro r) ?_
            refine st_if (Q := F44.Post px0 apx0_0 cpx0_0 xpx0_0 F ro r) (fun hc_851 => ?_) (fun hc_851 => ?_)
            · replace hp := ifp_t hc_851 hp
              refine st_load (Q := F44.Post px0 apx0_0 cpx0_0 xpx0_0 F ro r) isO hs_848 agg3 rfl ?_
              refine st_int (Q := F44.Post px0 apx0_0 cpx0_0 xpx0_0 F ro r) ?_
              refine st_if (Q := F44.Post px0 apx0_0 cpx0_0 xpx0_0 F ro r) (fun hc_852 => ?_) (fun hc_852 => ?_)
              · replace hp := ifp_t hc_852 hp
                refine st_load (Q := F44.Post px0 apx0_0 cpx0_0 xpx0_0 F ro r) isO hs_848 agg3 rfl ?_
                refine st_int (Q := F44.Post px0 apx0_0 cpx0_0 xpx0_0 F ro r) ?_
                refine st_load (Q := F44.Post px0 apx0_0 cpx0_0 xpx0_0 F ro r) isO hs_848 agg3 rfl ?_
                refine st_int (Q := F44.Post px0 apx0_0 cpx0_0 xpx0_0 F ro r) ?_
                have hs_853 := hs_848.pull 2 rfl
                have hs_854 := hs_853.dup
                have hs_855 := hs_854.pull 3 rfl
                obtain ⟨r_856, hx_857, hp⟩ := bindr_some hp
                have hc_863 := F52.ok hora (ro := ro) (px0 := px0) (apx0_0 := apx0_0) (cpx0_0 := cpx0_0) (xpx0_0 := xpx0_0) (F := .row apx0_0 cpx0_0 (xpx0_0.map (Value.int .u8)) :: .own ro (some ⟨h_815.next, 0, none⟩) 1 [.int .i64 r_829.1, .int .i64 r_843.1, .slice none 0 0] :: .own ro (some ⟨p51, 0, none⟩) 1 [.int .i64 mp51_0, .int .i64 mp51_1, .slice none 0 0] :: F) r_843.2 (decide (IntKind.i64.wrap (r_829.1 * r_843.1) ≤ 4194304)) 23 _ hs_855 hx_857
                cases r_856 with
                | ok r_861 =>
                  replace hp := bindr_ok hp
                  obtain ⟨h_858, e_860, hs_859⟩ := hc_863
                  refine st_ok (Q := F44.Post px0 apx0_0 cpx0_0 xpx0_0 F ro r) isO e_860 ?_
                  refine st_tup (Q := F44.Post px0 apx0_0 cpx0_0 xpx0_0 F ro r) (l := []) ?_
                  refine st_nil (Q := F44.Post px0 apx0_0 cpx0_0 xpx0_0 F ro r) ?_
                  have hs_987 := hs_859.pull 2 rfl
                  have hs_988 := hs_987.pull 3 rfl
                  have hs_989 := hs_988.pull 3 rfl
                  have hs_990 := hs_989.pull 3 rfl
                  exact F44.J10_ok hora r_861 p51 mp51_0 mp51_1 n52 h_815.next r_829.1 r_843.1 _ hs_990 hp
                | pan r_862 =>
                  replace hp := bindr_pan hp
                  obtain ⟨h_991, e_993, hs_992⟩ := hc_863
                  refine st_pan (Q := F44.Post px0 apx0_0 cpx0_0 xpx0_0 F ro r) e_993 ?_
                  have hs_994 := hs_992.pull 1 rfl
                  have hs_995 := hs_994.tail
                  have hs_996 := hs_995.pull 1 rfl
                  have hs_997 := hs_996.tail
                  have hs_998 := hs_997.pull 1 rfl
                  have hs_999 := hs_998.tail
                  cases hp
                  exact ⟨_, rfl, hs_999⟩
              · replace hp := ifp_f hc_852 hp
                have hs_1000 := hs_848.pull 2 rfl
                have hs_1001 := hs_1000.dup
                have hs_1002 := hs_1001.pull 3 rfl
                obtain ⟨r_1003, hx_1004, hp⟩ := bindr_some hp
                have hc_1010 := F52.ok hora (ro := ro) (px0 := px0) (apx0_0 := apx0_0) (cpx0_0 := cpx0_0) (xpx0_0 := xpx0_0) (F := .row apx0_0 cpx0_0 (xpx0_0.map (Value.int .u8)) :: .own ro (some ⟨h_815.next, 0, none⟩) 1 [.int .i64 r_829.1, .int .i64 r_843.1, .slice none 0 0] :: .own ro (some ⟨p51, 0, none⟩) 1 [.int .i64 mp51_0, .int .i64 mp51_1, .slice none 0 0] :: F) r_843.2 false 23 _ hs_1002 hx_1004
                cases r_1003 with
                | ok r_1008 =>
                  replace hp := bindr_ok hp
                  obtain ⟨h_1005, e_1007, hs_1006⟩ := hc_1010
                  refine st_ok (Q := F44.Post px0 apx0_0 cpx0_0 xpx0_0 F ro r) isO e_1007 ?_
                  refine st_tup (Q := F44.Post px0 apx0_0 cpx0_0 xpx0_0 F ro r) (l := []) ?_
                  refine st_nil (Q := F44.Post px0 apx0_0 cpx0_0 xpx0_0 F ro r) ?_
                  have hs_1011 := hs_1006.pull 2 rfl
                  have hs_1012 := hs_1011.pull 3 rfl
                  have hs_1013 := hs_1012.pull 3 rfl
                  have hs_1014 := hs_1013.pull 3 rfl
                  exact F44.J10_ok hora r_1008 p51 mp51_0 mp51_1 n52 h_815.next r_829.1 r_843.1 _ hs_1014 hp
                | pan r_1009 =>
                  replace hp := bindr_pan hp
                  obtain ⟨h_1015, e_1017, hs_1016⟩ := hc_1010
                  refine st_pan (Q := F44.Post px0 apx0_0 cpx0_0 xpx0_0 F ro r) e_1017 ?_
                  have hs_1018 := hs_1016.pull 1 rfl
                  have hs_1019 := hs_1018.tail
                  have hs_1020 := hs_1019.pull 1 rfl
                  have hs_1021 := hs_1020.tail
                  have hs_1022 := hs_1021.pull 1 rfl
                  have hs_1023 := hs_1022.tail
                  cases hp
                  exact ⟨_, rfl, hs_1023⟩
            · replace hp := ifp_f hc_851 hp
              have hs_1024 := hs_848.pull 2 rfl
              have hs_1025 := hs_1024.dup
              have hs_1026 := hs_1025.pull 3 rfl
              obtain ⟨r_1027, hx_1028, hp⟩ := bindr_some hp
              have hc_1034 := F52.ok hora (ro := ro) (px0 := px0) (apx0_0 := apx0_0) (cpx0_0 := cpx0_0) (xpx0_0 := xpx0_0) (F := .row apx0_0 cpx0_0 (xpx0_0.map (Value.int .u8)) :: .own ro (some ⟨h_815.next, 0, none⟩) 1 [.int .i64 r_829.1, .int .i64 r_843.1, .slice none 0 0] :: .own ro (some ⟨p51, 0, none⟩) 1 [.int .i64 mp51_0, .int .i64 mp51_1, .slice none 0 0] :: F) r_843.2 false 23 _ hs_1026 hx_1028
              cases r_1027 with
              | ok r_1032 =>
                replace hp := bindr_ok hp
                obtain ⟨h_1029, e_1031, hs_1030⟩ := hc_1034
                refine st_ok (Q := F44.Post px0 apx0_0 cpx0_0 xpx0_0 F ro r) isO e_1031 ?_
                refine st_tup (Q := F44.Post px0 apx0_0 cpx0_0 xpx0_0 F ro r) (l := []) ?_
                refine st_nil (Q := F44.Post px0 apx0_0 cpx0_0 xpx0_0 F ro r) ?_
                have hs_1035 := hs_1030.pull 2 rfl
                have hs_1036 := hs_1035.pull 3 rfl
                have hs_1037 := hs_1036.pull 3 rfl
                have hs_1038 := hs_1037.pull 3 rfl
                exact F44.J10_ok hora r_1032 p51 mp51_0 mp51_1 n52 h_815.next r_829.1 r_843.1 _ hs_1038 hp
              | pan r_1033 =>
                replace hp := bindr_pan hp
                obtain ⟨h_1039, e_1041, hs_1040⟩ := hc_1034
                refine st_pan (Q := F44.Post px0 apx0_0 cpx0_0 xpx0_0 F ro r) e_1041 ?_
                have hs_1042 := hs_1040.pull 1 rfl
                have hs_1043 := hs_1042.tail
                have hs_1044 := hs_1043.pull 1 rfl
                have hs_1045 := hs_1044.tail
                have hs_1046 := hs_1045.pull 1 rfl
                have hs_1047 := hs_1046.tail
                cases hp
                exact ⟨_, rfl, hs_1047⟩
          · replace hp := ifp_f hc_850 hp
            have hs_1048 := hs_848.pull 2 rfl
            have hs_1049 := hs_1048.dup
            have hs_1050 := hs_1049.pull 3 rfl
            obtain ⟨r_1051, hx_1052, hp⟩ := bindr_some hp
            have hc_1058 := F52.ok hora (ro := ro) (px0 := px0) (apx0_0 := apx0_0) (cpx0_0 := cpx0_0) (xpx0_0 := xpx0_0) (F := .row apx0_0 cpx0_0 (xpx0_0.map (Value.int .u8)) :: .own ro (some ⟨h_815.next, 0, none⟩) 1 [.int .i64 r_829.1, .int .i64 r_843.1, .slice none 0 0] :: .own ro (some ⟨p51, 0, none⟩) 1 [.int .i64 mp51_0, .int .i64 mp51_1, .slice none 0 0] :: F) r_843.2 false 23 _ hs_1050 hx_1052
            cases r_1051 with
            | ok r_1056 =>
              replace hp := bindr_ok hp
              obtain ⟨h_1053, e_1055, hs_1054⟩ := hc_1058
              refine st_ok (Q := F44.Post px0 apx0_0 cpx0_0 xpx0_0 F ro r) isO e_1055 ?_
              refine st_tup (Q := F44.Post px0 apx0_0 cpx0_0 xpx0_0 F ro r) (l := []) ?_
              refine st_nil (Q := F44.Post px0 apx0_0 cpx0_0 xpx0_0 F ro r) ?_
              have hs_1059 := hs_1054.pull 2 rfl
              have hs_1060 := hs_1059.pull 3 rfl
              have hs_1061 := hs_1060.pull 3 rfl
              have hs_1062 := hs_1061.pull 3 rfl
              exact F44.J10_ok hora r_1056 p51 mp51_0 mp51_1 n52 h_815.next r_829.1 r_843.1 _ hs_1062 hp
            | pan r_1057 =>
              replace hp := bindr_pan hp
              obtain ⟨h_1063, e_1065, hs_1064⟩ := hc_1058
              refine st_pan (Q := F44.Post px0 apx0_0 cpx0_0 xpx0_0 F ro r) e_1065 ?_
              have hs_1066 := hs_1064.pull 1 rfl
              have hs_1067 := hs_1066.tail
              have hs_1068 := hs_1067.pull 1 rfl
              have hs_1069 := hs_1068.tail
              have hs_1070 := hs_1069.pull 1 rfl
              have hs_1071 := hs_1070.tail
              cases hp
              exact ⟨_, rfl, hs_1071⟩
        · replace hp := ifp_f hc_849 hp
          have hs_1072 := hs_848.pull 2 rfl
          have hs_1073 := hs_1072.dup
          have hs_1074 := hs_1073.pull 3 rfl
          obtain ⟨r_1075, hx_1076, hp⟩ := bindr_some hp
          have hc_1082 := F52.ok hora (ro := ro) (px0 := px0) (apx0_0 := apx0_0) (cpx0_0 := cpx0_0) (xpx0_0 := xpx0_0) (F := .row apx0_0 cpx0_0 (xpx0_0.map (Value.int .u8)) :: .own ro (some ⟨h_815.next, 0, none⟩) 1 [.int .i64 r_829.1, .int .i64 r_843.1, .slice none 0 0] :: .own ro (some ⟨p51, 0, none⟩) 1 [.int .i64 mp51_0, .int .i64 mp51_1, .slice none 0 0] :: F) r_843.2 false 23 _ hs_1074 hx_1076
          cases r_1075 with
          | ok r_1080 =>
            replace hp := bindr_ok hp
            obtain ⟨h_1077, e_1079, hs_1078⟩ := hc_1082
            refine st_ok (Q := F44.Post px0 apx0_0 cpx0_0 xpx0_0 F ro r) isO e_1079 ?_
            refine st_tup (Q := F44.Post px0 apx0_0 cpx0_0 xpx0_0 F ro r) (l := []) ?_
            refine st_nil (Q := F44.Post px0 apx0_0 cpx0_0 xpx0_0 F ro r) ?_
            have hs_1083 := hs_1078.pull 2 rfl
            have hs_1084 := hs_1083.pull 3 rfl
            have hs_1085 := hs_1084.pull 3 rfl
            have hs_1086 := hs_1085.pull 3 rfl
            exact F44.J10_ok hora r_1080 p51 mp51_0 mp51_1 n52 h_815.next r_829.1 r_843.1 _ hs_1086 hp
          | pan r_1081 =>
            replace hp := bindr_pan hp
            obtain ⟨h_1087, e_1089, hs_1088⟩ := hc_1082
            refine st_pan (Q := F44.Post px0 apx0_0 cpx0_0 xpx0_0 F ro r) e_1089 ?_
            have hs_1090 := hs_1088.pull 1 rfl
            have hs_1091 := hs_1090.tail
            have hs_1092 := hs_1091.pull 1 rfl
            have hs_1093 := hs_1092.tail
            have hs_1094 := hs_1093.pull 1 rfl
            have hs_1095 := hs_1094.tail
            cases hp
            exact ⟨_, rfl, hs_1095⟩
      | pan r_844 =>
        replace hp := bindr_pan hp
        obtain ⟨h_1096, e_1098, hs_1097⟩ := hc_845
        refine st_pan (Q := F44.Post px0 apx0_0 cpx0_0 xpx0_0 F ro r) e_1098 ?_
        have hs_1099 := hs_1097.pull 1 rfl
        have hs_1100 := hs_1099.tail
        have hs_1101 := hs_1100.pull 1 rfl
        have hs_1102 := hs_1101.tail
        have hs_1103 := hs_1102.pull 1 rfl
        have hs_1104 := hs_1103.tail
        cases hp
        exact ⟨_, rfl, hs_1104⟩
    | pan r_830 =>
      replace hp := bindr_pan hp
      obtain ⟨h_1105, e_1107, hs_1106⟩ := hc_831
      refine st_pan (Q := F44.Post px0 apx0_0 cpx0_0 xpx0_0 F ro r) e_1107 ?_
      have hs_1108 := hs_1106.pull 1 rfl
      have hs_1109 := hs_1108.tail
      have hs_1110 := hs_1109.pull 1 rfl
      have hs_1111 := hs_1110.tail
      have hs_1112 := hs_1111.pull 1 rfl
      have hs_1113 := hs_1112.tail
      cases hp
      exact ⟨_, rfl, hs_1113⟩
  | pan r_813 =>
    replace hp := bindr_pan hp
    obtain ⟨h_1114, e_1116, hs_1115⟩ := hc_814
    refine st_pan (Q := F44.Post px0 apx0_0 cpx0_0 xpx0_0 F ro r) e_1116 ?_
    have hs_1117 := hs_1115.pull 1 rfl
    have hs_1118 := hs_1117.tail
    have hs_1119 := hs_1118.pull 1 rfl
    have hs_1120 := hs_1119.tail
    cases hp
    exact ⟨_, rfl, hs_1120⟩

def F44.J3p (lf : Nat) (xpx0_0 : List Int) (mpx0_1 : Int) (mp35_0 : Int) (mp35_1 : Int) (n36 : Int) (b37 : Bool) : Option (Res (Int × Int × List Int × Int × Int) (Int × Int)) :=
  ifp b37 (
    bindp (idxp xpx0_0 (IntKind.i64.wrap (mpx0_1 + 1))) fun x_796 =>
    F44.J4p lf xpx0_0 mpx0_1 mp35_0 mp35_1 (IntKind.i64.wrap (IntKind.u8.wrap (x_796 - 48)))) (
    F44.J4p lf xpx0_0 mpx0_1 mp35_0 mp35_1 n36)

theorem F44.J3_ok {ora : Ora} (hora : HOra ora) {lf ro : Nat} {F : List Ent} {r : (Res (Int × Int × List Int × Int × Int) (Int × Int))} {px0 : Nat} {apx0_0 : Option Addr} {cpx0_0 : Nat} {xpx0_0 : List Int} (mpx0_1 : Int) (p35 : Nat) (mp35_0 : Int) (mp35_1 : Int) (n36 : Int) (b37 : Bool) (h : Heap) (hs : Sat ro h (.own ro (some ⟨px0, 0, none⟩) 1 [.slice apx0_0 xpx0_0.length cpx0_0, .int .i64 mpx0_1] :: .row apx0_0 cpx0_0 (xpx0_0.map (Value.int .u8)) :: .own ro (some ⟨p35, 0, none⟩) 1 [.int .i64 mp35_0, .int .i64 mp35_1, .slice none 0 0] :: F)) (hp : F44.J3p lf xpx0_0 mpx0_1 mp35_0 mp35_1 n36 b37 = some r) : F44.Post px0 apx0_0 cpx0_0 xpx0_0 F ro r (F44.J3 (callW Tryd.prog ora) lf ro px0 0 p35 0 n36 b37 h) := by
  unfold F44.J3
  unfold F44.J3p at hp
  refine st_if (Q := F44.Post px0 apx0_0 cpx0_0 xpx0_0 F ro r) (fun hc_795 => ?_) (fun hc_795 => ?_)
  · replace hp := ifp_t hc_795 hp
    refine st_load (Q := F44.Post px0 apx0_0 cpx0_0 xpx0_0 F ro r) isN hs agg22 rfl ?_
    refine st_slice (Q := F44.Post px0 apx0_0 cpx0_0 xpx0_0 F ro r) ?_
    refine st_load (Q := F44.Post px0 apx0_0 cpx0_0 xpx0_0 F ro r) isN hs agg3 rfl ?_
    refine st_int (Q := F44.Post px0 apx0_0 cpx0_0 xpx0_0 F ro r) ?_
    have hs_798 := hs.pull 1 rfl
    obtain ⟨x_796, hx_797, hp⟩ := bindp_some hp
    refine st_idxR (Q := F44.Post px0 apx0_0 cpx0_0 xpx0_0 F ro r) (l := xpx0_0) (f := (Value.int .u8)) isO isO hs_798 und22 siz5 agg5 rfl hx_797 ?_
    refine st_int (Q := F44.Post px0 apx0_0 cpx0_0 xpx0_0 F ro r) ?_
    have hs_1121 := hs_798.pull 2 rfl
    have hs_1122 := hs_1121.pull 1 rfl
    have hs_1123 := hs_1122.pull 2 rfl
    exact F44.J4_ok hora mpx0_1 p35 mp35_0 mp35_1 (IntKind.i64.wrap (IntKind.u8.wrap (x_796 - 48))) _ hs_1123 hp
  · replace hp := ifp_f hc_795 hp
    have hs_1124 := hs.pull 2 rfl
    have hs_1125 := hs_1124.pull 2 rfl
    have hs_1126 := hs_1125.pull 2 rfl
    exact F44.J4_ok hora mpx0_1 p35 mp35_0 mp35_1 n36 _ hs_1126 hp

def F44.p (lf : Nat) (xpx0_0 : List Int) (mpx0_1 : Int) : Option (Res (Int × Int × List Int × Int × Int) (Int × Int)) :=
  ifp (decide (IntKind.i64.wrap ((xpx0_0.length : Int) - mpx0_1) ≥ 2)) (
    bindp (idxp xpx0_0 mpx0_1) fun x_782 =>
    ifp (x_782 == 80) (
      bindp (idxp xpx0_0 (IntKind.i64.wrap (mpx0_1 + 1))) fun x_787 =>
      bindp (F51.p lf x_787) fun r_790 =>
      F44.J3p lf xpx0_0 mpx0_1 0 0 0 r_790) (
      F44.J3p lf xpx0_0 mpx0_1 0 0 0 false)) (
    F44.J3p lf xpx0_0 mpx0_1 0 0 0 false)

theorem F44.t_ok {ora : Ora} (hora : HOra ora) {lf ro : Nat} {F : List Ent} {r : (Res (Int × Int × List Int × Int × Int) (Int × Int))} {px0 : Nat} {apx0_0 : Option Addr} {cpx0_0 : Nat} {xpx0_0 : List Int} (mpx0_1 : Int) (h : Heap) (hs : Sat ro h (.own ro (some ⟨px0, 0, none⟩) 1 [.slice apx0_0 xpx0_0.length cpx0_0, .int .i64 mpx0_1] :: .row apx0_0 cpx0_0 (xpx0_0.map (Value.int .u8)) :: F)) (hp : F44.p lf xpx0_0 mpx0_1 = some r) : F44.Post px0 apx0_0 cpx0_0 xpx0_0 F ro r (F44.t (callW Tryd.prog ora) lf ro px0 0 h) := by
  unfold F44.t
  unfold F44.p at hp
  refine st_pushJ (Q := F44.Post px0 apx0_0 cpx0_0 xpx0_0 F ro r) hs hs.low rfl fun h_778 _ hs_779 => ?_
  have hs_780 := hs_779.pull 1 rfl
  refine st_load (Q := F44.Post px0 apx0_0 cpx0_0 xpx0_0 F ro r) isN hs_780 agg22 rfl ?_
  refine st_slice (Q := F44.Post px0 apx0_0 cpx0_0 xpx0_0 F ro r) ?_
  refine st_load (Q := F44.Post px0 apx0_0 cpx0_0 xpx0_0 F ro r) isN hs_780 agg3 rfl ?_
  refine st_int (Q := F44.Post px0 apx0_0 cpx0_0 xpx0_0 F ro r) ?_
  refine st_if (Q := F44.Post px0 apx0_0 cpx0_0 xpx0_0 F ro r) (fun hc_781 => ?_) (fun hc_781 => ?_)
  · replace hp := ifp_t hc_781 hp
    refine st_load (Q := F44.Post px0 apx0_0 cpx0_0 xpx0_0 F ro r) isN hs_780 agg22 rfl ?_
    refine st_slice (Q := F44.Post px0 apx0_0 cpx0_0 xpx0_0 F ro r) ?_
    refine st_load (Q := F44.Post px0 apx0_0 cpx0_0 xpx0_0 F ro r) isN hs_780 agg3 rfl ?_
    refine st_int (Q := F44.Post px0 apx0_0 cpx0_0 xpx0_0 F ro r) ?_
    have hs_784 := hs_780.pull 2 rfl
    obtain ⟨x_782, hx_783, hp⟩ := bindp_some hp
    refine st_idxR (Q := F44.Post px0 apx0_0 cpx0_0 xpx0_0 F ro r) (l := xpx0_0) (f := (Value.int .u8)) isN isN hs_784 und22 siz5 agg5 rfl hx_783 ?_
    refine st_int (Q := F44.Post px0 apx0_0 cpx0_0 xpx0_0 F ro r) ?_
    refine st_if (Q := F44.Post px0 apx0_0 cpx0_0 xpx0_0 F ro r) (fun hc_785 => ?_) (fun hc_785 => ?_)
    · replace hp := ifp_t hc_785 hp
      have hs_786 := hs_784.pull 1 rfl
      refine st_load (Q := F44.Post px0 apx0_0 cpx0_0 xpx0_0 F ro r) isN hs_786 agg22 rfl ?_
      refine st_slice (Q := F44.Post px0 apx0_0 cpx0_0 xpx0_0 F ro r) ?_
      refine st_load (Q := F44.Post px0 apx0_0 cpx0_0 xpx0_0 F ro r) isN hs_786 agg3 rfl ?_
      refine st_int (Q := F44.Post px0 apx0_0 cpx0_0 xpx0_0 F ro r) ?_
      have hs_789 := hs_786.pull 1 rfl
      obtain ⟨x_787, hx_788, hp⟩ := bindp_some hp
      refine st_idxR (Q := F44.Post px0 apx0_0 cpx0_0 xpx0_0 F ro r) (l := xpx0_0) (f := (Value.int .u8)) isO isO hs_789 und22 siz5 agg5 rfl hx_788 ?_
      refine st_int (Q := F44.Post px0 apx0_0 cpx0_0 xpx0_0 F ro r) ?_
      obtain ⟨r_790, hx_791, hp⟩ := bindp_some hp
      obtain ⟨h_792, e_794, hs_793⟩ := F51.ok hora (ro := ro) (F := .row apx0_0 cpx0_0 (xpx0_0.map (Value.int .u8)) :: .own ro (some ⟨px0, 0, none⟩) 1 [.slice apx0_0 xpx0_0.length cpx0_0, .int .i64 mpx0_1] :: .own ro (some ⟨h.next, 0, none⟩) 1 [.int .i64 0, .int .i64 0, .slice none 0 0] :: F) x_787 _ hs_789 hx_791
      refine st_ok (Q := F44.Post px0 apx0_0 cpx0_0 xpx0_0 F ro r) isO e_794 ?_
      refine st_bool (Q := F44.Post px0 apx0_0 cpx0_0 xpx0_0 F ro r) ?_
      have hs_1127 := hs_793.pull 2 rfl
      have hs_1128 := hs_1127.pull 1 rfl
      have hs_1129 := hs_1128.pull 2 rfl
      exact F44.J3_ok hora mpx0_1 h.next 0 0 0 r_790 _ hs_1129 hp
    · replace hp := ifp_f hc_785 hp
      have hs_1130 := hs_784.pull 2 rfl
      have hs_1131 := hs_1130.pull 1 rfl
      have hs_1132 := hs_1131.pull 2 rfl
      exact F44.J3_ok hora mpx0_1 h.next 0 0 0 false _ hs_1132 hp
  · replace hp := ifp_f hc_781 hp
    have hs_1133 := hs_780.pull 1 rfl
    have hs_1134 := hs_1133.pull 2 rfl
    have hs_1135 := hs_1134.pull 2 rfl
    exact F44.J3_ok hora mpx0_1 h.next 0 0 0 false _ hs_1135 hp

theorem F44.ok {ora : Ora} (hora : HOra ora) {lf ro : Nat} {F : List Ent} {r : (Res (Int × Int × List Int × Int × Int) (Int × Int))} {px0 : Nat} {apx0_0 : Option Addr} {cpx0_0 : Nat} {xpx0_0 : List Int} (mpx0_1 : Int) (h : Heap) (hs : Sat ro h (.own ro (some ⟨px0, 0, none⟩) 1 [.slice apx0_0 xpx0_0.length cpx0_0, .int .i64 mpx0_1] :: .row apx0_0 cpx0_0 (xpx0_0.map (Value.int .u8)) :: F)) (hp : F44.p lf xpx0_0 mpx0_1 = some r) : F44.Post px0 apx0_0 cpx0_0 xpx0_0 F ro r (callW Tryd.prog ora ro 44 [.pointer (some ⟨px0, 0, none⟩)] h) := by
  have h1 := F44.t_ok hora mpx0_1 h hs hp
  have h2 : callW Tryd.prog ora ro 44 [.pointer (some ⟨px0, 0, none⟩)] h = _ := callW_body (hora.none _ _ _ _ (by decide)) Tryd.func44 (F44.le (callW Tryd.prog ora) lf ro px0 0 h) (F44.Post.ne h1)
  rw [h2]; exact h1

end Go.Proofs.YtgpnjdldpehidaaDoor

open Go Go.Abs Go.Proofs
set_option maxRecDepth 100000
set_option linter.unusedVariables false
set_option linter.unusedSimpArgs false
namespace Go.Proofs.YtgpnjdldpehidaaDoor
/-! ### 'next': the guarded reading of an image -/
def F35.Post (px0 : Nat) (apx0_0 : Option Addr) (cpx0_0 : Nat) (xpx0_0 : List Int) (F : List Ent) (ro : Nat) (r : (Int × Int × List Int × Int × Int × Int)) (x : Out) : Prop :=
  ∃ a2 h', x = .ok (.tuple #[.agg #[.int .i64 r.1, .int .i64 r.2.1, .slice a2 r.2.2.1.length r.2.2.1.length], .int .i64 r.2.2.2.1, .int .i64 r.2.2.2.2.1]) h' ∧ Sat ro h' (.own ro a2 1 (r.2.2.1.map (Value.int .u8)) :: .own ro (some ⟨px0, 0, none⟩) 1 [.slice apx0_0 xpx0_0.length cpx0_0, .int .i64 r.2.2.2.2.2] :: F)
def F35.p (lf : Nat) (x : List Int) (at_ : Int) : Option (Int × Int × List Int × Int × Int × Int) := match F44.p lf x at_ with
  | some (.ok r) => some (r.1, r.2.1, r.2.2.1, r.2.2.2.1, 0, r.2.2.2.2)
  | some (.pan r) => some (0, 0, [], 0, r.1, r.2)
  | none => none
theorem zer24 : zeroOf Tryd.prog 24 = some (.agg #[.int .i64 0, .int .i64 0, .slice none 0 0]) := by kernel_rfl
theorem zer26 : zeroOf Tryd.prog 26 = some (.int .i64 0) := by kernel_rfl
theorem zer77 : zeroOf Tryd.prog 77 = some (.agg #[.int .i64 0]) := by kernel_rfl
theorem sz26 : sizeOf? Tryd.prog 26 = some 1 := by kernel_rfl
theorem sz77 : sizeOf? Tryd.prog 77 = some 1 := by kernel_rfl
theorem ag26 : isAgg? Tryd.prog 26 = some false := by kernel_rfl
theorem un20 : eqOp Tryd.prog 20 true .nilIface .nilIface = some true := by kernel_rfl
noncomputable def GA : Code := sub (codeOf Tryd.f35) [false]
noncomputable def GB : Code := sub (codeOf Tryd.f35) [true, true]
noncomputable def GC : Code := sub (codeOf Tryd.f43) [true]
variable {ro : Nat}
/-- The frame of 'next' before it reads. -/
def f35A (b : Nat) (h : Heap) : Nat → Option Value := updF (updF (updF (updF (fun _ => none) 0 (some (.pointer (some ⟨b, 0, none⟩)))) 2 (some (ptrTo h.next))) 3 (some (.int .i64 0))) 4 (some (ptrTo (h.next + 1)))
theorem env35 (v : Value) : envOf0 [v] 12 = EF 12 (updF (fun _ => none) 0 (some v)) := by rfl
theorem a35_run (b : Nat) (h : Heap) : EvC Tryd.prog noOra ro GA (envOf0 [.pointer (some ⟨b, 0, none⟩)] 12) h (fun r => r = .normal (EF 12 (f35A b h)) ((h.push (.cells 1 [.int .i64 0, .int .i64 0, .slice none 0 0])).push (.cells 1 [.int .i64 0]))) := by
  rw [env35]
  refine ev_region ?_
  refine ev1 (stp_alloc zer24) (by decide) ?_
  refine ev1 (stp_assignC rfl) (by decide) ?_
  refine ev1 (stp_alloc zer26) (by decide) ?_
  exact evr_nil rfl
/-- What lies behind: the image's block, the error's cell. -/
def mCell (b : Nat) (l : List Value) (ro : Nat) : Ent := .own ro (some ⟨b, 0, none⟩) 1 l
theorem after_ok {e : Env} {d : Option Tmp} {next : Env → Heap → Prop} {Q : COut → Prop} {x : Out} {v : Value} {h : Heap} (hx : x = .ok v h) (hk : ∃ e', putA e d v = some e' ∧ next e' h) : After e d next Q x := by subst hx; exact hk
theorem after_pan {e : Env} {d : Option Tmp} {next : Env → Heap → Prop} {Q : COut → Prop} {x : Out} {v : Value} {h : Heap} (hx : x = .panic v h) (hk : Q (.panic v e h)) : After e d next Q x := by subst hx; exact hk
theorem evf_callW {P : Program} {ora : Ora} {f : FuncId} {args : List Value} {h : Heap} {Q : Out → Prop} (hn : callW P ora ro f args h ≠ .fail) (hq : Q (callW P ora ro f args h)) : EvF P ora ro f args h Q :=
  (callW_good ro f args h hn).mono fun r hr => by
    have hr : r = _ := hr
    rw [hr]; exact hq
theorem evf_eq {P : Program} {ora : Ora} {f : FuncId} {args : List Value} {h : Heap} {Q : Out → Prop} {r : Out} (he : callW P ora ro f args h = r) (hr : r ≠ .fail) (hq : Q r) : EvF P ora ro f args h Q := by
  subst he; exact evf_callW hr hq
theorem enter44 : enterB Tryd.prog 44 = true := by kernel_rfl
/-- The reading succeeds. -/
theorem b35_ok (b : Nat) (h h3 : Heap) {R : List Ent} {w x f : Int} {a : Option Addr} {n c : Nat} (hc : callW Tryd.prog noOra ro 44 [.pointer (some ⟨b, 0, none⟩)] ((h.push (.cells 1 [.int .i64 0, .int .i64 0, .slice none 0 0])).push (.cells 1 [.int .i64 0])) = .ok (.tuple #[.agg #[.int .i64 w, .int .i64 x, .slice a n c], .int .i64 f]) h3)
    (hs : Sat ro h3 (.own ro (some ⟨h.next, 0, none⟩) 1 [.int .i64 0, .int .i64 0, .slice none 0 0] :: .own ro (some ⟨h.next + 1, 0, none⟩) 1 [.int .i64 0] :: R)) :
    EvC Tryd.prog noOra ro GB (EF 12 (f35A b h)) ((h.push (.cells 1 [.int .i64 0, .int .i64 0, .slice none 0 0])).push (.cells 1 [.int .i64 0])) (fun r => ∃ g h5, r = .ret (EF 12 g) h5 ∧ g 2 = some (ptrTo h.next) ∧ g 3 = some (.int .i64 f) ∧ g 4 = some (ptrTo (h.next + 1)) ∧
      Sat ro h5 (.own ro (some ⟨h.next, 0, none⟩) 1 [.int .i64 w, .int .i64 x, .slice a n c] :: .own ro (some ⟨h.next + 1, 0, none⟩) 1 [.int .i64 0] :: R)) := by
  obtain ⟨h4, e4, s4⟩ := storeA_eq (P := Tryd.prog) (t := 24) (o := 0) (vs := [.int .i64 w, .int .i64 x, .slice a n c]) hs siz24 rfl rfl rfl rfl
  have l4 := loadA_eq (P := Tryd.prog) (t := 24) (o := 0) (vs := [.int .i64 w, .int .i64 x, .slice a n c]) s4 agg24 siz24 rfl
  obtain ⟨h5, e5, s5⟩ := storeA_eq (P := Tryd.prog) (t := 24) (o := 0) (vs := [.int .i64 w, .int .i64 x, .slice a n c]) s4 siz24 rfl rfl rfl rfl
  obtain ⟨h6, e6, s6⟩ := store_eq (P := Tryd.prog) (t := 26) (o := 0) (v := .int .i64 0) (s5.pull 1 rfl) sz26 rfl (Nat.le_of_ble_eq_true rfl)
  · refine ev_seq (ev_region ?_)
    refine ev1 (stp_move (by decide) rfl) (by decide) ?_
    refine evr_call rfl rfl rfl enter44 (evf_eq hc (by simp) ⟨_, putA_EF (by decide), ?_⟩)
    refine ev1 (stp_move (by decide) rfl) (by decide) ?_
    refine ev1 (stp_extract (cs := [.agg #[.int .i64 w, .int .i64 x, .slice a n c], .int .i64 f]) (by decide) rfl rfl) (by decide) ?_
    refine ev1 (stp_extract (cs := [.agg #[.int .i64 w, .int .i64 x, .slice a n c], .int .i64 f]) (by decide) rfl rfl) (by decide) ?_
    refine ev0 (stp_store (by decide) (by decide) rfl rfl e4) ?_
    refine ev1 (stp_assign (by decide) rfl) (by decide) ?_
    refine evr_nil (ev_seq (ev_region ?_))
    refine ev1 (stp_load (by decide) rfl l4) (by decide) ?_
    refine ev1 (stp_move (by decide) rfl) (by decide) ?_
    refine ev0 (stp_store (by decide) (by decide) rfl rfl e5) ?_
    refine ev1 (stp_assign (by decide) rfl) (by decide) ?_
    refine ev0 (stp_storeC (by decide) rfl rfl e6) ?_
    exact evr_nil (ev_ret ⟨_, _, rfl, rfl, rfl, rfl, s6.pull 1 rfl⟩)
/-- The reading panics. -/
theorem b35_pan (b : Nat) (h h3 : Heap) {v : Value} (hc : callW Tryd.prog noOra ro 44 [.pointer (some ⟨b, 0, none⟩)] ((h.push (.cells 1 [.int .i64 0, .int .i64 0, .slice none 0 0])).push (.cells 1 [.int .i64 0])) = .panic v h3) :
    EvC Tryd.prog noOra ro GB (EF 12 (f35A b h)) ((h.push (.cells 1 [.int .i64 0, .int .i64 0, .slice none 0 0])).push (.cells 1 [.int .i64 0])) (fun r => ∃ g, r = .panic v (EF 12 g) h3 ∧ g 2 = some (ptrTo h.next) ∧ g 3 = some (.int .i64 0) ∧ g 4 = some (ptrTo (h.next + 1))) := by
  refine ev_seq (ev_region ?_)
  refine ev1 (stp_move (by decide) rfl) (by decide) ?_
  exact evr_call rfl rfl rfl enter44 (evf_eq hc (by simp) ⟨_, rfl, rfl, rfl, rfl⟩)
theorem env43 (v x : Value) : putA (envOf0 [v] 15) (some 5) x = some (EF 15 (updF (updF (fun _ => none) 0 (some v)) 5 (some x))) := by rfl
theorem c43_nil (v : Value) (h : Heap) : EvC Tryd.prog noOra ro GC (EF 15 (updF (updF (fun _ => none) 0 (some v)) 5 (some .nilIface))) h (fun r => ∃ e, r = .normal e h) := by
  refine ev_block (ev_seq (ev_region ?_))
  refine ev1 (stp_binC (r := .bool true) (by decide) rfl rfl (by simp [binop, un20])) (by decide) ?_
  refine evr_nil (ev_cond (b := true) rfl (fun _ => ev_region ?_) (fun hf => by cases hf))
  refine ev1 (stp_assign (by decide) rfl) (by decide) ?_
  exact evr_nil ⟨_, rfl⟩
theorem un20f (t : TypeId) (v : Value) : eqOp Tryd.prog 20 true (.iface t v) .nilIface = some false := by
  have : ∃ ms, Tryd.prog.underlying 20 = some (.interface ms) := ⟨_, Tryd.underlying20⟩
  obtain ⟨ms, hms⟩ := this
  simp [eqOp, hms]
theorem as77 (v : Value) (h : Heap) : typeAssertOp Tryd.prog (.iface 77 v) 77 true h = .ok (.tuple #[v, .bool true]) h := by
  have : ∃ fs, Tryd.prog.underlying 77 = some (.struct fs) := ⟨_, Tryd.underlying77⟩
  obtain ⟨fs, hfs⟩ := this
  simp [typeAssertOp, hfs]
theorem fa77 (b : Nat) (h : Heap) : faddrO Tryd.prog 77 (.pointer (some ⟨b, 0, none⟩)) 0 h = .ok (.pointer (some ⟨b, 0, none⟩)) h := by
  have : ∃ f, Tryd.prog.underlying 77 = some (.struct #[f]) ∧ f.offset = 0 ∧ f.type = 26 := ⟨_, Tryd.underlying77, rfl, rfl⟩
  obtain ⟨f, hf, ho, ht⟩ := this
  simp [faddrO, opO, stepOp, ev, E3, Env.get, T.get, hf, ht, sz26, ho, addr_add]
theorem c43_fault (be e : Int) (bm bc : Nat) (h3 : Heap) {R : List Ent} {lm : List Value} (hs : Sat ro h3 (.own ro (some ⟨bm, 0, none⟩) 1 lm :: .own ro (some ⟨bc, 0, none⟩) 1 [.int .i64 0] :: R)) :
    EvC Tryd.prog noOra ro GC (EF 15 (updF (updF (fun _ => none) 0 (some (ptrTo bc))) 5 (some (.iface 77 (.agg #[.int .i64 e]))))) h3 (fun r => ∃ e' h6, r = .normal e' h6 ∧ Sat ro h6 (.own ro (some ⟨bm, 0, none⟩) 1 lm :: .own ro (some ⟨bc, 0, none⟩) 1 [.int .i64 e] :: R)) := by
  have s4 := hs.push (lo := ro) hs.low (sz := 1) (l := [.int .i64 0]) rfl
  obtain ⟨h5, e5, s5⟩ := storeA_eq (P := Tryd.prog) (t := 77) (o := 0) (vs := [.int .i64 e]) s4 sz77 rfl rfl rfl rfl
  have l5 := load_eq (P := Tryd.prog) (t := 26) (o := 0) (v := .int .i64 e) s5 ag26 rfl
  obtain ⟨h6, e6, s6⟩ := store_eq (P := Tryd.prog) (t := 26) (o := 0) (v := .int .i64 e) (s5.pull 2 rfl) sz26 rfl (Nat.le_of_ble_eq_true rfl)
  refine ev_block (ev_seq (ev_region ?_))
  refine ev1 (stp_binC (r := .bool false) (by decide) rfl rfl (by simp [binop, un20f])) (by decide) ?_
  refine evr_nil (ev_cond (b := false) rfl (fun hf => by cases hf) (fun _ => ev_seq (ev_region ?_)))
  refine ev1 (stp_assert (by decide) rfl (as77 _ _)) (by decide) ?_
  refine ev1 (stp_extract (cs := [.agg #[.int .i64 e], .bool true]) (by decide) rfl rfl) (by decide) ?_
  refine ev1 (stp_extract (cs := [.agg #[.int .i64 e], .bool true]) (by decide) rfl rfl) (by decide) ?_
  refine evr_nil (ev_cond (b := true) rfl (fun _ => ev_seq (ev_region ?_)) (fun hf => by cases hf))
  refine ev1 (stp_alloc zer77) (by decide) ?_
  refine ev0 (stp_store (by decide) (by decide) rfl rfl e5) ?_
  refine evr_nil (ev_region ?_)
  refine ev1 (stp_move (by decide) rfl) (by decide) ?_
  refine ev1 (stp_faddr (by decide) rfl (fa77 _ _)) (by decide) ?_
  refine ev1 (stp_load (by decide) rfl l5) (by decide) ?_
  refine ev1 (stp_nil (by decide) rfl) (by decide) ?_
  refine ev0 (stp_store (by decide) (by decide) rfl rfl e6) ?_
  exact evr_nil ⟨_, _, rfl, ((s6.pull 1 rfl).tail).pull 1 rfl⟩
theorem res35 {h : Heap} {g : Nat → Option Value} {bm bc : Nat} {w x f e : Int} {a : Option Addr} {n c : Nat} {R : List Ent} (h2 : g 2 = some (ptrTo bm)) (h3 : g 3 = some (.int .i64 f)) (h4 : g 4 = some (ptrTo bc))
    (hs : Sat ro h (.own ro (some ⟨bm, 0, none⟩) 1 [.int .i64 w, .int .i64 x, .slice a n c] :: .own ro (some ⟨bc, 0, none⟩) 1 [.int .i64 e] :: R)) :
    resOf Tryd.prog Tryd.f35 (EF 12 g) h = .ok (.tuple #[.agg #[.int .i64 w, .int .i64 x, .slice a n c], .int .i64 f, .int .i64 e]) h := by
  have c1 := readCells_at (o := 0) (n := 3) (cs := [.int .i64 w, .int .i64 x, .slice a n c]) hs rfl
  have c2 := readCells_at (o := 0) (n := 1) (cs := [.int .i64 e]) (hs.pull 1 rfl) rfl
  refine st_res (Q := fun o => o = .ok (.tuple #[.agg #[.int .i64 w, .int .i64 x, .slice a n c], .int .i64 f, .int .i64 e]) h) (show resVals _ _ _ _ = some [.agg #[.int .i64 w, .int .i64 x, .slice a n c], .int .i64 f, .int .i64 e] from res_cellA ((EF_get (by decide)).trans h2) agg24 siz24 c1 (res_tmp ((EF_get (by decide)).trans h3) (res_cell ((EF_get (by decide)).trans h4) ag26 c2 res_nil))) rfl
theorem ev_of {c : Code} {e : Env} {h : Heap} {r : COut} (hc : EvC Tryd.prog noOra ro c e h (fun x => x = r)) : ∃ n, ∀ m, n ≤ m → runCode Tryd.prog noOra m ro c e h = r := by
  obtain ⟨r', _, rfl, h2⟩ := hc; exact h2
theorem ev_ofQ {c : Code} {e : Env} {h : Heap} {Q : COut → Prop} (hc : EvC Tryd.prog noOra ro c e h Q) : ∃ r, Q r ∧ ∃ n, ∀ m, n ≤ m → runCode Tryd.prog noOra m ro c e h = r := by
  obtain ⟨r', _, h1, h2⟩ := hc; exact ⟨r', h1, h2⟩
/-- 'next' answers what the reading answers; a fault becomes its error. -/
theorem F35.ok {ora : Ora} (hora : HOra9 ora) {lf : Nat} {F : List Ent} {r : (Int × Int × List Int × Int × Int × Int)} {px0 : Nat} {apx0_0 : Option Addr} {cpx0_0 : Nat} {xpx0_0 : List Int} (mpx0_1 : Int) (h : Heap) (hs : Sat ro h (.own ro (some ⟨px0, 0, none⟩) 1 [.slice apx0_0 xpx0_0.length cpx0_0, .int .i64 mpx0_1] :: .row apx0_0 cpx0_0 (xpx0_0.map (Value.int .u8)) :: F)) (hp : F35.p lf xpx0_0 mpx0_1 = some r) :
    F35.Post px0 apx0_0 cpx0_0 xpx0_0 F ro r (callW Tryd.prog ora ro 35 [.pointer (some ⟨px0, 0, none⟩)] h) := by
  have nora : HOra noOra := ⟨fun _ _ _ _ _ => rfl⟩
  have s1 := hs.push (lo := ro) hs.low (sz := 1) (l := [.int .i64 0, .int .i64 0, .slice none 0 0]) rfl
  have s2 := s1.push (lo := ro) s1.low (sz := 1) (l := [.int .i64 0]) rfl
  have s3 := (s2.pull 3 rfl).pull 3 rfl
  have s3 := (s3.pull 1 rfl).pull 1 rfl
  have s4 := (s2.pull 2 rfl)
  have s5 := (s4.pull 3 rfl).pull 1 rfl
  have key : ∀ (v : Value) (h' : Heap), (∃ N, guardRun Tryd.prog noOra N ro Tryd.f35 Tryd.f43 GA GB GC 4 5 [.pointer (some ⟨px0, 0, none⟩)] h = .ok v h') → callW Tryd.prog ora ro 35 [.pointer (some ⟨px0, 0, none⟩)] h = .ok v h' := fun v h' hN =>
    callW_ora (hora.next ro _ h _ (by simp) hN) (by simp)
  obtain ⟨nA, hA⟩ := ev_of (a35_run (ro := ro) px0 h)
  unfold F35.p at hp
  split at hp
  · rename_i r' hr
    cases hp
    obtain ⟨a2, h3, e3, t3⟩ := F44.ok nora (ro := ro) (F := .own ro (some ⟨h.next + 1, 0, none⟩) 1 [.int .i64 0] :: .own ro (some ⟨h.next, 0, none⟩) 1 [.int .i64 0, .int .i64 0, .slice none 0 0] :: F) mpx0_1 _ s5 hr
    obtain ⟨rB, ⟨g, h5, rfl, g2, g3, g4, t5⟩, nB, hB⟩ := ev_ofQ (b35_ok px0 h h3 e3 ((t3.pull 2 rfl).pull 3 rfl))
    obtain ⟨rC, ⟨eC, rfl⟩, nC, hC⟩ := ev_ofQ (c43_nil (ro := ro) (ptrTo (h.next + 1)) h5)
    refine ⟨a2, h5, key _ _ ⟨max nA (max nB nC), ?_⟩, ((t5.tail).tail)⟩
    unfold guardRun
    rw [show runCode Tryd.prog noOra (max nA (max nB nC)) ro GA (envOf0 [.pointer (some ⟨px0, 0, none⟩)] Tryd.f35.ntmps) h = _ from hA _ (by omega)]
    simp only
    rw [show (EF 12 (f35A px0 h)).get 4 = some (ptrTo (h.next + 1)) from (EF_get (by decide)).trans rfl]
    simp only
    rw [hB _ (by omega)]
    simp only
    unfold afterD
    rw [show putA (envOf0 [ptrTo (h.next + 1)] Tryd.f43.ntmps) (some 5) .nilIface = _ from env43 _ _]
    simp only
    rw [hC _ (by omega)]
    exact res35 g2 g3 g4 t5
  · rename_i r' hr
    cases hp
    obtain ⟨h3, e3, t3⟩ := F44.ok nora (ro := ro) (F := .own ro (some ⟨h.next + 1, 0, none⟩) 1 [.int .i64 0] :: .own ro (some ⟨h.next, 0, none⟩) 1 [.int .i64 0, .int .i64 0, .slice none 0 0] :: F) mpx0_1 _ s5 hr
    obtain ⟨rB, ⟨g, rfl, g2, g3, g4⟩, nB, hB⟩ := ev_ofQ (b35_pan px0 h h3 e3)
    obtain ⟨rC, ⟨eC, h6, rfl, t6⟩, nC, hC⟩ := ev_ofQ (c43_fault 0 r'.1 h.next (h.next + 1) h3 ((t3.pull 1 rfl).pull 2 rfl))
    refine ⟨none, h6, key _ _ ⟨max nA (max nB nC), ?_⟩, ((t6.tail).tail).nilOwn ro 1⟩
    unfold guardRun
    rw [show runCode Tryd.prog noOra (max nA (max nB nC)) ro GA (envOf0 [.pointer (some ⟨px0, 0, none⟩)] Tryd.f35.ntmps) h = _ from hA _ (by omega)]
    simp only
    rw [show (EF 12 (f35A px0 h)).get 4 = some (ptrTo (h.next + 1)) from (EF_get (by decide)).trans rfl]
    simp only
    rw [hB _ (by omega)]
    simp only
    unfold afterD
    rw [show putA (envOf0 [ptrTo (h.next + 1)] Tryd.f43.ntmps) (some 5) (.iface 77 (.agg #[.int .i64 r'.1])) = _ from env43 _ _]
    simp only
    rw [hC _ (by omega)]
    exact res35 g2 g3 g4 t6
  · cases hp
end Go.Proofs.YtgpnjdldpehidaaDoor
