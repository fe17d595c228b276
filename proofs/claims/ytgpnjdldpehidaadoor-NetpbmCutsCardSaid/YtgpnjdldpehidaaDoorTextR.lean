/-
  The laws as plain functions of numbers and lists, and that they answer as the program does where they answer at all; no statement of the seat is proved in this file.
-/
import Derived.Test.YtgpnjdldpehidaaDoorTextQ
open Go Go.Abs Go.Proofs
set_option maxRecDepth 100000
set_option linter.unusedVariables false
set_option linter.unusedSimpArgs false
namespace Go.Proofs.YtgpnjdldpehidaaDoor

theorem und5 : Tryd.prog.underlying 5 = some (.int .u8) := by kernel_rfl

def F13.Post (F : List Ent) (ro : Nat) (r : (Int × Int × List Int × Int × Int × Int)) (x : Out) : Prop := ∃ a2 h', x = .ok (.tuple #[.agg #[.int .i64 r.1, .int .i64 r.2.1, .slice a2 r.2.2.1.length r.2.2.1.length], .int .i64 r.2.2.2.1, .int .i64 r.2.2.2.2.1, .int .i64 r.2.2.2.2.2]) h' ∧ Sat ro h' (.own ro a2 1 (r.2.2.1.map (Value.int .u8)) :: F)
theorem F13.Post.ne {F : List Ent} {ro : Nat} {r : (Int × Int × List Int × Int × Int × Int)} {x : Out} (hx : F13.Post F ro r x) : x ≠ .fail := by
  obtain ⟨a2, h', rfl, _⟩ := hx
  simp

def F13.J3p (lf : Nat) (xa7 : List Int) (mp8_0 : Int) (mp8_1 : Int) : Option (Int × Int × List Int × Int × Int × Int) :=
  bindp (F35.p lf xa7 0) fun r_17 =>
  ifp (r_17.2.2.2.2.1 != 0) (
    some (0, 0, [], 0, 0, r_17.2.2.2.2.1)) (
    some (r_17.1, r_17.2.1, r_17.2.2.1, r_17.2.2.2.1, r_17.2.2.2.2.2, 0))

theorem F13.J3_ok {ora : Ora} (hora : HOra9 ora) {lf ro : Nat} {F : List Ent} {r : (Int × Int × List Int × Int × Int × Int)} (a7 : Option Addr) (c7 : Nat) (xa7 : List Int) (p8 : Nat) (mp8_0 : Int) (mp8_1 : Int) (h : Heap) (hs : Sat ro h (.row a7 c7 (xa7.map (Value.int .u8)) :: .own ro (some ⟨p8, 0, none⟩) 1 [.int .i64 mp8_0, .int .i64 mp8_1, .slice none 0 0] :: F)) (hp : F13.J3p lf xa7 mp8_0 mp8_1 = some r) : F13.Post F ro r (F13.J3 (callW Tryd.prog ora) lf ro a7 xa7.length c7 p8 0 h) := by
  unfold F13.J3
  unfold F13.J3p at hp
  refine st_pushJ (Q := F13.Post F ro r) hs hs.low rfl fun h_12 _ hs_13 => ?_
  have hs_14 := hs_13.pull 1 rfl
  have hs_15 := hs_14.dup
  have hs_16 := hs_15.pull 2 rfl
  obtain ⟨r_17, hx_18, hp⟩ := bindp_some hp
  obtain ⟨a_22, h_19, e_21, hs_20⟩ := F35.ok hora (ro := ro) (px0 := h.next) (apx0_0 := a7) (cpx0_0 := c7) (xpx0_0 := xa7) (F := .row a7 c7 (xa7.map (Value.int .u8)) :: .own ro (some ⟨p8, 0, none⟩) 1 [.int .i64 mp8_0, .int .i64 mp8_1, .slice none 0 0] :: F) 0 _ hs_16 hx_18
  refine st_ok (Q := F13.Post F ro r) isO e_21 ?_
  refine st_tup (Q := F13.Post F ro r) (l := [.agg #[.int .i64 r_17.1, .int .i64 r_17.2.1, .slice a_22 (r_17.2.2.1).length (r_17.2.2.1).length], .int .i64 r_17.2.2.2.1, .int .i64 r_17.2.2.2.2.1]) ?_
  refine st_cons (Q := F13.Post F ro r) ?_
  refine st_agg (Q := F13.Post F ro r) (l := [.int .i64 r_17.1, .int .i64 r_17.2.1, .slice a_22 (r_17.2.2.1).length (r_17.2.2.1).length]) ?_
  refine st_cons (Q := F13.Post F ro r) ?_
  refine st_int (Q := F13.Post F ro r) ?_
  refine st_cons (Q := F13.Post F ro r) ?_
  refine st_int (Q := F13.Post F ro r) ?_
  refine st_cons (Q := F13.Post F ro r) ?_
  refine st_slice (Q := F13.Post F ro r) ?_
  refine st_nil (Q := F13.Post F ro r) ?_
  refine st_cons (Q := F13.Post F ro r) ?_
  refine st_int (Q := F13.Post F ro r) ?_
  refine st_cons (Q := F13.Post F ro r) ?_
  refine st_int (Q := F13.Post F ro r) ?_
  refine st_nil (Q := F13.Post F ro r) ?_
  refine st_pushJ (Q := F13.Post F ro r) hs_20 hs_20.low rfl fun h_23 _ hs_24 => ?_
  refine st_storeA (Q := F13.Post F ro r) (vs := [.int .i64 r_17.1, .int .i64 r_17.2.1, .slice a_22 (r_17.2.2.1).length (r_17.2.2.1).length]) isO hs_24 siz24 rfl rfl rfl rfl fun h_25 hs_26 => ?_
  refine st_if (Q := F13.Post F ro r) (fun hc_27 => ?_) (fun hc_27 => ?_)
  · replace hp := ifp_t hc_27 hp
    have hs_28 := hs_26.pull 4 rfl
    refine st_storeA (Q := F13.Post F ro r) (vs := [.int .i64 0, .int .i64 0, .slice none 0 0]) isO hs_28 siz24 rfl rfl rfl rfl fun h_29 hs_30 => ?_
    have hc_31 := readCells_at (o := 0) (n := 3) (cs := [.int .i64 0, .int .i64 0, .slice none 0 0]) hs_30 rfl
    refine st_res (Q := F13.Post F ro r) (show resVals _ _ _ _ = some [.agg #[.int .i64 0, .int .i64 0, .slice none 0 0], .int .i64 0, .int .i64 0, .int .i64 r_17.2.2.2.2.1] from res_cellA ((EF_get (by decide)).trans rfl) agg24 siz24 hc_31 (res_tmp ((EF_get (by decide)).trans rfl) (res_tmp ((EF_get (by decide)).trans rfl) (res_tmp ((EF_get (by decide)).trans rfl) (res_nil))))) ?_
    have hs_32 := hs_30.nilOwn ro 1
    have hs_33 := hs_32.pull 1 rfl
    have hs_34 := hs_33.tail
    have hs_35 := hs_34.pull 1 rfl
    have hs_36 := hs_35.tail
    have hs_37 := hs_36.pull 1 rfl
    have hs_38 := hs_37.tail
    have hs_39 := hs_38.pull 1 rfl
    have hs_40 := hs_39.tail
    have hs_41 := hs_40.pull 1 rfl
    have hs_42 := hs_41.tail
    cases hp
    exact ⟨none, _, rfl, hs_42⟩
  · replace hp := ifp_f hc_27 hp
    refine st_loadA (Q := F13.Post F ro r) isN hs_26 agg24 siz24 rfl ?_
    refine st_agg (Q := F13.Post F ro r) (l := [.int .i64 r_17.1, .int .i64 r_17.2.1, .slice a_22 (r_17.2.2.1).length (r_17.2.2.1).length]) ?_
    refine st_cons (Q := F13.Post F ro r) ?_
    refine st_int (Q := F13.Post F ro r) ?_
    refine st_cons (Q := F13.Post F ro r) ?_
    refine st_int (Q := F13.Post F ro r) ?_
    refine st_cons (Q := F13.Post F ro r) ?_
    refine st_slice (Q := F13.Post F ro r) ?_
    refine st_nil (Q := F13.Post F ro r) ?_
    have hs_43 := hs_26.pull 2 rfl
    refine st_load (Q := F13.Post F ro r) isN hs_43 agg3 rfl ?_
    refine st_int (Q := F13.Post F ro r) ?_
    have hs_44 := hs_43.pull 4 rfl
    have hap_45 := (List.pairwise_cons.1 hs_44.apart).1
    refine st_storeA (Q := F13.Post F ro r) (vs := [.int .i64 r_17.1, .int .i64 r_17.2.1, .slice a_22 (r_17.2.2.1).length (r_17.2.2.1).length]) isN hs_44 siz24 rfl rfl rfl rfl fun h_46 hs_47 => ?_
    have ha_48 : apartB (touch (some (.pointer (some ⟨p8, 0, none⟩)))) (touch (some (.pointer (some ⟨h.next, 1, none⟩)))) = true := apartB_of (by first | rfl | exact touch_slice _ _ _) (by first | rfl | exact touch_slice _ _ _) (hap_45 _ (.head _) rfl)
    refine st_if (Q := F13.Post F ro r) (fun _ => ?_) (fun hf => absurd hf (by simp [ha_48]))
    have hc_49 := readCells_at (o := 0) (n := 3) (cs := [.int .i64 r_17.1, .int .i64 r_17.2.1, .slice a_22 (r_17.2.2.1).length (r_17.2.2.1).length]) hs_47 rfl
    refine st_res (Q := F13.Post F ro r) (show resVals _ _ _ _ = some [.agg #[.int .i64 r_17.1, .int .i64 r_17.2.1, .slice a_22 (r_17.2.2.1).length (r_17.2.2.1).length], .int .i64 r_17.2.2.2.1, .int .i64 r_17.2.2.2.2.2, .int .i64 0] from res_cellA ((EF_get (by decide)).trans rfl) agg24 siz24 hc_49 (res_tmp ((EF_get (by decide)).trans rfl) (res_tmp ((EF_get (by decide)).trans rfl) (res_tmp ((EF_get (by decide)).trans rfl) (res_nil))))) ?_
    have hs_50 := hs_47.tail
    have hs_51 := hs_50.tail
    have hs_52 := hs_51.tail
    have hs_53 := hs_52.pull 1 rfl
    have hs_54 := hs_53.tail
    cases hp
    exact ⟨a_22, _, rfl, hs_54⟩

def F13.p (lf : Nat) (xax0 : List Int) : Option (Int × Int × List Int × Int × Int × Int) :=
  ifp (decide ((xax0.length : Int) > 4194304)) (
    some (0, 0, [], 0, 0, 4)) (
    F13.J3p lf xax0 0 0)

theorem F13.t_ok {ora : Ora} (hora : HOra9 ora) {lf ro : Nat} {F : List Ent} {r : (Int × Int × List Int × Int × Int × Int)} (ax0 : Option Addr) (cx0 : Nat) (xax0 : List Int) (h : Heap) (hs : Sat ro h (.row ax0 cx0 (xax0.map (Value.int .u8)) :: F)) (hp : F13.p lf xax0 = some r) : F13.Post F ro r (F13.t (callW Tryd.prog ora) lf ro ax0 xax0.length cx0 h) := by
  unfold F13.t
  unfold F13.p at hp
  refine st_pushJ (Q := F13.Post F ro r) hs hs.low rfl fun h_1 _ hs_2 => ?_
  refine st_if (Q := F13.Post F ro r) (fun hc_3 => ?_) (fun hc_3 => ?_)
  · replace hp := ifp_t hc_3 hp
    refine st_storeA (Q := F13.Post F ro r) (vs := [.int .i64 0, .int .i64 0, .slice none 0 0]) isO hs_2 siz24 rfl rfl rfl rfl fun h_4 hs_5 => ?_
    have hc_6 := readCells_at (o := 0) (n := 3) (cs := [.int .i64 0, .int .i64 0, .slice none 0 0]) hs_5 rfl
    refine st_res (Q := F13.Post F ro r) (show resVals _ _ _ _ = some [.agg #[.int .i64 0, .int .i64 0, .slice none 0 0], .int .i64 0, .int .i64 0, .int .i64 4] from res_cellA ((EF_get (by decide)).trans rfl) agg24 siz24 hc_6 (res_tmp ((EF_get (by decide)).trans rfl) (res_tmp ((EF_get (by decide)).trans rfl) (res_tmp ((EF_get (by decide)).trans rfl) (res_nil))))) ?_
    have hs_7 := hs_5.nilOwn ro 1
    have hs_8 := hs_7.pull 1 rfl
    have hs_9 := hs_8.tail
    have hs_10 := hs_9.pull 1 rfl
    have hs_11 := hs_10.tail
    cases hp
    exact ⟨none, _, rfl, hs_11⟩
  · replace hp := ifp_f hc_3 hp
    have hs_55 := hs_2.pull 1 rfl
    exact F13.J3_ok hora ax0 _ xax0 h.next 0 0 _ hs_55 hp

theorem F13.ok {ora : Ora} (hora : HOra9 ora) {lf ro : Nat} {F : List Ent} {r : (Int × Int × List Int × Int × Int × Int)} (ax0 : Option Addr) (cx0 : Nat) (xax0 : List Int) (h : Heap) (hs : Sat ro h (.row ax0 cx0 (xax0.map (Value.int .u8)) :: F)) (hp : F13.p lf xax0 = some r) : F13.Post F ro r (callW Tryd.prog ora ro 13 [.slice ax0 xax0.length cx0] h) := by
  have h1 := F13.t_ok hora ax0 cx0 xax0 h hs hp
  have h2 : callW Tryd.prog ora ro 13 [.slice ax0 xax0.length cx0] h = _ := callW_body (hora.none _ _ _ _ (by decide)) Tryd.func13 (F13.le (callW Tryd.prog ora) lf ro ax0 xax0.length cx0 h) (F13.Post.ne h1)
  rw [h2]; exact h1

def F16.Post (F : List Ent) (ro : Nat) (r : (Bool)) (x : Out) : Prop := ∃ h', x = .ok (.bool r) h' ∧ Sat ro h' (F)
theorem F16.Post.ne {F : List Ent} {ro : Nat} {r : (Bool)} {x : Out} (hx : F16.Post F ro r x) : x ≠ .fail := by
  obtain ⟨h', rfl, _⟩ := hx
  simp

def F16.p (lf : Nat) (x0 : ByteArray) (x1 : Int) : Option (Bool) :=
  bindp (F13.p lf (bytp x0)) fun r_61 =>
  letJ (fun (b76 : Bool) => (
    some b76 : Option (Bool))) fun j78p =>
  ifp (r_61.2.2.2.2.2 == x1) (
    ifp (r_61.2.2.2.2.1 == 0) (
      ifp (r_61.2.2.2.1 == 0) (
        bindp (F15.p lf r_61.1 r_61.2.1 r_61.2.2.1 0 0 []) fun r_79 =>
        j78p r_79) (
        j78p false)) (
      j78p false)) (
    j78p false)

theorem F16.t_ok {ora : Ora} (hora : HOra9 ora) {lf ro : Nat} {F : List Ent} {r : (Bool)} (x0 : ByteArray) (x1 : Int) (h : Heap) (hs : Sat ro h (F)) (hp : F16.p lf x0 x1 = some r) : F16.Post F ro r (F16.t (callW Tryd.prog ora) lf ro x0 x1 h) := by
  unfold F16.t
  unfold F16.p at hp
  refine st_byt (Q := F16.Post F ro r) isO hs und9 und22 und5 fun a_56 h_57 hs_58 => ?_
  refine st_slice (Q := F16.Post F ro r) ?_
  have hs_59 := Sat.weakM (x := (bytp x0)) (f := (Value.int .u8)) hs_58
  have hs_60 := hs_59.dup
  obtain ⟨r_61, hx_62, hp⟩ := bindp_some hp
  obtain ⟨a_66, h_63, e_65, hs_64⟩ := F13.ok hora (ro := ro) (F := .row a_56 ((bytp x0).length) ((bytp x0).map (Value.int .u8)) :: F) a_56 ((bytp x0).length) (bytp x0) _ hs_60 hx_62
  refine st_ok (Q := F16.Post F ro r) isO e_65 ?_
  refine st_tup (Q := F16.Post F ro r) (l := [.agg #[.int .i64 r_61.1, .int .i64 r_61.2.1, .slice a_66 (r_61.2.2.1).length (r_61.2.2.1).length], .int .i64 r_61.2.2.2.1, .int .i64 r_61.2.2.2.2.1, .int .i64 r_61.2.2.2.2.2]) ?_
  refine st_cons (Q := F16.Post F ro r) ?_
  refine st_agg (Q := F16.Post F ro r) (l := [.int .i64 r_61.1, .int .i64 r_61.2.1, .slice a_66 (r_61.2.2.1).length (r_61.2.2.1).length]) ?_
  refine st_cons (Q := F16.Post F ro r) ?_
  refine st_int (Q := F16.Post F ro r) ?_
  refine st_cons (Q := F16.Post F ro r) ?_
  refine st_int (Q := F16.Post F ro r) ?_
  refine st_cons (Q := F16.Post F ro r) ?_
  refine st_slice (Q := F16.Post F ro r) ?_
  refine st_nil (Q := F16.Post F ro r) ?_
  refine st_cons (Q := F16.Post F ro r) ?_
  refine st_int (Q := F16.Post F ro r) ?_
  refine st_cons (Q := F16.Post F ro r) ?_
  refine st_int (Q := F16.Post F ro r) ?_
  refine st_cons (Q := F16.Post F ro r) ?_
  refine st_int (Q := F16.Post F ro r) ?_
  refine st_nil (Q := F16.Post F ro r) ?_
  refine st_pushJ (Q := F16.Post F ro r) hs_64 hs_64.low rfl fun h_67 _ hs_68 => ?_
  refine st_storeA (Q := F16.Post F ro r) (vs := [.int .i64 r_61.1, .int .i64 r_61.2.1, .slice a_66 (r_61.2.2.1).length (r_61.2.2.1).length]) isO hs_68 siz24 rfl rfl rfl rfl fun h_69 hs_70 => ?_
  refine st_letJ hp (fun j78p j78 => ∀ (b76 : Bool) (h_96 : Heap), Sat ro h_96 (F) → j78p b76 = some r → F16.Post F ro r (j78 b76 h_96)) ?_ ?_
  · intro b76 h_96 hs hp
    cases hp
    exact ⟨_, rfl, hs⟩
  · intro j78p j78 hj78 hp
    refine st_if (Q := F16.Post F ro r) (fun hc_71 => ?_) (fun hc_71 => ?_)
    · replace hp := ifp_t hc_71 hp
      refine st_if (Q := F16.Post F ro r) (fun hc_72 => ?_) (fun hc_72 => ?_)
      · replace hp := ifp_t hc_72 hp
        refine st_if (Q := F16.Post F ro r) (fun hc_73 => ?_) (fun hc_73 => ?_)
        · replace hp := ifp_t hc_73 hp
          refine st_loadA (Q := F16.Post F ro r) isO hs_70 agg24 siz24 rfl ?_
          refine st_agg (Q := F16.Post F ro r) (l := [.int .i64 r_61.1, .int .i64 r_61.2.1, .slice a_66 (r_61.2.2.1).length (r_61.2.2.1).length]) ?_
          refine st_cons (Q := F16.Post F ro r) ?_
          refine st_int (Q := F16.Post F ro r) ?_
          refine st_cons (Q := F16.Post F ro r) ?_
          refine st_int (Q := F16.Post F ro r) ?_
          refine st_cons (Q := F16.Post F ro r) ?_
          refine st_slice (Q := F16.Post F ro r) ?_
          refine st_nil (Q := F16.Post F ro r) ?_
          have hs_74 := hs_70.pull 1 rfl
          have hs_75 := Sat.weakM (x := r_61.2.2.1) (f := (Value.int .u8)) hs_74
          have hs_76 := hs_75.dup
          have hs_77 := hs_76.nilRow 0
          have hs_78 := hs_77.pull 1 rfl
          obtain ⟨r_79, hx_80, hp⟩ := bindp_some hp
          obtain ⟨h_81, e_83, hs_82⟩ := F15.ok hora.toHOra (ro := ro) (F := .row a_66 r_61.2.2.1.length (r_61.2.2.1.map (Value.int .u8)) :: .own ro (some ⟨h_63.next, 0, none⟩) 1 [.int .i64 r_61.1, .int .i64 r_61.2.1, .slice a_66 (r_61.2.2.1).length (r_61.2.2.1).length] :: .row a_56 ((bytp x0).length) ((bytp x0).map (Value.int .u8)) :: F) r_61.1 r_61.2.1 a_66 r_61.2.2.1.length r_61.2.2.1 0 0 none 0 [] _ hs_78 hx_80
          refine st_ok (Q := F16.Post F ro r) isO e_83 ?_
          refine st_bool (Q := F16.Post F ro r) ?_
          have hs_84 := hs_82.tail
          have hs_85 := hs_84.tail
          have hs_86 := hs_85.tail
          exact hj78 r_79 _ hs_86 hp
        · replace hp := ifp_f hc_73 hp
          have hs_87 := hs_70.tail
          have hs_88 := hs_87.tail
          have hs_89 := hs_88.tail
          exact hj78 false _ hs_89 hp
      · replace hp := ifp_f hc_72 hp
        have hs_90 := hs_70.tail
        have hs_91 := hs_90.tail
        have hs_92 := hs_91.tail
        exact hj78 false _ hs_92 hp
    · replace hp := ifp_f hc_71 hp
      have hs_93 := hs_70.tail
      have hs_94 := hs_93.tail
      have hs_95 := hs_94.tail
      exact hj78 false _ hs_95 hp

theorem F16.ok {ora : Ora} (hora : HOra9 ora) {lf ro : Nat} {F : List Ent} {r : (Bool)} (x0 : ByteArray) (x1 : Int) (h : Heap) (hs : Sat ro h (F)) (hp : F16.p lf x0 x1 = some r) : F16.Post F ro r (callW Tryd.prog ora ro 16 [.string x0, .int .i64 x1] h) := by
  have h1 := F16.t_ok hora x0 x1 h hs hp
  have h2 : callW Tryd.prog ora ro 16 [.string x0, .int .i64 x1] h = _ := callW_body (hora.none _ _ _ _ (by decide)) Tryd.func16 (F16.le (callW Tryd.prog ora) lf ro x0 x1 h) (F16.Post.ne h1)
  rw [h2]; exact h1

def F4.Post (F : List Ent) (ro : Nat) (r : (Bool)) (x : Out) : Prop := ∃ h', x = .ok (.bool r) h' ∧ Sat ro h' (F)
theorem F4.Post.ne {F : List Ent} {ro : Nat} {r : (Bool)} {x : Out} (hx : F4.Post F ro r x) : x ≠ .fail := by
  obtain ⟨h', rfl, _⟩ := hx
  simp

def F4.J4p (lf : Nat) (xa53 : List Int) (mp54_0 : Int) (mp54_1 : Int) (xp54_2 : List Int) (xa55 : List Int) (n56 : Int) : Option (Bool) :=
  bindp (F13.p lf xa55) fun r_136 =>
  bindp (appp 1 [] xa55) fun x_147 =>
  bindp (appp 1 x_147 xa53) fun x_154 =>
  bindp (F13.p lf x_154) fun r_163 =>
  letJ (fun (b238 : Bool) => (
    some b238 : Option (Bool))) fun j240p =>
  ifp (r_136.2.2.2.2.2 == 0) (
    ifp (r_136.2.2.2.1 == n56) (
      bindp (F14.p lf xa55 n56) fun r_177 =>
      ifp (r_136.2.2.2.2.1 == r_177) (
        bindp (F15.p lf r_136.1 r_136.2.1 r_136.2.2.1 mp54_0 mp54_1 xp54_2) fun r_191 =>
        ifp r_191 (
          ifp (r_163.2.2.2.2.2 == 0) (
            ifp (r_163.2.2.2.1 == n56) (
              ifp (r_163.2.2.2.2.1 == r_136.2.2.2.2.1) (
                bindp (F15.p lf r_163.1 r_163.2.1 r_163.2.2.1 mp54_0 mp54_1 xp54_2) fun r_208 =>
                ifp r_208 (
                  bindp (F9.p lf) fun r_214 =>
                  j240p r_214) (
                  j240p false)) (
                j240p false)) (
              j240p false)) (
            j240p false)) (
          j240p false)) (
        j240p false)) (
      j240p false)) (
    j240p false)

theorem F4.J4_ok {ora : Ora} (hora : HOra9 ora) {lf ro : Nat} {F : List Ent} {r : (Bool)} (a53 : Option Addr) (c53 : Nat) (xa53 : List Int) (p54 : Nat) (mp54_0 : Int) (mp54_1 : Int) (ap54_2 : Option Addr) (cp54_2 : Nat) (xp54_2 : List Int) (a55 : Option Addr) (xa55 : List Int) (n56 : Int) (h : Heap) (hs : Sat ro h (.row a53 c53 (xa53.map (Value.int .u8)) :: .own ro (some ⟨p54, 0, none⟩) 1 [.int .i64 mp54_0, .int .i64 mp54_1, .slice ap54_2 xp54_2.length cp54_2] :: .row ap54_2 cp54_2 (xp54_2.map (Value.int .u8)) :: .own ro a55 1 (xa55.map (Value.int .u8)) :: .row (some ⟨0, 0, none⟩) 20 (gl0.map (Value.int .u64)) :: F)) (hp : F4.J4p lf xa53 mp54_0 mp54_1 xp54_2 xa55 n56 = some r) : F4.Post F ro r (F4.J4 (callW Tryd.prog ora) lf ro a53 xa53.length c53 p54 0 a55 xa55.length xa55.length n56 h) := by
  unfold F4.J4
  unfold F4.J4p at hp
  have hs_133 := hs.pull 3 rfl
  have hs_134 := Sat.weakM (x := xa55) (f := (Value.int .u8)) hs_133
  have hs_135 := hs_134.dup
  obtain ⟨r_136, hx_137, hp⟩ := bindp_some hp
  obtain ⟨a_141, h_138, e_140, hs_139⟩ := F13.ok hora (ro := ro) (F := .row a55 xa55.length (xa55.map (Value.int .u8)) :: .row a53 c53 (xa53.map (Value.int .u8)) :: .own ro (some ⟨p54, 0, none⟩) 1 [.int .i64 mp54_0, .int .i64 mp54_1, .slice ap54_2 xp54_2.length cp54_2] :: .row ap54_2 cp54_2 (xp54_2.map (Value.int .u8)) :: .row (some ⟨0, 0, none⟩) 20 (gl0.map (Value.int .u64)) :: F) a55 xa55.length xa55 _ hs_135 hx_137
  refine st_ok (Q := F4.Post F ro r) isO e_140 ?_
  refine st_tup (Q := F4.Post F ro r) (l := [.agg #[.int .i64 r_136.1, .int .i64 r_136.2.1, .slice a_141 (r_136.2.2.1).length (r_136.2.2.1).length], .int .i64 r_136.2.2.2.1, .int .i64 r_136.2.2.2.2.1, .int .i64 r_136.2.2.2.2.2]) ?_
  refine st_cons (Q := F4.Post F ro r) ?_
  refine st_agg (Q := F4.Post F ro r) (l := [.int .i64 r_136.1, .int .i64 r_136.2.1, .slice a_141 (r_136.2.2.1).length (r_136.2.2.1).length]) ?_
  refine st_cons (Q := F4.Post F ro r) ?_
  refine st_int (Q := F4.Post F ro r) ?_
  refine st_cons (Q := F4.Post F ro r) ?_
  refine st_int (Q := F4.Post F ro r) ?_
  refine st_cons (Q := F4.Post F ro r) ?_
  refine st_slice (Q := F4.Post F ro r) ?_
  refine st_nil (Q := F4.Post F ro r) ?_
  refine st_cons (Q := F4.Post F ro r) ?_
  refine st_int (Q := F4.Post F ro r) ?_
  refine st_cons (Q := F4.Post F ro r) ?_
  refine st_int (Q := F4.Post F ro r) ?_
  refine st_cons (Q := F4.Post F ro r) ?_
  refine st_int (Q := F4.Post F ro r) ?_
  refine st_nil (Q := F4.Post F ro r) ?_
  refine st_pushJ (Q := F4.Post F ro r) hs_139 hs_139.low rfl fun h_142 _ hs_143 => ?_
  refine st_storeA (Q := F4.Post F ro r) (vs := [.int .i64 r_136.1, .int .i64 r_136.2.1, .slice a_141 (r_136.2.2.1).length (r_136.2.2.1).length]) isO hs_143 siz24 rfl rfl rfl rfl fun h_144 hs_145 => ?_
  have hs_146 := hs_145.nilOwn ro 1
  have hs_152 := hs_146.pull 3 rfl
  have hs_153 := hs_152.pull 1 rfl
  obtain ⟨x_147, hx_148, hp⟩ := bindp_some hp
  refine st_appR (Q := F4.Post F ro r) isO (l := []) (x := xa55) (f := (Value.int .u8)) hs_153 und22 und22 one5 rfl rfl rfl hx_148 fun a_149 h_150 hs_151 => ?_
  refine st_slice (Q := F4.Post F ro r) ?_
  have hs_159 := hs_151.pull 4 rfl
  have hs_160 := hs_159.pull 1 rfl
  obtain ⟨x_154, hx_155, hp⟩ := bindp_some hp
  refine st_appR (Q := F4.Post F ro r) isO (l := x_147) (x := xa53) (f := (Value.int .u8)) hs_160 und22 und22 one5 rfl rfl rfl hx_155 fun a_156 h_157 hs_158 => ?_
  refine st_slice (Q := F4.Post F ro r) ?_
  have hs_161 := Sat.weakM (x := x_154) (f := (Value.int .u8)) hs_158
  have hs_162 := hs_161.dup
  obtain ⟨r_163, hx_164, hp⟩ := bindp_some hp
  obtain ⟨a_168, h_165, e_167, hs_166⟩ := F13.ok hora (ro := ro) (F := .row a_156 x_154.length (x_154.map (Value.int .u8)) :: .row a53 c53 (xa53.map (Value.int .u8)) :: .row a55 xa55.length (xa55.map (Value.int .u8)) :: .own ro (some ⟨h_138.next, 0, none⟩) 1 [.int .i64 r_136.1, .int .i64 r_136.2.1, .slice a_141 (r_136.2.2.1).length (r_136.2.2.1).length] :: .own ro a_141 1 (r_136.2.2.1.map (Value.int .u8)) :: .own ro (some ⟨p54, 0, none⟩) 1 [.int .i64 mp54_0, .int .i64 mp54_1, .slice ap54_2 xp54_2.length cp54_2] :: .row ap54_2 cp54_2 (xp54_2.map (Value.int .u8)) :: .row (some ⟨0, 0, none⟩) 20 (gl0.map (Value.int .u64)) :: F) a_156 x_154.length x_154 _ hs_162 hx_164
  refine st_ok (Q := F4.Post F ro r) isO e_167 ?_
  refine st_tup (Q := F4.Post F ro r) (l := [.agg #[.int .i64 r_163.1, .int .i64 r_163.2.1, .slice a_168 (r_163.2.2.1).length (r_163.2.2.1).length], .int .i64 r_163.2.2.2.1, .int .i64 r_163.2.2.2.2.1, .int .i64 r_163.2.2.2.2.2]) ?_
  refine st_cons (Q := F4.Post F ro r) ?_
  refine st_agg (Q := F4.Post F ro r) (l := [.int .i64 r_163.1, .int .i64 r_163.2.1, .slice a_168 (r_163.2.2.1).length (r_163.2.2.1).length]) ?_
  refine st_cons (Q := F4.Post F ro r) ?_
  refine st_int (Q := F4.Post F ro r) ?_
  refine st_cons (Q := F4.Post F ro r) ?_
  refine st_int (Q := F4.Post F ro r) ?_
  refine st_cons (Q := F4.Post F ro r) ?_
  refine st_slice (Q := F4.Post F ro r) ?_
  refine st_nil (Q := F4.Post F ro r) ?_
  refine st_cons (Q := F4.Post F ro r) ?_
  refine st_int (Q := F4.Post F ro r) ?_
  refine st_cons (Q := F4.Post F ro r) ?_
  refine st_int (Q := F4.Post F ro r) ?_
  refine st_cons (Q := F4.Post F ro r) ?_
  refine st_int (Q := F4.Post F ro r) ?_
  refine st_nil (Q := F4.Post F ro r) ?_
  refine st_pushJ (Q := F4.Post F ro r) hs_166 hs_166.low rfl fun h_169 _ hs_170 => ?_
  refine st_storeA (Q := F4.Post F ro r) (vs := [.int .i64 r_163.1, .int .i64 r_163.2.1, .slice a_168 (r_163.2.2.1).length (r_163.2.2.1).length]) isO hs_170 siz24 rfl rfl rfl rfl fun h_171 hs_172 => ?_
  refine st_letJ hp (fun j240p j240 => ∀ (b238 : Bool) (h_300 : Heap), Sat ro h_300 (.row (some ⟨0, 0, none⟩) 20 (gl0.map (Value.int .u64)) :: F) → j240p b238 = some r → F4.Post F ro r (j240 b238 h_300)) ?_ ?_
  · intro b238 h_300 hs hp
    have hs_301 := hs.tail
    cases hp
    exact ⟨_, rfl, hs_301⟩
  · intro j240p j240 hj240 hp
    refine st_if (Q := F4.Post F ro r) (fun hc_173 => ?_) (fun hc_173 => ?_)
    · replace hp := ifp_t hc_173 hp
      refine st_if (Q := F4.Post F ro r) (fun hc_174 => ?_) (fun hc_174 => ?_)
      · replace hp := ifp_t hc_174 hp
        have hs_175 := hs_172.pull 4 rfl
        have hs_176 := hs_175.dup
        obtain ⟨r_177, hx_178, hp⟩ := bindp_some hp
        obtain ⟨h_179, e_181, hs_180⟩ := F14.ok hora.toHOra (ro := ro) (F := .row a55 xa55.length (xa55.map (Value.int .u8)) :: .own ro (some ⟨h_165.next, 0, none⟩) 1 [.int .i64 r_163.1, .int .i64 r_163.2.1, .slice a_168 (r_163.2.2.1).length (r_163.2.2.1).length] :: .own ro a_168 1 (r_163.2.2.1.map (Value.int .u8)) :: .row a_156 x_154.length (x_154.map (Value.int .u8)) :: .row a53 c53 (xa53.map (Value.int .u8)) :: .own ro (some ⟨h_138.next, 0, none⟩) 1 [.int .i64 r_136.1, .int .i64 r_136.2.1, .slice a_141 (r_136.2.2.1).length (r_136.2.2.1).length] :: .own ro a_141 1 (r_136.2.2.1.map (Value.int .u8)) :: .own ro (some ⟨p54, 0, none⟩) 1 [.int .i64 mp54_0, .int .i64 mp54_1, .slice ap54_2 xp54_2.length cp54_2] :: .row ap54_2 cp54_2 (xp54_2.map (Value.int .u8)) :: .row (some ⟨0, 0, none⟩) 20 (gl0.map (Value.int .u64)) :: F) a55 xa55.length xa55 n56 _ hs_176 hx_178
        refine st_ok (Q := F4.Post F ro r) isO e_181 ?_
        refine st_int (Q := F4.Post F ro r) ?_
        refine st_if (Q := F4.Post F ro r) (fun hc_182 => ?_) (fun hc_182 => ?_)
        · replace hp := ifp_t hc_182 hp
          have hs_183 := hs_180.pull 5 rfl
          refine st_loadA (Q := F4.Post F ro r) isO hs_183 agg24 siz24 rfl ?_
          refine st_agg (Q := F4.Post F ro r) (l := [.int .i64 r_136.1, .int .i64 r_136.2.1, .slice a_141 (r_136.2.2.1).length (r_136.2.2.1).length]) ?_
          refine st_cons (Q := F4.Post F ro r) ?_
          refine st_int (Q := F4.Post F ro r) ?_
          refine st_cons (Q := F4.Post F ro r) ?_
          refine st_int (Q := F4.Post F ro r) ?_
          refine st_cons (Q := F4.Post F ro r) ?_
          refine st_slice (Q := F4.Post F ro r) ?_
          refine st_nil (Q := F4.Post F ro r) ?_
          have hs_184 := hs_183.pull 7 rfl
          refine st_loadA (Q := F4.Post F ro r) isO hs_184 agg24 siz24 rfl ?_
          refine st_agg (Q := F4.Post F ro r) (l := [.int .i64 mp54_0, .int .i64 mp54_1, .slice ap54_2 xp54_2.length cp54_2]) ?_
          refine st_cons (Q := F4.Post F ro r) ?_
          refine st_int (Q := F4.Post F ro r) ?_
          refine st_cons (Q := F4.Post F ro r) ?_
          refine st_int (Q := F4.Post F ro r) ?_
          refine st_cons (Q := F4.Post F ro r) ?_
          refine st_slice (Q := F4.Post F ro r) ?_
          refine st_nil (Q := F4.Post F ro r) ?_
          have hs_185 := hs_184.pull 7 rfl
          have hs_186 := Sat.weakM (x := r_136.2.2.1) (f := (Value.int .u8)) hs_185
          have hs_187 := hs_186.dup
          have hs_188 := hs_187.pull 9 rfl
          have hs_189 := hs_188.dup
          have hs_190 := hs_189.pull 2 rfl
          obtain ⟨r_191, hx_192, hp⟩ := bindp_some hp
          obtain ⟨h_193, e_195, hs_194⟩ := F15.ok hora.toHOra (ro := ro) (F := .row ap54_2 cp54_2 (xp54_2.map (Value.int .u8)) :: .row a_141 r_136.2.2.1.length (r_136.2.2.1.map (Value.int .u8)) :: .own ro (some ⟨p54, 0, none⟩) 1 [.int .i64 mp54_0, .int .i64 mp54_1, .slice ap54_2 xp54_2.length cp54_2] :: .own ro (some ⟨h_138.next, 0, none⟩) 1 [.int .i64 r_136.1, .int .i64 r_136.2.1, .slice a_141 (r_136.2.2.1).length (r_136.2.2.1).length] :: .row a55 xa55.length (xa55.map (Value.int .u8)) :: .own ro (some ⟨h_165.next, 0, none⟩) 1 [.int .i64 r_163.1, .int .i64 r_163.2.1, .slice a_168 (r_163.2.2.1).length (r_163.2.2.1).length] :: .own ro a_168 1 (r_163.2.2.1.map (Value.int .u8)) :: .row a_156 x_154.length (x_154.map (Value.int .u8)) :: .row a53 c53 (xa53.map (Value.int .u8)) :: .row (some ⟨0, 0, none⟩) 20 (gl0.map (Value.int .u64)) :: F) r_136.1 r_136.2.1 a_141 r_136.2.2.1.length r_136.2.2.1 mp54_0 mp54_1 ap54_2 cp54_2 xp54_2 _ hs_190 hx_192
          refine st_ok (Q := F4.Post F ro r) isO e_195 ?_
          refine st_bool (Q := F4.Post F ro r) ?_
          refine st_if (Q := F4.Post F ro r) (fun hc_196 => ?_) (fun hc_196 => ?_)
          · replace hp := ifp_t hc_196 hp
            refine st_if (Q := F4.Post F ro r) (fun hc_197 => ?_) (fun hc_197 => ?_)
            · replace hp := ifp_t hc_197 hp
              refine st_if (Q := F4.Post F ro r) (fun hc_198 => ?_) (fun hc_198 => ?_)
              · replace hp := ifp_t hc_198 hp
                refine st_if (Q := F4.Post F ro r) (fun hc_199 => ?_) (fun hc_199 => ?_)
                · replace hp := ifp_t hc_199 hp
                  have hs_200 := hs_194.pull 5 rfl
                  refine st_loadA (Q := F4.Post F ro r) isO hs_200 agg24 siz24 rfl ?_
                  refine st_agg (Q := F4.Post F ro r) (l := [.int .i64 r_163.1, .int .i64 r_163.2.1, .slice a_168 (r_163.2.2.1).length (r_163.2.2.1).length]) ?_
                  refine st_cons (Q := F4.Post F ro r) ?_
                  refine st_int (Q := F4.Post F ro r) ?_
                  refine st_cons (Q := F4.Post F ro r) ?_
                  refine st_int (Q := F4.Post F ro r) ?_
                  refine st_cons (Q := F4.Post F ro r) ?_
                  refine st_slice (Q := F4.Post F ro r) ?_
                  refine st_nil (Q := F4.Post F ro r) ?_
                  have hs_201 := hs_200.pull 3 rfl
                  refine st_loadA (Q := F4.Post F ro r) isO hs_201 agg24 siz24 rfl ?_
                  refine st_agg (Q := F4.Post F ro r) (l := [.int .i64 mp54_0, .int .i64 mp54_1, .slice ap54_2 xp54_2.length cp54_2]) ?_
                  refine st_cons (Q := F4.Post F ro r) ?_
                  refine st_int (Q := F4.Post F ro r) ?_
                  refine st_cons (Q := F4.Post F ro r) ?_
                  refine st_int (Q := F4.Post F ro r) ?_
                  refine st_cons (Q := F4.Post F ro r) ?_
                  refine st_slice (Q := F4.Post F ro r) ?_
                  refine st_nil (Q := F4.Post F ro r) ?_
                  have hs_202 := hs_201.pull 6 rfl
                  have hs_203 := Sat.weakM (x := r_163.2.2.1) (f := (Value.int .u8)) hs_202
                  have hs_204 := hs_203.dup
                  have hs_205 := hs_204.pull 4 rfl
                  have hs_206 := hs_205.dup
                  have hs_207 := hs_206.pull 2 rfl
                  obtain ⟨r_208, hx_209, hp⟩ := bindp_some hp
                  obtain ⟨h_210, e_212, hs_211⟩ := F15.ok hora.toHOra (ro := ro) (F := .row ap54_2 cp54_2 (xp54_2.map (Value.int .u8)) :: .row a_168 r_163.2.2.1.length (r_163.2.2.1.map (Value.int .u8)) :: .own ro (some ⟨p54, 0, none⟩) 1 [.int .i64 mp54_0, .int .i64 mp54_1, .slice ap54_2 xp54_2.length cp54_2] :: .own ro (some ⟨h_165.next, 0, none⟩) 1 [.int .i64 r_163.1, .int .i64 r_163.2.1, .slice a_168 (r_163.2.2.1).length (r_163.2.2.1).length] :: .row a_141 r_136.2.2.1.length (r_136.2.2.1.map (Value.int .u8)) :: .own ro (some ⟨h_138.next, 0, none⟩) 1 [.int .i64 r_136.1, .int .i64 r_136.2.1, .slice a_141 (r_136.2.2.1).length (r_136.2.2.1).length] :: .row a55 xa55.length (xa55.map (Value.int .u8)) :: .row a_156 x_154.length (x_154.map (Value.int .u8)) :: .row a53 c53 (xa53.map (Value.int .u8)) :: .row (some ⟨0, 0, none⟩) 20 (gl0.map (Value.int .u64)) :: F) r_163.1 r_163.2.1 a_168 r_163.2.2.1.length r_163.2.2.1 mp54_0 mp54_1 ap54_2 cp54_2 xp54_2 _ hs_207 hx_209
                  refine st_ok (Q := F4.Post F ro r) isO e_212 ?_
                  refine st_bool (Q := F4.Post F ro r) ?_
                  refine st_if (Q := F4.Post F ro r) (fun hc_213 => ?_) (fun hc_213 => ?_)
                  · replace hp := ifp_t hc_213 hp
                    obtain ⟨r_214, hx_215, hp⟩ := bindp_some hp
                    obtain ⟨h_216, e_218, hs_217⟩ := F9.ok hora (ro := ro) (F := .row ap54_2 cp54_2 (xp54_2.map (Value.int .u8)) :: .row a_168 r_163.2.2.1.length (r_163.2.2.1.map (Value.int .u8)) :: .own ro (some ⟨p54, 0, none⟩) 1 [.int .i64 mp54_0, .int .i64 mp54_1, .slice ap54_2 xp54_2.length cp54_2] :: .own ro (some ⟨h_165.next, 0, none⟩) 1 [.int .i64 r_163.1, .int .i64 r_163.2.1, .slice a_168 (r_163.2.2.1).length (r_163.2.2.1).length] :: .row a_141 r_136.2.2.1.length (r_136.2.2.1.map (Value.int .u8)) :: .own ro (some ⟨h_138.next, 0, none⟩) 1 [.int .i64 r_136.1, .int .i64 r_136.2.1, .slice a_141 (r_136.2.2.1).length (r_136.2.2.1).length] :: .row a55 xa55.length (xa55.map (Value.int .u8)) :: .row a_156 x_154.length (x_154.map (Value.int .u8)) :: .row a53 c53 (xa53.map (Value.int .u8)) :: .row (some ⟨0, 0, none⟩) 20 (gl0.map (Value.int .u64)) :: F)  _ hs_211 hx_215
                    refine st_ok (Q := F4.Post F ro r) isO e_218 ?_
                    refine st_bool (Q := F4.Post F ro r) ?_
                    have hs_219 := hs_217.tail
                    have hs_220 := hs_219.tail
                    have hs_221 := hs_220.tail
                    have hs_222 := hs_221.tail
                    have hs_223 := hs_222.tail
                    have hs_224 := hs_223.tail
                    have hs_225 := hs_224.tail
                    have hs_226 := hs_225.tail
                    have hs_227 := hs_226.tail
                    exact hj240 r_214 _ hs_227 hp
                  · replace hp := ifp_f hc_213 hp
                    have hs_228 := hs_211.tail
                    have hs_229 := hs_228.tail
                    have hs_230 := hs_229.tail
                    have hs_231 := hs_230.tail
                    have hs_232 := hs_231.tail
                    have hs_233 := hs_232.tail
                    have hs_234 := hs_233.tail
                    have hs_235 := hs_234.tail
                    have hs_236 := hs_235.tail
                    exact hj240 false _ hs_236 hp
                · replace hp := ifp_f hc_199 hp
                  have hs_237 := hs_194.tail
                  have hs_238 := hs_237.tail
                  have hs_239 := hs_238.tail
                  have hs_240 := hs_239.tail
                  have hs_241 := hs_240.tail
                  have hs_242 := hs_241.tail
                  have hs_243 := hs_242.tail
                  have hs_244 := hs_243.tail
                  have hs_245 := hs_244.tail
                  exact hj240 false _ hs_245 hp
              · replace hp := ifp_f hc_198 hp
                have hs_246 := hs_194.tail
                have hs_247 := hs_246.tail
                have hs_248 := hs_247.tail
                have hs_249 := hs_248.tail
                have hs_250 := hs_249.tail
                have hs_251 := hs_250.tail
                have hs_252 := hs_251.tail
                have hs_253 := hs_252.tail
                have hs_254 := hs_253.tail
                exact hj240 false _ hs_254 hp
            · replace hp := ifp_f hc_197 hp
              have hs_255 := hs_194.tail
              have hs_256 := hs_255.tail
              have hs_257 := hs_256.tail
              have hs_258 := hs_257.tail
              have hs_259 := hs_258.tail
              have hs_260 := hs_259.tail
              have hs_261 := hs_260.tail
              have hs_262 := hs_261.tail
              have hs_263 := hs_262.tail
              exact hj240 false _ hs_263 hp
          · replace hp := ifp_f hc_196 hp
            have hs_264 := hs_194.tail
            have hs_265 := hs_264.tail
            have hs_266 := hs_265.tail
            have hs_267 := hs_266.tail
            have hs_268 := hs_267.tail
            have hs_269 := hs_268.tail
            have hs_270 := hs_269.tail
            have hs_271 := hs_270.tail
            have hs_272 := hs_271.tail
            exact hj240 false _ hs_272 hp
        · replace hp := ifp_f hc_182 hp
          have hs_273 := hs_180.tail
          have hs_274 := hs_273.tail
          have hs_275 := hs_274.tail
          have hs_276 := hs_275.tail
          have hs_277 := hs_276.tail
          have hs_278 := hs_277.tail
          have hs_279 := hs_278.tail
          have hs_280 := hs_279.tail
          have hs_281 := hs_280.tail
          exact hj240 false _ hs_281 hp
      · replace hp := ifp_f hc_174 hp
        have hs_282 := hs_172.tail
        have hs_283 := hs_282.tail
        have hs_284 := hs_283.tail
        have hs_285 := hs_284.tail
        have hs_286 := hs_285.tail
        have hs_287 := hs_286.tail
        have hs_288 := hs_287.tail
        have hs_289 := hs_288.tail
        have hs_290 := hs_289.tail
        exact hj240 false _ hs_290 hp
    · replace hp := ifp_f hc_173 hp
      have hs_291 := hs_172.tail
      have hs_292 := hs_291.tail
      have hs_293 := hs_292.tail
      have hs_294 := hs_293.tail
      have hs_295 := hs_294.tail
      have hs_296 := hs_295.tail
      have hs_297 := hs_296.tail
      have hs_298 := hs_297.tail
      have hs_299 := hs_298.tail
      exact hj240 false _ hs_299 hp

def F4.p (lf : Nat) (x0_0 : Int) (x0_1 : Int) (xax0_2 : List Int) (x1 : Int) (xax2 : List Int) : Option (Bool) :=
  bindp (F12.p lf x0_0 x0_1 xax0_2 x1) fun r_104 =>
  letJ (fun (b45 : Bool) => (
    ifp b45 (
      bindp (F9.p lf) fun r_123 =>
      some r_123) (
      F4.J4p lf xax2 x0_0 x0_1 xax0_2 r_104.1 r_104.2) : Option (Bool))) fun j46p =>
  ifp (((r_104.1).length : Int) == 0) (
    j46p true) (
    j46p (decide ((xax2.length : Int) > 2000)))

theorem F4.t_ok {ora : Ora} (hora : HOra9 ora) {lf ro : Nat} {F : List Ent} {r : (Bool)} (x0_0 : Int) (x0_1 : Int) (ax0_2 : Option Addr) (cx0_2 : Nat) (xax0_2 : List Int) (x1 : Int) (ax2 : Option Addr) (cx2 : Nat) (xax2 : List Int) (h : Heap) (hs : Sat ro h (.row ax0_2 cx0_2 (xax0_2.map (Value.int .u8)) :: .row ax2 cx2 (xax2.map (Value.int .u8)) :: .row (some ⟨0, 0, none⟩) 20 (gl0.map (Value.int .u64)) :: F)) (hp : F4.p lf x0_0 x0_1 xax0_2 x1 xax2 = some r) : F4.Post F ro r (F4.t (callW Tryd.prog ora) lf ro x0_0 x0_1 ax0_2 xax0_2.length cx0_2 x1 ax2 xax2.length cx2 h) := by
  unfold F4.t
  unfold F4.p at hp
  refine st_pushJ (Q := F4.Post F ro r) hs hs.low rfl fun h_97 _ hs_98 => ?_
  refine st_loadA (Q := F4.Post F ro r) isO hs_98 agg24 siz24 rfl ?_
  refine st_agg (Q := F4.Post F ro r) (l := [.int .i64 x0_0, .int .i64 x0_1, .slice ax0_2 xax0_2.length cx0_2]) ?_
  refine st_cons (Q := F4.Post F ro r) ?_
  refine st_int (Q := F4.Post F ro r) ?_
  refine st_cons (Q := F4.Post F ro r) ?_
  refine st_int (Q := F4.Post F ro r) ?_
  refine st_cons (Q := F4.Post F ro r) ?_
  refine st_slice (Q := F4.Post F ro r) ?_
  refine st_nil (Q := F4.Post F ro r) ?_
  have hs_99 := hs_98.pull 1 rfl
  have hs_100 := hs_99.dup
  have hs_101 := hs_100.pull 4 rfl
  have hs_102 := hs_101.dup
  have hs_103 := hs_102.pull 2 rfl
  obtain ⟨r_104, hx_105, hp⟩ := bindp_some hp
  obtain ⟨a_109, h_106, e_108, hs_107⟩ := F12.ok hora.toHOra (ro := ro) (F := .row (some ⟨0, 0, none⟩) 20 (gl0.map (Value.int .u64)) :: .row ax0_2 cx0_2 (xax0_2.map (Value.int .u8)) :: .own ro (some ⟨h.next, 0, none⟩) 1 [.int .i64 x0_0, .int .i64 x0_1, .slice ax0_2 xax0_2.length cx0_2] :: .row ax2 cx2 (xax2.map (Value.int .u8)) :: F) x0_0 x0_1 ax0_2 cx0_2 xax0_2 x1 _ hs_103 hx_105
  refine st_ok (Q := F4.Post F ro r) isO e_108 ?_
  refine st_tup (Q := F4.Post F ro r) (l := [.slice a_109 (r_104.1).length (r_104.1).length, .int .i64 r_104.2]) ?_
  refine st_cons (Q := F4.Post F ro r) ?_
  refine st_slice (Q := F4.Post F ro r) ?_
  refine st_cons (Q := F4.Post F ro r) ?_
  refine st_int (Q := F4.Post F ro r) ?_
  refine st_nil (Q := F4.Post F ro r) ?_
  refine st_letJ hp (fun j46p j46 => ∀ (b45 : Bool), Sat ro h_106 (.own ro a_109 1 (r_104.1.map (Value.int .u8)) :: .row (some ⟨0, 0, none⟩) 20 (gl0.map (Value.int .u64)) :: .row ax0_2 cx0_2 (xax0_2.map (Value.int .u8)) :: .own ro (some ⟨h.next, 0, none⟩) 1 [.int .i64 x0_0, .int .i64 x0_1, .slice ax0_2 xax0_2.length cx0_2] :: .row ax2 cx2 (xax2.map (Value.int .u8)) :: F) → j46p b45 = some r → F4.Post F ro r (j46 b45)) ?_ ?_
  · intro b45 hs hp
    refine st_if (Q := F4.Post F ro r) (fun hc_122 => ?_) (fun hc_122 => ?_)
    · replace hp := ifp_t hc_122 hp
      obtain ⟨r_123, hx_124, hp⟩ := bindp_some hp
      obtain ⟨h_125, e_127, hs_126⟩ := F9.ok hora (ro := ro) (F := .own ro a_109 1 (r_104.1.map (Value.int .u8)) :: .row (some ⟨0, 0, none⟩) 20 (gl0.map (Value.int .u64)) :: .row ax0_2 cx0_2 (xax0_2.map (Value.int .u8)) :: .own ro (some ⟨h.next, 0, none⟩) 1 [.int .i64 x0_0, .int .i64 x0_1, .slice ax0_2 xax0_2.length cx0_2] :: .row ax2 cx2 (xax2.map (Value.int .u8)) :: F)  _ hs hx_124
      refine st_ok (Q := F4.Post F ro r) isO e_127 ?_
      refine st_bool (Q := F4.Post F ro r) ?_
      have hs_128 := hs_126.tail
      have hs_129 := hs_128.tail
      have hs_130 := hs_129.tail
      have hs_131 := hs_130.tail
      have hs_132 := hs_131.tail
      cases hp
      exact ⟨_, rfl, hs_132⟩
    · replace hp := ifp_f hc_122 hp
      have hs_302 := hs.pull 1 rfl
      have hs_303 := hs_302.pull 1 rfl
      have hs_304 := hs_303.pull 2 rfl
      have hs_305 := hs_304.pull 3 rfl
      have hs_306 := hs_305.pull 4 rfl
      exact F4.J4_ok hora ax2 _ xax2 h.next x0_0 x0_1 ax0_2 _ xax0_2 a_109 r_104.1 r_104.2 _ hs_306 hp
  · intro j46p j46 hj46 hp
    refine st_if (Q := F4.Post F ro r) (fun hc_110 => ?_) (fun hc_110 => ?_)
    · replace hp := ifp_t hc_110 hp
      have hs_111 := hs_107.pull 4 rfl
      have hs_112 := hs_111.pull 4 rfl
      have hs_113 := hs_112.pull 4 rfl
      have hs_114 := hs_113.pull 4 rfl
      have hs_115 := hs_114.pull 4 rfl
      exact hj46 true hs_115 hp
    · replace hp := ifp_f hc_110 hp
      have hs_116 := hs_107.pull 4 rfl
      have hs_117 := hs_116.pull 4 rfl
      have hs_118 := hs_117.pull 4 rfl
      have hs_119 := hs_118.pull 4 rfl
      have hs_120 := hs_119.pull 4 rfl
      exact hj46 (decide ((xax2.length : Int) > 2000)) hs_120 hp

theorem F4.ok {ora : Ora} (hora : HOra9 ora) {lf ro : Nat} {F : List Ent} {r : (Bool)} (x0_0 : Int) (x0_1 : Int) (ax0_2 : Option Addr) (cx0_2 : Nat) (xax0_2 : List Int) (x1 : Int) (ax2 : Option Addr) (cx2 : Nat) (xax2 : List Int) (h : Heap) (hs : Sat ro h (.row ax0_2 cx0_2 (xax0_2.map (Value.int .u8)) :: .row ax2 cx2 (xax2.map (Value.int .u8)) :: .row (some ⟨0, 0, none⟩) 20 (gl0.map (Value.int .u64)) :: F)) (hp : F4.p lf x0_0 x0_1 xax0_2 x1 xax2 = some r) : F4.Post F ro r (callW Tryd.prog ora ro 4 [.agg #[.int .i64 x0_0, .int .i64 x0_1, .slice ax0_2 xax0_2.length cx0_2], .int .u8 x1, .slice ax2 xax2.length cx2] h) := by
  have h1 := F4.t_ok hora x0_0 x0_1 ax0_2 cx0_2 xax0_2 x1 ax2 cx2 xax2 h hs hp
  have h2 : callW Tryd.prog ora ro 4 [.agg #[.int .i64 x0_0, .int .i64 x0_1, .slice ax0_2 xax0_2.length cx0_2], .int .u8 x1, .slice ax2 xax2.length cx2] h = _ := callW_body (hora.none _ _ _ _ (by decide)) Tryd.func4 (F4.le (callW Tryd.prog ora) lf ro x0_0 x0_1 ax0_2 xax0_2.length cx0_2 x1 ax2 xax2.length cx2 h) (F4.Post.ne h1)
  rw [h2]; exact h1

def F5.Post (F : List Ent) (ro : Nat) (r : (Bool)) (x : Out) : Prop := ∃ h', x = .ok (.bool r) h' ∧ Sat ro h' (F)
theorem F5.Post.ne {F : List Ent} {ro : Nat} {r : (Bool)} {x : Out} (hx : F5.Post F ro r x) : x ≠ .fail := by
  obtain ⟨h', rfl, _⟩ := hx
  simp

def F5.J8p (lf : Nat) (xa69 : List Int) (n70 : Int) (n71 : Int) : Option (Bool) :=
  letJ (fun (b85 : Bool) => (
    some b85 : Option (Bool))) fun j87p =>
  bindp (subp xa69 0 n70) fun x_352 =>
  bindp (F16.p lf (strp x_352) n71) fun r_357 =>
  ifp r_357 (
    bindp (F9.p lf) fun r_363 =>
    j87p r_363) (
    j87p false)

theorem F5.J8_ok {ora : Ora} (hora : HOra9 ora) {lf ro : Nat} {F : List Ent} {r : (Bool)} (a69 : Option Addr) (c69 : Nat) (xa69 : List Int) (n70 : Int) (n71 : Int) (h : Heap) (hs : Sat ro h (.row a69 c69 (xa69.map (Value.int .u8)) :: .row (some ⟨0, 0, none⟩) 20 (gl0.map (Value.int .u64)) :: F)) (hp : F5.J8p lf xa69 n70 n71 = some r) : F5.Post F ro r (F5.J8 (callW Tryd.prog ora) lf ro a69 xa69.length c69 n70 n71 h) := by
  unfold F5.J8
  unfold F5.J8p at hp
  refine st_letJ hp (fun j87p j87 => ∀ (b85 : Bool) (h_372 : Heap), Sat ro h_372 (.row (some ⟨0, 0, none⟩) 20 (gl0.map (Value.int .u64)) :: F) → j87p b85 = some r → F5.Post F ro r (j87 b85 h_372)) ?_ ?_
  · intro b85 h_372 hs hp
    have hs_373 := hs.tail
    cases hp
    exact ⟨_, rfl, hs_373⟩
  · intro j87p j87 hj87 hp
    obtain ⟨x_352, hx_353, hp⟩ := bindp_some hp
    refine st_subR (Q := F5.Post F ro r) (l := xa69) (f := (Value.int .u8)) isO hs und22 siz5 rfl (.inl ⟨rfl, rfl⟩) (.inr ⟨_, rfl⟩) hx_353 fun a_354 c_355 hs_356 => ?_
    refine st_slice (Q := F5.Post F ro r) ?_
    refine st_strR (Q := F5.Post F ro r) (l := x_352) isO hs_356 und22 und9 und5 rfl ?_
    refine st_str (Q := F5.Post F ro r) ?_
    obtain ⟨r_357, hx_358, hp⟩ := bindp_some hp
    obtain ⟨h_359, e_361, hs_360⟩ := F16.ok hora (ro := ro) (F := .row a_354 c_355 (x_352.map (Value.int .u8)) :: .row a69 c69 (xa69.map (Value.int .u8)) :: .row (some ⟨0, 0, none⟩) 20 (gl0.map (Value.int .u64)) :: F) (strp x_352) n71 _ hs_356 hx_358
    refine st_ok (Q := F5.Post F ro r) isO e_361 ?_
    refine st_bool (Q := F5.Post F ro r) ?_
    refine st_if (Q := F5.Post F ro r) (fun hc_362 => ?_) (fun hc_362 => ?_)
    · replace hp := ifp_t hc_362 hp
      obtain ⟨r_363, hx_364, hp⟩ := bindp_some hp
      obtain ⟨h_365, e_367, hs_366⟩ := F9.ok hora (ro := ro) (F := .row a_354 c_355 (x_352.map (Value.int .u8)) :: .row a69 c69 (xa69.map (Value.int .u8)) :: .row (some ⟨0, 0, none⟩) 20 (gl0.map (Value.int .u64)) :: F)  _ hs_360 hx_364
      refine st_ok (Q := F5.Post F ro r) isO e_367 ?_
      refine st_bool (Q := F5.Post F ro r) ?_
      have hs_368 := hs_366.tail
      have hs_369 := hs_368.tail
      exact hj87 r_363 _ hs_369 hp
    · replace hp := ifp_f hc_362 hp
      have hs_370 := hs_360.tail
      have hs_371 := hs_370.tail
      exact hj87 false _ hs_371 hp

def F5.J4p (lf : Nat) (n53 : Int) (xa54 : List Int) (n55 : Int) : Option (Bool) :=
  bindp (F14.p lf xa54 n55) fun r_344 =>
  bindp (remp (IntKind.i64.wrap n53) r_344) fun n_349 =>
  ifp (decide (n_349 < 2)) (
    F5.J8p lf xa54 n_349 25) (
    F5.J8p lf xa54 n_349 10)

theorem F5.J4_ok {ora : Ora} (hora : HOra9 ora) {lf ro : Nat} {F : List Ent} {r : (Bool)} (n53 : Int) (a54 : Option Addr) (xa54 : List Int) (n55 : Int) (h : Heap) (hs : Sat ro h (.own ro a54 1 (xa54.map (Value.int .u8)) :: .row (some ⟨0, 0, none⟩) 20 (gl0.map (Value.int .u64)) :: F)) (hp : F5.J4p lf n53 xa54 n55 = some r) : F5.Post F ro r (F5.J4 (callW Tryd.prog ora) lf ro n53 a54 xa54.length xa54.length n55 h) := by
  unfold F5.J4
  unfold F5.J4p at hp
  have hs_342 := Sat.weakM (x := xa54) (f := (Value.int .u8)) hs
  have hs_343 := hs_342.dup
  obtain ⟨r_344, hx_345, hp⟩ := bindp_some hp
  obtain ⟨h_346, e_348, hs_347⟩ := F14.ok hora.toHOra (ro := ro) (F := .row a54 xa54.length (xa54.map (Value.int .u8)) :: .row (some ⟨0, 0, none⟩) 20 (gl0.map (Value.int .u64)) :: F) a54 xa54.length xa54 n55 _ hs_343 hx_345
  refine st_ok (Q := F5.Post F ro r) isO e_348 ?_
  refine st_int (Q := F5.Post F ro r) ?_
  obtain ⟨n_349, hx_350, hp⟩ := bindp_some hp
  refine st_rem (Q := F5.Post F ro r) isO hx_350 ?_
  refine st_int (Q := F5.Post F ro r) ?_
  refine st_if (Q := F5.Post F ro r) (fun hc_351 => ?_) (fun hc_351 => ?_)
  · replace hp := ifp_t hc_351 hp
    have hs_374 := hs_347.pull 1 rfl
    have hs_375 := hs_374.pull 1 rfl
    exact F5.J8_ok hora a54 _ xa54 n_349 25 _ hs_375 hp
  · replace hp := ifp_f hc_351 hp
    have hs_376 := hs_347.pull 1 rfl
    have hs_377 := hs_376.pull 1 rfl
    exact F5.J8_ok hora a54 _ xa54 n_349 10 _ hs_377 hp

def F5.p (lf : Nat) (x0_0 : Int) (x0_1 : Int) (xax0_2 : List Int) (x1 : Int) (x2 : Int) : Option (Bool) :=
  bindp (F12.p lf x0_0 x0_1 xax0_2 x1) fun r_314 =>
  letJ (fun (b45 : Bool) => (
    ifp b45 (
      bindp (F9.p lf) fun r_335 =>
      some r_335) (
      F5.J4p lf x2 r_314.1 r_314.2) : Option (Bool))) fun j46p =>
  ifp (((r_314.1).length : Int) == 0) (
    j46p true) (
    j46p (r_314.2 == 2))

theorem F5.t_ok {ora : Ora} (hora : HOra9 ora) {lf ro : Nat} {F : List Ent} {r : (Bool)} (x0_0 : Int) (x0_1 : Int) (ax0_2 : Option Addr) (cx0_2 : Nat) (xax0_2 : List Int) (x1 : Int) (x2 : Int) (h : Heap) (hs : Sat ro h (.row ax0_2 cx0_2 (xax0_2.map (Value.int .u8)) :: .row (some ⟨0, 0, none⟩) 20 (gl0.map (Value.int .u64)) :: F)) (hp : F5.p lf x0_0 x0_1 xax0_2 x1 x2 = some r) : F5.Post F ro r (F5.t (callW Tryd.prog ora) lf ro x0_0 x0_1 ax0_2 xax0_2.length cx0_2 x1 x2 h) := by
  unfold F5.t
  unfold F5.p at hp
  refine st_pushJ (Q := F5.Post F ro r) hs hs.low rfl fun h_307 _ hs_308 => ?_
  refine st_loadA (Q := F5.Post F ro r) isO hs_308 agg24 siz24 rfl ?_
  refine st_agg (Q := F5.Post F ro r) (l := [.int .i64 x0_0, .int .i64 x0_1, .slice ax0_2 xax0_2.length cx0_2]) ?_
  refine st_cons (Q := F5.Post F ro r) ?_
  refine st_int (Q := F5.Post F ro r) ?_
  refine st_cons (Q := F5.Post F ro r) ?_
  refine st_int (Q := F5.Post F ro r) ?_
  refine st_cons (Q := F5.Post F ro r) ?_
  refine st_slice (Q := F5.Post F ro r) ?_
  refine st_nil (Q := F5.Post F ro r) ?_
  have hs_309 := hs_308.pull 1 rfl
  have hs_310 := hs_309.dup
  have hs_311 := hs_310.pull 3 rfl
  have hs_312 := hs_311.dup
  have hs_313 := hs_312.pull 2 rfl
  obtain ⟨r_314, hx_315, hp⟩ := bindp_some hp
  obtain ⟨a_319, h_316, e_318, hs_317⟩ := F12.ok hora.toHOra (ro := ro) (F := .row (some ⟨0, 0, none⟩) 20 (gl0.map (Value.int .u64)) :: .row ax0_2 cx0_2 (xax0_2.map (Value.int .u8)) :: .own ro (some ⟨h.next, 0, none⟩) 1 [.int .i64 x0_0, .int .i64 x0_1, .slice ax0_2 xax0_2.length cx0_2] :: F) x0_0 x0_1 ax0_2 cx0_2 xax0_2 x1 _ hs_313 hx_315
  refine st_ok (Q := F5.Post F ro r) isO e_318 ?_
  refine st_tup (Q := F5.Post F ro r) (l := [.slice a_319 (r_314.1).length (r_314.1).length, .int .i64 r_314.2]) ?_
  refine st_cons (Q := F5.Post F ro r) ?_
  refine st_slice (Q := F5.Post F ro r) ?_
  refine st_cons (Q := F5.Post F ro r) ?_
  refine st_int (Q := F5.Post F ro r) ?_
  refine st_nil (Q := F5.Post F ro r) ?_
  refine st_letJ hp (fun j46p j46 => ∀ (b45 : Bool), Sat ro h_316 (.own ro a_319 1 (r_314.1.map (Value.int .u8)) :: .row (some ⟨0, 0, none⟩) 20 (gl0.map (Value.int .u64)) :: F) → j46p b45 = some r → F5.Post F ro r (j46 b45)) ?_ ?_
  · intro b45 hs hp
    refine st_if (Q := F5.Post F ro r) (fun hc_334 => ?_) (fun hc_334 => ?_)
    · replace hp := ifp_t hc_334 hp
      obtain ⟨r_335, hx_336, hp⟩ := bindp_some hp
      obtain ⟨h_337, e_339, hs_338⟩ := F9.ok hora (ro := ro) (F := .own ro a_319 1 (r_314.1.map (Value.int .u8)) :: .row (some ⟨0, 0, none⟩) 20 (gl0.map (Value.int .u64)) :: F)  _ hs hx_336
      refine st_ok (Q := F5.Post F ro r) isO e_339 ?_
      refine st_bool (Q := F5.Post F ro r) ?_
      have hs_340 := hs_338.tail
      have hs_341 := hs_340.tail
      cases hp
      exact ⟨_, rfl, hs_341⟩
    · replace hp := ifp_f hc_334 hp
      have hs_378 := hs.pull 1 rfl
      have hs_379 := hs_378.pull 1 rfl
      exact F5.J4_ok hora x2 a_319 r_314.1 r_314.2 _ hs_379 hp
  · intro j46p j46 hj46 hp
    refine st_if (Q := F5.Post F ro r) (fun hc_320 => ?_) (fun hc_320 => ?_)
    · replace hp := ifp_t hc_320 hp
      have hs_321 := hs_317.pull 2 rfl
      have hs_322 := hs_321.tail
      have hs_323 := hs_322.pull 2 rfl
      have hs_324 := hs_323.tail
      have hs_325 := hs_324.pull 1 rfl
      have hs_326 := hs_325.pull 1 rfl
      exact hj46 true hs_326 hp
    · replace hp := ifp_f hc_320 hp
      have hs_327 := hs_317.pull 2 rfl
      have hs_328 := hs_327.tail
      have hs_329 := hs_328.pull 2 rfl
      have hs_330 := hs_329.tail
      have hs_331 := hs_330.pull 1 rfl
      have hs_332 := hs_331.pull 1 rfl
      exact hj46 (r_314.2 == 2) hs_332 hp

theorem F5.ok {ora : Ora} (hora : HOra9 ora) {lf ro : Nat} {F : List Ent} {r : (Bool)} (x0_0 : Int) (x0_1 : Int) (ax0_2 : Option Addr) (cx0_2 : Nat) (xax0_2 : List Int) (x1 : Int) (x2 : Int) (h : Heap) (hs : Sat ro h (.row ax0_2 cx0_2 (xax0_2.map (Value.int .u8)) :: .row (some ⟨0, 0, none⟩) 20 (gl0.map (Value.int .u64)) :: F)) (hp : F5.p lf x0_0 x0_1 xax0_2 x1 x2 = some r) : F5.Post F ro r (callW Tryd.prog ora ro 5 [.agg #[.int .i64 x0_0, .int .i64 x0_1, .slice ax0_2 xax0_2.length cx0_2], .int .u8 x1, .int .u16 x2] h) := by
  have h1 := F5.t_ok hora x0_0 x0_1 ax0_2 cx0_2 xax0_2 x1 x2 h hs hp
  have h2 : callW Tryd.prog ora ro 5 [.agg #[.int .i64 x0_0, .int .i64 x0_1, .slice ax0_2 xax0_2.length cx0_2], .int .u8 x1, .int .u16 x2] h = _ := callW_body (hora.none _ _ _ _ (by decide)) Tryd.func5 (F5.le (callW Tryd.prog ora) lf ro x0_0 x0_1 ax0_2 xax0_2.length cx0_2 x1 x2 h) (F5.Post.ne h1)
  rw [h2]; exact h1

def F6.Post (F : List Ent) (ro : Nat) (r : (Bool)) (x : Out) : Prop := ∃ h', x = .ok (.bool r) h' ∧ Sat ro h' (F)
theorem F6.Post.ne {F : List Ent} {ro : Nat} {r : (Bool)} {x : Out} (hx : F6.Post F ro r x) : x ≠ .fail := by
  obtain ⟨h', rfl, _⟩ := hx
  simp

def F6.J10p (lf : Nat) (kb8p : List Int → Int → Int → List Int → List Int → Int → List Int → Int → Option (Bool)) (xa85 : List Int) (mp86_0 : Int) (mp86_1 : Int) (xp86_2 : List Int) (xa87 : List Int) (n88 : Int) (xa89 : List Int) (n90 : Int) : Option (Bool) :=
  bindp (idxp xa85 n90) fun x_440 =>
  letJ (fun (b120 : Bool) => (
    letJ (fun (n122 : Int) => (
      bindp (appp 1 xa89 [n122]) fun x_472 =>
      kb8p xa85 mp86_0 mp86_1 xp86_2 xa87 n88 x_472 (IntKind.i64.wrap (n90 + 1)) : Option (Bool))) fun j123p =>
    ifp b120 (
      j123p 46) (
      j123p x_440) : Option (Bool))) fun j121p =>
  ifp (x_440 == 10) (
    j121p true) (
    j121p (x_440 == 13))

theorem F6.J10_ok {ora : Ora} (hora : HOra9 ora) {lf ro : Nat} {F : List Ent} {r : (Bool)} {kb8p : List Int → Int → Int → List Int → List Int → Int → List Int → Int → Option (Bool)} {kb8 : (Option Addr) → Nat → Nat → Nat → Nat → (Option Addr) → Nat → Nat → Int → (Option Addr) → Nat → Nat → Int → Heap → Out} (hkb8 : ∀ (a78 : Option Addr) (c78 : Nat) (xa78 : List Int) (p79 : Nat) (mp79_0 : Int) (mp79_1 : Int) (ap79_2 : Option Addr) (cp79_2 : Nat) (xp79_2 : List Int) (a80 : Option Addr) (c80 : Nat) (xa80 : List Int) (n81 : Int) (a82 : Option Addr) (xa82 : List Int) (n83 : Int) (h : Heap), Sat ro h (.row a78 c78 (xa78.map (Value.int .u8)) :: .own ro (some ⟨p79, 0, none⟩) 1 [.int .i64 mp79_0, .int .i64 mp79_1, .slice ap79_2 xp79_2.length cp79_2] :: .row ap79_2 cp79_2 (xp79_2.map (Value.int .u8)) :: .row a80 c80 (xa80.map (Value.int .u8)) :: .own ro a82 1 (xa82.map (Value.int .u8)) :: .row (some ⟨0, 0, none⟩) 20 (gl0.map (Value.int .u64)) :: F) → kb8p xa78 mp79_0 mp79_1 xp79_2 xa80 n81 xa82 n83 = some r → F6.Post F ro r (kb8 a78 xa78.length c78 p79 0 a80 xa80.length c80 n81 a82 xa82.length xa82.length n83 h)) (a85 : Option Addr) (c85 : Nat) (xa85 : List Int) (p86 : Nat) (mp86_0 : Int) (mp86_1 : Int) (ap86_2 : Option Addr) (cp86_2 : Nat) (xp86_2 : List Int) (a87 : Option Addr) (c87 : Nat) (xa87 : List Int) (n88 : Int) (a89 : Option Addr) (xa89 : List Int) (n90 : Int) (h : Heap) (hs : Sat ro h (.row a85 c85 (xa85.map (Value.int .u8)) :: .own ro (some ⟨p86, 0, none⟩) 1 [.int .i64 mp86_0, .int .i64 mp86_1, .slice ap86_2 xp86_2.length cp86_2] :: .row ap86_2 cp86_2 (xp86_2.map (Value.int .u8)) :: .row a87 c87 (xa87.map (Value.int .u8)) :: .own ro a89 1 (xa89.map (Value.int .u8)) :: .row (some ⟨0, 0, none⟩) 20 (gl0.map (Value.int .u64)) :: F)) (hp : F6.J10p lf kb8p xa85 mp86_0 mp86_1 xp86_2 xa87 n88 xa89 n90 = some r) : F6.Post F ro r (F6.J10 (callW Tryd.prog ora) lf ro kb8 a85 xa85.length c85 p86 0 a87 xa87.length c87 n88 a89 xa89.length xa89.length n90 h) := by
  unfold F6.J10
  unfold F6.J10p at hp
  obtain ⟨x_440, hx_441, hp⟩ := bindp_some hp
  refine st_idxR (Q := F6.Post F ro r) (l := xa85) (f := (Value.int .u8)) isO isO hs und22 siz5 agg5 rfl hx_441 ?_
  refine st_int (Q := F6.Post F ro r) ?_
  refine st_letJ hp (fun j121p j121 => ∀ (b120 : Bool), Sat ro h (.row a85 c85 (xa85.map (Value.int .u8)) :: .own ro (some ⟨p86, 0, none⟩) 1 [.int .i64 mp86_0, .int .i64 mp86_1, .slice ap86_2 xp86_2.length cp86_2] :: .row ap86_2 cp86_2 (xp86_2.map (Value.int .u8)) :: .row a87 c87 (xa87.map (Value.int .u8)) :: .own ro a89 1 (xa89.map (Value.int .u8)) :: .row (some ⟨0, 0, none⟩) 20 (gl0.map (Value.int .u64)) :: F) → j121p b120 = some r → F6.Post F ro r (j121 b120)) ?_ ?_
  · intro b120 hs hp
    refine st_letJ hp (fun j123p j123 => ∀ (n122 : Int), Sat ro h (.row a85 c85 (xa85.map (Value.int .u8)) :: .own ro (some ⟨p86, 0, none⟩) 1 [.int .i64 mp86_0, .int .i64 mp86_1, .slice ap86_2 xp86_2.length cp86_2] :: .row ap86_2 cp86_2 (xp86_2.map (Value.int .u8)) :: .row a87 c87 (xa87.map (Value.int .u8)) :: .own ro a89 1 (xa89.map (Value.int .u8)) :: .row (some ⟨0, 0, none⟩) 20 (gl0.map (Value.int .u64)) :: F) → j123p n122 = some r → F6.Post F ro r (j123 n122)) ?_ ?_
    · intro n122 hs hp
      refine st_pushJ (Q := F6.Post F ro r) hs hs.low rfl fun h_470 _ hs_471 => ?_
      have hs_477 := hs_471.pull 5 rfl
      obtain ⟨x_472, hx_473, hp⟩ := bindp_some hp
      refine st_appO (Q := F6.Post F ro r) isO (l := xa89) (x := [n122]) (f := (Value.int .u8)) hs_477 (fun _ => rfl) und22 und22 one5 rfl rfl rfl hx_473 fun a_474 h_475 hs_476 => ?_
      refine st_slice (Q := F6.Post F ro r) ?_
      have hs_478 := hs_476.pull 1 rfl
      have hs_479 := hs_478.tail
      have hs_480 := hs_479.pull 5 rfl
      have hs_481 := hs_480.pull 1 rfl
      have hs_482 := hs_481.pull 5 rfl
      have hs_483 := hs_482.pull 5 rfl
      have hs_484 := hs_483.pull 5 rfl
      have hs_485 := hs_484.pull 5 rfl
      exact hkb8 a85 _ xa85 p86 mp86_0 mp86_1 ap86_2 _ xp86_2 a87 _ xa87 n88 a_474 x_472 (IntKind.i64.wrap (n90 + 1)) _ hs_485 hp
    · intro j123p j123 hj123 hp
      refine st_if (Q := F6.Post F ro r) (fun hc_456 => ?_) (fun hc_456 => ?_)
      · replace hp := ifp_t hc_456 hp
        have hs_457 := hs.pull 5 rfl
        have hs_458 := hs_457.pull 5 rfl
        have hs_459 := hs_458.pull 5 rfl
        have hs_460 := hs_459.pull 5 rfl
        have hs_461 := hs_460.pull 5 rfl
        have hs_462 := hs_461.pull 5 rfl
        exact hj123 46 hs_462 hp
      · replace hp := ifp_f hc_456 hp
        have hs_463 := hs.pull 5 rfl
        have hs_464 := hs_463.pull 5 rfl
        have hs_465 := hs_464.pull 5 rfl
        have hs_466 := hs_465.pull 5 rfl
        have hs_467 := hs_466.pull 5 rfl
        have hs_468 := hs_467.pull 5 rfl
        exact hj123 x_440 hs_468 hp
  · intro j121p j121 hj121 hp
    refine st_if (Q := F6.Post F ro r) (fun hc_442 => ?_) (fun hc_442 => ?_)
    · replace hp := ifp_t hc_442 hp
      have hs_443 := hs.pull 5 rfl
      have hs_444 := hs_443.pull 5 rfl
      have hs_445 := hs_444.pull 5 rfl
      have hs_446 := hs_445.pull 5 rfl
      have hs_447 := hs_446.pull 5 rfl
      have hs_448 := hs_447.pull 5 rfl
      exact hj121 true hs_448 hp
    · replace hp := ifp_f hc_442 hp
      have hs_449 := hs.pull 5 rfl
      have hs_450 := hs_449.pull 5 rfl
      have hs_451 := hs_450.pull 5 rfl
      have hs_452 := hs_451.pull 5 rfl
      have hs_453 := hs_452.pull 5 rfl
      have hs_454 := hs_453.pull 5 rfl
      exact hj121 (x_440 == 13) hs_454 hp

def F6.J14p (lf : Nat) (xa138 : List Int) (mp139_0 : Int) (mp139_1 : Int) (xp139_2 : List Int) (xa140 : List Int) (n141 : Int) (xa142 : List Int) : Option (Bool) :=
  bindp (appp 1 xa142 [10]) fun x_494 =>
  bindp (subp xa140 3 (xa140.length : Int)) fun x_501 =>
  bindp (appp 1 x_494 x_501) fun x_506 =>
  bindp (F13.p lf x_506) fun r_514 =>
  letJ (fun (b251 : Bool) => (
    some b251 : Option (Bool))) fun j253p =>
  ifp (r_514.2.2.2.2.2 == 0) (
    ifp (r_514.2.2.2.1 == n141) (
      bindp (F14.p lf xa140 n141) fun r_528 =>
      ifp (r_514.2.2.2.2.1 == (IntKind.i64.wrap ((IntKind.i64.wrap (r_528 + (xa138.length : Int))) + 2))) (
        bindp (F15.p lf r_514.1 r_514.2.1 r_514.2.2.1 mp139_0 mp139_1 xp139_2) fun r_542 =>
        ifp r_542 (
          bindp (F9.p lf) fun r_548 =>
          j253p r_548) (
          j253p false)) (
        j253p false)) (
      j253p false)) (
    j253p false)

theorem F6.J14_ok {ora : Ora} (hora : HOra9 ora) {lf ro : Nat} {F : List Ent} {r : (Bool)} (a138 : Option Addr) (c138 : Nat) (xa138 : List Int) (p139 : Nat) (mp139_0 : Int) (mp139_1 : Int) (ap139_2 : Option Addr) (cp139_2 : Nat) (xp139_2 : List Int) (a140 : Option Addr) (c140 : Nat) (xa140 : List Int) (n141 : Int) (a142 : Option Addr) (xa142 : List Int) (h : Heap) (hs : Sat ro h (.row a138 c138 (xa138.map (Value.int .u8)) :: .own ro (some ⟨p139, 0, none⟩) 1 [.int .i64 mp139_0, .int .i64 mp139_1, .slice ap139_2 xp139_2.length cp139_2] :: .row ap139_2 cp139_2 (xp139_2.map (Value.int .u8)) :: .row a140 c140 (xa140.map (Value.int .u8)) :: .own ro a142 1 (xa142.map (Value.int .u8)) :: .row (some ⟨0, 0, none⟩) 20 (gl0.map (Value.int .u64)) :: F)) (hp : F6.J14p lf xa138 mp139_0 mp139_1 xp139_2 xa140 n141 xa142 = some r) : F6.Post F ro r (F6.J14 (callW Tryd.prog ora) lf ro a138 xa138.length c138 p139 0 a140 xa140.length c140 n141 a142 xa142.length xa142.length h) := by
  unfold F6.J14
  unfold F6.J14p at hp
  refine st_pushJ (Q := F6.Post F ro r) hs hs.low rfl fun h_492 _ hs_493 => ?_
  have hs_499 := hs_493.pull 5 rfl
  obtain ⟨x_494, hx_495, hp⟩ := bindp_some hp
  refine st_appO (Q := F6.Post F ro r) isO (l := xa142) (x := [10]) (f := (Value.int .u8)) hs_499 (fun _ => rfl) und22 und22 one5 rfl rfl rfl hx_495 fun a_496 h_497 hs_498 => ?_
  refine st_slice (Q := F6.Post F ro r) ?_
  have hs_500 := hs_498.pull 5 rfl
  obtain ⟨x_501, hx_502, hp⟩ := bindp_some hp
  refine st_subR (Q := F6.Post F ro r) (l := xa140) (f := (Value.int .u8)) isO hs_500 und22 siz5 rfl (.inr ⟨_, rfl⟩) (.inl ⟨rfl, rfl⟩) hx_502 fun a_503 c_504 hs_505 => ?_
  refine st_slice (Q := F6.Post F ro r) ?_
  have hs_511 := hs_505.pull 2 rfl
  obtain ⟨x_506, hx_507, hp⟩ := bindp_some hp
  refine st_appR (Q := F6.Post F ro r) isO (l := x_494) (x := x_501) (f := (Value.int .u8)) hs_511 und22 und22 one5 rfl rfl rfl hx_507 fun a_508 h_509 hs_510 => ?_
  refine st_slice (Q := F6.Post F ro r) ?_
  have hs_512 := Sat.weakM (x := x_506) (f := (Value.int .u8)) hs_510
  have hs_513 := hs_512.dup
  obtain ⟨r_514, hx_515, hp⟩ := bindp_some hp
  obtain ⟨a_519, h_516, e_518, hs_517⟩ := F13.ok hora (ro := ro) (F := .row a_508 x_506.length (x_506.map (Value.int .u8)) :: .row a_503 c_504 (x_501.map (Value.int .u8)) :: .row a140 c140 (xa140.map (Value.int .u8)) :: .own ro (some ⟨h.next, 0, none⟩) 1 ([10].map (Value.int .u8)) :: .row a138 c138 (xa138.map (Value.int .u8)) :: .own ro (some ⟨p139, 0, none⟩) 1 [.int .i64 mp139_0, .int .i64 mp139_1, .slice ap139_2 xp139_2.length cp139_2] :: .row ap139_2 cp139_2 (xp139_2.map (Value.int .u8)) :: .row (some ⟨0, 0, none⟩) 20 (gl0.map (Value.int .u64)) :: F) a_508 x_506.length x_506 _ hs_513 hx_515
  refine st_ok (Q := F6.Post F ro r) isO e_518 ?_
  refine st_tup (Q := F6.Post F ro r) (l := [.agg #[.int .i64 r_514.1, .int .i64 r_514.2.1, .slice a_519 (r_514.2.2.1).length (r_514.2.2.1).length], .int .i64 r_514.2.2.2.1, .int .i64 r_514.2.2.2.2.1, .int .i64 r_514.2.2.2.2.2]) ?_
  refine st_cons (Q := F6.Post F ro r) ?_
  refine st_agg (Q := F6.Post F ro r) (l := [.int .i64 r_514.1, .int .i64 r_514.2.1, .slice a_519 (r_514.2.2.1).length (r_514.2.2.1).length]) ?_
  refine st_cons (Q := F6.Post F ro r) ?_
  refine st_int (Q := F6.Post F ro r) ?_
  refine st_cons (Q := F6.Post F ro r) ?_
  refine st_int (Q := F6.Post F ro r) ?_
  refine st_cons (Q := F6.Post F ro r) ?_
  refine st_slice (Q := F6.Post F ro r) ?_
  refine st_nil (Q := F6.Post F ro r) ?_
  refine st_cons (Q := F6.Post F ro r) ?_
  refine st_int (Q := F6.Post F ro r) ?_
  refine st_cons (Q := F6.Post F ro r) ?_
  refine st_int (Q := F6.Post F ro r) ?_
  refine st_cons (Q := F6.Post F ro r) ?_
  refine st_int (Q := F6.Post F ro r) ?_
  refine st_nil (Q := F6.Post F ro r) ?_
  refine st_pushJ (Q := F6.Post F ro r) hs_517 hs_517.low rfl fun h_520 _ hs_521 => ?_
  refine st_storeA (Q := F6.Post F ro r) (vs := [.int .i64 r_514.1, .int .i64 r_514.2.1, .slice a_519 (r_514.2.2.1).length (r_514.2.2.1).length]) isO hs_521 siz24 rfl rfl rfl rfl fun h_522 hs_523 => ?_
  refine st_letJ hp (fun j253p j253 => ∀ (b251 : Bool) (h_598 : Heap), Sat ro h_598 (.row (some ⟨0, 0, none⟩) 20 (gl0.map (Value.int .u64)) :: F) → j253p b251 = some r → F6.Post F ro r (j253 b251 h_598)) ?_ ?_
  · intro b251 h_598 hs hp
    have hs_599 := hs.tail
    cases hp
    exact ⟨_, rfl, hs_599⟩
  · intro j253p j253 hj253 hp
    refine st_if (Q := F6.Post F ro r) (fun hc_524 => ?_) (fun hc_524 => ?_)
    · replace hp := ifp_t hc_524 hp
      refine st_if (Q := F6.Post F ro r) (fun hc_525 => ?_) (fun hc_525 => ?_)
      · replace hp := ifp_t hc_525 hp
        have hs_526 := hs_523.pull 4 rfl
        have hs_527 := hs_526.dup
        obtain ⟨r_528, hx_529, hp⟩ := bindp_some hp
        obtain ⟨h_530, e_532, hs_531⟩ := F14.ok hora.toHOra (ro := ro) (F := .row a140 c140 (xa140.map (Value.int .u8)) :: .own ro (some ⟨h_516.next, 0, none⟩) 1 [.int .i64 r_514.1, .int .i64 r_514.2.1, .slice a_519 (r_514.2.2.1).length (r_514.2.2.1).length] :: .own ro a_519 1 (r_514.2.2.1.map (Value.int .u8)) :: .row a_508 x_506.length (x_506.map (Value.int .u8)) :: .row a_503 c_504 (x_501.map (Value.int .u8)) :: .own ro (some ⟨h.next, 0, none⟩) 1 ([10].map (Value.int .u8)) :: .row a138 c138 (xa138.map (Value.int .u8)) :: .own ro (some ⟨p139, 0, none⟩) 1 [.int .i64 mp139_0, .int .i64 mp139_1, .slice ap139_2 xp139_2.length cp139_2] :: .row ap139_2 cp139_2 (xp139_2.map (Value.int .u8)) :: .row (some ⟨0, 0, none⟩) 20 (gl0.map (Value.int .u64)) :: F) a140 c140 xa140 n141 _ hs_527 hx_529
        refine st_ok (Q := F6.Post F ro r) isO e_532 ?_
        refine st_int (Q := F6.Post F ro r) ?_
        refine st_if (Q := F6.Post F ro r) (fun hc_533 => ?_) (fun hc_533 => ?_)
        · replace hp := ifp_t hc_533 hp
          have hs_534 := hs_531.pull 1 rfl
          refine st_loadA (Q := F6.Post F ro r) isO hs_534 agg24 siz24 rfl ?_
          refine st_agg (Q := F6.Post F ro r) (l := [.int .i64 r_514.1, .int .i64 r_514.2.1, .slice a_519 (r_514.2.2.1).length (r_514.2.2.1).length]) ?_
          refine st_cons (Q := F6.Post F ro r) ?_
          refine st_int (Q := F6.Post F ro r) ?_
          refine st_cons (Q := F6.Post F ro r) ?_
          refine st_int (Q := F6.Post F ro r) ?_
          refine st_cons (Q := F6.Post F ro r) ?_
          refine st_slice (Q := F6.Post F ro r) ?_
          refine st_nil (Q := F6.Post F ro r) ?_
          have hs_535 := hs_534.pull 7 rfl
          refine st_loadA (Q := F6.Post F ro r) isO hs_535 agg24 siz24 rfl ?_
          refine st_agg (Q := F6.Post F ro r) (l := [.int .i64 mp139_0, .int .i64 mp139_1, .slice ap139_2 xp139_2.length cp139_2]) ?_
          refine st_cons (Q := F6.Post F ro r) ?_
          refine st_int (Q := F6.Post F ro r) ?_
          refine st_cons (Q := F6.Post F ro r) ?_
          refine st_int (Q := F6.Post F ro r) ?_
          refine st_cons (Q := F6.Post F ro r) ?_
          refine st_slice (Q := F6.Post F ro r) ?_
          refine st_nil (Q := F6.Post F ro r) ?_
          have hs_536 := hs_535.pull 3 rfl
          have hs_537 := Sat.weakM (x := r_514.2.2.1) (f := (Value.int .u8)) hs_536
          have hs_538 := hs_537.dup
          have hs_539 := hs_538.pull 9 rfl
          have hs_540 := hs_539.dup
          have hs_541 := hs_540.pull 2 rfl
          obtain ⟨r_542, hx_543, hp⟩ := bindp_some hp
          obtain ⟨h_544, e_546, hs_545⟩ := F15.ok hora.toHOra (ro := ro) (F := .row ap139_2 cp139_2 (xp139_2.map (Value.int .u8)) :: .row a_519 r_514.2.2.1.length (r_514.2.2.1.map (Value.int .u8)) :: .own ro (some ⟨p139, 0, none⟩) 1 [.int .i64 mp139_0, .int .i64 mp139_1, .slice ap139_2 xp139_2.length cp139_2] :: .own ro (some ⟨h_516.next, 0, none⟩) 1 [.int .i64 r_514.1, .int .i64 r_514.2.1, .slice a_519 (r_514.2.2.1).length (r_514.2.2.1).length] :: .row a140 c140 (xa140.map (Value.int .u8)) :: .row a_508 x_506.length (x_506.map (Value.int .u8)) :: .row a_503 c_504 (x_501.map (Value.int .u8)) :: .own ro (some ⟨h.next, 0, none⟩) 1 ([10].map (Value.int .u8)) :: .row a138 c138 (xa138.map (Value.int .u8)) :: .row (some ⟨0, 0, none⟩) 20 (gl0.map (Value.int .u64)) :: F) r_514.1 r_514.2.1 a_519 r_514.2.2.1.length r_514.2.2.1 mp139_0 mp139_1 ap139_2 cp139_2 xp139_2 _ hs_541 hx_543
          refine st_ok (Q := F6.Post F ro r) isO e_546 ?_
          refine st_bool (Q := F6.Post F ro r) ?_
          refine st_if (Q := F6.Post F ro r) (fun hc_547 => ?_) (fun hc_547 => ?_)
          · replace hp := ifp_t hc_547 hp
            obtain ⟨r_548, hx_549, hp⟩ := bindp_some hp
            obtain ⟨h_550, e_552, hs_551⟩ := F9.ok hora (ro := ro) (F := .row ap139_2 cp139_2 (xp139_2.map (Value.int .u8)) :: .row a_519 r_514.2.2.1.length (r_514.2.2.1.map (Value.int .u8)) :: .own ro (some ⟨p139, 0, none⟩) 1 [.int .i64 mp139_0, .int .i64 mp139_1, .slice ap139_2 xp139_2.length cp139_2] :: .own ro (some ⟨h_516.next, 0, none⟩) 1 [.int .i64 r_514.1, .int .i64 r_514.2.1, .slice a_519 (r_514.2.2.1).length (r_514.2.2.1).length] :: .row a140 c140 (xa140.map (Value.int .u8)) :: .row a_508 x_506.length (x_506.map (Value.int .u8)) :: .row a_503 c_504 (x_501.map (Value.int .u8)) :: .own ro (some ⟨h.next, 0, none⟩) 1 ([10].map (Value.int .u8)) :: .row a138 c138 (xa138.map (Value.int .u8)) :: .row (some ⟨0, 0, none⟩) 20 (gl0.map (Value.int .u64)) :: F)  _ hs_545 hx_549
            refine st_ok (Q := F6.Post F ro r) isO e_552 ?_
            refine st_bool (Q := F6.Post F ro r) ?_
            have hs_553 := hs_551.tail
            have hs_554 := hs_553.tail
            have hs_555 := hs_554.tail
            have hs_556 := hs_555.tail
            have hs_557 := hs_556.tail
            have hs_558 := hs_557.tail
            have hs_559 := hs_558.tail
            have hs_560 := hs_559.tail
            have hs_561 := hs_560.tail
            exact hj253 r_548 _ hs_561 hp
          · replace hp := ifp_f hc_547 hp
            have hs_562 := hs_545.tail
            have hs_563 := hs_562.tail
            have hs_564 := hs_563.tail
            have hs_565 := hs_564.tail
            have hs_566 := hs_565.tail
            have hs_567 := hs_566.tail
            have hs_568 := hs_567.tail
            have hs_569 := hs_568.tail
            have hs_570 := hs_569.tail
            exact hj253 false _ hs_570 hp
        · replace hp := ifp_f hc_533 hp
          have hs_571 := hs_531.tail
          have hs_572 := hs_571.tail
          have hs_573 := hs_572.tail
          have hs_574 := hs_573.tail
          have hs_575 := hs_574.tail
          have hs_576 := hs_575.tail
          have hs_577 := hs_576.tail
          have hs_578 := hs_577.tail
          have hs_579 := hs_578.tail
          exact hj253 false _ hs_579 hp
      · replace hp := ifp_f hc_525 hp
        have hs_580 := hs_523.tail
        have hs_581 := hs_580.tail
        have hs_582 := hs_581.tail
        have hs_583 := hs_582.tail
        have hs_584 := hs_583.tail
        have hs_585 := hs_584.tail
        have hs_586 := hs_585.tail
        have hs_587 := hs_586.tail
        have hs_588 := hs_587.tail
        exact hj253 false _ hs_588 hp
    · replace hp := ifp_f hc_524 hp
      have hs_589 := hs_523.tail
      have hs_590 := hs_589.tail
      have hs_591 := hs_590.tail
      have hs_592 := hs_591.tail
      have hs_593 := hs_592.tail
      have hs_594 := hs_593.tail
      have hs_595 := hs_594.tail
      have hs_596 := hs_595.tail
      have hs_597 := hs_596.tail
      exact hj253 false _ hs_597 hp

def F6.L8p (lf : Nat) : Nat → List Int → Int → Int → List Int → List Int → Int → List Int → Int → Option (Bool)
  | 0, _, _, _, _, _, _, _, _ => none
  | n + 1, xa78, mp79_0, mp79_1, xp79_2, xa80, n81, xa82, n83 =>
  ifp (decide (n83 < (xa78.length : Int))) (
    F6.J10p lf (F6.L8p lf n) xa78 mp79_0 mp79_1 xp79_2 xa80 n81 xa82 n83) (
    F6.J14p lf xa78 mp79_0 mp79_1 xp79_2 xa80 n81 xa82)

theorem F6.L8_ok {ora : Ora} (hora : HOra9 ora) {lf ro : Nat} {F : List Ent} {r : (Bool)} : ∀ (n : Nat) (a78 : Option Addr) (c78 : Nat) (xa78 : List Int) (p79 : Nat) (mp79_0 : Int) (mp79_1 : Int) (ap79_2 : Option Addr) (cp79_2 : Nat) (xp79_2 : List Int) (a80 : Option Addr) (c80 : Nat) (xa80 : List Int) (n81 : Int) (a82 : Option Addr) (xa82 : List Int) (n83 : Int) (h : Heap), Sat ro h (.row a78 c78 (xa78.map (Value.int .u8)) :: .own ro (some ⟨p79, 0, none⟩) 1 [.int .i64 mp79_0, .int .i64 mp79_1, .slice ap79_2 xp79_2.length cp79_2] :: .row ap79_2 cp79_2 (xp79_2.map (Value.int .u8)) :: .row a80 c80 (xa80.map (Value.int .u8)) :: .own ro a82 1 (xa82.map (Value.int .u8)) :: .row (some ⟨0, 0, none⟩) 20 (gl0.map (Value.int .u64)) :: F) → F6.L8p lf n xa78 mp79_0 mp79_1 xp79_2 xa80 n81 xa82 n83 = some r → F6.Post F ro r (F6.L8 (callW Tryd.prog ora) lf ro n a78 xa78.length c78 p79 0 a80 xa80.length c80 n81 a82 xa82.length xa82.length n83 h) := by
  intro n
  induction n with
  | zero => intro a78 c78 xa78 p79 mp79_0 mp79_1 ap79_2 cp79_2 xp79_2 a80 c80 xa80 n81 a82 xa82 n83 h hs hp; cases hp
  | succ n ih =>
    intro a78 c78 xa78 p79 mp79_0 mp79_1 ap79_2 cp79_2 xp79_2 a80 c80 xa80 n81 a82 xa82 n83 h hs hp
    unfold F6.L8
    unfold F6.L8p at hp
    refine st_if (Q := F6.Post F ro r) (fun hc_439 => ?_) (fun hc_439 => ?_)
    · replace hp := ifp_t hc_439 hp
      have hs_486 := hs.pull 5 rfl
      have hs_487 := hs_486.pull 5 rfl
      have hs_488 := hs_487.pull 5 rfl
      have hs_489 := hs_488.pull 5 rfl
      have hs_490 := hs_489.pull 5 rfl
      have hs_491 := hs_490.pull 5 rfl
      exact F6.J10_ok hora ih a78 _ xa78 p79 mp79_0 mp79_1 ap79_2 _ xp79_2 a80 _ xa80 n81 a82 xa82 n83 _ hs_491 hp
    · replace hp := ifp_f hc_439 hp
      have hs_600 := hs.pull 5 rfl
      have hs_601 := hs_600.pull 5 rfl
      have hs_602 := hs_601.pull 5 rfl
      have hs_603 := hs_602.pull 5 rfl
      have hs_604 := hs_603.pull 5 rfl
      have hs_605 := hs_604.pull 5 rfl
      exact F6.J14_ok hora a78 _ xa78 p79 mp79_0 mp79_1 ap79_2 _ xp79_2 a80 _ xa80 n81 a82 xa82 _ hs_605 hp

def F6.J4p (lf : Nat) (xa53 : List Int) (mp54_0 : Int) (mp54_1 : Int) (xp54_2 : List Int) (xa55 : List Int) (n56 : Int) : Option (Bool) :=
  bindp (subp xa55 0 3) fun x_418 =>
  bindp (appp 1 [] x_418) fun x_424 =>
  bindp (appp 1 x_424 [35]) fun x_433 =>
  F6.L8p lf lf xa53 mp54_0 mp54_1 xp54_2 xa55 n56 x_433 0

theorem F6.J4_ok {ora : Ora} (hora : HOra9 ora) {lf ro : Nat} {F : List Ent} {r : (Bool)} (a53 : Option Addr) (c53 : Nat) (xa53 : List Int) (p54 : Nat) (mp54_0 : Int) (mp54_1 : Int) (ap54_2 : Option Addr) (cp54_2 : Nat) (xp54_2 : List Int) (a55 : Option Addr) (xa55 : List Int) (n56 : Int) (h : Heap) (hs : Sat ro h (.row a53 c53 (xa53.map (Value.int .u8)) :: .own ro (some ⟨p54, 0, none⟩) 1 [.int .i64 mp54_0, .int .i64 mp54_1, .slice ap54_2 xp54_2.length cp54_2] :: .row ap54_2 cp54_2 (xp54_2.map (Value.int .u8)) :: .own ro a55 1 (xa55.map (Value.int .u8)) :: .row (some ⟨0, 0, none⟩) 20 (gl0.map (Value.int .u64)) :: F)) (hp : F6.J4p lf xa53 mp54_0 mp54_1 xp54_2 xa55 n56 = some r) : F6.Post F ro r (F6.J4 (callW Tryd.prog ora) lf ro a53 xa53.length c53 p54 0 a55 xa55.length xa55.length n56 h) := by
  unfold F6.J4
  unfold F6.J4p at hp
  have hs_416 := hs.pull 3 rfl
  have hs_417 := Sat.weakM (x := xa55) (f := (Value.int .u8)) hs_416
  obtain ⟨x_418, hx_419, hp⟩ := bindp_some hp
  refine st_subR (Q := F6.Post F ro r) (l := xa55) (f := (Value.int .u8)) isO hs_417 und22 siz5 rfl (.inl ⟨rfl, rfl⟩) (.inr ⟨_, rfl⟩) hx_419 fun a_420 c_421 hs_422 => ?_
  refine st_slice (Q := F6.Post F ro r) ?_
  have hs_423 := hs_422.nilOwn ro 1
  have hs_429 := hs_423.pull 1 rfl
  have hs_430 := hs_429.pull 1 rfl
  obtain ⟨x_424, hx_425, hp⟩ := bindp_some hp
  refine st_appR (Q := F6.Post F ro r) isO (l := []) (x := x_418) (f := (Value.int .u8)) hs_430 und22 und22 one5 rfl rfl rfl hx_425 fun a_426 h_427 hs_428 => ?_
  refine st_slice (Q := F6.Post F ro r) ?_
  refine st_pushJ (Q := F6.Post F ro r) hs_428 hs_428.low rfl fun h_431 _ hs_432 => ?_
  have hs_438 := hs_432.pull 1 rfl
  obtain ⟨x_433, hx_434, hp⟩ := bindp_some hp
  refine st_appO (Q := F6.Post F ro r) isO (l := x_424) (x := [35]) (f := (Value.int .u8)) hs_438 (fun _ => rfl) und22 und22 one5 rfl rfl rfl hx_434 fun a_435 h_436 hs_437 => ?_
  refine st_slice (Q := F6.Post F ro r) ?_
  have hs_606 := hs_437.pull 1 rfl
  have hs_607 := hs_606.tail
  have hs_608 := hs_607.pull 1 rfl
  have hs_609 := hs_608.tail
  have hs_610 := hs_609.pull 5 rfl
  have hs_611 := hs_610.pull 1 rfl
  have hs_612 := hs_611.pull 2 rfl
  have hs_613 := hs_612.pull 5 rfl
  have hs_614 := hs_613.pull 5 rfl
  have hs_615 := hs_614.pull 5 rfl
  exact F6.L8_ok hora lf a53 _ xa53 p54 mp54_0 mp54_1 ap54_2 _ xp54_2 a55 _ xa55 n56 a_435 x_433 0 _ hs_615 hp

def F6.p (lf : Nat) (x0_0 : Int) (x0_1 : Int) (xax0_2 : List Int) (x1 : Int) (xax2 : List Int) : Option (Bool) :=
  bindp (F12.p lf x0_0 x0_1 xax0_2 x1) fun r_387 =>
  letJ (fun (b45 : Bool) => (
    ifp b45 (
      bindp (F9.p lf) fun r_406 =>
      some r_406) (
      F6.J4p lf xax2 x0_0 x0_1 xax0_2 r_387.1 r_387.2) : Option (Bool))) fun j46p =>
  ifp (decide (((r_387.1).length : Int) < 3)) (
    j46p true) (
    j46p (decide ((xax2.length : Int) > 200)))

theorem F6.t_ok {ora : Ora} (hora : HOra9 ora) {lf ro : Nat} {F : List Ent} {r : (Bool)} (x0_0 : Int) (x0_1 : Int) (ax0_2 : Option Addr) (cx0_2 : Nat) (xax0_2 : List Int) (x1 : Int) (ax2 : Option Addr) (cx2 : Nat) (xax2 : List Int) (h : Heap) (hs : Sat ro h (.row ax0_2 cx0_2 (xax0_2.map (Value.int .u8)) :: .row ax2 cx2 (xax2.map (Value.int .u8)) :: .row (some ⟨0, 0, none⟩) 20 (gl0.map (Value.int .u64)) :: F)) (hp : F6.p lf x0_0 x0_1 xax0_2 x1 xax2 = some r) : F6.Post F ro r (F6.t (callW Tryd.prog ora) lf ro x0_0 x0_1 ax0_2 xax0_2.length cx0_2 x1 ax2 xax2.length cx2 h) := by
  unfold F6.t
  unfold F6.p at hp
  refine st_pushJ (Q := F6.Post F ro r) hs hs.low rfl fun h_380 _ hs_381 => ?_
  refine st_loadA (Q := F6.Post F ro r) isO hs_381 agg24 siz24 rfl ?_
  refine st_agg (Q := F6.Post F ro r) (l := [.int .i64 x0_0, .int .i64 x0_1, .slice ax0_2 xax0_2.length cx0_2]) ?_
  refine st_cons (Q := F6.Post F ro r) ?_
  refine st_int (Q := F6.Post F ro r) ?_
  refine st_cons (Q := F6.Post F ro r) ?_
  refine st_int (Q := F6.Post F ro r) ?_
  refine st_cons (Q := F6.Post F ro r) ?_
  refine st_slice (Q := F6.Post F ro r) ?_
  refine st_nil (Q := F6.Post F ro r) ?_
  have hs_382 := hs_381.pull 1 rfl
  have hs_383 := hs_382.dup
  have hs_384 := hs_383.pull 4 rfl
  have hs_385 := hs_384.dup
  have hs_386 := hs_385.pull 2 rfl
  obtain ⟨r_387, hx_388, hp⟩ := bindp_some hp
  obtain ⟨a_392, h_389, e_391, hs_390⟩ := F12.ok hora.toHOra (ro := ro) (F := .row (some ⟨0, 0, none⟩) 20 (gl0.map (Value.int .u64)) :: .row ax0_2 cx0_2 (xax0_2.map (Value.int .u8)) :: .own ro (some ⟨h.next, 0, none⟩) 1 [.int .i64 x0_0, .int .i64 x0_1, .slice ax0_2 xax0_2.length cx0_2] :: .row ax2 cx2 (xax2.map (Value.int .u8)) :: F) x0_0 x0_1 ax0_2 cx0_2 xax0_2 x1 _ hs_386 hx_388
  refine st_ok (Q := F6.Post F ro r) isO e_391 ?_
  refine st_tup (Q := F6.Post F ro r) (l := [.slice a_392 (r_387.1).length (r_387.1).length, .int .i64 r_387.2]) ?_
  refine st_cons (Q := F6.Post F ro r) ?_
  refine st_slice (Q := F6.Post F ro r) ?_
  refine st_cons (Q := F6.Post F ro r) ?_
  refine st_int (Q := F6.Post F ro r) ?_
  refine st_nil (Q := F6.Post F ro r) ?_
  refine st_letJ hp (fun j46p j46 => ∀ (b45 : Bool), Sat ro h_389 (.own ro a_392 1 (r_387.1.map (Value.int .u8)) :: .row (some ⟨0, 0, none⟩) 20 (gl0.map (Value.int .u64)) :: .row ax0_2 cx0_2 (xax0_2.map (Value.int .u8)) :: .own ro (some ⟨h.next, 0, none⟩) 1 [.int .i64 x0_0, .int .i64 x0_1, .slice ax0_2 xax0_2.length cx0_2] :: .row ax2 cx2 (xax2.map (Value.int .u8)) :: F) → j46p b45 = some r → F6.Post F ro r (j46 b45)) ?_ ?_
  · intro b45 hs hp
    refine st_if (Q := F6.Post F ro r) (fun hc_405 => ?_) (fun hc_405 => ?_)
    · replace hp := ifp_t hc_405 hp
      obtain ⟨r_406, hx_407, hp⟩ := bindp_some hp
      obtain ⟨h_408, e_410, hs_409⟩ := F9.ok hora (ro := ro) (F := .own ro a_392 1 (r_387.1.map (Value.int .u8)) :: .row (some ⟨0, 0, none⟩) 20 (gl0.map (Value.int .u64)) :: .row ax0_2 cx0_2 (xax0_2.map (Value.int .u8)) :: .own ro (some ⟨h.next, 0, none⟩) 1 [.int .i64 x0_0, .int .i64 x0_1, .slice ax0_2 xax0_2.length cx0_2] :: .row ax2 cx2 (xax2.map (Value.int .u8)) :: F)  _ hs hx_407
      refine st_ok (Q := F6.Post F ro r) isO e_410 ?_
      refine st_bool (Q := F6.Post F ro r) ?_
      have hs_411 := hs_409.tail
      have hs_412 := hs_411.tail
      have hs_413 := hs_412.tail
      have hs_414 := hs_413.tail
      have hs_415 := hs_414.tail
      cases hp
      exact ⟨_, rfl, hs_415⟩
    · replace hp := ifp_f hc_405 hp
      have hs_616 := hs.pull 1 rfl
      have hs_617 := hs_616.pull 1 rfl
      have hs_618 := hs_617.pull 2 rfl
      have hs_619 := hs_618.pull 3 rfl
      have hs_620 := hs_619.pull 4 rfl
      exact F6.J4_ok hora ax2 _ xax2 h.next x0_0 x0_1 ax0_2 _ xax0_2 a_392 r_387.1 r_387.2 _ hs_620 hp
  · intro j46p j46 hj46 hp
    refine st_if (Q := F6.Post F ro r) (fun hc_393 => ?_) (fun hc_393 => ?_)
    · replace hp := ifp_t hc_393 hp
      have hs_394 := hs_390.pull 4 rfl
      have hs_395 := hs_394.pull 4 rfl
      have hs_396 := hs_395.pull 4 rfl
      have hs_397 := hs_396.pull 4 rfl
      have hs_398 := hs_397.pull 4 rfl
      exact hj46 true hs_398 hp
    · replace hp := ifp_f hc_393 hp
      have hs_399 := hs_390.pull 4 rfl
      have hs_400 := hs_399.pull 4 rfl
      have hs_401 := hs_400.pull 4 rfl
      have hs_402 := hs_401.pull 4 rfl
      have hs_403 := hs_402.pull 4 rfl
      exact hj46 (decide ((xax2.length : Int) > 200)) hs_403 hp

theorem F6.ok {ora : Ora} (hora : HOra9 ora) {lf ro : Nat} {F : List Ent} {r : (Bool)} (x0_0 : Int) (x0_1 : Int) (ax0_2 : Option Addr) (cx0_2 : Nat) (xax0_2 : List Int) (x1 : Int) (ax2 : Option Addr) (cx2 : Nat) (xax2 : List Int) (h : Heap) (hs : Sat ro h (.row ax0_2 cx0_2 (xax0_2.map (Value.int .u8)) :: .row ax2 cx2 (xax2.map (Value.int .u8)) :: .row (some ⟨0, 0, none⟩) 20 (gl0.map (Value.int .u64)) :: F)) (hp : F6.p lf x0_0 x0_1 xax0_2 x1 xax2 = some r) : F6.Post F ro r (callW Tryd.prog ora ro 6 [.agg #[.int .i64 x0_0, .int .i64 x0_1, .slice ax0_2 xax0_2.length cx0_2], .int .u8 x1, .slice ax2 xax2.length cx2] h) := by
  have h1 := F6.t_ok hora x0_0 x0_1 ax0_2 cx0_2 xax0_2 x1 ax2 cx2 xax2 h hs hp
  have h2 : callW Tryd.prog ora ro 6 [.agg #[.int .i64 x0_0, .int .i64 x0_1, .slice ax0_2 xax0_2.length cx0_2], .int .u8 x1, .slice ax2 xax2.length cx2] h = _ := callW_body (hora.none _ _ _ _ (by decide)) Tryd.func6 (F6.le (callW Tryd.prog ora) lf ro x0_0 x0_1 ax0_2 xax0_2.length cx0_2 x1 ax2 xax2.length cx2 h) (F6.Post.ne h1)
  rw [h2]; exact h1

end Go.Proofs.YtgpnjdldpehidaaDoor
