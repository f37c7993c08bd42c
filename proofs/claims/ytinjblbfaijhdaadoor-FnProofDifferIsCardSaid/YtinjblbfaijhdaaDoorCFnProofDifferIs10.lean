/- The law FnProofDifferIs holds for all that it draws. -/
import Derived.Test.YtinjblbfaijhdaaDoorProg
import Derived.Below
import Derived.Deep.Draws
import Derived.Deep.AppendLies
import Derived.Maps.AppendAt
import Derived.OwnWalk
import Derived.Laws.BytesArg
import Derived.Laws.MakeOwn
import Derived.Laws.OwnMore
import Derived.Deep.OwnRows
import Derived.Tactics
import Derived.Lib.ConvBytes
import Derived.Laws.Slices
import Derived.WalkKit
import Derived.KernelRfl
import Derived.RowKit3
import Derived.Deep.LoopGhost
import Derived.Deep.QuietTactic
import Derived.BigQuiet
import Derived.WideLaws
import Derived.Deep.DeepCutAuto
import Derived.Deep.CutBlock
import Derived.Deep.RegionHeld3
import Derived.Laws.Rows
import Derived.Lib.AppendStr
import Derived.ArgAppend
import Derived.Laws.IdiomCopy
import Derived.OrdersHeld
import Derived.Laws.BitsLemmas
import Derived.RowKit
import Derived.Lib.Hide
import Derived.WalkSpells
import Derived.Lib.Bytealg
import Derived.Lib.Strings
import Derived.Lib.Slices
import Derived.Lib.Walk
import Derived.Laws.StructEq
import Derived.Test.YtinjblbfaijhdaaDoorCFnProofDifferIs5
import Derived.Test.YtinjblbfaijhdaaDoorCFnProofDifferIs7
import Derived.Test.YtinjblbfaijhdaaDoorCFnProofDifferIs8
import Derived.Test.YtinjblbfaijhdaaDoorCFnProofDifferIs9
namespace Go.Proofs.YtinjblbfaijhdaaDoor.Q
open Go.RowKit Go.Proofs.YtinjblbfaijhdaaDoorW.PrintWords Go.Proofs.YtinjblbfaijhdaaDoorW.PrintLast Go.Proofs.YtinjblbfaijhdaaDoorW.PrintMore
attribute [local go_sem] max2_int min2_int max_two min_two max_three min_three max_four min_four   -- for this text's walks alone
set_option linter.unusedVariables false
set_option linter.unusedSimpArgs false
def errW : Option Int → Value
 | none => .nilIface
 | some c => .iface 103 (.int .i64 c)
theorem errW_none : errW none = .nilIface := rfl
theorem errW_some (c : Int) : errW (some c) = .iface 103 (.int .i64 c) := rfl

theorem info3 : (Tryd.prog.info? 3).map (fun i => (i.zero, i.size, i.bytes)) = some (some (.int .i64 0), 1, 8) := by kernel_rfl
theorem info4 : (Tryd.prog.info? 4).map (fun i => (i.zero, i.size, i.bytes)) = some (some (.bool false), 1, 1) := by kernel_rfl
theorem info5 : (Tryd.prog.info? 5).map (fun i => (i.zero, i.size, i.bytes)) = some (some (.int .u8 0), 1, 1) := by kernel_rfl

def spec_l1Signs.l0 : Nat → ByteArray → List Bool → Int → Option (List Bool × Bool)
 | 0, _, _, _ => none
 | k + 1, x0, x4, x5 => if x5 < (x0.size : Int) then (if 0 ≤ x5 then (if (bt x0 x5) = 48 then (if x4.length < 140737488355328 then (spec_l1Signs.l0 k x0 (x4 ++ [((bt x0 x5) == 49)]) (wrap64 (x5 + 1))) else (none)) else (if (bt x0 x5) = 49 then (if x4.length < 140737488355328 then (spec_l1Signs.l0 k x0 (x4 ++ [true]) (wrap64 (x5 + 1))) else (none)) else (some ((([] : List Bool)), false)))) else (none)) else (some (x4, true))
def spec_l1Signs.f (k : Nat) (a0 : ByteArray) : Option (List Bool × Bool) := spec_l1Signs.l0 k a0 (([] : List Bool)) 0
theorem spec_l1Signs.mono_l : ∀ k, (∀ y0 y1 y2, LeO (spec_l1Signs.l0 k y0 y1 y2) (spec_l1Signs.l0 (k + 1) y0 y1 y2))
 | 0 => fun _ _ _ r h => by simp [spec_l1Signs.l0] at h
 | k + 1 => by
  have ih0 := spec_l1Signs.mono_l k
  ·intro y0 y1 y2
   unfold spec_l1Signs.l0
   repeat' first | (with_reducible exact ih0 _ _ _) | (with_reducible exact LeO.refl _) | (with_reducible refine LeO.ite ?_ ?_)
theorem spec_l1Signs.mono : ∀ a0 k, LeO (spec_l1Signs.f k a0) (spec_l1Signs.f (k + 1) a0) := by
 intro a0 k
 have ih0 := spec_l1Signs.mono_l k
 unfold spec_l1Signs.f
 repeat' (with_reducible exact ih0 _ _ _)
set_option maxHeartbeats 8000000 in
set_option maxRecDepth 100000 in
theorem spec_l1Signs.calls (k : Nat) (a0 : ByteArray) (r1 : List Bool) (r2 : Bool) (w : World) (h : spec_l1Signs.f k a0 = some (r1, r2)) :
  Calls Tryd.prog 77 #[.string a0] w fun e w' => ∃ v0_ : Value, e = .returned (.tuple #[v0_, .bool r2]) ∧ Kd.R Kd.bool 4 w' w.heap.size (fun _ => True) v0_ r1 ∧ Below w.heap.size w w' := by
 have HB := Aside0.mk (Below.refl w.heap.size w)
 have H : (spec_l1Signs.l0 k a0 (([] : List Bool)) 0) = some (r1, r2) := h
 clear h
 obtain ⟨y268, hy268⟩ : ∃ y_ : List Bool, y_ = (([] : List Bool)) := ⟨_, rfl⟩
 replace H : (spec_l1Signs.l0 k a0 y268 0) = some (r1, r2) := by first | (rw [hy268]; with_reducible exact H)
 have Ny268 := Aside0.mk hy268
 clear hy268
 have H' := Aside0.mk H
 clear H
 go_enter Tryd.func77, Tryd.ntmps77
 go_wp2_with (first | ((with_reducible refine gate_dst (N := 6) rfl ?_); refine Kd.R_lit Kd.bool _ 4 ?hg (N := 6) ?hd (xs := ([] : List Bool)) (inner := []) (ok := fun _ => True) (okp := fun _ => True) ?hr ?hp (fun _ hk => hk) trivial (Below.refl _ _) (Nat.le_refl _) (by simp) ?_; (case hd => rfl); (case hg => rfl); (case hr => first | (go_simp; done)); (case hp => exact (Reps.none _ _)); intro v269 w2 ho3 hb hg_ hnew_; clear hg_ hnew_; (rw [← Ny268.out] at ho3); have HO270 := Aside0.mk (Kd.R_lower ho3 (below_size HB.out)); replace HB := Aside0.mk (below_step HB.out hb); clear hb ho3))
 go_loopg [4, 5] k (fun kq v4 v5 w' => ∃ (x4_1 : List Bool) (x5_1 : Int), v5 = .int .i64 x5_1 ∧ Aside0 (spec_l1Signs.l0 kq a0 x4_1 x5_1 = some (r1, r2)) ∧ Aside0 (kq ≤ k) ∧ Aside0 (Kd.R Kd.bool 4 w' w.heap.size (fun _ => True) v4 x4_1) ∧ Aside0 (Below w.heap.size w w'))
 case atStart => exact ⟨(y268), (0), (by rfl), H', ⟨Nat.le_refl _⟩, ⟨by exact HO270.out⟩, ⟨HB.out⟩⟩
 case round =>
  clear H'
  obtain ⟨x4_1, x5_1, rfl, HA, HK1, HO_4, HB⟩ := hrel
  cases gk with
  | zero => exact absurd HA.out (by simp [spec_l1Signs.l0])
  | succ k1 =>
   have H := HA.out
   clear HA
   simp only [spec_l1Signs.l0] at H
   by_cases c4 : x5_1 < (a0.size : Int)
   ·rw [if_pos c4] at H
    have c4b0 : decide (x5_1 < (a0.size : Int)) = true := decide_eq_true c4
    clear c4
    by_cases c5 : 0 ≤ x5_1
    ·rw [if_pos c5] at H
     have c5b0 : decide (0 ≤ x5_1) = true := decide_eq_true c5
     clear c5
     by_cases c7 : (bt a0 x5_1) = 48
     ·rw [if_pos c7] at H
      have c7b0 : ((bt a0 x5_1) == 48) = true := beq_iff_eq.mpr c7
      have c7b1 : ((bt a0 x5_1) != 48) = false := bne_eq_false_iff_eq.mpr c7
      clear c7
      by_cases c9 : x4_1.length < 140737488355328
      ·rw [if_pos c9] at H
       have LMc9 := Aside0.mk c9
       clear c9
       obtain ⟨y271, hy271⟩ : ∃ y_ : List Bool, y_ = (x4_1 ++ [((bt a0 x5_1) == 49)]) := ⟨_, rfl⟩
       replace H : (spec_l1Signs.l0 k1 a0 y271 (wrap64 (x5_1 + 1))) = some (r1, r2) := by first | (rw [hy271]; with_reducible exact H)
       have Ny271 := Aside0.mk hy271
       clear hy271
       have H' := Aside0.mk H
       clear H
       have p6 : 0 ≤ (x5_1 : Int) := of_decide_eq_true (by (with_reducible assumption))
       have q6 : x5_1 < (a0.size : Int) := of_decide_eq_true (by (with_reducible assumption))
       have hx6 := bt_at a0 x5_1
       replace p6 := eq_true p6
       replace q6 := eq_true q6
       have p8 : 0 ≤ (x5_1 : Int) := of_decide_eq_true (by (with_reducible assumption))
       have q8 : x5_1 < (a0.size : Int) := of_decide_eq_true (by (with_reducible assumption))
       have hx8 := bt_at a0 x5_1
       replace p8 := eq_true p8
       replace q8 := eq_true q8
       go_wp2_with (first | ((with_reducible refine gate_builtin (b := .append) (xs := #[.tmp 24, .tmp 29]) rfl ?_); at_builtin; refine Kd.R_append Kd.bool (w0 := w) w.heap.size rfl (.tmp 24) (.tmp 29) 47 4 (.bool false) 1 rfl Tryd.underlying47 info4 rfl (by decide) (by omega) u4 x4_1 ((bt a0 x5_1) == 49) [.bool ((bt a0 x5_1) == 49)] (fun _ => True) (fun _ => False) rfl rfl ?aP (fun _ hk => hk.elim) ?aF ?aO ?aB ?aS ?aL ?_; (case aP => exact rfl); (case aB => exact HB.out); (case aF => exact (fun _ _ => trivial)); (case aO => exact HO_4.out); (case aS => exact (below_size HB.out)); (case aL => have := LMc9.out; omega); intro v272 w10 ho hb hg hat; rw [← Ny271.out] at ho; replace HB := Aside0.mk hb; have HO273 := Aside0.mk ho; clear HO_4; clear ho hb hg hat))
       go_roundg k1
       case measure => have := HK1.out; omega
       case rel => exact ⟨(y271), (wrap64 (x5_1 + 1)), (by rfl), H', ⟨by have := HK1.out; omega⟩, ⟨by exact HO273.out⟩, ⟨HB.out⟩⟩
      ·rw [if_neg c9] at H
       exact absurd H (by simp)
     ·rw [if_neg c7] at H
      have c7b0 : ((bt a0 x5_1) == 48) = false := beq_eq_false_iff_ne.mpr c7
      have c7b1 : ((bt a0 x5_1) != 48) = true := bne_iff_ne.mpr c7
      by_cases c12 : (bt a0 x5_1) = 49
      ·rw [if_pos c12] at H
       have c12b0 : ((bt a0 x5_1) == 49) = true := beq_iff_eq.mpr c12
       have c12b1 : ((bt a0 x5_1) != 49) = false := bne_eq_false_iff_eq.mpr c12
       clear c12
       by_cases c14 : x4_1.length < 140737488355328
       ·rw [if_pos c14] at H
        have LMc14 := Aside0.mk c14
        clear c14
        obtain ⟨y274, hy274⟩ : ∃ y_ : List Bool, y_ = (x4_1 ++ [true]) := ⟨_, rfl⟩
        replace H : (spec_l1Signs.l0 k1 a0 y274 (wrap64 (x5_1 + 1))) = some (r1, r2) := by first | (rw [hy274]; with_reducible exact H)
        have Ny274 := Aside0.mk hy274
        clear hy274
        have H' := Aside0.mk H
        clear H
        have p6 : 0 ≤ (x5_1 : Int) := of_decide_eq_true (by (with_reducible assumption))
        have q6 : x5_1 < (a0.size : Int) := of_decide_eq_true (by (with_reducible assumption))
        have hx6 := bt_at a0 x5_1
        replace p6 := eq_true p6
        replace q6 := eq_true q6
        have p11 : 0 ≤ (x5_1 : Int) := of_decide_eq_true (by (with_reducible assumption))
        have q11 : x5_1 < (a0.size : Int) := of_decide_eq_true (by (with_reducible assumption))
        have hx11 := bt_at a0 x5_1
        replace p11 := eq_true p11
        replace q11 := eq_true q11
        have p13 : 0 ≤ (x5_1 : Int) := of_decide_eq_true (by (with_reducible assumption))
        have q13 : x5_1 < (a0.size : Int) := of_decide_eq_true (by (with_reducible assumption))
        have hx13 := bt_at a0 x5_1
        replace p13 := eq_true p13
        replace q13 := eq_true q13
        go_wp2_with (first | ((with_reducible refine gate_builtin (b := .append) (xs := #[.tmp 24, .tmp 29]) rfl ?_); at_builtin; refine Kd.R_append Kd.bool (w0 := w) w.heap.size rfl (.tmp 24) (.tmp 29) 47 4 (.bool false) 1 rfl Tryd.underlying47 info4 rfl (by decide) (by omega) u4 x4_1 true [.bool true] (fun _ => True) (fun _ => False) rfl rfl ?aP (fun _ hk => hk.elim) ?aF ?aO ?aB ?aS ?aL ?_; (case aP => exact rfl); (case aB => exact HB.out); (case aF => exact (fun _ _ => trivial)); (case aO => exact HO_4.out); (case aS => exact (below_size HB.out)); (case aL => have := LMc14.out; omega); intro v275 w15 ho hb hg hat; rw [← Ny274.out] at ho; replace HB := Aside0.mk hb; have HO276 := Aside0.mk ho; clear HO_4; clear ho hb hg hat))
        go_roundg k1
        case measure => have := HK1.out; omega
        case rel => exact ⟨(y274), (wrap64 (x5_1 + 1)), (by rfl), H', ⟨by have := HK1.out; omega⟩, ⟨by exact HO276.out⟩, ⟨HB.out⟩⟩
       ·rw [if_neg c14] at H
        exact absurd H (by simp)
      ·rw [if_neg c12] at H
       have c12b0 : ((bt a0 x5_1) == 49) = false := beq_eq_false_iff_ne.mpr c12
       have c12b1 : ((bt a0 x5_1) != 49) = true := bne_iff_ne.mpr c12
       obtain ⟨y277, hy277⟩ : ∃ y_ : List Bool, y_ = (([] : List Bool)) := ⟨_, rfl⟩
       replace H : (some (y277, false)) = some (r1, r2) := by first | (rw [hy277]; with_reducible exact H)
       have Ny277 := Aside0.mk hy277
       clear hy277
       simp only [Option.some.injEq, Prod.mk.injEq] at H
       obtain ⟨rfl, rfl⟩ := H
       have p6 : 0 ≤ (x5_1 : Int) := of_decide_eq_true (by (with_reducible assumption))
       have q6 : x5_1 < (a0.size : Int) := of_decide_eq_true (by (with_reducible assumption))
       have hx6 := bt_at a0 x5_1
       replace p6 := eq_true p6
       replace q6 := eq_true q6
       have p11 : 0 ≤ (x5_1 : Int) := of_decide_eq_true (by (with_reducible assumption))
       have q11 : x5_1 < (a0.size : Int) := of_decide_eq_true (by (with_reducible assumption))
       have hx11 := bt_at a0 x5_1
       replace p11 := eq_true p11
       replace q11 := eq_true q11
       go_wp2_with (first | ((with_reducible refine gate_dst (N := 23) rfl ?_); refine Kd.R_lit Kd.bool _ 4 ?hg (N := 23) ?hd (xs := ([] : List Bool)) (inner := []) (ok := fun _ => True) (okp := fun _ => True) ?hr ?hp (fun _ hk => hk) trivial (Below.refl _ _) (Nat.le_refl _) (by simp) ?_; (case hd => rfl); (case hg => rfl); (case hr => first | (go_simp; done)); (case hp => exact (Reps.none _ _)); intro v278 w16 ho17 hb hg_ hnew_; clear hg_ hnew_; (rw [← Ny277.out] at ho17); have HO279 := Aside0.mk (Kd.R_lower (Kd.R_new' ho17 (Kd.R_lt HO_4.out)) (below_size HB.out)); replace HO_4 := Aside0.mk (Kd.R_elder' HO_4.out (Kd.R_base ho17) hb); replace HB := Aside0.mk (below_step HB.out hb); clear hb ho17))
       go_ret2
       exact ⟨_, by first | rfl | (simp [*, errW_none, errW_some] <;> rfl), by exact Kd.R_mono HO279.out (fun _ hk => trivial), HB.out⟩
    ·rw [if_neg c5] at H
     exact absurd H (by simp)
   ·rw [if_neg c4] at H
    have c4b0 : decide (x5_1 < (a0.size : Int)) = false := decide_eq_false c4
    clear c4
    simp only [Option.some.injEq, Prod.mk.injEq] at H
    obtain ⟨rfl, rfl⟩ := H
    go_wp2
    go_ret2
    exact ⟨_, by first | rfl | (simp [*, errW_none, errW_some] <;> rfl), by exact HO_4.out, HB.out⟩


mutual
def spec_l1Read.j1 : Nat → ByteArray → Int → List Bool → List Bool → Option (List Bool × List Bool × Bool)
 | 0, _, _, _, _ => none
 | k + 1, x0, x5, x288000, x288001 => if (wrap64 (x5 + 2)) ≥ (x0.size : Int) then (spec_l1Read.j2 k x0 x5 true x288000 x288001) else (if 0 ≤ (wrap64 ((x0.size : Int) - 1)) then (if (wrap64 ((x0.size : Int) - 1)) < (x0.size : Int) then (spec_l1Read.j2 k x0 x5 ((bt x0 (wrap64 ((x0.size : Int) - 1))) != 41) x288000 x288001) else (none)) else (none))
def spec_l1Read.j2 : Nat → ByteArray → Int → Bool → List Bool → List Bool → Option (List Bool × List Bool × Bool)
 | 0, _, _, _, _, _ => none
 | k + 1, x0, x5, x37, x288000, x288001 => if x37 = true then (some (x288000, x288001, false)) else (if 0 ≤ x5 then (if x5 ≤ (x0.size : Int) then ((spec_l1Signs.f k (x0.extract 0 (x5 : Int).toNat)).bind fun bt288 => (if 0 ≤ (wrap64 (x5 + 1)) then (if (wrap64 (x5 + 1)) ≤ (wrap64 ((x0.size : Int) - 1)) then (if (wrap64 ((x0.size : Int) - 1)) ≤ (x0.size : Int) then ((spec_l1Signs.f k (x0.extract ((wrap64 (x5 + 1)) : Int).toNat ((wrap64 ((x0.size : Int) - 1)) : Int).toNat)).bind fun bt292 => (if bt288.2 = true then (if bt292.2 = true then (if (bt288.1.length : Int) > 60 then (some (x288000, x288001, false)) else (if (bt292.1.length : Int) > 60 then (some (x288000, x288001, false)) else (some (bt288.1, bt292.1, true)))) else (some (x288000, x288001, false))) else (some (x288000, x288001, false)))) else (none)) else (none)) else (none))) else (none)) else (none))
def spec_l1Read.l0 : Nat → ByteArray → Int → List Bool → List Bool → Option (List Bool × List Bool × Bool)
 | 0, _, _, _, _ => none
 | k + 1, x0, x5, x288000, x288001 => if x5 < (x0.size : Int) then (if 0 ≤ x5 then (if (bt x0 x5) = 40 then (spec_l1Read.j1 k x0 x5 x288000 x288001) else (spec_l1Read.l0 k x0 (wrap64 (x5 + 1)) x288000 x288001)) else (none)) else (spec_l1Read.j1 k x0 x5 x288000 x288001)
end
def spec_l1Read.f (k : Nat) (a0 : ByteArray) : Option (List Bool × List Bool × Bool) := spec_l1Read.l0 k a0 0 (([] : List Bool)) (([false] : List Bool))
theorem spec_l1Read.mono_l : ∀ k, (∀ y0 y1 y2 y3, LeO (spec_l1Read.j1 k y0 y1 y2 y3) (spec_l1Read.j1 (k + 1) y0 y1 y2 y3)) ∧ (∀ y0 y1 y2 y3 y4, LeO (spec_l1Read.j2 k y0 y1 y2 y3 y4) (spec_l1Read.j2 (k + 1) y0 y1 y2 y3 y4)) ∧ (∀ y0 y1 y2 y3, LeO (spec_l1Read.l0 k y0 y1 y2 y3) (spec_l1Read.l0 (k + 1) y0 y1 y2 y3))
 | 0 => ⟨fun _ _ _ _ r h => by simp [spec_l1Read.j1] at h, fun _ _ _ _ _ r h => by simp [spec_l1Read.j2] at h, fun _ _ _ _ r h => by simp [spec_l1Read.l0] at h⟩
 | k + 1 => by
  obtain ⟨ih0, ih1, ih2⟩ := spec_l1Read.mono_l k
  refine ⟨?_, ?_, ?_⟩
  ·intro y0 y1 y2 y3
   unfold spec_l1Read.j1
   repeat' first | (with_reducible exact ih1 _ _ _ _ _) | (with_reducible exact LeO.refl _) | (with_reducible refine LeO.ite ?_ ?_)
  ·intro y0 y1 y2 y3 y4
   unfold spec_l1Read.j2
   repeat' first | (with_reducible exact spec_l1Signs.mono _ _) | (with_reducible exact LeO.refl _) | (with_reducible refine LeO.ite ?_ ?_) | (with_reducible refine LeO.bind ?_ (fun _ => ?_))
  ·intro y0 y1 y2 y3
   unfold spec_l1Read.l0
   repeat' first | (with_reducible exact ih0 _ _ _ _) | (with_reducible exact ih2 _ _ _ _) | (with_reducible exact LeO.refl _) | (with_reducible refine LeO.ite ?_ ?_)
theorem spec_l1Read.mono : ∀ a0 k, LeO (spec_l1Read.f k a0) (spec_l1Read.f (k + 1) a0) := by
 intro a0 k
 obtain ⟨ih0, ih1, ih2⟩ := spec_l1Read.mono_l k
 unfold spec_l1Read.f
 repeat' (with_reducible exact ih2 _ _ _ _)
set_option maxHeartbeats 8000000 in
set_option maxRecDepth 100000 in
theorem spec_l1Read.calls (k : Nat) (a0 : ByteArray) (r1 : List Bool) (r2 : List Bool) (r3 : Bool) (w : World) (h : spec_l1Read.f k a0 = some (r1, r2, r3)) :
  Calls Tryd.prog 59 #[.string a0] w fun e w' => ∃ v0_ v1_ : Value, e = .returned (.tuple #[.agg #[v0_, v1_], .bool r3]) ∧ Kd.R Kd.bool 4 w' w.heap.size (fun k_ => some k_ ≠ (v1_ : Value).ownBlock) v0_ r1 ∧ Kd.R Kd.bool 4 w' w.heap.size (fun k_ => some k_ ≠ (v0_ : Value).ownBlock) v1_ r2 ∧ Below w.heap.size w w' := by
 have hu56 := Tryd.underlying56
 have HB := Aside0.mk (Below.refl w.heap.size w)
 have H : (spec_l1Read.l0 k a0 0 (([] : List Bool)) (([false] : List Bool))) = some (r1, r2, r3) := h
 clear h
 obtain ⟨y281, hy281⟩ : ∃ y_ : List Bool, y_ = (([] : List Bool)) := ⟨_, rfl⟩
 replace H : (spec_l1Read.l0 k a0 0 y281 (([false] : List Bool))) = some (r1, r2, r3) := by first | (rw [hy281]; with_reducible exact H)
 have Ny281 := Aside0.mk hy281
 clear hy281
 obtain ⟨y284, hy284⟩ : ∃ y_ : List Bool, y_ = (([false] : List Bool)) := ⟨_, rfl⟩
 replace H : (spec_l1Read.l0 k a0 0 y281 y284) = some (r1, r2, r3) := by first | (rw [hy284]; with_reducible exact H)
 have Ny284 := Aside0.mk hy284
 clear hy284
 have HC2 := Aside0.mk H
 clear H
 go_enter Tryd.func59, Tryd.ntmps59
 go_upto_block 0 with (first | ((with_reducible refine gate_dst (N := 2) rfl ?_); (try (refine gate_guard (by rfl) ?_; dsimp only)); refine box_event ?hg (N := 2) ?hd (cs := #[.slice none 0 0, .slice none 0 0]) (t := 56) ?hr ?_; (case hd => rfl); (case hg => rfl); (case hr => first | (go_simp; done)); intro gb280 hg w3 hbox hb; have BK280 := Aside0.mk hbox; have GW280 := Aside0.mk ((by rw [hg]; exact (below_size HB.out) : w.heap.size ≤ gb280)); have GE280 := Aside0.mk ((by rw [hg]; exact (below_size HB.out) : w.heap.size ≤ gb280)); replace HB := Aside0.mk (below_step HB.out hb); clear hb hbox hg) | ((with_reducible refine gate_dst (N := 10) rfl ?_); (try (refine gate_guard (by rfl) ?_; dsimp only)); refine Kd.R_lit Kd.bool _ 4 ?hg (N := 10) ?hd (xs := ([] : List Bool)) (inner := []) (ok := fun _ => True) (okp := fun _ => True) ?hr ?hp (fun _ hk => hk) trivial (Below.refl _ _) (Nat.le_refl _) (by simp) ?_; (case hd => rfl); (case hg => rfl); (case hr => first | (go_simp; done)); (case hp => exact (Reps.none _ _)); intro v282 w4 ho5 hb hg_ hnew_; clear hg_ hnew_; (rw [← Ny281.out] at ho5); have HO283 := Aside0.mk (Kd.R_lower ho5 (below_size HB.out)); replace BK280 := Aside0.mk (blk_below (g := gb280) (o := .cells #[.slice none 0 0, .slice none 0 0] 56 (0, 0)) BK280.out hb); replace HB := Aside0.mk (below_step HB.out hb); clear hb ho5) | ((with_reducible refine gate_dst (N := 11) rfl ?_); (try (refine gate_guard (by rfl) ?_; dsimp only)); refine Kd.R_lit Kd.bool _ 4 ?hg (N := 11) ?hd (xs := ([false] : List Bool)) (inner := [.bool false]) (ok := fun _ => True) (okp := fun _ => True) ?hr ?hp (fun _ hk => hk) trivial (Below.refl _ _) (Nat.le_refl _) (by simp) ?_; (case hd => rfl); (case hg => rfl); (case hr => first | (go_simp; done)); (case hp => exact (Reps.one (show Kd.M Kd.bool _ _ _ false [.bool false] from rfl) (Reps.none _ _))); intro v285 w6 ho7 hb hg_ hnew_; clear hg_ hnew_; (rw [← Ny284.out] at ho7); have HO286 := Aside0.mk (Kd.R_lower (Kd.R_new' ho7 (Kd.R_lt HO283.out)) (below_size HB.out)); replace HO283 := Aside0.mk (Kd.R_elder' HO283.out (Kd.R_base ho7) hb); replace BK280 := Aside0.mk (blk_below (g := gb280) (o := .cells #[.slice none 0 0, .slice none 0 0] 56 (0, 0)) BK280.out hb); replace HB := Aside0.mk (below_step HB.out hb); clear hb ho7; obtain ⟨Ao8, co8, eo8⟩ := Kd.R_slice HO286.out; subst eo8; obtain ⟨Ao9, co9, eo9⟩ := Kd.R_slice HO283.out; subst eo9) | ((with_reducible refine gate_dst (N := 4) rfl ?_); (try (refine gate_guard (by rfl) ?_; dsimp only)); refine box_event ?hg (N := 4) ?hd (cs := #[.slice none 0 0, .slice none 0 0]) (t := 56) ?hr ?_; (case hd => rfl); (case hg => rfl); (case hr => first | (go_simp; done)); intro gb287 hg w10 hbox hb; replace HO283 := Aside0.mk (Kd.R_below HO283.out hb); replace HO286 := Aside0.mk (Kd.R_below HO286.out hb); have BK287 := Aside0.mk hbox; have GW287 := Aside0.mk ((by rw [hg]; exact (below_size HB.out) : w.heap.size ≤ gb287)); have GE287 := Aside0.mk ((by rw [hg]; exact (below_size HB.out) : w.heap.size ≤ gb287)); replace HB := Aside0.mk (below_step HB.out hb); have NB280_287 := Aside0.mk ((by rw [hg]; exact Nat.ne_of_lt (blk_lt (g := gb280) (o := .cells #[.slice none 0 0, .slice none 0 0] 56 (0, 0)) BK280.out) : gb280 ≠ gb287)); have NB287_280 := Aside0.mk ((by rw [hg]; exact Nat.ne_of_gt (blk_lt (g := gb280) (o := .cells #[.slice none 0 0, .slice none 0 0] 56 (0, 0)) BK280.out) : gb287 ≠ gb280)); replace BK280 := Aside0.mk (blk_below (g := gb280) (o := .cells #[.slice none 0 0, .slice none 0 0] 56 (0, 0)) BK280.out hb); clear hb hbox hg; have hnb11 := NB287_280.out; have hnc11 := NB280_287.out; have hcz12_0 : w10.cell? ⟨gb287, 0, none⟩ = some (.slice none 0 0) := (blk_cell BK287.out 0).trans rfl; have hcz12_1 : w10.cell? ⟨gb287, 1, none⟩ = some (.slice none 0 0) := (blk_cell BK287.out 1).trans rfl; have hfz12_0 := blk_frozen BK287.out 0; have hfz12_1 := blk_frozen BK287.out 1))
 go_cut [5] (fun v5 wc => ∃ (kq : Nat) (x5_1 : Int), v5 = .int .i64 x5_1 ∧ Aside0 (spec_l1Read.j1 kq a0 x5_1 y281 y284 = some (r1, r2, r3)) ∧ Aside0 (kq ≤ k) ∧ Aside0 (Kd.R Kd.bool 4 wc w.heap.size (fun k_ => some k_ ≠ ((.slice Ao8 y284.length co8) : Value).ownBlock) (.slice Ao9 y281.length co9) y281) ∧ Aside0 (Kd.R Kd.bool 4 wc w.heap.size (fun k_ => some k_ ≠ ((.slice Ao9 y281.length co9) : Value).ownBlock) (.slice Ao8 y284.length co8) y284) ∧ Aside0 (wc.heap[gb280]? = some (.cells #[(.slice none 0 0), (.slice none 0 0)] 56 (0, 0))) ∧ Aside0 (wc.heap[gb287]? = some (.cells #[(.slice Ao9 y281.length co9), (.slice Ao8 y284.length co8)] 56 (0, 0))) ∧ Aside0 (Below w.heap.size w wc))
 case first =>
  have H := HC2.out
  clear HC2
  have H' := Aside0.mk H
  clear H
  go_wp2
  go_loopg [5] k (fun kq v5 w' => ∃ (x5_1 : Int), v5 = .int .i64 x5_1 ∧ Aside0 (spec_l1Read.l0 kq a0 x5_1 y281 y284 = some (r1, r2, r3)) ∧ Aside0 (kq ≤ k) ∧ Aside0 (Kd.R Kd.bool 4 w' w.heap.size (fun k_ => some k_ ≠ ((.slice Ao8 y284.length co8) : Value).ownBlock) (.slice Ao9 y281.length co9) y281) ∧ Aside0 (Kd.R Kd.bool 4 w' w.heap.size (fun k_ => some k_ ≠ ((.slice Ao9 y281.length co9) : Value).ownBlock) (.slice Ao8 y284.length co8) y284) ∧ Aside0 (w'.heap[gb280]? = some (.cells #[(.slice none 0 0), (.slice none 0 0)] 56 (0, 0))) ∧ Aside0 (w'.heap[gb287]? = some (.cells #[(.slice Ao9 y281.length co9), (.slice Ao8 y284.length co8)] 56 (0, 0))) ∧ Aside0 (Below w.heap.size w w'))
  case atStart => exact ⟨(0), (by rfl), H', ⟨Nat.le_refl _⟩, ⟨by exact Kd.R_mono (Kd.R_far (p := ⟨gb287, 1, none⟩) (Kd.R_far (p := ⟨gb287, 0, none⟩) (Kd.R_types HO283.out BK287.out (by decide)) (fun _ hk => hk.2) (.slice Ao9 y281.length co9)) (fun _ hk => hk.2) (.slice Ao8 y284.length co8)) (fun _ hk => hk.1.2)⟩, ⟨by exact Kd.R_mono (Kd.R_far (p := ⟨gb287, 1, none⟩) (Kd.R_far (p := ⟨gb287, 0, none⟩) (Kd.R_types HO286.out BK287.out (by decide)) (fun _ hk => hk.2) (.slice Ao9 y281.length co9)) (fun _ hk => hk.2) (.slice Ao8 y284.length co8)) (fun _ hk => hk.1.2)⟩, ⟨by refine blk_far ?_ NB280_287.out _; refine blk_far ?_ NB280_287.out _; exact BK280.out⟩, ⟨by refine blk_put (cs := #[.slice Ao9 y281.length co9, .slice none 0 0]) ?_ 1 _ rfl; refine blk_put (cs := #[.slice none 0 0, .slice none 0 0]) ?_ 0 _ rfl; exact BK287.out⟩, ⟨by repeat (first | (with_reducible first | exact HB.out | refine below_set ?_ GE287.out))⟩⟩
  case round =>
   clear H'
   try clear hcz12_0
   try clear hcz12_1
   try clear hfz12_0
   try clear hfz12_1
   obtain ⟨x5_1, rfl, HA, HK1, HO_288000, HO_288001, BK280, BK287, HB⟩ := hrel
   cases gk with
   | zero => exact absurd HA.out (by simp [spec_l1Read.l0])
   | succ k1 =>
    have H := HA.out
    clear HA
    simp only [spec_l1Read.l0] at H
    by_cases c13 : x5_1 < (a0.size : Int)
    ·rw [if_pos c13] at H
     have c13b0 : decide (x5_1 < (a0.size : Int)) = true := decide_eq_true c13
     clear c13
     by_cases c14 : 0 ≤ x5_1
     ·rw [if_pos c14] at H
      have c14b0 : decide (0 ≤ x5_1) = true := decide_eq_true c14
      clear c14
      by_cases c16 : (bt a0 x5_1) = 40
      ·rw [if_pos c16] at H
       have c16b0 : ((bt a0 x5_1) == 40) = true := beq_iff_eq.mpr c16
       have c16b1 : ((bt a0 x5_1) != 40) = false := bne_eq_false_iff_eq.mpr c16
       clear c16
       have H' := Aside0.mk H
       clear H
       have p15 : 0 ≤ (x5_1 : Int) := of_decide_eq_true (by (with_reducible assumption))
       have q15 : x5_1 < (a0.size : Int) := of_decide_eq_true (by (with_reducible assumption))
       have hx15 := bt_at a0 x5_1
       replace p15 := eq_true p15
       replace q15 := eq_true q15
       go_wp2
       go_meet
       case rel => exact ⟨_, (x5_1), (by rfl), H', ⟨by have := HK1.out; omega⟩, ⟨by exact HO_288000.out⟩, ⟨by exact HO_288001.out⟩, ⟨by exact BK280.out⟩, ⟨by exact BK287.out⟩, ⟨HB.out⟩⟩
      ·rw [if_neg c16] at H
       have c16b0 : ((bt a0 x5_1) == 40) = false := beq_eq_false_iff_ne.mpr c16
       have c16b1 : ((bt a0 x5_1) != 40) = true := bne_iff_ne.mpr c16
       have H' := Aside0.mk H
       clear H
       have p15 : 0 ≤ (x5_1 : Int) := of_decide_eq_true (by (with_reducible assumption))
       have q15 : x5_1 < (a0.size : Int) := of_decide_eq_true (by (with_reducible assumption))
       have hx15 := bt_at a0 x5_1
       replace p15 := eq_true p15
       replace q15 := eq_true q15
       go_wp2
       go_roundg k1
       case measure => have := HK1.out; omega
       case rel => exact ⟨(wrap64 (x5_1 + 1)), (by rfl), H', ⟨by have := HK1.out; omega⟩, ⟨by exact HO_288000.out⟩, ⟨by exact HO_288001.out⟩, ⟨by exact BK280.out⟩, ⟨by exact BK287.out⟩, ⟨HB.out⟩⟩
     ·rw [if_neg c14] at H
      exact absurd H (by simp)
    ·rw [if_neg c13] at H
     have c13b0 : decide (x5_1 < (a0.size : Int)) = false := decide_eq_false c13
     clear c13
     have H' := Aside0.mk H
     clear H
     go_wp2
     go_meet
     case rel => exact ⟨_, (x5_1), (by rfl), H', ⟨by have := HK1.out; omega⟩, ⟨by exact HO_288000.out⟩, ⟨by exact HO_288001.out⟩, ⟨by exact BK280.out⟩, ⟨by exact BK287.out⟩, ⟨HB.out⟩⟩
 case rest =>
  clear HC2
  try clear hcz12_0
  try clear hcz12_1
  try clear hfz12_0
  try clear hfz12_1
  obtain ⟨kq, x5_1, rfl, HA, HJ1, HO_288000, HO_288001, BK280, BK287, HB⟩ := hcut
  cases kq with
  | zero => exact absurd HA.out (by simp [spec_l1Read.j1])
  | succ kj1 =>
   have H := HA.out
   clear HA
   simp only [spec_l1Read.j1] at H
   have HC17 := Aside0.mk H
   clear H
   go_upto_region 5 with (fail)
   go_cut [37] (fun v37 wc => ∃ (kq : Nat) (x37_16 : Bool), v37 = .bool x37_16 ∧ Aside0 (spec_l1Read.j2 kq a0 x5_1 x37_16 y281 y284 = some (r1, r2, r3)) ∧ Aside0 (kq ≤ kj1) ∧ Aside0 (Kd.R Kd.bool 4 wc w.heap.size (fun k_ => some k_ ≠ ((.slice Ao8 y284.length co8) : Value).ownBlock) (.slice Ao9 y281.length co9) y281) ∧ Aside0 (Kd.R Kd.bool 4 wc w.heap.size (fun k_ => some k_ ≠ ((.slice Ao9 y281.length co9) : Value).ownBlock) (.slice Ao8 y284.length co8) y284) ∧ Aside0 (wc.heap[gb280]? = some (.cells #[(.slice none 0 0), (.slice none 0 0)] 56 (0, 0))) ∧ Aside0 (wc.heap[gb287]? = some (.cells #[(.slice Ao9 y281.length co9), (.slice Ao8 y284.length co8)] 56 (0, 0))) ∧ Aside0 (Below w.heap.size w wc))
   case first =>
    have H := HC17.out
    clear HC17
    by_cases c18 : (wrap64 (x5_1 + 2)) ≥ (a0.size : Int)
    ·rw [if_pos c18] at H
     have c18b0 : decide ((a0.size : Int) ≤ (wrap64 (x5_1 + 2))) = true := decide_eq_true c18
     clear c18
     have H' := Aside0.mk H
     clear H
     go_wp2
     go_meet
     case rel => exact ⟨_, (true), (by rfl), H', ⟨by have := HJ1.out; omega⟩, ⟨by exact HO_288000.out⟩, ⟨by exact HO_288001.out⟩, ⟨by exact BK280.out⟩, ⟨by exact BK287.out⟩, ⟨HB.out⟩⟩
    ·rw [if_neg c18] at H
     have c18b0 : decide ((a0.size : Int) ≤ (wrap64 (x5_1 + 2))) = false := decide_eq_false c18
     clear c18
     obtain ⟨ji19, hji19⟩ : ∃ j_ : Int, (wrap64 ((a0.size : Int) - 1)) = j_ := ⟨_, rfl⟩
     replace H : (if 0 ≤ (ji19) then (if (ji19) < (a0.size : Int) then (spec_l1Read.j2 kj1 a0 x5_1 ((bt a0 (ji19)) != 41) y281 y284) else (none)) else (none)) = some (r1, r2, r3) := by first | (rw [hji19] at H; exact H)
     have hji19w : (IntKind.i64.wrap ((a0.size : Int) - 1)) = ji19 := (i64_w _).trans hji19
     by_cases c20 : 0 ≤ (ji19)
     ·rw [if_pos c20] at H
      have c20b0 : decide (0 ≤ (ji19)) = true := decide_eq_true c20
      clear c20
      by_cases c21 : (ji19) < (a0.size : Int)
      ·rw [if_pos c21] at H
       have c21b0 : decide ((ji19) < (a0.size : Int)) = true := decide_eq_true c21
       clear c21
       have H' := Aside0.mk H
       clear H
       have p22 : 0 ≤ ((ji19) : Int) := of_decide_eq_true (by (with_reducible assumption))
       have q22 : (ji19) < (a0.size : Int) := of_decide_eq_true (by (with_reducible assumption))
       have hx22 := bt_at a0 (ji19)
       replace p22 := eq_true p22
       replace q22 := eq_true q22
       go_wp2
       go_meet
       case rel => exact ⟨_, (((bt a0 (ji19)) != 41)), (by rfl), H', ⟨by have := HJ1.out; omega⟩, ⟨by exact HO_288000.out⟩, ⟨by exact HO_288001.out⟩, ⟨by exact BK280.out⟩, ⟨by exact BK287.out⟩, ⟨HB.out⟩⟩
      ·rw [if_neg c21] at H
       exact absurd H (by simp)
     ·rw [if_neg c20] at H
      exact absurd H (by simp)
   case rest =>
    clear HC17
    obtain ⟨kq, x37_16, rfl, HA, HJ16, HO_288000, HO_288001, BK280, BK287, HB⟩ := hcut
    cases kq with
    | zero => exact absurd HA.out (by simp [spec_l1Read.j2])
    | succ kj16 =>
     have H := HA.out
     clear HA
     simp only [spec_l1Read.j2] at H
     by_cases c23 : x37_16 = true
     ·subst c23
      replace H : (some (y281, y284, false)) = some (r1, r2, r3) := by rw [if_pos rfl] at H; exact H
      simp only [Option.some.injEq, Prod.mk.injEq] at H
      obtain ⟨rfl, rfl, rfl⟩ := H
      have hnb24 := NB287_280.out
      have hnc24 := NB280_287.out
      have hcz25_0 : wc.cell? ⟨gb287, 0, none⟩ = some (.slice Ao9 y281.length co9) := (blk_cell BK287.out 0).trans rfl
      have hcz25_1 : wc.cell? ⟨gb287, 1, none⟩ = some (.slice Ao8 y284.length co8) := (blk_cell BK287.out 1).trans rfl
      have hfz25_0 := blk_frozen BK287.out 0
      have hfz25_1 := blk_frozen BK287.out 1
      have hcz26_0 : wc.cell? ⟨gb280, 0, none⟩ = some (.slice none 0 0) := (blk_cell BK280.out 0).trans rfl
      have hcz26_1 : wc.cell? ⟨gb280, 1, none⟩ = some (.slice none 0 0) := (blk_cell BK280.out 1).trans rfl
      have hfz26_0 := blk_frozen BK280.out 0
      have hfz26_1 := blk_frozen BK280.out 1
      go_wp2
      refine bodyPost_ret (results_ct rfl _ _ gb280 56 #[.slice Ao9 y281.length co9, .slice Ao8 y284.length co8] (0, 0) _ rfl (by refine blk_put (cs := #[.slice Ao9 y281.length co9, .slice none 0 0]) ?_ 1 _ rfl; refine blk_put (cs := #[.slice none 0 0, .slice none 0 0]) ?_ 0 _ rfl; exact BK280.out) Tryd.underlying56 rfl (by kernel_rfl)) rfl ?_
      exact ⟨_, _, by first | rfl | (simp [*, errW_none, errW_some] <;> rfl), by exact Kd.R_mono (Kd.R_far (p := ⟨gb280, 1, none⟩) (Kd.R_far (p := ⟨gb280, 0, none⟩) (Kd.R_types HO_288000.out BK280.out (by decide)) (fun _ hk => hk.2) (.slice Ao9 y281.length co9)) (fun _ hk => hk.2) (.slice Ao8 y284.length co8)) (fun _ hk => hk.1), by exact Kd.R_mono (Kd.R_far (p := ⟨gb280, 1, none⟩) (Kd.R_far (p := ⟨gb280, 0, none⟩) (Kd.R_types HO_288001.out BK280.out (by decide)) (fun _ hk => hk.2) (.slice Ao9 y281.length co9)) (fun _ hk => hk.2) (.slice Ao8 y284.length co8)) (fun _ hk => hk.1), by repeat (first | (with_reducible first | exact HB.out | refine below_set ?_ GE280.out))⟩
     ·replace c23 := Bool.eq_false_iff.mpr c23
      subst c23
      replace H : (if 0 ≤ x5_1 then (if x5_1 ≤ (a0.size : Int) then ((spec_l1Signs.f kj16 (a0.extract 0 (x5_1 : Int).toNat)).bind fun bt288 => (if 0 ≤ (wrap64 (x5_1 + 1)) then (if (wrap64 (x5_1 + 1)) ≤ (wrap64 ((a0.size : Int) - 1)) then (if (wrap64 ((a0.size : Int) - 1)) ≤ (a0.size : Int) then ((spec_l1Signs.f kj16 (a0.extract ((wrap64 (x5_1 + 1)) : Int).toNat ((wrap64 ((a0.size : Int) - 1)) : Int).toNat)).bind fun bt292 => (if bt288.2 = true then (if bt292.2 = true then (if (bt288.1.length : Int) > 60 then (some (y281, y284, false)) else (if (bt292.1.length : Int) > 60 then (some (y281, y284, false)) else (some (bt288.1, bt292.1, true)))) else (some (y281, y284, false))) else (some (y281, y284, false)))) else (none)) else (none)) else (none))) else (none)) else (none)) = some (r1, r2, r3) := by rw [if_neg (show ¬ (false = true) by decide)] at H; exact H
      by_cases c27 : 0 ≤ x5_1
      ·rw [if_pos c27] at H
       have c27b0 := eq_true c27
       have c27b1 : decide (0 ≤ x5_1) = true := decide_eq_true c27
       clear c27
       by_cases c28 : x5_1 ≤ (a0.size : Int)
       ·rw [if_pos c28] at H
        have c28b0 := eq_true c28
        have c28b1 : decide (x5_1 ≤ (a0.size : Int)) = true := decide_eq_true c28
        clear c28
        replace H := Option.bind_eq_some_iff.mp H
        obtain ⟨⟨t288, t289⟩, A290, H⟩ := H
        replace H : (if 0 ≤ (wrap64 (x5_1 + 1)) then (if (wrap64 (x5_1 + 1)) ≤ (wrap64 ((a0.size : Int) - 1)) then (if (wrap64 ((a0.size : Int) - 1)) ≤ (a0.size : Int) then ((spec_l1Signs.f kj16 (a0.extract ((wrap64 (x5_1 + 1)) : Int).toNat ((wrap64 ((a0.size : Int) - 1)) : Int).toNat)).bind fun bt292 => (if t289 = true then (if bt292.2 = true then (if (t288.length : Int) > 60 then (some (y281, y284, false)) else (if (bt292.1.length : Int) > 60 then (some (y281, y284, false)) else (some (t288, bt292.1, true)))) else (some (y281, y284, false))) else (some (y281, y284, false)))) else (none)) else (none)) else (none)) = some (r1, r2, r3) := H
        have A29 := Aside0.mk A290
        clear A290
        obtain ⟨ji30, hji30⟩ : ∃ j_ : Int, (wrap64 (x5_1 + 1)) = j_ := ⟨_, rfl⟩
        replace H : (if 0 ≤ (ji30) then (if (ji30) ≤ (wrap64 ((a0.size : Int) - 1)) then (if (wrap64 ((a0.size : Int) - 1)) ≤ (a0.size : Int) then ((spec_l1Signs.f kj16 (a0.extract ((ji30) : Int).toNat ((wrap64 ((a0.size : Int) - 1)) : Int).toNat)).bind fun bt292 => (if t289 = true then (if bt292.2 = true then (if (t288.length : Int) > 60 then (some (y281, y284, false)) else (if (bt292.1.length : Int) > 60 then (some (y281, y284, false)) else (some (t288, bt292.1, true)))) else (some (y281, y284, false))) else (some (y281, y284, false)))) else (none)) else (none)) else (none)) = some (r1, r2, r3) := by first | (rw [hji30] at H; exact H)
        have hji30w : (IntKind.i64.wrap (x5_1 + 1)) = ji30 := (i64_w _).trans hji30
        by_cases c31 : 0 ≤ (ji30)
        ·rw [if_pos c31] at H
         have c31b0 := eq_true c31
         have c31b1 : decide (0 ≤ (ji30)) = true := decide_eq_true c31
         clear c31
         by_cases c32 : (ji30) ≤ (wrap64 ((a0.size : Int) - 1))
         ·rw [if_pos c32] at H
          have c32b0 := eq_true c32
          have c32b1 : decide ((ji30) ≤ (wrap64 ((a0.size : Int) - 1))) = true := decide_eq_true c32
          clear c32
          by_cases c33 : (wrap64 ((a0.size : Int) - 1)) ≤ (a0.size : Int)
          ·rw [if_pos c33] at H
           have c33b0 := eq_true c33
           have c33b1 : decide ((wrap64 ((a0.size : Int) - 1)) ≤ (a0.size : Int)) = true := decide_eq_true c33
           clear c33
           replace H := Option.bind_eq_some_iff.mp H
           obtain ⟨⟨t292, t293⟩, A340, H⟩ := H
           replace H : (if t289 = true then (if t293 = true then (if (t288.length : Int) > 60 then (some (y281, y284, false)) else (if (t292.length : Int) > 60 then (some (y281, y284, false)) else (some (t288, t292, true)))) else (some (y281, y284, false))) else (some (y281, y284, false))) = some (r1, r2, r3) := H
           have A34 := Aside0.mk A340
           clear A340
           by_cases c35 : t289 = true
           ·subst c35
            replace H : (if t293 = true then (if (t288.length : Int) > 60 then (some (y281, y284, false)) else (if (t292.length : Int) > 60 then (some (y281, y284, false)) else (some (t288, t292, true)))) else (some (y281, y284, false))) = some (r1, r2, r3) := by rw [if_pos rfl] at H; exact H
            by_cases c36 : t293 = true
            ·subst c36
             replace H : (if (t288.length : Int) > 60 then (some (y281, y284, false)) else (if (t292.length : Int) > 60 then (some (y281, y284, false)) else (some (t288, t292, true)))) = some (r1, r2, r3) := by rw [if_pos rfl] at H; exact H
             by_cases c37 : (t288.length : Int) > 60
             ·rw [if_pos c37] at H
              have c37b0 : decide (60 < (t288.length : Int)) = true := decide_eq_true c37
              have c37b1 : decide (60 < t288.length) = true := decide_eq_true (by omega)
              clear c37
              simp only [Option.some.injEq, Prod.mk.injEq] at H
              obtain ⟨rfl, rfl, rfl⟩ := H
              go_wp2_with (first | ((with_reducible refine gate_callee (f := 77) rfl ?_); refine goesL_ (some 43) rfl rfl Tryd.func77 (by kernel_rfl) rfl #[.string (a0.extract 0 (x5_1 : Int).toNat)] rfl (by (try simp only [List.map_toArray, List.map_cons, List.map_nil]); rfl) ?_; (with_reducible refine (spec_l1Signs.calls kj16 (a0.extract 0 (x5_1 : Int).toNat) t288 true _ A29.out).mono ?_); rintro e w38 ⟨v290, rfl, ho0, hb⟩; refine ⟨_, rfl, ?_⟩; have HO291 := Aside0.mk (Kd.R_lower (Kd.R_new' (Kd.R_new' ho0 (Kd.R_lt HO_288000.out)) (Kd.R_lt HO_288001.out)) (below_size HB.out)); replace HO_288000 := Aside0.mk (Kd.R_elder' HO_288000.out (Kd.R_base ho0) hb); replace HO_288001 := Aside0.mk (Kd.R_elder' HO_288001.out (Kd.R_base ho0) hb); replace BK280 := Aside0.mk (blk_below (g := gb280) (o := .cells #[.slice none 0 0, .slice none 0 0] 56 (0, 0)) BK280.out hb); replace BK287 := Aside0.mk (blk_below (g := gb287) (o := .cells #[.slice Ao9 y281.length co9, .slice Ao8 y284.length co8] 56 (0, 0)) BK287.out hb); replace HB := Aside0.mk (below_step HB.out hb); (try clear hb); (try clear ho0)) | ((with_reducible refine gate_callee (f := 77) rfl ?_); refine goesL_ (some 54) rfl rfl Tryd.func77 (by kernel_rfl) rfl #[.string (a0.extract ((ji30) : Int).toNat ((wrap64 ((a0.size : Int) - 1)) : Int).toNat)] rfl (by (try simp only [List.map_toArray, List.map_cons, List.map_nil]); rfl) ?_; (with_reducible refine (spec_l1Signs.calls kj16 (a0.extract ((ji30) : Int).toNat ((wrap64 ((a0.size : Int) - 1)) : Int).toNat) t292 true _ A34.out).mono ?_); rintro e w39 ⟨v294, rfl, ho0, hb⟩; refine ⟨_, rfl, ?_⟩; have HO295 := Aside0.mk (Kd.R_lower (Kd.R_new' (Kd.R_new' (Kd.R_new' ho0 (Kd.R_lt HO_288000.out)) (Kd.R_lt HO_288001.out)) (Kd.R_lt HO291.out)) (below_size HB.out)); replace HO_288000 := Aside0.mk (Kd.R_elder' HO_288000.out (Kd.R_base ho0) hb); replace HO_288001 := Aside0.mk (Kd.R_elder' HO_288001.out (Kd.R_base ho0) hb); replace HO291 := Aside0.mk (Kd.R_elder' HO291.out (Kd.R_base ho0) hb); replace BK280 := Aside0.mk (blk_below (g := gb280) (o := .cells #[.slice none 0 0, .slice none 0 0] 56 (0, 0)) BK280.out hb); replace BK287 := Aside0.mk (blk_below (g := gb287) (o := .cells #[.slice Ao9 y281.length co9, .slice Ao8 y284.length co8] 56 (0, 0)) BK287.out hb); replace HB := Aside0.mk (below_step HB.out hb); (try clear hb); (try clear ho0); obtain ⟨Ao40, co40, eo40⟩ := Kd.R_slice HO291.out; subst eo40; have hnb41 := NB287_280.out; have hnc41 := NB280_287.out; have hcz42_0 : w39.cell? ⟨gb287, 0, none⟩ = some (.slice Ao9 y281.length co9) := (blk_cell BK287.out 0).trans rfl; have hcz42_1 : w39.cell? ⟨gb287, 1, none⟩ = some (.slice Ao8 y284.length co8) := (blk_cell BK287.out 1).trans rfl; have hfz42_0 := blk_frozen BK287.out 0; have hfz42_1 := blk_frozen BK287.out 1; have hcz43_0 : w39.cell? ⟨gb280, 0, none⟩ = some (.slice none 0 0) := (blk_cell BK280.out 0).trans rfl; have hcz43_1 : w39.cell? ⟨gb280, 1, none⟩ = some (.slice none 0 0) := (blk_cell BK280.out 1).trans rfl; have hfz43_0 := blk_frozen BK280.out 0; have hfz43_1 := blk_frozen BK280.out 1))
              refine bodyPost_ret (results_ct rfl _ _ gb280 56 #[.slice Ao9 y281.length co9, .slice Ao8 y284.length co8] (0, 0) _ rfl (by refine blk_put (cs := #[.slice Ao9 y281.length co9, .slice none 0 0]) ?_ 1 _ rfl; refine blk_put (cs := #[.slice none 0 0, .slice none 0 0]) ?_ 0 _ rfl; exact BK280.out) Tryd.underlying56 rfl (by kernel_rfl)) rfl ?_
              exact ⟨_, _, by first | rfl | (simp [*, errW_none, errW_some] <;> rfl), by exact Kd.R_mono (Kd.R_far (p := ⟨gb280, 1, none⟩) (Kd.R_far (p := ⟨gb280, 0, none⟩) (Kd.R_types HO_288000.out BK280.out (by decide)) (fun _ hk => hk.2) (.slice Ao9 y281.length co9)) (fun _ hk => hk.2) (.slice Ao8 y284.length co8)) (fun _ hk => hk.1.1.1), by exact Kd.R_mono (Kd.R_far (p := ⟨gb280, 1, none⟩) (Kd.R_far (p := ⟨gb280, 0, none⟩) (Kd.R_types HO_288001.out BK280.out (by decide)) (fun _ hk => hk.2) (.slice Ao9 y281.length co9)) (fun _ hk => hk.2) (.slice Ao8 y284.length co8)) (fun _ hk => hk.1.1.1), by repeat (first | (with_reducible first | exact HB.out | refine below_set ?_ GE280.out))⟩
             ·rw [if_neg c37] at H
              have c37b0 : decide (60 < (t288.length : Int)) = false := decide_eq_false c37
              have c37b1 : decide (60 < t288.length) = false := decide_eq_false (by omega)
              clear c37
              by_cases c44 : (t292.length : Int) > 60
              ·rw [if_pos c44] at H
               have c44b0 : decide (60 < (t292.length : Int)) = true := decide_eq_true c44
               have c44b1 : decide (60 < t292.length) = true := decide_eq_true (by omega)
               clear c44
               simp only [Option.some.injEq, Prod.mk.injEq] at H
               obtain ⟨rfl, rfl, rfl⟩ := H
               go_wp2_with (first | ((with_reducible refine gate_callee (f := 77) rfl ?_); refine goesL_ (some 43) rfl rfl Tryd.func77 (by kernel_rfl) rfl #[.string (a0.extract 0 (x5_1 : Int).toNat)] rfl (by (try simp only [List.map_toArray, List.map_cons, List.map_nil]); rfl) ?_; (with_reducible refine (spec_l1Signs.calls kj16 (a0.extract 0 (x5_1 : Int).toNat) t288 true _ A29.out).mono ?_); rintro e w45 ⟨v290, rfl, ho0, hb⟩; refine ⟨_, rfl, ?_⟩; have HO291 := Aside0.mk (Kd.R_lower (Kd.R_new' (Kd.R_new' ho0 (Kd.R_lt HO_288000.out)) (Kd.R_lt HO_288001.out)) (below_size HB.out)); replace HO_288000 := Aside0.mk (Kd.R_elder' HO_288000.out (Kd.R_base ho0) hb); replace HO_288001 := Aside0.mk (Kd.R_elder' HO_288001.out (Kd.R_base ho0) hb); replace BK280 := Aside0.mk (blk_below (g := gb280) (o := .cells #[.slice none 0 0, .slice none 0 0] 56 (0, 0)) BK280.out hb); replace BK287 := Aside0.mk (blk_below (g := gb287) (o := .cells #[.slice Ao9 y281.length co9, .slice Ao8 y284.length co8] 56 (0, 0)) BK287.out hb); replace HB := Aside0.mk (below_step HB.out hb); (try clear hb); (try clear ho0)) | ((with_reducible refine gate_callee (f := 77) rfl ?_); refine goesL_ (some 54) rfl rfl Tryd.func77 (by kernel_rfl) rfl #[.string (a0.extract ((ji30) : Int).toNat ((wrap64 ((a0.size : Int) - 1)) : Int).toNat)] rfl (by (try simp only [List.map_toArray, List.map_cons, List.map_nil]); rfl) ?_; (with_reducible refine (spec_l1Signs.calls kj16 (a0.extract ((ji30) : Int).toNat ((wrap64 ((a0.size : Int) - 1)) : Int).toNat) t292 true _ A34.out).mono ?_); rintro e w46 ⟨v294, rfl, ho0, hb⟩; refine ⟨_, rfl, ?_⟩; have HO295 := Aside0.mk (Kd.R_lower (Kd.R_new' (Kd.R_new' (Kd.R_new' ho0 (Kd.R_lt HO_288000.out)) (Kd.R_lt HO_288001.out)) (Kd.R_lt HO291.out)) (below_size HB.out)); replace HO_288000 := Aside0.mk (Kd.R_elder' HO_288000.out (Kd.R_base ho0) hb); replace HO_288001 := Aside0.mk (Kd.R_elder' HO_288001.out (Kd.R_base ho0) hb); replace HO291 := Aside0.mk (Kd.R_elder' HO291.out (Kd.R_base ho0) hb); replace BK280 := Aside0.mk (blk_below (g := gb280) (o := .cells #[.slice none 0 0, .slice none 0 0] 56 (0, 0)) BK280.out hb); replace BK287 := Aside0.mk (blk_below (g := gb287) (o := .cells #[.slice Ao9 y281.length co9, .slice Ao8 y284.length co8] 56 (0, 0)) BK287.out hb); replace HB := Aside0.mk (below_step HB.out hb); (try clear hb); (try clear ho0); obtain ⟨Ao47, co47, eo47⟩ := Kd.R_slice HO291.out; subst eo47; obtain ⟨Ao48, co48, eo48⟩ := Kd.R_slice HO295.out; subst eo48; have hnb49 := NB287_280.out; have hnc49 := NB280_287.out; have hcz50_0 : w46.cell? ⟨gb287, 0, none⟩ = some (.slice Ao9 y281.length co9) := (blk_cell BK287.out 0).trans rfl; have hcz50_1 : w46.cell? ⟨gb287, 1, none⟩ = some (.slice Ao8 y284.length co8) := (blk_cell BK287.out 1).trans rfl; have hfz50_0 := blk_frozen BK287.out 0; have hfz50_1 := blk_frozen BK287.out 1; have hcz51_0 : w46.cell? ⟨gb280, 0, none⟩ = some (.slice none 0 0) := (blk_cell BK280.out 0).trans rfl; have hcz51_1 : w46.cell? ⟨gb280, 1, none⟩ = some (.slice none 0 0) := (blk_cell BK280.out 1).trans rfl; have hfz51_0 := blk_frozen BK280.out 0; have hfz51_1 := blk_frozen BK280.out 1))
               refine bodyPost_ret (results_ct rfl _ _ gb280 56 #[.slice Ao9 y281.length co9, .slice Ao8 y284.length co8] (0, 0) _ rfl (by refine blk_put (cs := #[.slice Ao9 y281.length co9, .slice none 0 0]) ?_ 1 _ rfl; refine blk_put (cs := #[.slice none 0 0, .slice none 0 0]) ?_ 0 _ rfl; exact BK280.out) Tryd.underlying56 rfl (by kernel_rfl)) rfl ?_
               exact ⟨_, _, by first | rfl | (simp [*, errW_none, errW_some] <;> rfl), by exact Kd.R_mono (Kd.R_far (p := ⟨gb280, 1, none⟩) (Kd.R_far (p := ⟨gb280, 0, none⟩) (Kd.R_types HO_288000.out BK280.out (by decide)) (fun _ hk => hk.2) (.slice Ao9 y281.length co9)) (fun _ hk => hk.2) (.slice Ao8 y284.length co8)) (fun _ hk => hk.1.1.1), by exact Kd.R_mono (Kd.R_far (p := ⟨gb280, 1, none⟩) (Kd.R_far (p := ⟨gb280, 0, none⟩) (Kd.R_types HO_288001.out BK280.out (by decide)) (fun _ hk => hk.2) (.slice Ao9 y281.length co9)) (fun _ hk => hk.2) (.slice Ao8 y284.length co8)) (fun _ hk => hk.1.1.1), by repeat (first | (with_reducible first | exact HB.out | refine below_set ?_ GE280.out))⟩
              ·rw [if_neg c44] at H
               have c44b0 : decide (60 < (t292.length : Int)) = false := decide_eq_false c44
               have c44b1 : decide (60 < t292.length) = false := decide_eq_false (by omega)
               clear c44
               simp only [Option.some.injEq, Prod.mk.injEq] at H
               obtain ⟨rfl, rfl, rfl⟩ := H
               go_wp2_with (first | ((with_reducible refine gate_callee (f := 77) rfl ?_); refine goesL_ (some 43) rfl rfl Tryd.func77 (by kernel_rfl) rfl #[.string (a0.extract 0 (x5_1 : Int).toNat)] rfl (by (try simp only [List.map_toArray, List.map_cons, List.map_nil]); rfl) ?_; (with_reducible refine (spec_l1Signs.calls kj16 (a0.extract 0 (x5_1 : Int).toNat) t288 true _ A29.out).mono ?_); rintro e w52 ⟨v290, rfl, ho0, hb⟩; refine ⟨_, rfl, ?_⟩; have HO291 := Aside0.mk (Kd.R_lower (Kd.R_new' (Kd.R_new' ho0 (Kd.R_lt HO_288000.out)) (Kd.R_lt HO_288001.out)) (below_size HB.out)); replace HO_288000 := Aside0.mk (Kd.R_elder' HO_288000.out (Kd.R_base ho0) hb); replace HO_288001 := Aside0.mk (Kd.R_elder' HO_288001.out (Kd.R_base ho0) hb); replace BK280 := Aside0.mk (blk_below (g := gb280) (o := .cells #[.slice none 0 0, .slice none 0 0] 56 (0, 0)) BK280.out hb); replace BK287 := Aside0.mk (blk_below (g := gb287) (o := .cells #[.slice Ao9 y281.length co9, .slice Ao8 y284.length co8] 56 (0, 0)) BK287.out hb); replace HB := Aside0.mk (below_step HB.out hb); (try clear hb); (try clear ho0)) | ((with_reducible refine gate_callee (f := 77) rfl ?_); refine goesL_ (some 54) rfl rfl Tryd.func77 (by kernel_rfl) rfl #[.string (a0.extract ((ji30) : Int).toNat ((wrap64 ((a0.size : Int) - 1)) : Int).toNat)] rfl (by (try simp only [List.map_toArray, List.map_cons, List.map_nil]); rfl) ?_; (with_reducible refine (spec_l1Signs.calls kj16 (a0.extract ((ji30) : Int).toNat ((wrap64 ((a0.size : Int) - 1)) : Int).toNat) t292 true _ A34.out).mono ?_); rintro e w53 ⟨v294, rfl, ho0, hb⟩; refine ⟨_, rfl, ?_⟩; have HO295 := Aside0.mk (Kd.R_lower (Kd.R_new' (Kd.R_new' (Kd.R_new' ho0 (Kd.R_lt HO_288000.out)) (Kd.R_lt HO_288001.out)) (Kd.R_lt HO291.out)) (below_size HB.out)); replace HO_288000 := Aside0.mk (Kd.R_elder' HO_288000.out (Kd.R_base ho0) hb); replace HO_288001 := Aside0.mk (Kd.R_elder' HO_288001.out (Kd.R_base ho0) hb); replace HO291 := Aside0.mk (Kd.R_elder' HO291.out (Kd.R_base ho0) hb); replace BK280 := Aside0.mk (blk_below (g := gb280) (o := .cells #[.slice none 0 0, .slice none 0 0] 56 (0, 0)) BK280.out hb); replace BK287 := Aside0.mk (blk_below (g := gb287) (o := .cells #[.slice Ao9 y281.length co9, .slice Ao8 y284.length co8] 56 (0, 0)) BK287.out hb); replace HB := Aside0.mk (below_step HB.out hb); (try clear hb); (try clear ho0); obtain ⟨Ao54, co54, eo54⟩ := Kd.R_slice HO291.out; subst eo54; obtain ⟨Ao55, co55, eo55⟩ := Kd.R_slice HO295.out; subst eo55; have hnb56 := NB280_287.out; have hnc56 := NB287_280.out; have hcz57_0 : w53.cell? ⟨gb280, 0, none⟩ = some (.slice none 0 0) := (blk_cell BK280.out 0).trans rfl; have hcz57_1 : w53.cell? ⟨gb280, 1, none⟩ = some (.slice none 0 0) := (blk_cell BK280.out 1).trans rfl; have hfz57_0 := blk_frozen BK280.out 0; have hfz57_1 := blk_frozen BK280.out 1))
               refine bodyPost_ret (results_ct rfl _ _ gb280 56 #[.slice Ao54 t288.length co54, .slice Ao55 t292.length co55] (0, 0) _ rfl (by refine blk_put (cs := #[.slice Ao54 t288.length co54, .slice none 0 0]) ?_ 1 _ rfl; refine blk_put (cs := #[.slice none 0 0, .slice none 0 0]) ?_ 0 _ rfl; exact BK280.out) Tryd.underlying56 rfl (by kernel_rfl)) rfl ?_
               exact ⟨_, _, by first | rfl | (simp [*, errW_none, errW_some] <;> rfl), by exact Kd.R_mono (Kd.R_far (p := ⟨gb280, 1, none⟩) (Kd.R_far (p := ⟨gb280, 0, none⟩) (Kd.R_types HO291.out BK280.out (by decide)) (fun _ hk => hk.2) (.slice Ao54 t288.length co54)) (fun _ hk => hk.2) (.slice Ao55 t292.length co55)) (fun _ hk => hk.1.2), by exact Kd.R_mono (Kd.R_far (p := ⟨gb280, 1, none⟩) (Kd.R_far (p := ⟨gb280, 0, none⟩) (Kd.R_types HO295.out BK280.out (by decide)) (fun _ hk => hk.2) (.slice Ao54 t288.length co54)) (fun _ hk => hk.2) (.slice Ao55 t292.length co55)) (fun _ hk => hk.1.2), by repeat (first | (with_reducible first | exact HB.out | refine below_set ?_ GE280.out))⟩
            ·replace c36 := Bool.eq_false_iff.mpr c36
             subst c36
             replace H : (some (y281, y284, false)) = some (r1, r2, r3) := by rw [if_neg (show ¬ (false = true) by decide)] at H; exact H
             simp only [Option.some.injEq, Prod.mk.injEq] at H
             obtain ⟨rfl, rfl, rfl⟩ := H
             go_wp2_with (first | ((with_reducible refine gate_callee (f := 77) rfl ?_); refine goesL_ (some 43) rfl rfl Tryd.func77 (by kernel_rfl) rfl #[.string (a0.extract 0 (x5_1 : Int).toNat)] rfl (by (try simp only [List.map_toArray, List.map_cons, List.map_nil]); rfl) ?_; (with_reducible refine (spec_l1Signs.calls kj16 (a0.extract 0 (x5_1 : Int).toNat) t288 true _ A29.out).mono ?_); rintro e w58 ⟨v290, rfl, ho0, hb⟩; refine ⟨_, rfl, ?_⟩; have HO291 := Aside0.mk (Kd.R_lower (Kd.R_new' (Kd.R_new' ho0 (Kd.R_lt HO_288000.out)) (Kd.R_lt HO_288001.out)) (below_size HB.out)); replace HO_288000 := Aside0.mk (Kd.R_elder' HO_288000.out (Kd.R_base ho0) hb); replace HO_288001 := Aside0.mk (Kd.R_elder' HO_288001.out (Kd.R_base ho0) hb); replace BK280 := Aside0.mk (blk_below (g := gb280) (o := .cells #[.slice none 0 0, .slice none 0 0] 56 (0, 0)) BK280.out hb); replace BK287 := Aside0.mk (blk_below (g := gb287) (o := .cells #[.slice Ao9 y281.length co9, .slice Ao8 y284.length co8] 56 (0, 0)) BK287.out hb); replace HB := Aside0.mk (below_step HB.out hb); (try clear hb); (try clear ho0)) | ((with_reducible refine gate_callee (f := 77) rfl ?_); refine goesL_ (some 54) rfl rfl Tryd.func77 (by kernel_rfl) rfl #[.string (a0.extract ((ji30) : Int).toNat ((wrap64 ((a0.size : Int) - 1)) : Int).toNat)] rfl (by (try simp only [List.map_toArray, List.map_cons, List.map_nil]); rfl) ?_; (with_reducible refine (spec_l1Signs.calls kj16 (a0.extract ((ji30) : Int).toNat ((wrap64 ((a0.size : Int) - 1)) : Int).toNat) t292 false _ A34.out).mono ?_); rintro e w59 ⟨v294, rfl, ho0, hb⟩; refine ⟨_, rfl, ?_⟩; have HO295 := Aside0.mk (Kd.R_lower (Kd.R_new' (Kd.R_new' (Kd.R_new' ho0 (Kd.R_lt HO_288000.out)) (Kd.R_lt HO_288001.out)) (Kd.R_lt HO291.out)) (below_size HB.out)); replace HO_288000 := Aside0.mk (Kd.R_elder' HO_288000.out (Kd.R_base ho0) hb); replace HO_288001 := Aside0.mk (Kd.R_elder' HO_288001.out (Kd.R_base ho0) hb); replace HO291 := Aside0.mk (Kd.R_elder' HO291.out (Kd.R_base ho0) hb); replace BK280 := Aside0.mk (blk_below (g := gb280) (o := .cells #[.slice none 0 0, .slice none 0 0] 56 (0, 0)) BK280.out hb); replace BK287 := Aside0.mk (blk_below (g := gb287) (o := .cells #[.slice Ao9 y281.length co9, .slice Ao8 y284.length co8] 56 (0, 0)) BK287.out hb); replace HB := Aside0.mk (below_step HB.out hb); (try clear hb); (try clear ho0); have hnb60 := NB287_280.out; have hnc60 := NB280_287.out; have hcz61_0 : w59.cell? ⟨gb287, 0, none⟩ = some (.slice Ao9 y281.length co9) := (blk_cell BK287.out 0).trans rfl; have hcz61_1 : w59.cell? ⟨gb287, 1, none⟩ = some (.slice Ao8 y284.length co8) := (blk_cell BK287.out 1).trans rfl; have hfz61_0 := blk_frozen BK287.out 0; have hfz61_1 := blk_frozen BK287.out 1; have hcz62_0 : w59.cell? ⟨gb280, 0, none⟩ = some (.slice none 0 0) := (blk_cell BK280.out 0).trans rfl; have hcz62_1 : w59.cell? ⟨gb280, 1, none⟩ = some (.slice none 0 0) := (blk_cell BK280.out 1).trans rfl; have hfz62_0 := blk_frozen BK280.out 0; have hfz62_1 := blk_frozen BK280.out 1))
             refine bodyPost_ret (results_ct rfl _ _ gb280 56 #[.slice Ao9 y281.length co9, .slice Ao8 y284.length co8] (0, 0) _ rfl (by refine blk_put (cs := #[.slice Ao9 y281.length co9, .slice none 0 0]) ?_ 1 _ rfl; refine blk_put (cs := #[.slice none 0 0, .slice none 0 0]) ?_ 0 _ rfl; exact BK280.out) Tryd.underlying56 rfl (by kernel_rfl)) rfl ?_
             exact ⟨_, _, by first | rfl | (simp [*, errW_none, errW_some] <;> rfl), by exact Kd.R_mono (Kd.R_far (p := ⟨gb280, 1, none⟩) (Kd.R_far (p := ⟨gb280, 0, none⟩) (Kd.R_types HO_288000.out BK280.out (by decide)) (fun _ hk => hk.2) (.slice Ao9 y281.length co9)) (fun _ hk => hk.2) (.slice Ao8 y284.length co8)) (fun _ hk => hk.1.1.1), by exact Kd.R_mono (Kd.R_far (p := ⟨gb280, 1, none⟩) (Kd.R_far (p := ⟨gb280, 0, none⟩) (Kd.R_types HO_288001.out BK280.out (by decide)) (fun _ hk => hk.2) (.slice Ao9 y281.length co9)) (fun _ hk => hk.2) (.slice Ao8 y284.length co8)) (fun _ hk => hk.1.1.1), by repeat (first | (with_reducible first | exact HB.out | refine below_set ?_ GE280.out))⟩
           ·replace c35 := Bool.eq_false_iff.mpr c35
            subst c35
            replace H : (some (y281, y284, false)) = some (r1, r2, r3) := by rw [if_neg (show ¬ (false = true) by decide)] at H; exact H
            simp only [Option.some.injEq, Prod.mk.injEq] at H
            obtain ⟨rfl, rfl, rfl⟩ := H
            go_wp2_with (first | ((with_reducible refine gate_callee (f := 77) rfl ?_); refine goesL_ (some 43) rfl rfl Tryd.func77 (by kernel_rfl) rfl #[.string (a0.extract 0 (x5_1 : Int).toNat)] rfl (by (try simp only [List.map_toArray, List.map_cons, List.map_nil]); rfl) ?_; (with_reducible refine (spec_l1Signs.calls kj16 (a0.extract 0 (x5_1 : Int).toNat) t288 false _ A29.out).mono ?_); rintro e w63 ⟨v290, rfl, ho0, hb⟩; refine ⟨_, rfl, ?_⟩; have HO291 := Aside0.mk (Kd.R_lower (Kd.R_new' (Kd.R_new' ho0 (Kd.R_lt HO_288000.out)) (Kd.R_lt HO_288001.out)) (below_size HB.out)); replace HO_288000 := Aside0.mk (Kd.R_elder' HO_288000.out (Kd.R_base ho0) hb); replace HO_288001 := Aside0.mk (Kd.R_elder' HO_288001.out (Kd.R_base ho0) hb); replace BK280 := Aside0.mk (blk_below (g := gb280) (o := .cells #[.slice none 0 0, .slice none 0 0] 56 (0, 0)) BK280.out hb); replace BK287 := Aside0.mk (blk_below (g := gb287) (o := .cells #[.slice Ao9 y281.length co9, .slice Ao8 y284.length co8] 56 (0, 0)) BK287.out hb); replace HB := Aside0.mk (below_step HB.out hb); (try clear hb); (try clear ho0)) | ((with_reducible refine gate_callee (f := 77) rfl ?_); refine goesL_ (some 54) rfl rfl Tryd.func77 (by kernel_rfl) rfl #[.string (a0.extract ((ji30) : Int).toNat ((wrap64 ((a0.size : Int) - 1)) : Int).toNat)] rfl (by (try simp only [List.map_toArray, List.map_cons, List.map_nil]); rfl) ?_; (with_reducible refine (spec_l1Signs.calls kj16 (a0.extract ((ji30) : Int).toNat ((wrap64 ((a0.size : Int) - 1)) : Int).toNat) t292 t293 _ A34.out).mono ?_); rintro e w64 ⟨v294, rfl, ho0, hb⟩; refine ⟨_, rfl, ?_⟩; have HO295 := Aside0.mk (Kd.R_lower (Kd.R_new' (Kd.R_new' (Kd.R_new' ho0 (Kd.R_lt HO_288000.out)) (Kd.R_lt HO_288001.out)) (Kd.R_lt HO291.out)) (below_size HB.out)); replace HO_288000 := Aside0.mk (Kd.R_elder' HO_288000.out (Kd.R_base ho0) hb); replace HO_288001 := Aside0.mk (Kd.R_elder' HO_288001.out (Kd.R_base ho0) hb); replace HO291 := Aside0.mk (Kd.R_elder' HO291.out (Kd.R_base ho0) hb); replace BK280 := Aside0.mk (blk_below (g := gb280) (o := .cells #[.slice none 0 0, .slice none 0 0] 56 (0, 0)) BK280.out hb); replace BK287 := Aside0.mk (blk_below (g := gb287) (o := .cells #[.slice Ao9 y281.length co9, .slice Ao8 y284.length co8] 56 (0, 0)) BK287.out hb); replace HB := Aside0.mk (below_step HB.out hb); (try clear hb); (try clear ho0); have hnb65 := NB287_280.out; have hnc65 := NB280_287.out; have hcz66_0 : w64.cell? ⟨gb287, 0, none⟩ = some (.slice Ao9 y281.length co9) := (blk_cell BK287.out 0).trans rfl; have hcz66_1 : w64.cell? ⟨gb287, 1, none⟩ = some (.slice Ao8 y284.length co8) := (blk_cell BK287.out 1).trans rfl; have hfz66_0 := blk_frozen BK287.out 0; have hfz66_1 := blk_frozen BK287.out 1; have hcz67_0 : w64.cell? ⟨gb280, 0, none⟩ = some (.slice none 0 0) := (blk_cell BK280.out 0).trans rfl; have hcz67_1 : w64.cell? ⟨gb280, 1, none⟩ = some (.slice none 0 0) := (blk_cell BK280.out 1).trans rfl; have hfz67_0 := blk_frozen BK280.out 0; have hfz67_1 := blk_frozen BK280.out 1))
            refine bodyPost_ret (results_ct rfl _ _ gb280 56 #[.slice Ao9 y281.length co9, .slice Ao8 y284.length co8] (0, 0) _ rfl (by refine blk_put (cs := #[.slice Ao9 y281.length co9, .slice none 0 0]) ?_ 1 _ rfl; refine blk_put (cs := #[.slice none 0 0, .slice none 0 0]) ?_ 0 _ rfl; exact BK280.out) Tryd.underlying56 rfl (by kernel_rfl)) rfl ?_
            exact ⟨_, _, by first | rfl | (simp [*, errW_none, errW_some] <;> rfl), by exact Kd.R_mono (Kd.R_far (p := ⟨gb280, 1, none⟩) (Kd.R_far (p := ⟨gb280, 0, none⟩) (Kd.R_types HO_288000.out BK280.out (by decide)) (fun _ hk => hk.2) (.slice Ao9 y281.length co9)) (fun _ hk => hk.2) (.slice Ao8 y284.length co8)) (fun _ hk => hk.1.1.1), by exact Kd.R_mono (Kd.R_far (p := ⟨gb280, 1, none⟩) (Kd.R_far (p := ⟨gb280, 0, none⟩) (Kd.R_types HO_288001.out BK280.out (by decide)) (fun _ hk => hk.2) (.slice Ao9 y281.length co9)) (fun _ hk => hk.2) (.slice Ao8 y284.length co8)) (fun _ hk => hk.1.1.1), by repeat (first | (with_reducible first | exact HB.out | refine below_set ?_ GE280.out))⟩
          ·rw [if_neg c33] at H
           exact absurd H (by simp)
         ·rw [if_neg c32] at H
          exact absurd H (by simp)
        ·rw [if_neg c31] at H
         exact absurd H (by simp)
       ·rw [if_neg c28] at H
        exact absurd H (by simp)
      ·rw [if_neg c27] at H
       exact absurd H (by simp)


def spec_l1Has.f (l0_0 : List Bool) (l0_1 : List Bool) (a1 : Int) : Option (Bool) := if a1 < (l0_0.length : Int) then (if 0 ≤ a1 then (some (rdOf false l0_0 a1)) else (none)) else (if (l0_1.length : Int) = 0 then (none) else (if 0 ≤ (Int.tmod (wrap64 (a1 - (l0_0.length : Int))) (l0_1.length : Int)) then (if (Int.tmod (wrap64 (a1 - (l0_0.length : Int))) (l0_1.length : Int)) < (l0_1.length : Int) then (some (rdOf false l0_1 (Int.tmod (wrap64 (a1 - (l0_0.length : Int))) (l0_1.length : Int)))) else (none)) else (none)))
set_option maxHeartbeats 8000000 in
set_option maxRecDepth 100000 in
theorem spec_l1Has.calls (A0_0 : Option Addr) (c0_0 : Nat) (l0_0 : List Bool) (A0_1 : Option Addr) (c0_1 : Nat) (l0_1 : List Bool) (a1 : Int) (r : Bool) (w : World) (hr0_0 : Kd.C Kd.bool w A0_0 l0_0.length l0_0) (hc0_0 : l0_0.length ≤ c0_0) (hr0_1 : Kd.C Kd.bool w A0_1 l0_1.length l0_1) (hc0_1 : l0_1.length ≤ c0_1) (h : spec_l1Has.f l0_0 l0_1 a1 = some r) :
  Calls Tryd.prog 61 #[.agg #[.slice A0_0 l0_0.length c0_0, .slice A0_1 l0_1.length c0_1], .int .i64 a1] w fun e w' => e = .returned (.bool r) ∧ Below w.heap.size w w' := by
 have hu56 := Tryd.underlying56
 have HR0_0 := Aside0.mk hr0_0
 have HC0_0 := Aside0.mk hc0_0
 clear hr0_0 hc0_0
 have HR0_1 := Aside0.mk hr0_1
 have HC0_1 := Aside0.mk hc0_1
 clear hr0_1 hc0_1
 have HB := Aside0.mk (Below.refl w.heap.size w)
 have H : (if a1 < (l0_0.length : Int) then (if 0 ≤ a1 then (some (rdOf false l0_0 a1)) else (none)) else (if (l0_1.length : Int) = 0 then (none) else (if 0 ≤ (Int.tmod (wrap64 (a1 - (l0_0.length : Int))) (l0_1.length : Int)) then (if (Int.tmod (wrap64 (a1 - (l0_0.length : Int))) (l0_1.length : Int)) < (l0_1.length : Int) then (some (rdOf false l0_1 (Int.tmod (wrap64 (a1 - (l0_0.length : Int))) (l0_1.length : Int)))) else (none)) else (none)))) = some r := h
 clear h
 by_cases c3 : a1 < (l0_0.length : Int)
 ·rw [if_pos c3] at H
  have c3b0 : decide (a1 < (l0_0.length : Int)) = true := decide_eq_true c3
  clear c3
  by_cases c4 : 0 ≤ a1
  ·rw [if_pos c4] at H
   have c4b0 : decide (0 ≤ a1) = true := decide_eq_true c4
   clear c4
   obtain rfl := Option.some.inj H
   go_enter Tryd.func61, Tryd.ntmps61
   go_wp2_with (first | ((with_reducible refine gate_dst (N := 2) rfl ?_); refine box_event ?hg (N := 2) ?hd (cs := #[.slice A0_0 l0_0.length c0_0, .slice A0_1 l0_1.length c0_1]) (t := 56) ?hr ?_; (case hd => rfl); (case hg => rfl); (case hr => first | (go_simp; done)); intro gb352 hg w5 hbox hb; have BK352 := Aside0.mk hbox; have GW352 := Aside0.mk ((by rw [hg]; exact (below_size HB.out) : w.heap.size ≤ gb352)); have GE352 := Aside0.mk ((by rw [hg]; exact (below_size HB.out) : w.heap.size ≤ gb352)); replace HB := Aside0.mk (below_step HB.out hb); clear hb hbox hg; have hcz6_0 : w5.cell? ⟨gb352, 0, none⟩ = some (.slice A0_0 l0_0.length c0_0) := (blk_cell BK352.out 0).trans rfl; have hcz6_1 : w5.cell? ⟨gb352, 1, none⟩ = some (.slice A0_1 l0_1.length c0_1) := (blk_cell BK352.out 1).trans rfl; have hfz6_0 := blk_frozen BK352.out 0; have hfz6_1 := blk_frozen BK352.out 1; have p353 : 0 ≤ (a1 : Int) := of_decide_eq_true (by (with_reducible assumption)); have q353 : a1 < (l0_0.length : Int) := of_decide_eq_true (by (with_reducible assumption)); obtain ⟨ad353, e353, hx353_0⟩ := Kd.at_bool HR0_0.out a1 p353 q353; cases e353; replace hx353_0 := (HB.out.cell (World.block_lt_of_cell? w _ hx353_0)).trans hx353_0; replace p353 := eq_true p353; replace q353 := eq_true q353))
   repeat (go_quiet (fail); try go_wp2_with (fail))
   go_ret
   exact ⟨by first | rfl | (simp [*, errW_none, errW_some] <;> rfl), HB.out⟩
  ·rw [if_neg c4] at H
   exact absurd H (by simp)
 ·rw [if_neg c3] at H
  have c3b0 : decide (a1 < (l0_0.length : Int)) = false := decide_eq_false c3
  clear c3
  by_cases c7 : (l0_1.length : Int) = 0
  ·rw [if_pos c7] at H
   exact absurd H (by simp)
  ·rw [if_neg c7] at H
   have c7b0 : ((l0_1.length : Int) == 0) = false := beq_eq_false_iff_ne.mpr c7
   have c7b1 : ((l0_1.length : Int) != 0) = true := bne_iff_ne.mpr c7
   have c7b2 : ¬ (l0_1 = []) := fun h_ => c7 (by rw [h_]; rfl)
   obtain ⟨ji8, hji8⟩ : ∃ j_ : Int, (Int.tmod (wrap64 (a1 - (l0_0.length : Int))) (l0_1.length : Int)) = j_ := ⟨_, rfl⟩
   replace H : (if 0 ≤ (ji8) then (if (ji8) < (l0_1.length : Int) then (some (rdOf false l0_1 (ji8))) else (none)) else (none)) = some r := by first | (rw [hji8] at H; exact H)
   by_cases c9 : 0 ≤ (ji8)
   ·rw [if_pos c9] at H
    have c9b0 : decide (0 ≤ (ji8)) = true := decide_eq_true c9
    clear c9
    by_cases c10 : (ji8) < (l0_1.length : Int)
    ·rw [if_pos c10] at H
     have c10b0 : decide ((ji8) < (l0_1.length : Int)) = true := decide_eq_true c10
     clear c10
     obtain rfl := Option.some.inj H
     go_enter Tryd.func61, Tryd.ntmps61
     go_wp2_with (first | ((with_reducible refine gate_dst (N := 2) rfl ?_); refine box_event ?hg (N := 2) ?hd (cs := #[.slice A0_0 l0_0.length c0_0, .slice A0_1 l0_1.length c0_1]) (t := 56) ?hr ?_; (case hd => rfl); (case hg => rfl); (case hr => first | (go_simp; done)); intro gb352 hg w11 hbox hb; have BK352 := Aside0.mk hbox; have GW352 := Aside0.mk ((by rw [hg]; exact (below_size HB.out) : w.heap.size ≤ gb352)); have GE352 := Aside0.mk ((by rw [hg]; exact (below_size HB.out) : w.heap.size ≤ gb352)); replace HB := Aside0.mk (below_step HB.out hb); clear hb hbox hg; have hcz12_0 : w11.cell? ⟨gb352, 0, none⟩ = some (.slice A0_0 l0_0.length c0_0) := (blk_cell BK352.out 0).trans rfl; have hcz12_1 : w11.cell? ⟨gb352, 1, none⟩ = some (.slice A0_1 l0_1.length c0_1) := (blk_cell BK352.out 1).trans rfl; have hfz12_0 := blk_frozen BK352.out 0; have hfz12_1 := blk_frozen BK352.out 1; have p354 : 0 ≤ ((ji8) : Int) := of_decide_eq_true (by (with_reducible assumption)); have q354 : (ji8) < (l0_1.length : Int) := of_decide_eq_true (by (with_reducible assumption)); obtain ⟨ad354, e354, hx354_0⟩ := Kd.at_bool HR0_1.out (ji8) p354 q354; cases e354; replace hx354_0 := (HB.out.cell (World.block_lt_of_cell? w _ hx354_0)).trans hx354_0; replace p354 := eq_true p354; replace q354 := eq_true q354))
     repeat (go_quiet (fail); try go_wp2_with (fail))
     go_ret
     exact ⟨by first | rfl | (simp [*, errW_none, errW_some] <;> rfl), by repeat (first | (with_reducible first | exact HB.out | apply pw_below_drewN))⟩
    ·rw [if_neg c10] at H
     exact absurd H (by simp)
   ·rw [if_neg c9] at H
    exact absurd H (by simp)


def spec_l6Dec.f : Nat → Int → Option (ByteArray)
 | 0, _ => none
 | k + 1, a0 => if a0 < (-9223372036854775807) then (some (⟨#[45, 57, 50, 50, 51, 51, 55, 50, 48, 51, 54, 56, 53, 52, 55, 55, 53, 56, 48, 56]⟩ : ByteArray)) else (if a0 < 0 then ((spec_l6Dec.f k (wrap64 (-a0))).bind fun t358 => (if 1 + t358.size ≤ 9223372036854775807 then (some ((⟨#[45]⟩ : ByteArray) ++ t358)) else (none))) else (if a0 < 10 then (some (strOfNums (([(wrap64 (48 + a0)) % 256] : List Int)))) else ((spec_l6Dec.f k (wrap64 (Int.tdiv a0 10))).bind fun t362 => ((some (([(wrap64 (48 + (Int.tmod a0 10))) % 256] : List Int) : List Int)).bind fun y363 => (if t362.size + (strOfNums y363).size ≤ 9223372036854775807 then (some (t362 ++ (strOfNums y363))) else (none))))))
theorem spec_l6Dec.mono_l : ∀ k, (∀ y0, LeO (spec_l6Dec.f k y0) (spec_l6Dec.f (k + 1) y0))
 | 0 => fun _ r h => by simp [spec_l6Dec.f] at h
 | k + 1 => by
  have ih0 := spec_l6Dec.mono_l k
  ·intro y0
   unfold spec_l6Dec.f
   repeat' first | (with_reducible exact ih0 _) | (with_reducible exact LeO.refl _) | (with_reducible refine LeO.ite ?_ ?_) | (with_reducible refine LeO.bind ?_ (fun _ => ?_))
theorem spec_l6Dec.mono : ∀ a0 k, LeO (spec_l6Dec.f k a0) (spec_l6Dec.f (k + 1) a0) := by
 intro a0 k
 have ih0 := spec_l6Dec.mono_l k
 exact ih0 a0
def spec_l6Dec.T7 : Bool × List (List Nat × List Nat) := (true, [([], []), ([0], [0]), ([1], [1]), ([], []), ([3], [3]), ([4], [4]), ([5], [5]), ([6], [6]), ([7], [7]), ([2, 8], [2, 8]), ([9, 2, 0, 1, 2, 3, 4, 5, 6, 7, 8, 9], [9])])
def spec_l6Dec.B7 : List Nat := [0, 1, 3, 0, 8, 24, 56, 120, 248, 511, 1023]
theorem spec_l6Dec.tab7 : rtab .any (opsOf Tryd.f71 7) = spec_l6Dec.T7 := by kernel_rfl
theorem spec_l6Dec.bits7 : waitsOk spec_l6Dec.T7.2 spec_l6Dec.B7 = true := by kernel_rfl
set_option maxHeartbeats 8000000 in
set_option maxRecDepth 100000 in
theorem spec_l6Dec.calls (k : Nat) : ∀ (a0 : Int) (r : ByteArray) (w : World) (h : spec_l6Dec.f k a0 = some r),
  Calls Tryd.prog 71 #[.int .i64 a0] w fun e w' => e = .returned (.string r) ∧ Below w.heap.size w w' := by
 induction k using Nat.strongRecOn with
 | _ k ih =>
 intro a0 r w h
 cases k with
 | zero => exact absurd h (by simp [spec_l6Dec.f])
 | succ k =>
 simp only [spec_l6Dec.f] at h
 have HB := Aside0.mk (Below.refl w.heap.size w)
 have H : (if a0 < (-9223372036854775807) then (some (⟨#[45, 57, 50, 50, 51, 51, 55, 50, 48, 51, 54, 56, 53, 52, 55, 55, 53, 56, 48, 56]⟩ : ByteArray)) else (if a0 < 0 then ((spec_l6Dec.f k (wrap64 (-a0))).bind fun t358 => (if 1 + t358.size ≤ 9223372036854775807 then (some ((⟨#[45]⟩ : ByteArray) ++ t358)) else (none))) else (if a0 < 10 then (some (strOfNums (([(wrap64 (48 + a0)) % 256] : List Int)))) else ((spec_l6Dec.f k (wrap64 (Int.tdiv a0 10))).bind fun t362 => ((some (([(wrap64 (48 + (Int.tmod a0 10))) % 256] : List Int) : List Int)).bind fun y363 => (if t362.size + (strOfNums y363).size ≤ 9223372036854775807 then (some (t362 ++ (strOfNums y363))) else (none))))))) = some r := h
 clear h
 by_cases c2 : a0 < (-9223372036854775807)
 ·rw [if_pos c2] at H
  have c2b0 : decide (a0 < (-9223372036854775807)) = true := decide_eq_true c2
  clear c2
  obtain rfl := Option.some.inj H
  go_enter Tryd.func71, Tryd.ntmps71
  go_wp2
  go_ret
  exact ⟨by first | rfl | (simp [*, errW_none, errW_some] <;> rfl), HB.out⟩
 ·rw [if_neg c2] at H
  have c2b0 : decide (a0 < (-9223372036854775807)) = false := decide_eq_false c2
  clear c2
  by_cases c3 : a0 < 0
  ·rw [if_pos c3] at H
   have c3b0 : decide (a0 < 0) = true := decide_eq_true c3
   clear c3
   replace H := Option.bind_eq_some_iff.mp H
   obtain ⟨t358, A40, H⟩ := H
   replace H : (if 1 + t358.size ≤ 9223372036854775807 then (some ((⟨#[45]⟩ : ByteArray) ++ t358)) else (none)) = some r := H
   have A4 := Aside0.mk A40
   clear A40
   by_cases c5 : 1 + t358.size ≤ 9223372036854775807
   ·rw [if_pos c5] at H
    have c5b0 := eq_true c5
    have c5b1 : decide (1 + t358.size ≤ 9223372036854775807) = true := decide_eq_true c5
    try have c5b2 : (9223372036854775807 < 1 + t358.size) = False := eq_false (Nat.not_lt.2 c5)
    obtain rfl := Option.some.inj H
    go_enter Tryd.func71, Tryd.ntmps71
    go_wp2_with (first | ((with_reducible refine gate_callee (f := 71) rfl ?_); refine goesL_ (some 9) rfl rfl Tryd.func71 (by kernel_rfl) rfl #[.int .i64 (wrap64 (-a0))] rfl (by (try simp only [List.map_toArray, List.map_cons, List.map_nil]); rfl) ?_; (with_reducible refine (ih k (by omega) (wrap64 (-a0)) t358 _ A4.out).mono ?_); rintro e w6 ⟨rfl, hb⟩; refine ⟨_, rfl, ?_⟩; replace HB := Aside0.mk (below_step HB.out hb); (try clear hb)))
    go_ret
    exact ⟨by first | rfl | (simp [*, errW_none, errW_some] <;> rfl), HB.out⟩
   ·rw [if_neg c5] at H
    exact absurd H (by simp)
  ·rw [if_neg c3] at H
   have c3b0 : decide (a0 < 0) = false := decide_eq_false c3
   clear c3
   by_cases c7 : a0 < 10
   ·rw [if_pos c7] at H
    have c7b0 : decide (a0 < 10) = true := decide_eq_true c7
    clear c7
    obtain ⟨y359, hy359⟩ : ∃ y_ : List Int, y_ = (([(wrap64 (48 + a0)) % 256] : List Int)) := ⟨_, rfl⟩
    replace H : (some (strOfNums y359)) = some r := by first | (rw [hy359]; with_reducible exact H)
    have Ny359 := Aside0.mk hy359
    clear hy359
    obtain rfl := Option.some.inj H
    go_enter Tryd.func71, Tryd.ntmps71
    go_wp2_with (first | ((with_reducible refine gate_dst (N := 16) rfl ?_); refine Kd.R_lit (Kd.int .u8) _ 5 ?hg (N := 16) ?hd (xs := ([(wrap64 (48 + a0)) % 256] : List Int)) (inner := [.int .u8 ((wrap64 (48 + a0)) % 256)]) (ok := fun _ => True) (okp := fun _ => True) ?hr ?hp (fun _ hk => hk) trivial (Below.refl _ _) (Nat.le_refl _) (by simp) ?_; (case hd => rfl); (case hg => rfl); (case hr => first | (go_simp; done)); (case hp => exact (Reps.one (show Kd.M (Kd.int .u8) _ _ _ ((wrap64 (48 + a0)) % 256) [.int .u8 ((wrap64 (48 + a0)) % 256)] from rfl) (Reps.none _ _))); intro v360 w8 ho9 hb hg_ hnew_; clear hg_ hnew_; (rw [← Ny359.out] at ho9); have HO361 := Aside0.mk (Kd.R_lower ho9 (below_size HB.out)); replace HB := Aside0.mk (below_step HB.out hb); clear hb ho9; have hcv10 := own_string (P := Tryd.prog) Tryd.underlying22 Tryd.underlying5 Tryd.underlying9 (Kd.own_of_R HO361.out)))
    go_ret
    exact ⟨by first | rfl | (simp [*, errW_none, errW_some] <;> rfl), HB.out⟩
   ·rw [if_neg c7] at H
    have c7b0 : decide (a0 < 10) = false := decide_eq_false c7
    clear c7
    replace H := Option.bind_eq_some_iff.mp H
    obtain ⟨t362, A110, H⟩ := H
    replace H : ((some (([(wrap64 (48 + (Int.tmod a0 10))) % 256] : List Int) : List Int)).bind fun y363 => (if t362.size + (strOfNums y363).size ≤ 9223372036854775807 then (some (t362 ++ (strOfNums y363))) else (none))) = some r := H
    have A11 := Aside0.mk A110
    clear A110
    obtain ⟨y363, hy363⟩ : ∃ y_ : List Int, y_ = (([(wrap64 (48 + (Int.tmod a0 10))) % 256] : List Int)) := ⟨_, rfl⟩
    replace H : (if t362.size + (strOfNums y363).size ≤ 9223372036854775807 then (some (t362 ++ (strOfNums y363))) else (none)) = some r := by first | (have H2_ := (Option.bind_some _ _).symm.trans H; rw [hy363]; with_reducible exact H2_)
    have Ny363 := Aside0.mk hy363
    clear hy363
    by_cases c12 : t362.size + (strOfNums y363).size ≤ 9223372036854775807
    ·rw [if_pos c12] at H
     have c12b0 := eq_true c12
     have c12b1 : decide (t362.size + (strOfNums y363).size ≤ 9223372036854775807) = true := decide_eq_true c12
     try have c12b2 : (9223372036854775807 < t362.size + (strOfNums y363).size) = False := eq_false (Nat.not_lt.2 c12)
     obtain rfl := Option.some.inj H
     go_enter Tryd.func71, Tryd.ntmps71
     try go_wp2
     replace HB := Aside0.mk (below_drew1 HB.out)
     refine start_ (n := 11) (S := fun w' => True) (ds := []) #[false, false, false, false, false, false, false, false, false, false, false] (by kernel_rfl) rfl rfl trivial (fun hHeld => ?_); refine with_tabW spec_l6Dec.tab7 spec_l6Dec.bits7 (fun HT_ HW_ => ?_)
     generalize w.drew = w13 at HB hHeld ⊢
     refine pure_ (i := 0) (N := some 18) (v := ?_) (a' := ?_) #[true, false, false, false, false, false, false, false, false, false, false] rfl rfl (any_of HT_.out (by kernel_rfl)) (fun _ _ _ h => h) (Or.inl ⟨by rfl, ?_⟩) ?_ ?_
     rotate_left
     ·intro w'
      go_simp
      with_reducible rfl
     rotate_left
     ·simp only [Act.put, List.setIfInBounds_toArray, List.set_cons_zero, List.set_cons_succ, i64_w, i32_w]
      rfl
     refine pure_ (i := 1) (N := some 19) (v := ?_) (a' := ?_) #[true, true, false, false, false, false, false, false, false, false, false] rfl rfl (any_of HT_.out (by kernel_rfl)) (fun _ _ _ h => h) (Or.inl ⟨by rfl, ?_⟩) ?_ ?_
     rotate_left
     ·intro w'
      go_simp
      with_reducible rfl
     rotate_left
     ·simp only [Act.put, List.setIfInBounds_toArray, List.set_cons_zero, List.set_cons_succ, i64_w, i32_w]
      rfl
     refine pure_ (i := 3) (N := some 21) (v := ?_) (a' := ?_) #[true, true, false, true, false, false, false, false, false, false, false] rfl rfl (any_of HT_.out (by kernel_rfl)) (fun _ _ _ h => h) (Or.inl ⟨by rfl, ?_⟩) ?_ ?_
     rotate_left
     ·intro w'
      go_simp
      with_reducible rfl
     rotate_left
     ·simp only [Act.put, List.setIfInBounds_toArray, List.set_cons_zero, List.set_cons_succ, i64_w, i32_w]
      rfl
     refine pure_ (i := 4) (N := some 22) (v := ?_) (a' := ?_) #[true, true, false, true, true, false, false, false, false, false, false] rfl rfl (any_of HT_.out (by kernel_rfl)) (fun _ _ _ h => h) (Or.inl ⟨by rfl, ?_⟩) ?_ ?_
     rotate_left
     ·intro w'
      go_simp
      with_reducible rfl
     rotate_left
     ·simp only [Act.put, List.setIfInBounds_toArray, List.set_cons_zero, List.set_cons_succ, i64_w, i32_w]
      rfl
     refine pure_ (i := 5) (N := some 23) (v := ?_) (a' := ?_) #[true, true, false, true, true, true, false, false, false, false, false] rfl rfl (any_of HT_.out (by kernel_rfl)) (fun _ _ _ h => h) (Or.inl ⟨by rfl, ?_⟩) ?_ ?_
     rotate_left
     ·intro w'
      go_simp
      with_reducible rfl
     rotate_left
     ·simp only [Act.put, List.setIfInBounds_toArray, List.set_cons_zero, List.set_cons_succ, i64_w, i32_w]
      rfl
     refine pure_ (i := 6) (N := some 24) (v := ?_) (a' := ?_) #[true, true, false, true, true, true, true, false, false, false, false] rfl rfl (any_of HT_.out (by kernel_rfl)) (fun _ _ _ h => h) (Or.inl ⟨by rfl, ?_⟩) ?_ ?_
     rotate_left
     ·intro w'
      go_simp
      with_reducible rfl
     rotate_left
     ·simp only [Act.put, List.setIfInBounds_toArray, List.set_cons_zero, List.set_cons_succ, i64_w, i32_w]
      rfl
     refine join_ (σ := Value) 2 #[true, true, true, true, true, true, true, true, true, false, false] (fun s_ => [(20, .string t362), (25, s_), (26, .string (strOfNums y363))]) (fun s_ w' => (Kd.R (Kd.int .u8) 5 w' w.heap.size (fun _ => True) s_ y363) ∧ (Below w.heap.size w w')) ?_ ?_
     rotate_left
     ·intro hCont
      refine two_ (i := 2) (j := 7) (Ni := some 20) (Nj := some 25) #[true, true, true, true, true, true, true, false, false, false, false] #[true, true, false, true, true, true, true, true, false, false, false] rfl rfl rfl rfl (two_of HT_.out (by kernel_rfl)) (by decide) (by decide) (fun K hK => ?_) (fun K hK => ?_)
      ·skip
       refine goes_ Tryd.func71 (by kernel_rfl) rfl #[.int .i64 (wrap64 (Int.tdiv a0 10))] (by rfl) rfl rfl (by (try simp only [List.map_toArray, List.map_cons, List.map_nil]); rfl) ?_
       with_reducible refine (ih k (by omega) (wrap64 (Int.tdiv a0 10)) t362 _ A11.out).mono ?_
       rintro e w14 ⟨rfl, hb⟩
       refine ⟨_, rfl, ?_⟩
       replace HB := Aside0.mk (below_step HB.out hb)
       (try clear hb)
       refine hK.out _ _ trivial (fun hHeld => ?_)
       clear hK K
       refine norm_ (a' := ?_) ?_ ?_
       rotate_left
       ·show Act.put _ (some 20) _ = _
        simp only [Act.put, List.setIfInBounds_toArray, List.set_cons_zero, List.set_cons_succ, i64_w, i32_w]
        rfl
       refine one_ (i := 7) (N := some 25) #[true, true, true, true, true, true, true, true, false, false, false] rfl rfl (one_of HT_.out (by kernel_rfl)) (by decide) (fun K hK => ?_)
       refine Kd.R_lit_step (Kd.int .u8) _ 5 ?hg (N := 25) ?hd (xs := ([(wrap64 (48 + (Int.tmod a0 10))) % 256] : List Int)) (inner := [.int .u8 ((wrap64 (48 + (Int.tmod a0 10))) % 256)]) (ok := fun _ => True) (okp := fun _ => True) ?hr ?hp (fun _ hk => hk) trivial (Below.refl _ _) (Nat.le_refl _) (by simp) ?_; (case hd => rfl); (case hg => rfl); (case hr => first | (go_simp; rfl)); (case hp => exact (Reps.one (show Kd.M (Kd.int .u8) _ _ _ ((wrap64 (48 + (Int.tmod a0 10))) % 256) [.int .u8 ((wrap64 (48 + (Int.tmod a0 10))) % 256)] from rfl) (Reps.none _ _)))
       intro v364 w15 ho16 hb hg_ hnew_
       clear hg_ hnew_
       (rw [← Ny363.out] at ho16)
       have HO365 := Aside0.mk (Kd.R_lower ho16 (below_size HB.out))
       replace HB := Aside0.mk (below_step HB.out hb)
       clear hb ho16
       refine hK.out _ _ trivial (fun hHeld => ?_)
       clear hK K
       refine norm_ (a' := ?_) ?_ ?_
       rotate_left
       ·show Act.put _ (some 25) _ = _
        simp only [Act.put, List.setIfInBounds_toArray, List.set_cons_zero, List.set_cons_succ, i64_w, i32_w]
        rfl
       refine one_ (i := 8) (N := some 26) #[true, true, true, true, true, true, true, true, true, false, false] rfl rfl (one_of HT_.out (by kernel_rfl)) (by decide) (fun K hK => ?_)
       have hcv17 := own_string (P := Tryd.prog) Tryd.underlying22 Tryd.underlying5 Tryd.underlying9 (Kd.own_of_R HO365.out)
       refine value_ (w1 := ?_) (v := ?_) (by rfl) rfl ?_ ?_
       rotate_left 2
       ·go_simp
        constructor
        ·rfl
        ·rfl
       clear hcv17
       refine hK.out _ _ trivial (fun hHeld => ?_)
       clear hK K
       refine norm_ (a' := ?_) ?_ ?_
       rotate_left
       ·show Act.put _ (some 26) _ = _
        simp only [Act.put, List.setIfInBounds_toArray, List.set_cons_zero, List.set_cons_succ, i64_w, i32_w]
        rfl
       exact norm_ (by simp only [putAll, Act.put, List.setIfInBounds_toArray, List.set_cons_zero, List.set_cons_succ]) (hCont (v364) _ ⟨HO365.out, HB.out⟩)
      ·skip
       refine Kd.R_lit_step (Kd.int .u8) _ 5 ?hg (N := 25) ?hd (xs := ([(wrap64 (48 + (Int.tmod a0 10))) % 256] : List Int)) (inner := [.int .u8 ((wrap64 (48 + (Int.tmod a0 10))) % 256)]) (ok := fun _ => True) (okp := fun _ => True) ?hr ?hp (fun _ hk => hk) trivial (Below.refl _ _) (Nat.le_refl _) (by simp) ?_; (case hd => rfl); (case hg => rfl); (case hr => first | (go_simp; rfl)); (case hp => exact (Reps.one (show Kd.M (Kd.int .u8) _ _ _ ((wrap64 (48 + (Int.tmod a0 10))) % 256) [.int .u8 ((wrap64 (48 + (Int.tmod a0 10))) % 256)] from rfl) (Reps.none _ _)))
       intro v364 w14 ho15 hb hg_ hnew_
       clear hg_ hnew_
       (rw [← Ny363.out] at ho15)
       have HO365 := Aside0.mk (Kd.R_lower ho15 (below_size HB.out))
       replace HB := Aside0.mk (below_step HB.out hb)
       clear hb ho15
       refine hK.out _ _ trivial (fun hHeld => ?_)
       clear hK K
       refine norm_ (a' := ?_) ?_ ?_
       rotate_left
       ·show Act.put _ (some 25) _ = _
        simp only [Act.put, List.setIfInBounds_toArray, List.set_cons_zero, List.set_cons_succ, i64_w, i32_w]
        rfl
       refine two_ (i := 2) (j := 8) (Ni := some 20) (Nj := some 26) #[true, true, true, true, true, true, true, true, false, false, false] #[true, true, false, true, true, true, true, true, true, false, false] rfl rfl rfl rfl (two_of HT_.out (by kernel_rfl)) (by decide) (by decide) (fun K hK => ?_) (fun K hK => ?_)
       ·skip
        refine goes_ Tryd.func71 (by kernel_rfl) rfl #[.int .i64 (wrap64 (Int.tdiv a0 10))] (by rfl) rfl rfl (by (try simp only [List.map_toArray, List.map_cons, List.map_nil]); rfl) ?_
        with_reducible refine (ih k (by omega) (wrap64 (Int.tdiv a0 10)) t362 _ A11.out).mono ?_
        rintro e w16 ⟨rfl, hb⟩
        refine ⟨_, rfl, ?_⟩
        replace HO365 := Aside0.mk (Kd.R_below HO365.out hb)
        replace HB := Aside0.mk (below_step HB.out hb)
        (try clear hb)
        refine hK.out _ _ trivial (fun hHeld => ?_)
        clear hK K
        refine norm_ (a' := ?_) ?_ ?_
        rotate_left
        ·show Act.put _ (some 20) _ = _
         simp only [Act.put, List.setIfInBounds_toArray, List.set_cons_zero, List.set_cons_succ, i64_w, i32_w]
         rfl
        refine one_ (i := 8) (N := some 26) #[true, true, true, true, true, true, true, true, true, false, false] rfl rfl (one_of HT_.out (by kernel_rfl)) (by decide) (fun K hK => ?_)
        have hcv17 := own_string (P := Tryd.prog) Tryd.underlying22 Tryd.underlying5 Tryd.underlying9 (Kd.own_of_R HO365.out)
        refine value_ (w1 := ?_) (v := ?_) (by rfl) rfl ?_ ?_
        rotate_left 2
        ·go_simp
         constructor
         ·rfl
         ·rfl
        clear hcv17
        refine hK.out _ _ trivial (fun hHeld => ?_)
        clear hK K
        refine norm_ (a' := ?_) ?_ ?_
        rotate_left
        ·show Act.put _ (some 26) _ = _
         simp only [Act.put, List.setIfInBounds_toArray, List.set_cons_zero, List.set_cons_succ, i64_w, i32_w]
         rfl
        exact norm_ (by simp only [putAll, Act.put, List.setIfInBounds_toArray, List.set_cons_zero, List.set_cons_succ]) (hCont (v364) _ ⟨HO365.out, HB.out⟩)
       ·skip
        have hcv16 := own_string (P := Tryd.prog) Tryd.underlying22 Tryd.underlying5 Tryd.underlying9 (Kd.own_of_R HO365.out)
        refine value_ (w1 := ?_) (v := ?_) (by rfl) rfl ?_ ?_
        rotate_left 2
        ·go_simp
         constructor
         ·rfl
         ·rfl
        clear hcv16
        refine hK.out _ _ trivial (fun hHeld => ?_)
        clear hK K
        refine norm_ (a' := ?_) ?_ ?_
        rotate_left
        ·show Act.put _ (some 26) _ = _
         simp only [Act.put, List.setIfInBounds_toArray, List.set_cons_zero, List.set_cons_succ, i64_w, i32_w]
         rfl
        refine one_ (i := 2) (N := some 20) #[true, true, true, true, true, true, true, true, true, false, false] rfl rfl (one_of HT_.out (by kernel_rfl)) (by decide) (fun K hK => ?_)
        refine goes_ Tryd.func71 (by kernel_rfl) rfl #[.int .i64 (wrap64 (Int.tdiv a0 10))] (by rfl) rfl rfl (by (try simp only [List.map_toArray, List.map_cons, List.map_nil]); rfl) ?_
        with_reducible refine (ih k (by omega) (wrap64 (Int.tdiv a0 10)) t362 _ A11.out).mono ?_
        rintro e w17 ⟨rfl, hb⟩
        refine ⟨_, rfl, ?_⟩
        replace HO365 := Aside0.mk (Kd.R_below HO365.out hb)
        replace HB := Aside0.mk (below_step HB.out hb)
        (try clear hb)
        refine hK.out _ _ trivial (fun hHeld => ?_)
        clear hK K
        refine norm_ (a' := ?_) ?_ ?_
        rotate_left
        ·show Act.put _ (some 20) _ = _
         simp only [Act.put, List.setIfInBounds_toArray, List.set_cons_zero, List.set_cons_succ, i64_w, i32_w]
         rfl
        exact norm_ (by simp only [putAll, Act.put, List.setIfInBounds_toArray, List.set_cons_zero, List.set_cons_succ]) (hCont (v364) _ ⟨HO365.out, HB.out⟩)
     rintro v364 w18 ⟨h0_, h1_⟩
     have n0_ : Aside0 (Kd.R (Kd.int .u8) 5 w18 w.heap.size (fun _ => True) v364 y363) := ⟨h0_⟩
     have n1_ : Aside0 (Below w.heap.size w w18) := ⟨h1_⟩
     clear HB
     clear h0_ h1_
     have HO365 := n0_
     have HB := n1_
     clear n0_ n1_
     have hHeld := trivial
     refine norm_ (a' := ?_) ?_ ?_
     rotate_left
     ·simp only [putAll, Act.put, List.setIfInBounds_toArray, List.set_cons_zero, List.set_cons_succ]
      rfl
     refine pure_ (i := 9) (N := some 27) (v := ?_) (a' := ?_) #[true, true, true, true, true, true, true, true, true, true, false] rfl rfl (any_of HT_.out (by kernel_rfl)) (fun _ _ _ h => h) (Or.inl ⟨by rfl, ?_⟩) ?_ ?_
     rotate_left
     ·intro w'
      go_simp
      with_reducible rfl
     rotate_left
     ·simp only [Act.put, List.setIfInBounds_toArray, List.set_cons_zero, List.set_cons_succ, i64_w, i32_w]
      rfl
     refine pure_ (i := 10) (N := some 2) (v := ?_) (a' := ?_) #[true, true, true, true, true, true, true, true, true, true, true] rfl rfl (any_of HT_.out (by kernel_rfl)) (fun _ _ _ h => h) (Or.inl ⟨by rfl, ?_⟩) ?_ ?_
     rotate_left
     ·intro w'
      go_simp
      with_reducible rfl
     rotate_left
     ·simp only [Act.put, List.setIfInBounds_toArray, List.set_cons_zero, List.set_cons_succ, i64_w, i32_w]
      rfl
     refine done_ (done_of HT_.out (by kernel_rfl)) ?_
     try go_wp2
     go_ret
     exact ⟨by first | rfl | (simp [*, errW_none, errW_some] <;> rfl), HB.out⟩
    ·rw [if_neg c12] at H
     exact absurd H (by simp)

end Go.Proofs.YtinjblbfaijhdaaDoor.Q
