/- The program's ProofDiffer returns what the reference's returns, for all arguments; no condition beyond the statement's own. -/
import Derived.Lib.AppendIntMem
import Derived.Test.YtinjblbfaijhdaaDoorCFnExactProofDiffer6
import Derived.Test.YtinjblbfaijhdaaDoorCFnExactProofDiffer7
namespace Go.Proofs.YtinjblbfaijhdaaDoor.Q
open Go.RowKit Go.Proofs.YtinjblbfaijhdaaDoorW.PrintWords Go.Proofs.YtinjblbfaijhdaaDoorW.PrintLast Go.Proofs.YtinjblbfaijhdaaDoorW.PrintMore
attribute [local go_sem] max2_int min2_int max_two min_two max_three min_three max_four min_four   -- for this text's walks alone
set_option linter.unusedVariables false
set_option linter.unusedSimpArgs false
/-- The table of powers of ten lies in this world as the program's text lays it. -/
def Glob (w : World) : Prop := Lib.TabIs Tryd.prog w "internal/strconv.uint64pow10" .u64 Lib.pow10Tab
theorem Glob.below {w w' : World} (h : Glob w) (hb : Below w.heap.size w w') : Glob w' := by
 unfold Glob Lib.TabIs World.var? at *
 rw [show Tryd.prog.globalNamed "internal/strconv.uint64pow10" = some 3 by kernel_rfl] at *
 simp only [Option.bind_some] at *
 have lt : 3 < w.heap.size := by
  rcases Nat.lt_or_ge 3 w.heap.size with k | k
  ·exact k
  ·rw [Array.getElem?_eq_none k] at h
   cases h
 rw [hb.block 3 lt]
 exact h
/-- A whole number in decimal signs. -/
def strconv_Itoa_68.f (a0 : Int) : Option ByteArray := if -9223372036854775808 ≤ a0 ∧ a0 ≤ 9223372036854775807 then some ⟨(Lib.itoa a0).toArray⟩ else none
set_option maxHeartbeats 1000000 in
set_option maxRecDepth 100000 in
theorem strconv_Itoa_68.calls (a0 : Int) (r : ByteArray) (w : World) (h : strconv_Itoa_68.f a0 = some r) (hG : Glob w) :
  Calls Tryd.prog 68 #[.int .i64 a0] w fun e w' => e = .returned (.string r) ∧ Below w.heap.size w w' := by
 unfold strconv_Itoa_68.f at h
 split at h
 case isFalse => cases h
 rename_i hs
 obtain rfl := Option.some.inj h
 exact (Tryd.strconv_Itoa a0 hs.1 hs.2 w hG).mono fun e w' ⟨he, k, os, hw⟩ => ⟨he, hw ▸ Lib.below_grow w.heap.size w (Nat.le_refl _) k os⟩

def impl_proofText.l0 : Nat → ByteArray → List Int → Int → Int → Option (ByteArray)
 | 0, _, _, _, _ => none
 | k + 1, x0, x7, x8, x9 => if x9 < x8 then (if 0 ≤ x9 then (if x9 < (x7.length : Int) then ((strconv_Itoa_68.f (rd x7 x9)).bind fun t253 => (if 1 + t253.size ≤ 9223372036854775807 then (if x0.size + 1 + t253.size ≤ 9223372036854775807 then (impl_proofText.l0 k (x0 ++ ((⟨#[32]⟩ : ByteArray) ++ t253)) x7 x8 (wrap64 (x9 + 1))) else (none)) else (none))) else (none)) else (none)) else (some x0)
def impl_proofText.f (k : Nat) (a0 : ByteArray) (l1 : List Int) : Option (ByteArray) := impl_proofText.l0 k a0 l1 (l1.length : Int) 0
theorem impl_proofText.mono_l : ∀ k, (∀ y0 y1 y2 y3, LeO (impl_proofText.l0 k y0 y1 y2 y3) (impl_proofText.l0 (k + 1) y0 y1 y2 y3))
 | 0 => fun _ _ _ _ r h => by simp [impl_proofText.l0] at h
 | k + 1 => by
  have ih0 := impl_proofText.mono_l k
  ·intro y0 y1 y2 y3
   unfold impl_proofText.l0
   repeat' first
   |(with_reducible exact ih0 _ _ _ _)
   |(with_reducible exact LeO.refl _)
   |(with_reducible exact LeO.none _)
   |(with_reducible refine LeO.ite ?_ ?_)
   |(with_reducible refine LeO.bind ?_ (fun _ => ?_))
   |exact ih0 _ _ _ _
   |exact LeO.none _
   |refine LeO.ite ?_ ?_
   |refine LeO.bind ?_ (fun _ => ?_)
theorem impl_proofText.mono : ∀ a0 a1 k, LeO (impl_proofText.f k a0 a1) (impl_proofText.f (k + 1) a0 a1) := by
 intro a0 a1 k
 have ih0 := impl_proofText.mono_l k
 unfold impl_proofText.f
 repeat' first
   |(with_reducible exact ih0 _ _ _ _)
   |(with_reducible exact LeO.refl _)
   |(with_reducible exact LeO.none _)
   |(with_reducible refine LeO.ite ?_ ?_)
   |(with_reducible refine LeO.bind ?_ (fun _ => ?_))
   |exact ih0 _ _ _ _
   |exact LeO.none _
   |refine LeO.ite ?_ ?_
   |refine LeO.bind ?_ (fun _ => ?_)
set_option maxHeartbeats 8000000 in
set_option maxRecDepth 100000 in
theorem impl_proofText.calls (k : Nat) (a0 : ByteArray) (A1 : Option Addr) (c1 : Nat) (l1 : List Int) (r : ByteArray) (w : World) (hr1 : Kd.C (Kd.int .i64) w A1 l1.length l1) (hc1 : l1.length ≤ c1) (h : impl_proofText.f k a0 l1 = some r) (hG : Glob w) :
  Calls Tryd.prog 43 #[.string a0, .slice A1 l1.length c1] w fun e w' => e = .returned (.string r) ∧ Below w.heap.size w w' := by
 have HR1 := Aside0.mk hr1
 have HC1 := Aside0.mk hc1
 clear hr1 hc1
 have HB := Aside0.mk (Below.refl w.heap.size w)
 have H : (impl_proofText.l0 k a0 l1 (l1.length : Int) 0) = some r := h
 clear h
 have H' := Aside0.mk H
 clear H
 go_enter Tryd.func43, Tryd.ntmps43
 go_wp2
 go_loopg [0, 9] k (fun kq v0 v9 w' => ∃ (x0_1 : ByteArray) (x9_1 : Int), v0 = .string x0_1 ∧ v9 = .int .i64 x9_1 ∧ Aside0 (impl_proofText.l0 kq x0_1 l1 (l1.length : Int) x9_1 = some r) ∧ Aside0 (kq ≤ k) ∧ Aside0 (Below w.heap.size w w'))
 case atStart => exact ⟨(a0), (0), (by first | rfl | (simp; done) | (simp [*]; done) | (simp [Int.tmod_eq_emod_of_nonneg]; done)), (by first | rfl | (simp; done) | (simp [*]; done) | (simp [Int.tmod_eq_emod_of_nonneg]; done)), H', ⟨Nat.le_refl _⟩, ⟨by repeat (first | (with_reducible first | exact HB.out | apply below_alloc | apply pw_below_drewN | apply below_drew1) | exact HB.out)⟩⟩
 case round =>
  clear H'
  try clear c1
  try clear p2
  obtain ⟨x0_1, x9_1, rfl, rfl, HA, HK1, HB⟩ := hrel
  cases gk with
  | zero => exact absurd HA.out (by simp [impl_proofText.l0])
  | succ k1 =>
   have H := HA.out
   clear HA
   simp only [impl_proofText.l0] at H
   by_cases c3 : x9_1 < (l1.length : Int)
   ·rw [if_pos c3] at H
    have c3b0 : decide (x9_1 < (l1.length : Int)) = true := decide_eq_true c3
    clear c3
    by_cases c4 : 0 ≤ x9_1
    ·rw [if_pos c4] at H
     have c4b0 : decide (0 ≤ x9_1) = true := decide_eq_true c4
     clear c4
     by_cases c5 : x9_1 < (l1.length : Int)
     ·rw [if_pos c5] at H
      have c5b0 : decide (x9_1 < (l1.length : Int)) = true := decide_eq_true c5
      clear c5
      replace H := Option.bind_eq_some_iff.mp H
      obtain ⟨t253, A60, H⟩ := H
      replace H : (if 1 + t253.size ≤ 9223372036854775807 then (if x0_1.size + 1 + t253.size ≤ 9223372036854775807 then (impl_proofText.l0 k1 (x0_1 ++ ((⟨#[32]⟩ : ByteArray) ++ t253)) l1 (l1.length : Int) (wrap64 (x9_1 + 1))) else (none)) else (none)) = some r := H
      have A6 := Aside0.mk A60
      clear A60
      by_cases c7 : 1 + t253.size ≤ 9223372036854775807
      ·rw [if_pos c7] at H
       have c7b0 := eq_true c7
       have c7b1 : decide (1 + t253.size ≤ 9223372036854775807) = true := decide_eq_true c7
       try have c7b2 : (9223372036854775807 < 1 + t253.size) = False := eq_false (Nat.not_lt.2 c7)
       by_cases c8 : x0_1.size + 1 + t253.size ≤ 9223372036854775807
       ·rw [if_pos c8] at H
        have c8b0 := eq_true c8
        have c8b1 : decide (x0_1.size + 1 + t253.size ≤ 9223372036854775807) = true := decide_eq_true c8
        try have c8b2 : (9223372036854775807 < x0_1.size + 1 + t253.size) = False := eq_false (Nat.not_lt.2 c8)
        have H' := Aside0.mk H
        clear H
        have p252 : 0 ≤ (x9_1 : Int) := of_decide_eq_true (by first | (with_reducible assumption) | assumption)
        have q252 : x9_1 < (l1.length : Int) := of_decide_eq_true (by first | (with_reducible assumption) | assumption)
        obtain ⟨ad252, e252, hx252_0⟩ := Kd.at_int HR1.out x9_1 p252 q252
        cases e252
        replace hx252_0 := (HB.out.cell (World.block_lt_of_cell? w _ hx252_0)).trans hx252_0
        replace p252 := eq_true p252
        replace q252 := eq_true q252
        go_wp2_with (first | ((with_reducible refine gate_callee (f := 68) rfl ?_); refine goesL_ (some 15) rfl rfl Tryd.func68 (by kernel_rfl) rfl #[.int .i64 (rd l1 x9_1)] rfl (by (try simp only [List.map_toArray, List.map_cons, List.map_nil]); first | done | rfl | (simp only [List.length_drop, List.length_take]; rfl)) ?_; (with_reducible refine (strconv_Itoa_68.calls (rd l1 x9_1) t253 _ A6.out (Glob.below hG (by repeat (first | (with_reducible first | exact HB.out | apply below_alloc | apply pw_below_drewN | apply below_drew1) | exact HB.out)))).mono ?_); rintro e w9 ⟨rfl, hb⟩; refine ⟨_, rfl, ?_⟩; have n0_ := Aside0.mk (below_step (by repeat (first | (with_reducible first | exact HB.out | apply below_alloc | apply pw_below_drewN | apply below_drew1) | exact HB.out)) hb); clear HB; have HB := n0_; clear n0_; (try clear hb); (try clear hb2); (try clear hk); (try clear hi)))
        go_roundg k1
        case measure => have := HK1.out; omega
        case rel => exact ⟨(x0_1 ++ ((⟨#[32]⟩ : ByteArray) ++ t253)), (wrap64 (x9_1 + 1)), (by first | rfl | (simp; done) | (simp [*]; done) | (simp [Int.tmod_eq_emod_of_nonneg]; done)), (by first | rfl | (simp; done) | (simp [*]; done) | (simp [Int.tmod_eq_emod_of_nonneg]; done)), H', ⟨by have := HK1.out; omega⟩, ⟨by repeat (first | (with_reducible first | exact HB.out | apply below_alloc | apply pw_below_drewN | apply below_drew1) | exact HB.out)⟩⟩
       ·rw [if_neg c8] at H
        exact absurd H (by simp)
      ·rw [if_neg c7] at H
       exact absurd H (by simp)
     ·rw [if_neg c5] at H
      exact absurd H (by simp)
    ·rw [if_neg c4] at H
     exact absurd H (by simp)
   ·rw [if_neg c3] at H
    have c3b0 : decide (x9_1 < (l1.length : Int)) = false := decide_eq_false c3
    clear c3
    obtain rfl := Option.some.inj H
    go_wp2
    go_ret
    exact ⟨by first | rfl | (simp [errW_none, errW_some] <;> rfl) | (simp [errW_none, errW_some]; exact ⟨rfl, rfl⟩) | (simp [errW_none, errW_some]; exact ⟨rfl, rfl, rfl⟩) | (simp [*, errW_none, errW_some] <;> rfl), by repeat (first | (with_reducible first | exact HB.out | apply below_alloc | apply pw_below_drewN | apply below_drew1) | exact HB.out)⟩


mutual
def impl_ProofDiffer.j0 : Nat → Bool → List Bool → List Bool → List Bool → List Bool → Option (ByteArray × Bool)
 | 0, _, _, _, _, _ => none
 | k + 1, x28, x696000, x696001, x704000, x704001 => if x28 = true then (some ((⟨#[]⟩ : ByteArray), false)) else ((impl_both.f k x696000 x696001 x704000 x704001).bind fun bt704 => (impl_ProofDiffer.l0 k (wrap64 (bt704.1 + bt704.2)) 0 x696000 x696001 x704000 x704001))
def impl_ProofDiffer.l0 : Nat → Int → Int → List Bool → List Bool → List Bool → List Bool → Option (ByteArray × Bool)
 | 0, _, _, _, _, _, _ => none
 | k + 1, x37, x38, x696000, x696001, x704000, x704001 => if x38 < x37 then ((impl_set_has.f x696000 x696001 x38).bind fun t706 => (if t706 = true then ((impl_set_has.f x704000 x704001 x38).bind fun t707 => (impl_ProofDiffer.j2 k x38 x37 x38 (!t707) x696000 x696001 x704000 x704001)) else (impl_ProofDiffer.j2 k x38 x37 x38 false x696000 x696001 x704000 x704001))) else (some ((⟨#[]⟩ : ByteArray), false))
def impl_ProofDiffer.j2 : Nat → Int → Int → Int → Bool → List Bool → List Bool → List Bool → List Bool → Option (ByteArray × Bool)
 | 0, _, _, _, _, _, _, _, _ => none
 | k + 1, x12, x37, x38, x41, x696000, x696001, x704000, x704001 => if x41 = true then ((impl_proofText.f k (⟨#[102, 105, 114, 115, 116]⟩ : ByteArray) (([x12] : List Int))).bind fun t711 => (some (t711, true))) else ((impl_set_has.f x704000 x704001 x12).bind fun t712 => (if t712 = true then ((impl_set_has.f x696000 x696001 x12).bind fun t713 => (if t713 = true then (impl_ProofDiffer.l0 k x37 (wrap64 (x38 + 1)) x696000 x696001 x704000 x704001) else ((impl_proofText.f k (⟨#[115, 101, 99, 111, 110, 100]⟩ : ByteArray) (([x12] : List Int))).bind fun t717 => (some (t717, true))))) else (impl_ProofDiffer.l0 k x37 (wrap64 (x38 + 1)) x696000 x696001 x704000 x704001)))
end
def impl_ProofDiffer.f (k : Nat) (a0 : ByteArray) (a1 : ByteArray) : Option (ByteArray × Bool) := (impl_setOf.f a0).bind fun bt688 => ((impl_setOf.f a1).bind fun bt696 => (if bt688.2.2 = true then (impl_ProofDiffer.j0 k (!bt696.2.2) bt688.1 bt688.2.1 bt696.1 bt696.2.1) else (impl_ProofDiffer.j0 k true bt688.1 bt688.2.1 bt696.1 bt696.2.1)))
theorem impl_ProofDiffer.mono_l : ∀ k, (∀ y0 y1 y2 y3 y4, LeO (impl_ProofDiffer.j0 k y0 y1 y2 y3 y4) (impl_ProofDiffer.j0 (k + 1) y0 y1 y2 y3 y4)) ∧ (∀ y0 y1 y2 y3 y4 y5, LeO (impl_ProofDiffer.l0 k y0 y1 y2 y3 y4 y5) (impl_ProofDiffer.l0 (k + 1) y0 y1 y2 y3 y4 y5)) ∧ (∀ y0 y1 y2 y3 y4 y5 y6 y7, LeO (impl_ProofDiffer.j2 k y0 y1 y2 y3 y4 y5 y6 y7) (impl_ProofDiffer.j2 (k + 1) y0 y1 y2 y3 y4 y5 y6 y7))
 | 0 => ⟨fun _ _ _ _ _ r h => by simp [impl_ProofDiffer.j0] at h, fun _ _ _ _ _ _ r h => by simp [impl_ProofDiffer.l0] at h, fun _ _ _ _ _ _ _ _ r h => by simp [impl_ProofDiffer.j2] at h⟩
 | k + 1 => by
  obtain ⟨ih0, ih1, ih2⟩ := impl_ProofDiffer.mono_l k
  refine ⟨?_, ?_, ?_⟩
  ·intro y0 y1 y2 y3 y4
   unfold impl_ProofDiffer.j0
   repeat' first
   |(with_reducible exact ih0 _ _ _ _ _)
   |(with_reducible exact ih1 _ _ _ _ _ _)
   |(with_reducible exact ih2 _ _ _ _ _ _ _ _)
   |(with_reducible exact impl_both.mono _ _ _ _ _)
   |(with_reducible exact impl_proofText.mono _ _ _)
   |(with_reducible exact LeO.refl _)
   |(with_reducible exact LeO.none _)
   |(with_reducible refine LeO.ite ?_ ?_)
   |(with_reducible refine LeO.bind ?_ (fun _ => ?_))
   |exact ih0 _ _ _ _ _
   |exact ih1 _ _ _ _ _ _
   |exact ih2 _ _ _ _ _ _ _ _
   |exact impl_both.mono _ _ _ _ _
   |exact impl_proofText.mono _ _ _
   |exact LeO.none _
   |refine LeO.ite ?_ ?_
   |refine LeO.bind ?_ (fun _ => ?_)
  ·intro y0 y1 y2 y3 y4 y5
   unfold impl_ProofDiffer.l0
   repeat' first
   |(with_reducible exact ih0 _ _ _ _ _)
   |(with_reducible exact ih1 _ _ _ _ _ _)
   |(with_reducible exact ih2 _ _ _ _ _ _ _ _)
   |(with_reducible exact impl_both.mono _ _ _ _ _)
   |(with_reducible exact impl_proofText.mono _ _ _)
   |(with_reducible exact LeO.refl _)
   |(with_reducible exact LeO.none _)
   |(with_reducible refine LeO.ite ?_ ?_)
   |(with_reducible refine LeO.bind ?_ (fun _ => ?_))
   |exact ih0 _ _ _ _ _
   |exact ih1 _ _ _ _ _ _
   |exact ih2 _ _ _ _ _ _ _ _
   |exact impl_both.mono _ _ _ _ _
   |exact impl_proofText.mono _ _ _
   |exact LeO.none _
   |refine LeO.ite ?_ ?_
   |refine LeO.bind ?_ (fun _ => ?_)
  ·intro y0 y1 y2 y3 y4 y5 y6 y7
   unfold impl_ProofDiffer.j2
   repeat' first
   |(with_reducible exact ih0 _ _ _ _ _)
   |(with_reducible exact ih1 _ _ _ _ _ _)
   |(with_reducible exact ih2 _ _ _ _ _ _ _ _)
   |(with_reducible exact impl_both.mono _ _ _ _ _)
   |(with_reducible exact impl_proofText.mono _ _ _)
   |(with_reducible exact LeO.refl _)
   |(with_reducible exact LeO.none _)
   |(with_reducible refine LeO.ite ?_ ?_)
   |(with_reducible refine LeO.bind ?_ (fun _ => ?_))
   |exact ih0 _ _ _ _ _
   |exact ih1 _ _ _ _ _ _
   |exact ih2 _ _ _ _ _ _ _ _
   |exact impl_both.mono _ _ _ _ _
   |exact impl_proofText.mono _ _ _
   |exact LeO.none _
   |refine LeO.ite ?_ ?_
   |refine LeO.bind ?_ (fun _ => ?_)
theorem impl_ProofDiffer.mono : ∀ a0 a1 k, LeO (impl_ProofDiffer.f k a0 a1) (impl_ProofDiffer.f (k + 1) a0 a1) := by
 intro a0 a1 k
 obtain ⟨ih0, ih1, ih2⟩ := impl_ProofDiffer.mono_l k
 unfold impl_ProofDiffer.f
 repeat' first
   |(with_reducible exact ih0 _ _ _ _ _)
   |(with_reducible exact ih1 _ _ _ _ _ _)
   |(with_reducible exact ih2 _ _ _ _ _ _ _ _)
   |(with_reducible exact impl_both.mono _ _ _ _ _)
   |(with_reducible exact impl_proofText.mono _ _ _)
   |(with_reducible exact LeO.refl _)
   |(with_reducible exact LeO.none _)
   |(with_reducible refine LeO.ite ?_ ?_)
   |(with_reducible refine LeO.bind ?_ (fun _ => ?_))
   |exact ih0 _ _ _ _ _
   |exact ih1 _ _ _ _ _ _
   |exact ih2 _ _ _ _ _ _ _ _
   |exact impl_both.mono _ _ _ _ _
   |exact impl_proofText.mono _ _ _
   |exact LeO.none _
   |refine LeO.ite ?_ ?_
   |refine LeO.bind ?_ (fun _ => ?_)
set_option maxHeartbeats 8000000 in
set_option maxRecDepth 100000 in
theorem impl_ProofDiffer.calls (k : Nat) (a0 : ByteArray) (a1 : ByteArray) (r1 : ByteArray) (r2 : Bool) (w : World) (h : impl_ProofDiffer.f k a0 a1 = some (r1, r2)) (hG : Glob w) :
  Calls Tryd.prog 28 #[.string a0, .string a1] w fun e w' => e = .returned (.tuple #[.string r1, .bool r2]) ∧ Below w.heap.size w w' := by
 have hu49 := Tryd.underlying49
 have HB := Aside0.mk (Below.refl w.heap.size w)
 have H : ((impl_setOf.f a0).bind fun bt688 => ((impl_setOf.f a1).bind fun bt696 => (if bt688.2.2 = true then (impl_ProofDiffer.j0 k (!bt696.2.2) bt688.1 bt688.2.1 bt696.1 bt696.2.1) else (impl_ProofDiffer.j0 k true bt688.1 bt688.2.1 bt696.1 bt696.2.1)))) = some (r1, r2) := h
 clear h
 replace H := Option.bind_eq_some_iff.mp H
 obtain ⟨⟨t688, t691, t694⟩, A30, H⟩ := H
 replace H : ((impl_setOf.f a1).bind fun bt696 => (if t694 = true then (impl_ProofDiffer.j0 k (!bt696.2.2) t688 t691 bt696.1 bt696.2.1) else (impl_ProofDiffer.j0 k true t688 t691 bt696.1 bt696.2.1))) = some (r1, r2) := H
 have A3 := Aside0.mk A30
 clear A30
 replace H := Option.bind_eq_some_iff.mp H
 obtain ⟨⟨t696, t699, t702⟩, A40, H⟩ := H
 replace H : (if t694 = true then (impl_ProofDiffer.j0 k (!t702) t688 t691 t696 t699) else (impl_ProofDiffer.j0 k true t688 t691 t696 t699)) = some (r1, r2) := H
 have A4 := Aside0.mk A40
 clear A40
 have HC5 := Aside0.mk H
 clear H
 go_enter Tryd.func28, Tryd.ntmps28
 go_upto_region 3 with (first | ((with_reducible refine gate_callee (f := 62) rfl ?_); refine goesL_ (some 15) rfl rfl Tryd.func62 (by kernel_rfl) rfl #[.string a0] rfl (by (try simp only [List.map_toArray, List.map_cons, List.map_nil]); first | done | rfl | (simp only [List.length_drop, List.length_take]; rfl)) ?_; (with_reducible refine (impl_setOf.calls a0 t688 t691 t694 _ A3.out).mono ?_); rintro e w6 ⟨v689, v692, rfl, ho0, ho1, hb⟩; refine ⟨_, rfl, ?_⟩; have n0_ := Aside0.mk (Kd.R_lower ho0 (below_size (by repeat (first | (with_reducible first | exact HB.out | apply below_alloc | apply pw_below_drewN | apply below_drew1) | exact HB.out)))); have n1_ := Aside0.mk (Kd.R_lower ho1 (below_size (by repeat (first | (with_reducible first | exact HB.out | apply below_alloc | apply pw_below_drewN | apply below_drew1) | exact HB.out)))); have n2_ := Aside0.mk (below_step (by repeat (first | (with_reducible first | exact HB.out | apply below_alloc | apply pw_below_drewN | apply below_drew1) | exact HB.out)) hb); clear HB; have HO690 := n0_; have HO693 := n1_; have HB := n2_; clear n0_ n1_ n2_; (try clear hb); (try clear hb2); (try clear hk); (try clear hi); (try clear ho0); (try clear ho1)) | ((with_reducible refine gate_dst (N := 6) rfl ?_); refine box_event ?hg (N := 6) ?hd (cs := #[.slice none 0 0, .slice none 0 0]) (t := 49) ?hr ?_; (case hd => rfl); (case hg => rfl); (case hr => first | (go_simp; done) | (go_simp; rfl)); intro gb695 hg w7 hbox hb; have n0_ := Aside0.mk (Kd.R_below (by (with_reducible repeat (first | apply Kd.R_alloc | apply Kd.R_drewN | apply Kd.R_drew)); exact HO690.out) hb); have n1_ := Aside0.mk (Kd.R_below (by (with_reducible repeat (first | apply Kd.R_alloc | apply Kd.R_drewN | apply Kd.R_drew)); exact HO693.out) hb); have n2_ := Aside0.mk (below_step (by repeat (first | (with_reducible first | exact HB.out | apply below_alloc | apply pw_below_drewN | apply below_drew1) | exact HB.out)) hb); have n3_ := Aside0.mk (hbox); have n4_ := Aside0.mk ((by rw [hg]; exact (below_size (by repeat (first | (with_reducible first | exact HB.out | apply below_alloc | apply pw_below_drewN | apply below_drew1) | exact HB.out))) : w.heap.size ≤ gb695)); have n5_ := Aside0.mk ((by rw [hg]; exact (below_size (by repeat (first | (with_reducible first | exact HB.out | apply below_alloc | apply pw_below_drewN | apply below_drew1) | exact HB.out))) : w.heap.size ≤ gb695)); clear HO690; clear HO693; clear HB; have HO690 := n0_; have HO693 := n1_; have HB := n2_; have BK695 := n3_; have GW695 := n4_; have GE695 := n5_; clear n0_ n1_ n2_ n3_ n4_ n5_; clear hb hbox hg; obtain ⟨Ao8, co8, eo8⟩ := Kd.R_slice HO690.out; subst eo8; have hcz9_0 : w7.cell? ⟨gb695, 0, none⟩ = some (.slice none 0 0) := (blk_cell BK695.out 0).trans rfl; have hcz9_1 : w7.cell? ⟨gb695, 1, none⟩ = some (.slice none 0 0) := (blk_cell BK695.out 1).trans rfl; have hfz9_0 := blk_frozen BK695.out 0; have hfz9_1 := blk_frozen BK695.out 1; obtain ⟨Ao10, co10, eo10⟩ := Kd.R_slice HO693.out; subst eo10) | ((with_reducible refine gate_callee (f := 62) rfl ?_); refine goesL_ (some 20) rfl rfl Tryd.func62 (by kernel_rfl) rfl #[.string a1] rfl (by (try simp only [List.map_toArray, List.map_cons, List.map_nil]); first | done | rfl | (simp only [List.length_drop, List.length_take]; rfl)) ?_; (with_reducible refine (impl_setOf.calls a1 t696 t699 t702 _ A4.out).mono ?_); rintro e w11 ⟨v697, v700, rfl, ho0, ho1, hb⟩; refine ⟨_, rfl, ?_⟩; have n0_ := Aside0.mk (Kd.R_mono (Kd.R_told (Kd.R_told (Kd.R_old (by (with_reducible repeat (first | apply Kd.R_alloc | apply Kd.R_drewN | apply Kd.R_drew)); exact (Kd.R_mono (Kd.R_far (p := ⟨gb695, 1, none⟩) (Kd.R_far (p := ⟨gb695, 0, none⟩) (Kd.R_types HO690.out BK695.out (by decide)) (fun _ hk => hk.2) (.slice Ao8 t688.length co8)) (fun _ hk => hk.2) (.slice Ao10 t691.length co10)) (fun _ h_ => h_.1))) hb) (Kd.R_base ho0)) (Kd.R_base ho1)) (fun _ h_ => h_.1)); have n1_ := Aside0.mk (Kd.R_mono (Kd.R_told (Kd.R_told (Kd.R_old (by (with_reducible repeat (first | apply Kd.R_alloc | apply Kd.R_drewN | apply Kd.R_drew)); exact (Kd.R_mono (Kd.R_far (p := ⟨gb695, 1, none⟩) (Kd.R_far (p := ⟨gb695, 0, none⟩) (Kd.R_types HO693.out BK695.out (by decide)) (fun _ hk => hk.2) (.slice Ao8 t688.length co8)) (fun _ hk => hk.2) (.slice Ao10 t691.length co10)) (fun _ h_ => h_.1))) hb) (Kd.R_base ho0)) (Kd.R_base ho1)) (fun _ h_ => h_.1)); have n2_ := Aside0.mk (Kd.R_lower (Kd.R_new' (Kd.R_new' ho0 (Kd.R_lt (by (with_reducible repeat (first | apply Kd.R_alloc | apply Kd.R_drewN | apply Kd.R_drew)); exact (Kd.R_mono (Kd.R_far (p := ⟨gb695, 1, none⟩) (Kd.R_far (p := ⟨gb695, 0, none⟩) (Kd.R_types HO690.out BK695.out (by decide)) (fun _ hk => hk.2) (.slice Ao8 t688.length co8)) (fun _ hk => hk.2) (.slice Ao10 t691.length co10)) (fun _ h_ => h_.1))))) (Kd.R_lt (by (with_reducible repeat (first | apply Kd.R_alloc | apply Kd.R_drewN | apply Kd.R_drew)); exact (Kd.R_mono (Kd.R_far (p := ⟨gb695, 1, none⟩) (Kd.R_far (p := ⟨gb695, 0, none⟩) (Kd.R_types HO693.out BK695.out (by decide)) (fun _ hk => hk.2) (.slice Ao8 t688.length co8)) (fun _ hk => hk.2) (.slice Ao10 t691.length co10)) (fun _ h_ => h_.1))))) (below_size (by repeat (first | (with_reducible first | exact HB.out | apply below_alloc | apply pw_below_drewN | apply below_drew1 | refine below_set ?_ GE695.out) | exact HB.out)))); have n3_ := Aside0.mk (Kd.R_lower (Kd.R_new' (Kd.R_new' ho1 (Kd.R_lt (by (with_reducible repeat (first | apply Kd.R_alloc | apply Kd.R_drewN | apply Kd.R_drew)); exact (Kd.R_mono (Kd.R_far (p := ⟨gb695, 1, none⟩) (Kd.R_far (p := ⟨gb695, 0, none⟩) (Kd.R_types HO690.out BK695.out (by decide)) (fun _ hk => hk.2) (.slice Ao8 t688.length co8)) (fun _ hk => hk.2) (.slice Ao10 t691.length co10)) (fun _ h_ => h_.1))))) (Kd.R_lt (by (with_reducible repeat (first | apply Kd.R_alloc | apply Kd.R_drewN | apply Kd.R_drew)); exact (Kd.R_mono (Kd.R_far (p := ⟨gb695, 1, none⟩) (Kd.R_far (p := ⟨gb695, 0, none⟩) (Kd.R_types HO693.out BK695.out (by decide)) (fun _ hk => hk.2) (.slice Ao8 t688.length co8)) (fun _ hk => hk.2) (.slice Ao10 t691.length co10)) (fun _ h_ => h_.1))))) (below_size (by repeat (first | (with_reducible first | exact HB.out | apply below_alloc | apply pw_below_drewN | apply below_drew1 | refine below_set ?_ GE695.out) | exact HB.out)))); have n4_ := Aside0.mk (blk_below (g := gb695) (o := .cells #[.slice Ao8 t688.length co8, .slice Ao10 t691.length co10] 49 (0, 0)) (by (with_reducible repeat (first | refine blk_drewN ?_ _ | refine blk_drew ?_ | refine blk_alloc ?_ _)); refine blk_put (cs := #[.slice Ao8 t688.length co8, .slice none 0 0]) ?_ 1 _ rfl; (with_reducible repeat (first | refine blk_drewN ?_ _ | refine blk_drew ?_ | refine blk_alloc ?_ _)); refine blk_put (cs := #[.slice none 0 0, .slice none 0 0]) ?_ 0 _ rfl; (with_reducible repeat (first | refine blk_drewN ?_ _ | refine blk_drew ?_ | refine blk_alloc ?_ _)); exact BK695.out) hb); have n5_ := Aside0.mk (below_step (by repeat (first | (with_reducible first | exact HB.out | apply below_alloc | apply pw_below_drewN | apply below_drew1 | refine below_set ?_ GE695.out) | exact HB.out)) hb); clear HO690; clear HO693; clear BK695; clear HB; have HO690 := n0_; have HO693 := n1_; have HO698 := n2_; have HO701 := n3_; have BK695 := n4_; have HB := n5_; clear n0_ n1_ n2_ n3_ n4_ n5_; (try clear hb); (try clear hb2); (try clear hk); (try clear hi); (try clear ho0); (try clear ho1)) | ((with_reducible refine gate_dst (N := 8) rfl ?_); refine box_event ?hg (N := 8) ?hd (cs := #[.slice none 0 0, .slice none 0 0]) (t := 49) ?hr ?_; (case hd => rfl); (case hg => rfl); (case hr => first | (go_simp; done) | (go_simp; rfl)); intro gb703 hg w12 hbox hb; have n0_ := Aside0.mk (Kd.R_below (by (with_reducible repeat (first | apply Kd.R_alloc | apply Kd.R_drewN | apply Kd.R_drew)); exact HO690.out) hb); have n1_ := Aside0.mk (Kd.R_below (by (with_reducible repeat (first | apply Kd.R_alloc | apply Kd.R_drewN | apply Kd.R_drew)); exact HO693.out) hb); have n2_ := Aside0.mk (Kd.R_below (by (with_reducible repeat (first | apply Kd.R_alloc | apply Kd.R_drewN | apply Kd.R_drew)); exact HO698.out) hb); have n3_ := Aside0.mk (Kd.R_below (by (with_reducible repeat (first | apply Kd.R_alloc | apply Kd.R_drewN | apply Kd.R_drew)); exact HO701.out) hb); have n4_ := Aside0.mk (blk_below (g := gb695) (o := .cells #[.slice Ao8 t688.length co8, .slice Ao10 t691.length co10] 49 (0, 0)) (by (with_reducible repeat (first | refine blk_drewN ?_ _ | refine blk_drew ?_ | refine blk_alloc ?_ _)); exact BK695.out) hb); have n5_ := Aside0.mk (below_step (by repeat (first | (with_reducible first | exact HB.out | apply below_alloc | apply pw_below_drewN | apply below_drew1 | refine below_set ?_ GE695.out) | exact HB.out)) hb); have n6_ := Aside0.mk (hbox); have n7_ := Aside0.mk ((by rw [hg]; exact (below_size (by repeat (first | (with_reducible first | exact HB.out | apply below_alloc | apply pw_below_drewN | apply below_drew1 | refine below_set ?_ GE695.out) | exact HB.out))) : w.heap.size ≤ gb703)); have n8_ := Aside0.mk ((by rw [hg]; exact (below_size (by repeat (first | (with_reducible first | exact HB.out | apply below_alloc | apply pw_below_drewN | apply below_drew1 | refine below_set ?_ GE695.out) | exact HB.out))) : w.heap.size ≤ gb703)); have n9_ := Aside0.mk ((by rw [hg]; exact Nat.ne_of_lt (blk_lt (g := gb695) (o := .cells #[.slice Ao8 t688.length co8, .slice Ao10 t691.length co10] 49 (0, 0)) (by (with_reducible repeat (first | refine blk_drewN ?_ _ | refine blk_drew ?_ | refine blk_alloc ?_ _)); exact BK695.out)) : gb695 ≠ gb703)); have n10_ := Aside0.mk ((by rw [hg]; exact Nat.ne_of_gt (blk_lt (g := gb695) (o := .cells #[.slice Ao8 t688.length co8, .slice Ao10 t691.length co10] 49 (0, 0)) (by (with_reducible repeat (first | refine blk_drewN ?_ _ | refine blk_drew ?_ | refine blk_alloc ?_ _)); exact BK695.out)) : gb703 ≠ gb695)); clear HO690; clear HO693; clear HO698; clear HO701; clear BK695; clear HB; have HO690 := n0_; have HO693 := n1_; have HO698 := n2_; have HO701 := n3_; have BK695 := n4_; have HB := n5_; have BK703 := n6_; have GW703 := n7_; have GE703 := n8_; have NB695_703 := n9_; have NB703_695 := n10_; clear n0_ n1_ n2_ n3_ n4_ n5_ n6_ n7_ n8_ n9_ n10_; clear hb hbox hg; obtain ⟨Ao13, co13, eo13⟩ := Kd.R_slice HO698.out; subst eo13; have hnb14 := NB703_695.out; have hnc14 := NB695_703.out; have hcz15_0 : w12.cell? ⟨gb703, 0, none⟩ = some (.slice none 0 0) := (blk_cell BK703.out 0).trans rfl; have hcz15_1 : w12.cell? ⟨gb703, 1, none⟩ = some (.slice none 0 0) := (blk_cell BK703.out 1).trans rfl; have hfz15_0 := blk_frozen BK703.out 0; have hfz15_1 := blk_frozen BK703.out 1; obtain ⟨Ao16, co16, eo16⟩ := Kd.R_slice HO701.out; subst eo16))
 (try simp only [Act.put, List.setIfInBounds_toArray, List.set_cons_zero, List.set_cons_succ])
 go_cut [28] (fun v28 wc => ∃ (kq : Nat) (x28_4 : Bool), v28 = .bool x28_4 ∧ Aside0 (impl_ProofDiffer.j0 kq x28_4 t688 t691 t696 t699 = some (r1, r2)) ∧ Aside0 (kq ≤ k) ∧ Aside0 (Kd.R Kd.bool 4 wc w.heap.size (fun k_ => some k_ ≠ ((.slice Ao10 t691.length co10) : Value).ownBlock ∧ some k_ ≠ ((.slice Ao13 t696.length co13) : Value).ownBlock ∧ some k_ ≠ ((.slice Ao16 t699.length co16) : Value).ownBlock) (.slice Ao8 t688.length co8) t688) ∧ Aside0 (Kd.R Kd.bool 4 wc w.heap.size (fun k_ => some k_ ≠ ((.slice Ao8 t688.length co8) : Value).ownBlock ∧ some k_ ≠ ((.slice Ao13 t696.length co13) : Value).ownBlock ∧ some k_ ≠ ((.slice Ao16 t699.length co16) : Value).ownBlock) (.slice Ao10 t691.length co10) t691) ∧ Aside0 (Kd.R Kd.bool 4 wc w.heap.size (fun k_ => some k_ ≠ ((.slice Ao8 t688.length co8) : Value).ownBlock ∧ some k_ ≠ ((.slice Ao10 t691.length co10) : Value).ownBlock ∧ some k_ ≠ ((.slice Ao16 t699.length co16) : Value).ownBlock) (.slice Ao13 t696.length co13) t696) ∧ Aside0 (Kd.R Kd.bool 4 wc w.heap.size (fun k_ => some k_ ≠ ((.slice Ao8 t688.length co8) : Value).ownBlock ∧ some k_ ≠ ((.slice Ao10 t691.length co10) : Value).ownBlock ∧ some k_ ≠ ((.slice Ao13 t696.length co13) : Value).ownBlock) (.slice Ao16 t699.length co16) t699) ∧ Aside0 (wc.heap[gb695]? = some (.cells #[(.slice Ao8 t688.length co8), (.slice Ao10 t691.length co10)] 49 (0, 0))) ∧ Aside0 (wc.heap[gb703]? = some (.cells #[(.slice Ao13 t696.length co13), (.slice Ao16 t699.length co16)] 49 (0, 0))) ∧ Aside0 (Below w.heap.size w wc))
 case first =>
  have H := HC5.out
  clear HC5
  by_cases c17 : t694 = true
  ·subst c17
   have H1 : (impl_ProofDiffer.j0 k (!t702) t688 t691 t696 t699) = some (r1, r2) := by rw [if_pos rfl] at H; exact H
   clear H
   have H := H1
   clear H1
   have H' := Aside0.mk H
   clear H
   go_wp2
   go_meet
   case rel => exact ⟨_, (!t702), (by first | rfl | (simp; done) | (simp [*]; done) | (simp [Int.tmod_eq_emod_of_nonneg]; done)), H', ⟨by first | omega | exact Nat.le_refl _⟩, ⟨by (with_reducible repeat (first | apply Kd.R_alloc | apply Kd.R_drewN | apply Kd.R_drew)); exact Kd.R_mono (Kd.R_far (p := ⟨gb703, 1, none⟩) (Kd.R_far (p := ⟨gb703, 0, none⟩) (Kd.R_types HO690.out BK703.out (by decide)) (fun _ hk => hk.2) (.slice Ao13 t696.length co13)) (fun _ hk => hk.2) (.slice Ao16 t699.length co16)) (fun _ hk => ⟨hk.1.1.1, ⟨hk.1.1.2, hk.1.2⟩⟩)⟩, ⟨by (with_reducible repeat (first | apply Kd.R_alloc | apply Kd.R_drewN | apply Kd.R_drew)); exact Kd.R_mono (Kd.R_far (p := ⟨gb703, 1, none⟩) (Kd.R_far (p := ⟨gb703, 0, none⟩) (Kd.R_types HO693.out BK703.out (by decide)) (fun _ hk => hk.2) (.slice Ao13 t696.length co13)) (fun _ hk => hk.2) (.slice Ao16 t699.length co16)) (fun _ hk => ⟨hk.1.1.1, ⟨hk.1.1.2, hk.1.2⟩⟩)⟩, ⟨by (with_reducible repeat (first | apply Kd.R_alloc | apply Kd.R_drewN | apply Kd.R_drew)); exact Kd.R_mono (Kd.R_far (p := ⟨gb703, 1, none⟩) (Kd.R_far (p := ⟨gb703, 0, none⟩) (Kd.R_types HO698.out BK703.out (by decide)) (fun _ hk => hk.2) (.slice Ao13 t696.length co13)) (fun _ hk => hk.2) (.slice Ao16 t699.length co16)) (fun _ hk => ⟨hk.1.1.2, ⟨hk.1.2, hk.1.1.1⟩⟩)⟩, ⟨by (with_reducible repeat (first | apply Kd.R_alloc | apply Kd.R_drewN | apply Kd.R_drew)); exact Kd.R_mono (Kd.R_far (p := ⟨gb703, 1, none⟩) (Kd.R_far (p := ⟨gb703, 0, none⟩) (Kd.R_types HO701.out BK703.out (by decide)) (fun _ hk => hk.2) (.slice Ao13 t696.length co13)) (fun _ hk => hk.2) (.slice Ao16 t699.length co16)) (fun _ hk => ⟨hk.1.1.2, ⟨hk.1.2, hk.1.1.1⟩⟩)⟩, ⟨by (with_reducible repeat (first | refine blk_drewN ?_ _ | refine blk_drew ?_ | refine blk_alloc ?_ _)); refine blk_far ?_ NB695_703.out _; (with_reducible repeat (first | refine blk_drewN ?_ _ | refine blk_drew ?_ | refine blk_alloc ?_ _)); refine blk_far ?_ NB695_703.out _; (with_reducible repeat (first | refine blk_drewN ?_ _ | refine blk_drew ?_ | refine blk_alloc ?_ _)); exact BK695.out⟩, ⟨by (with_reducible repeat (first | refine blk_drewN ?_ _ | refine blk_drew ?_ | refine blk_alloc ?_ _)); refine blk_put (cs := #[.slice Ao13 t696.length co13, .slice none 0 0]) ?_ 1 _ rfl; (with_reducible repeat (first | refine blk_drewN ?_ _ | refine blk_drew ?_ | refine blk_alloc ?_ _)); refine blk_put (cs := #[.slice none 0 0, .slice none 0 0]) ?_ 0 _ rfl; (with_reducible repeat (first | refine blk_drewN ?_ _ | refine blk_drew ?_ | refine blk_alloc ?_ _)); exact BK703.out⟩, ⟨by repeat (first | (with_reducible first | exact HB.out | apply below_alloc | apply pw_below_drewN | apply below_drew1 | refine below_set ?_ GE695.out | refine below_set ?_ GE703.out) | exact HB.out)⟩⟩
  ·replace c17 := Bool.eq_false_iff.mpr c17
   subst c17
   have H1 : (impl_ProofDiffer.j0 k true t688 t691 t696 t699) = some (r1, r2) := by rw [if_neg (show ¬ (false = true) by decide)] at H; exact H
   clear H
   have H := H1
   clear H1
   have H' := Aside0.mk H
   clear H
   go_wp2
   go_meet
   case rel => exact ⟨_, (true), (by first | rfl | (simp; done) | (simp [*]; done) | (simp [Int.tmod_eq_emod_of_nonneg]; done)), H', ⟨by first | omega | exact Nat.le_refl _⟩, ⟨by (with_reducible repeat (first | apply Kd.R_alloc | apply Kd.R_drewN | apply Kd.R_drew)); exact Kd.R_mono (Kd.R_far (p := ⟨gb703, 1, none⟩) (Kd.R_far (p := ⟨gb703, 0, none⟩) (Kd.R_types HO690.out BK703.out (by decide)) (fun _ hk => hk.2) (.slice Ao13 t696.length co13)) (fun _ hk => hk.2) (.slice Ao16 t699.length co16)) (fun _ hk => ⟨hk.1.1.1, ⟨hk.1.1.2, hk.1.2⟩⟩)⟩, ⟨by (with_reducible repeat (first | apply Kd.R_alloc | apply Kd.R_drewN | apply Kd.R_drew)); exact Kd.R_mono (Kd.R_far (p := ⟨gb703, 1, none⟩) (Kd.R_far (p := ⟨gb703, 0, none⟩) (Kd.R_types HO693.out BK703.out (by decide)) (fun _ hk => hk.2) (.slice Ao13 t696.length co13)) (fun _ hk => hk.2) (.slice Ao16 t699.length co16)) (fun _ hk => ⟨hk.1.1.1, ⟨hk.1.1.2, hk.1.2⟩⟩)⟩, ⟨by (with_reducible repeat (first | apply Kd.R_alloc | apply Kd.R_drewN | apply Kd.R_drew)); exact Kd.R_mono (Kd.R_far (p := ⟨gb703, 1, none⟩) (Kd.R_far (p := ⟨gb703, 0, none⟩) (Kd.R_types HO698.out BK703.out (by decide)) (fun _ hk => hk.2) (.slice Ao13 t696.length co13)) (fun _ hk => hk.2) (.slice Ao16 t699.length co16)) (fun _ hk => ⟨hk.1.1.2, ⟨hk.1.2, hk.1.1.1⟩⟩)⟩, ⟨by (with_reducible repeat (first | apply Kd.R_alloc | apply Kd.R_drewN | apply Kd.R_drew)); exact Kd.R_mono (Kd.R_far (p := ⟨gb703, 1, none⟩) (Kd.R_far (p := ⟨gb703, 0, none⟩) (Kd.R_types HO701.out BK703.out (by decide)) (fun _ hk => hk.2) (.slice Ao13 t696.length co13)) (fun _ hk => hk.2) (.slice Ao16 t699.length co16)) (fun _ hk => ⟨hk.1.1.2, ⟨hk.1.2, hk.1.1.1⟩⟩)⟩, ⟨by (with_reducible repeat (first | refine blk_drewN ?_ _ | refine blk_drew ?_ | refine blk_alloc ?_ _)); refine blk_far ?_ NB695_703.out _; (with_reducible repeat (first | refine blk_drewN ?_ _ | refine blk_drew ?_ | refine blk_alloc ?_ _)); refine blk_far ?_ NB695_703.out _; (with_reducible repeat (first | refine blk_drewN ?_ _ | refine blk_drew ?_ | refine blk_alloc ?_ _)); exact BK695.out⟩, ⟨by (with_reducible repeat (first | refine blk_drewN ?_ _ | refine blk_drew ?_ | refine blk_alloc ?_ _)); refine blk_put (cs := #[.slice Ao13 t696.length co13, .slice none 0 0]) ?_ 1 _ rfl; (with_reducible repeat (first | refine blk_drewN ?_ _ | refine blk_drew ?_ | refine blk_alloc ?_ _)); refine blk_put (cs := #[.slice none 0 0, .slice none 0 0]) ?_ 0 _ rfl; (with_reducible repeat (first | refine blk_drewN ?_ _ | refine blk_drew ?_ | refine blk_alloc ?_ _)); exact BK703.out⟩, ⟨by repeat (first | (with_reducible first | exact HB.out | apply below_alloc | apply pw_below_drewN | apply below_drew1 | refine below_set ?_ GE695.out | refine below_set ?_ GE703.out) | exact HB.out)⟩⟩
 case rest =>
  clear HC5
  try clear c1
  try clear c2
  try clear p2
  try clear c6
  try clear c14
  try clear c17
  try clear hcz15_0
  try clear hcz15_1
  try clear hcz9_0
  try clear hcz9_1
  try clear hfz15_0
  try clear hfz15_1
  try clear hfz9_0
  try clear hfz9_1
  obtain ⟨kq, x28_4, rfl, HA, HJ4, HO_696000, HO_696001, HO_704000, HO_704001, BK695, BK703, HB⟩ := hcut
  cases kq with
  | zero => exact absurd HA.out (by simp [impl_ProofDiffer.j0])
  | succ kj4 =>
   have H := HA.out
   clear HA
   simp only [impl_ProofDiffer.j0] at H
   by_cases c18 : x28_4 = true
   ·subst c18
    have H1 : (some ((⟨#[]⟩ : ByteArray), false)) = some (r1, r2) := by rw [if_pos rfl] at H; exact H
    clear H
    have H := H1
    clear H1
    simp only [Option.some.injEq, Prod.mk.injEq] at H
    obtain ⟨rfl, rfl⟩ := H
    go_wp2
    go_ret2
    exact ⟨by first | rfl | (simp [errW_none, errW_some] <;> rfl) | (simp [errW_none, errW_some]; exact ⟨rfl, rfl⟩) | (simp [errW_none, errW_some]; exact ⟨rfl, rfl, rfl⟩) | (simp [*, errW_none, errW_some] <;> rfl), by repeat (first | (with_reducible first | exact HB.out | apply below_alloc | apply pw_below_drewN | apply below_drew1 | refine below_set ?_ GE695.out | refine below_set ?_ GE703.out) | exact HB.out)⟩
   ·replace c18 := Bool.eq_false_iff.mpr c18
    subst c18
    have H1 : ((impl_both.f kj4 t688 t691 t696 t699).bind fun bt704 => (impl_ProofDiffer.l0 kj4 (wrap64 (bt704.1 + bt704.2)) 0 t688 t691 t696 t699)) = some (r1, r2) := by rw [if_neg (show ¬ (false = true) by decide)] at H; exact H
    clear H
    have H := H1
    clear H1
    replace H := Option.bind_eq_some_iff.mp H
    obtain ⟨⟨t704, t705⟩, A190, H⟩ := H
    replace H : (impl_ProofDiffer.l0 kj4 (wrap64 (t704 + t705)) 0 t688 t691 t696 t699) = some (r1, r2) := H
    have A19 := Aside0.mk A190
    clear A190
    have H' := Aside0.mk H
    clear H
    have hnb20 := NB695_703.out
    have hnc20 := NB703_695.out
    have hcz21_0 : wc.cell? ⟨gb695, 0, none⟩ = some (.slice Ao8 t688.length co8) := (blk_cell BK695.out 0).trans rfl
    have hcz21_1 : wc.cell? ⟨gb695, 1, none⟩ = some (.slice Ao10 t691.length co10) := (blk_cell BK695.out 1).trans rfl
    have hfz21_0 := blk_frozen BK695.out 0
    have hfz21_1 := blk_frozen BK695.out 1
    have hcz22_0 : wc.cell? ⟨gb703, 0, none⟩ = some (.slice Ao13 t696.length co13) := (blk_cell BK703.out 0).trans rfl
    have hcz22_1 : wc.cell? ⟨gb703, 1, none⟩ = some (.slice Ao16 t699.length co16) := (blk_cell BK703.out 1).trans rfl
    have hfz22_0 := blk_frozen BK703.out 0
    have hfz22_1 := blk_frozen BK703.out 1
    go_wp2_with (first | ((with_reducible refine gate_callee (f := 63) rfl ?_); refine goesL_ (some 32) rfl rfl Tryd.func63 (by kernel_rfl) rfl #[.agg #[.slice Ao8 t688.length co8, .slice Ao10 t691.length co10], .agg #[.slice Ao13 t696.length co13, .slice Ao16 t699.length co16]] rfl (by (try simp only [List.map_toArray, List.map_cons, List.map_nil]); first | done | rfl | (simp only [List.length_drop, List.length_take]; rfl)) ?_; (with_reducible refine (impl_both.calls kj4 _ _ t688 _ _ t691 _ _ t696 _ _ t699 t704 t705 _ ?side1 ?side2 ?side3 ?side4 ?side5 ?side6 ?side7 ?side8 A19.out).mono ?_); (case side1 => repeat (first | exact (Kd.R_reads' HO_696000.out).2.2 | (with_reducible refine Kd.C_alloc ?_ _) | (with_reducible refine Kd.C_drewN ?_ _) | (with_reducible refine Kd.C_drew ?_))); (case side2 => exact (Kd.R_reads' HO_696000.out).2.1); (case side3 => repeat (first | exact (Kd.R_reads' HO_696001.out).2.2 | (with_reducible refine Kd.C_alloc ?_ _) | (with_reducible refine Kd.C_drewN ?_ _) | (with_reducible refine Kd.C_drew ?_))); (case side4 => exact (Kd.R_reads' HO_696001.out).2.1); (case side5 => repeat (first | exact (Kd.R_reads' HO_704000.out).2.2 | (with_reducible refine Kd.C_alloc ?_ _) | (with_reducible refine Kd.C_drewN ?_ _) | (with_reducible refine Kd.C_drew ?_))); (case side6 => exact (Kd.R_reads' HO_704000.out).2.1); (case side7 => repeat (first | exact (Kd.R_reads' HO_704001.out).2.2 | (with_reducible refine Kd.C_alloc ?_ _) | (with_reducible refine Kd.C_drewN ?_ _) | (with_reducible refine Kd.C_drew ?_))); (case side8 => exact (Kd.R_reads' HO_704001.out).2.1); rintro e w23 ⟨rfl, hb⟩; refine ⟨_, rfl, ?_⟩; have n0_ := Aside0.mk (Kd.R_below (by (with_reducible repeat (first | apply Kd.R_alloc | apply Kd.R_drewN | apply Kd.R_drew)); exact HO_696000.out) hb); have n1_ := Aside0.mk (Kd.R_below (by (with_reducible repeat (first | apply Kd.R_alloc | apply Kd.R_drewN | apply Kd.R_drew)); exact HO_696001.out) hb); have n2_ := Aside0.mk (Kd.R_below (by (with_reducible repeat (first | apply Kd.R_alloc | apply Kd.R_drewN | apply Kd.R_drew)); exact HO_704000.out) hb); have n3_ := Aside0.mk (Kd.R_below (by (with_reducible repeat (first | apply Kd.R_alloc | apply Kd.R_drewN | apply Kd.R_drew)); exact HO_704001.out) hb); have n4_ := Aside0.mk (blk_below (g := gb695) (o := .cells #[.slice Ao8 t688.length co8, .slice Ao10 t691.length co10] 49 (0, 0)) (by (with_reducible repeat (first | refine blk_drewN ?_ _ | refine blk_drew ?_ | refine blk_alloc ?_ _)); exact BK695.out) hb); have n5_ := Aside0.mk (blk_below (g := gb703) (o := .cells #[.slice Ao13 t696.length co13, .slice Ao16 t699.length co16] 49 (0, 0)) (by (with_reducible repeat (first | refine blk_drewN ?_ _ | refine blk_drew ?_ | refine blk_alloc ?_ _)); exact BK703.out) hb); have n6_ := Aside0.mk (below_step (by repeat (first | (with_reducible first | exact HB.out | apply below_alloc | apply pw_below_drewN | apply below_drew1 | refine below_set ?_ GE695.out | refine below_set ?_ GE703.out) | exact HB.out)) hb); clear HO_696000; clear HO_696001; clear HO_704000; clear HO_704001; clear BK695; clear BK703; clear HB; have HO_696000 := n0_; have HO_696001 := n1_; have HO_704000 := n2_; have HO_704001 := n3_; have BK695 := n4_; have BK703 := n5_; have HB := n6_; clear n0_ n1_ n2_ n3_ n4_ n5_ n6_; (try clear hb); (try clear hb2); (try clear hk); (try clear hi)))
    go_loopg [38] kj4 (fun kq v38 w' => ∃ (x38_2 : Int), v38 = .int .i64 x38_2 ∧ Aside0 (impl_ProofDiffer.l0 kq (wrap64 (t704 + t705)) x38_2 t688 t691 t696 t699 = some (r1, r2)) ∧ Aside0 (kq ≤ kj4) ∧ Aside0 (Kd.R Kd.bool 4 w' w.heap.size (fun k_ => some k_ ≠ ((.slice Ao10 t691.length co10) : Value).ownBlock ∧ some k_ ≠ ((.slice Ao13 t696.length co13) : Value).ownBlock ∧ some k_ ≠ ((.slice Ao16 t699.length co16) : Value).ownBlock) (.slice Ao8 t688.length co8) t688) ∧ Aside0 (Kd.R Kd.bool 4 w' w.heap.size (fun k_ => some k_ ≠ ((.slice Ao8 t688.length co8) : Value).ownBlock ∧ some k_ ≠ ((.slice Ao13 t696.length co13) : Value).ownBlock ∧ some k_ ≠ ((.slice Ao16 t699.length co16) : Value).ownBlock) (.slice Ao10 t691.length co10) t691) ∧ Aside0 (Kd.R Kd.bool 4 w' w.heap.size (fun k_ => some k_ ≠ ((.slice Ao8 t688.length co8) : Value).ownBlock ∧ some k_ ≠ ((.slice Ao10 t691.length co10) : Value).ownBlock ∧ some k_ ≠ ((.slice Ao16 t699.length co16) : Value).ownBlock) (.slice Ao13 t696.length co13) t696) ∧ Aside0 (Kd.R Kd.bool 4 w' w.heap.size (fun k_ => some k_ ≠ ((.slice Ao8 t688.length co8) : Value).ownBlock ∧ some k_ ≠ ((.slice Ao10 t691.length co10) : Value).ownBlock ∧ some k_ ≠ ((.slice Ao13 t696.length co13) : Value).ownBlock) (.slice Ao16 t699.length co16) t699) ∧ Aside0 (w'.heap[gb695]? = some (.cells #[(.slice Ao8 t688.length co8), (.slice Ao10 t691.length co10)] 49 (0, 0))) ∧ Aside0 (w'.heap[gb703]? = some (.cells #[(.slice Ao13 t696.length co13), (.slice Ao16 t699.length co16)] 49 (0, 0))) ∧ Aside0 (Below w.heap.size w w'))
    case atStart => exact ⟨(0), (by first | rfl | (simp; done) | (simp [*]; done) | (simp [Int.tmod_eq_emod_of_nonneg]; done)), H', ⟨Nat.le_refl _⟩, ⟨by (with_reducible repeat (first | apply Kd.R_alloc | apply Kd.R_drewN | apply Kd.R_drew)); exact HO_696000.out⟩, ⟨by (with_reducible repeat (first | apply Kd.R_alloc | apply Kd.R_drewN | apply Kd.R_drew)); exact HO_696001.out⟩, ⟨by (with_reducible repeat (first | apply Kd.R_alloc | apply Kd.R_drewN | apply Kd.R_drew)); exact HO_704000.out⟩, ⟨by (with_reducible repeat (first | apply Kd.R_alloc | apply Kd.R_drewN | apply Kd.R_drew)); exact HO_704001.out⟩, ⟨by (with_reducible repeat (first | refine blk_drewN ?_ _ | refine blk_drew ?_ | refine blk_alloc ?_ _)); exact BK695.out⟩, ⟨by (with_reducible repeat (first | refine blk_drewN ?_ _ | refine blk_drew ?_ | refine blk_alloc ?_ _)); exact BK703.out⟩, ⟨by repeat (first | (with_reducible first | exact HB.out | apply below_alloc | apply pw_below_drewN | apply below_drew1 | refine below_set ?_ GE695.out | refine below_set ?_ GE703.out) | exact HB.out)⟩⟩
    case round =>
     clear H'
     try clear c1
     try clear c2
     try clear p2
     try clear c6
     try clear p6
     try clear c14
     try clear c17
     try clear c18
     try clear c20
     try clear hcz15_0
     try clear hcz15_1
     try clear hcz21_0
     try clear hcz21_1
     try clear hcz22_0
     try clear hcz22_1
     try clear hcz9_0
     try clear hcz9_1
     try clear hfz15_0
     try clear hfz15_1
     try clear hfz21_0
     try clear hfz21_1
     try clear hfz22_0
     try clear hfz22_1
     try clear hfz9_0
     try clear hfz9_1
     try clear p2
     obtain ⟨x38_2, rfl, HA, HK2, HO_696000, HO_696001, HO_704000, HO_704001, BK695, BK703, HB⟩ := hrel
     cases gk with
     | zero => exact absurd HA.out (by simp [impl_ProofDiffer.l0])
     | succ k2 =>
      have H := HA.out
      clear HA
      simp only [impl_ProofDiffer.l0] at H
      by_cases c24 : x38_2 < (wrap64 (t704 + t705))
      ·rw [if_pos c24] at H
       have c24b0 : decide (x38_2 < (wrap64 (t704 + t705))) = true := decide_eq_true c24
       clear c24
       have HC25 := Aside0.mk H
       clear H
       go_upto_region 9 with (fail)
       go_cut [41] (fun v41 wc => ∃ (kq : Nat) (x41_24 : Bool), v41 = .bool x41_24 ∧ Aside0 (impl_ProofDiffer.j2 kq x38_2 (wrap64 (t704 + t705)) x38_2 x41_24 t688 t691 t696 t699 = some (r1, r2)) ∧ Aside0 (kq ≤ k2) ∧ Aside0 (Kd.R Kd.bool 4 wc w.heap.size (fun k_ => some k_ ≠ ((.slice Ao10 t691.length co10) : Value).ownBlock ∧ some k_ ≠ ((.slice Ao13 t696.length co13) : Value).ownBlock ∧ some k_ ≠ ((.slice Ao16 t699.length co16) : Value).ownBlock) (.slice Ao8 t688.length co8) t688) ∧ Aside0 (Kd.R Kd.bool 4 wc w.heap.size (fun k_ => some k_ ≠ ((.slice Ao8 t688.length co8) : Value).ownBlock ∧ some k_ ≠ ((.slice Ao13 t696.length co13) : Value).ownBlock ∧ some k_ ≠ ((.slice Ao16 t699.length co16) : Value).ownBlock) (.slice Ao10 t691.length co10) t691) ∧ Aside0 (Kd.R Kd.bool 4 wc w.heap.size (fun k_ => some k_ ≠ ((.slice Ao8 t688.length co8) : Value).ownBlock ∧ some k_ ≠ ((.slice Ao10 t691.length co10) : Value).ownBlock ∧ some k_ ≠ ((.slice Ao16 t699.length co16) : Value).ownBlock) (.slice Ao13 t696.length co13) t696) ∧ Aside0 (Kd.R Kd.bool 4 wc w.heap.size (fun k_ => some k_ ≠ ((.slice Ao8 t688.length co8) : Value).ownBlock ∧ some k_ ≠ ((.slice Ao10 t691.length co10) : Value).ownBlock ∧ some k_ ≠ ((.slice Ao13 t696.length co13) : Value).ownBlock) (.slice Ao16 t699.length co16) t699) ∧ Aside0 (wc.heap[gb695]? = some (.cells #[(.slice Ao8 t688.length co8), (.slice Ao10 t691.length co10)] 49 (0, 0))) ∧ Aside0 (wc.heap[gb703]? = some (.cells #[(.slice Ao13 t696.length co13), (.slice Ao16 t699.length co16)] 49 (0, 0))) ∧ Aside0 (Below w.heap.size w wc))
       case first =>
        have H := HC25.out
        clear HC25
        replace H := Option.bind_eq_some_iff.mp H
        obtain ⟨t706, A260, H⟩ := H
        replace H : (if t706 = true then ((impl_set_has.f t696 t699 x38_2).bind fun t707 => (impl_ProofDiffer.j2 k2 x38_2 (wrap64 (t704 + t705)) x38_2 (!t707) t688 t691 t696 t699)) else (impl_ProofDiffer.j2 k2 x38_2 (wrap64 (t704 + t705)) x38_2 false t688 t691 t696 t699)) = some (r1, r2) := H
        have A26 := Aside0.mk A260
        clear A260
        by_cases c27 : t706 = true
        ·subst c27
         have H1 : ((impl_set_has.f t696 t699 x38_2).bind fun t707 => (impl_ProofDiffer.j2 k2 x38_2 (wrap64 (t704 + t705)) x38_2 (!t707) t688 t691 t696 t699)) = some (r1, r2) := by rw [if_pos rfl] at H; exact H
         clear H
         have H := H1
         clear H1
         replace H := Option.bind_eq_some_iff.mp H
         obtain ⟨t707, A280, H⟩ := H
         replace H : (impl_ProofDiffer.j2 k2 x38_2 (wrap64 (t704 + t705)) x38_2 (!t707) t688 t691 t696 t699) = some (r1, r2) := H
         have A28 := Aside0.mk A280
         clear A280
         have H' := Aside0.mk H
         clear H
         have hnb29 := NB695_703.out
         have hnc29 := NB703_695.out
         have hcz30_0 : wr.cell? ⟨gb695, 0, none⟩ = some (.slice Ao8 t688.length co8) := (blk_cell BK695.out 0).trans rfl
         have hcz30_1 : wr.cell? ⟨gb695, 1, none⟩ = some (.slice Ao10 t691.length co10) := (blk_cell BK695.out 1).trans rfl
         have hfz30_0 := blk_frozen BK695.out 0
         have hfz30_1 := blk_frozen BK695.out 1
         go_wp2_with (first | ((with_reducible refine gate_callee (f := 58) rfl ?_); refine goesL_ (some 44) rfl rfl Tryd.func58 (by kernel_rfl) rfl #[.agg #[.slice Ao8 t688.length co8, .slice Ao10 t691.length co10], .int .i64 x38_2] rfl (by (try simp only [List.map_toArray, List.map_cons, List.map_nil]); first | done | rfl | (simp only [List.length_drop, List.length_take]; rfl)) ?_; (with_reducible refine (impl_set_has.calls _ _ t688 _ _ t691 x38_2 true _ ?side1 ?side2 ?side3 ?side4 A26.out).mono ?_); (case side1 => repeat (first | exact (Kd.R_reads' HO_696000.out).2.2 | (with_reducible refine Kd.C_alloc ?_ _) | (with_reducible refine Kd.C_drewN ?_ _) | (with_reducible refine Kd.C_drew ?_))); (case side2 => exact (Kd.R_reads' HO_696000.out).2.1); (case side3 => repeat (first | exact (Kd.R_reads' HO_696001.out).2.2 | (with_reducible refine Kd.C_alloc ?_ _) | (with_reducible refine Kd.C_drewN ?_ _) | (with_reducible refine Kd.C_drew ?_))); (case side4 => exact (Kd.R_reads' HO_696001.out).2.1); rintro e w31 ⟨rfl, hb⟩; refine ⟨_, rfl, ?_⟩; have n0_ := Aside0.mk (Kd.R_below (by (with_reducible repeat (first | apply Kd.R_alloc | apply Kd.R_drewN | apply Kd.R_drew)); exact HO_696000.out) hb); have n1_ := Aside0.mk (Kd.R_below (by (with_reducible repeat (first | apply Kd.R_alloc | apply Kd.R_drewN | apply Kd.R_drew)); exact HO_696001.out) hb); have n2_ := Aside0.mk (Kd.R_below (by (with_reducible repeat (first | apply Kd.R_alloc | apply Kd.R_drewN | apply Kd.R_drew)); exact HO_704000.out) hb); have n3_ := Aside0.mk (Kd.R_below (by (with_reducible repeat (first | apply Kd.R_alloc | apply Kd.R_drewN | apply Kd.R_drew)); exact HO_704001.out) hb); have n4_ := Aside0.mk (blk_below (g := gb695) (o := .cells #[.slice Ao8 t688.length co8, .slice Ao10 t691.length co10] 49 (0, 0)) (by (with_reducible repeat (first | refine blk_drewN ?_ _ | refine blk_drew ?_ | refine blk_alloc ?_ _)); exact BK695.out) hb); have n5_ := Aside0.mk (blk_below (g := gb703) (o := .cells #[.slice Ao13 t696.length co13, .slice Ao16 t699.length co16] 49 (0, 0)) (by (with_reducible repeat (first | refine blk_drewN ?_ _ | refine blk_drew ?_ | refine blk_alloc ?_ _)); exact BK703.out) hb); have n6_ := Aside0.mk (below_step (by repeat (first | (with_reducible first | exact HB.out | apply below_alloc | apply pw_below_drewN | apply below_drew1 | refine below_set ?_ GE695.out | refine below_set ?_ GE703.out) | exact HB.out)) hb); clear HO_696000; clear HO_696001; clear HO_704000; clear HO_704001; clear BK695; clear BK703; clear HB; have HO_696000 := n0_; have HO_696001 := n1_; have HO_704000 := n2_; have HO_704001 := n3_; have BK695 := n4_; have BK703 := n5_; have HB := n6_; clear n0_ n1_ n2_ n3_ n4_ n5_ n6_; (try clear hb); (try clear hb2); (try clear hk); (try clear hi); have hcz32_0 : w31.cell? ⟨gb703, 0, none⟩ = some (.slice Ao13 t696.length co13) := (blk_cell BK703.out 0).trans rfl; have hcz32_1 : w31.cell? ⟨gb703, 1, none⟩ = some (.slice Ao16 t699.length co16) := (blk_cell BK703.out 1).trans rfl; have hfz32_0 := blk_frozen BK703.out 0; have hfz32_1 := blk_frozen BK703.out 1) | (go_at_call 58; (with_reducible refine (impl_set_has.calls _ _ t696 _ _ t699 x38_2 t707 _ ?side1 ?side2 ?side3 ?side4 A28.out).mono ?_); (case side1 => repeat (first | exact (Kd.R_reads' HO_704000.out).2.2 | (with_reducible refine Kd.C_alloc ?_ _) | (with_reducible refine Kd.C_drewN ?_ _) | (with_reducible refine Kd.C_drew ?_))); (case side2 => exact (Kd.R_reads' HO_704000.out).2.1); (case side3 => repeat (first | exact (Kd.R_reads' HO_704001.out).2.2 | (with_reducible refine Kd.C_alloc ?_ _) | (with_reducible refine Kd.C_drewN ?_ _) | (with_reducible refine Kd.C_drew ?_))); (case side4 => exact (Kd.R_reads' HO_704001.out).2.1); rintro e w33 ⟨rfl, hb⟩; have n0_ := Aside0.mk (Kd.R_below (by (with_reducible repeat (first | apply Kd.R_alloc | apply Kd.R_drewN | apply Kd.R_drew)); exact HO_696000.out) hb); have n1_ := Aside0.mk (Kd.R_below (by (with_reducible repeat (first | apply Kd.R_alloc | apply Kd.R_drewN | apply Kd.R_drew)); exact HO_696001.out) hb); have n2_ := Aside0.mk (Kd.R_below (by (with_reducible repeat (first | apply Kd.R_alloc | apply Kd.R_drewN | apply Kd.R_drew)); exact HO_704000.out) hb); have n3_ := Aside0.mk (Kd.R_below (by (with_reducible repeat (first | apply Kd.R_alloc | apply Kd.R_drewN | apply Kd.R_drew)); exact HO_704001.out) hb); have n4_ := Aside0.mk (blk_below (g := gb695) (o := .cells #[.slice Ao8 t688.length co8, .slice Ao10 t691.length co10] 49 (0, 0)) (by (with_reducible repeat (first | refine blk_drewN ?_ _ | refine blk_drew ?_ | refine blk_alloc ?_ _)); exact BK695.out) hb); have n5_ := Aside0.mk (blk_below (g := gb703) (o := .cells #[.slice Ao13 t696.length co13, .slice Ao16 t699.length co16] 49 (0, 0)) (by (with_reducible repeat (first | refine blk_drewN ?_ _ | refine blk_drew ?_ | refine blk_alloc ?_ _)); exact BK703.out) hb); have n6_ := Aside0.mk (below_step (by repeat (first | (with_reducible first | exact HB.out | apply below_alloc | apply pw_below_drewN | apply below_drew1 | refine below_set ?_ GE695.out | refine below_set ?_ GE703.out) | exact HB.out)) hb); clear HO_696000; clear HO_696001; clear HO_704000; clear HO_704001; clear BK695; clear BK703; clear HB; have HO_696000 := n0_; have HO_696001 := n1_; have HO_704000 := n2_; have HO_704001 := n3_; have BK695 := n4_; have BK703 := n5_; have HB := n6_; clear n0_ n1_ n2_ n3_ n4_ n5_ n6_; (try clear hb); (try clear hb2); (try clear hk); (try clear hi)))
         go_meet
         case rel => exact ⟨_, (!t707), (by first | rfl | (simp; done) | (simp [*]; done) | (simp [Int.tmod_eq_emod_of_nonneg]; done)), H', ⟨by have := HJ4.out; have := HK2.out; first | omega | exact Nat.le_refl _⟩, ⟨by (with_reducible repeat (first | apply Kd.R_alloc | apply Kd.R_drewN | apply Kd.R_drew)); exact HO_696000.out⟩, ⟨by (with_reducible repeat (first | apply Kd.R_alloc | apply Kd.R_drewN | apply Kd.R_drew)); exact HO_696001.out⟩, ⟨by (with_reducible repeat (first | apply Kd.R_alloc | apply Kd.R_drewN | apply Kd.R_drew)); exact HO_704000.out⟩, ⟨by (with_reducible repeat (first | apply Kd.R_alloc | apply Kd.R_drewN | apply Kd.R_drew)); exact HO_704001.out⟩, ⟨by (with_reducible repeat (first | refine blk_drewN ?_ _ | refine blk_drew ?_ | refine blk_alloc ?_ _)); exact BK695.out⟩, ⟨by (with_reducible repeat (first | refine blk_drewN ?_ _ | refine blk_drew ?_ | refine blk_alloc ?_ _)); exact BK703.out⟩, ⟨by repeat (first | (with_reducible first | exact HB.out | apply below_alloc | apply pw_below_drewN | apply below_drew1 | refine below_set ?_ GE695.out | refine below_set ?_ GE703.out) | exact HB.out)⟩⟩
        ·replace c27 := Bool.eq_false_iff.mpr c27
         subst c27
         have H1 : (impl_ProofDiffer.j2 k2 x38_2 (wrap64 (t704 + t705)) x38_2 false t688 t691 t696 t699) = some (r1, r2) := by rw [if_neg (show ¬ (false = true) by decide)] at H; exact H
         clear H
         have H := H1
         clear H1
         have H' := Aside0.mk H
         clear H
         have hnb34 := NB695_703.out
         have hnc34 := NB703_695.out
         have hcz35_0 : wr.cell? ⟨gb695, 0, none⟩ = some (.slice Ao8 t688.length co8) := (blk_cell BK695.out 0).trans rfl
         have hcz35_1 : wr.cell? ⟨gb695, 1, none⟩ = some (.slice Ao10 t691.length co10) := (blk_cell BK695.out 1).trans rfl
         have hfz35_0 := blk_frozen BK695.out 0
         have hfz35_1 := blk_frozen BK695.out 1
         go_wp2_with (first | ((with_reducible refine gate_callee (f := 58) rfl ?_); refine goesL_ (some 44) rfl rfl Tryd.func58 (by kernel_rfl) rfl #[.agg #[.slice Ao8 t688.length co8, .slice Ao10 t691.length co10], .int .i64 x38_2] rfl (by (try simp only [List.map_toArray, List.map_cons, List.map_nil]); first | done | rfl | (simp only [List.length_drop, List.length_take]; rfl)) ?_; (with_reducible refine (impl_set_has.calls _ _ t688 _ _ t691 x38_2 false _ ?side1 ?side2 ?side3 ?side4 A26.out).mono ?_); (case side1 => repeat (first | exact (Kd.R_reads' HO_696000.out).2.2 | (with_reducible refine Kd.C_alloc ?_ _) | (with_reducible refine Kd.C_drewN ?_ _) | (with_reducible refine Kd.C_drew ?_))); (case side2 => exact (Kd.R_reads' HO_696000.out).2.1); (case side3 => repeat (first | exact (Kd.R_reads' HO_696001.out).2.2 | (with_reducible refine Kd.C_alloc ?_ _) | (with_reducible refine Kd.C_drewN ?_ _) | (with_reducible refine Kd.C_drew ?_))); (case side4 => exact (Kd.R_reads' HO_696001.out).2.1); rintro e w36 ⟨rfl, hb⟩; refine ⟨_, rfl, ?_⟩; have n0_ := Aside0.mk (Kd.R_below (by (with_reducible repeat (first | apply Kd.R_alloc | apply Kd.R_drewN | apply Kd.R_drew)); exact HO_696000.out) hb); have n1_ := Aside0.mk (Kd.R_below (by (with_reducible repeat (first | apply Kd.R_alloc | apply Kd.R_drewN | apply Kd.R_drew)); exact HO_696001.out) hb); have n2_ := Aside0.mk (Kd.R_below (by (with_reducible repeat (first | apply Kd.R_alloc | apply Kd.R_drewN | apply Kd.R_drew)); exact HO_704000.out) hb); have n3_ := Aside0.mk (Kd.R_below (by (with_reducible repeat (first | apply Kd.R_alloc | apply Kd.R_drewN | apply Kd.R_drew)); exact HO_704001.out) hb); have n4_ := Aside0.mk (blk_below (g := gb695) (o := .cells #[.slice Ao8 t688.length co8, .slice Ao10 t691.length co10] 49 (0, 0)) (by (with_reducible repeat (first | refine blk_drewN ?_ _ | refine blk_drew ?_ | refine blk_alloc ?_ _)); exact BK695.out) hb); have n5_ := Aside0.mk (blk_below (g := gb703) (o := .cells #[.slice Ao13 t696.length co13, .slice Ao16 t699.length co16] 49 (0, 0)) (by (with_reducible repeat (first | refine blk_drewN ?_ _ | refine blk_drew ?_ | refine blk_alloc ?_ _)); exact BK703.out) hb); have n6_ := Aside0.mk (below_step (by repeat (first | (with_reducible first | exact HB.out | apply below_alloc | apply pw_below_drewN | apply below_drew1 | refine below_set ?_ GE695.out | refine below_set ?_ GE703.out) | exact HB.out)) hb); clear HO_696000; clear HO_696001; clear HO_704000; clear HO_704001; clear BK695; clear BK703; clear HB; have HO_696000 := n0_; have HO_696001 := n1_; have HO_704000 := n2_; have HO_704001 := n3_; have BK695 := n4_; have BK703 := n5_; have HB := n6_; clear n0_ n1_ n2_ n3_ n4_ n5_ n6_; (try clear hb); (try clear hb2); (try clear hk); (try clear hi)))
         go_meet
         case rel => exact ⟨_, (false), (by first | rfl | (simp; done) | (simp [*]; done) | (simp [Int.tmod_eq_emod_of_nonneg]; done)), H', ⟨by have := HJ4.out; have := HK2.out; first | omega | exact Nat.le_refl _⟩, ⟨by (with_reducible repeat (first | apply Kd.R_alloc | apply Kd.R_drewN | apply Kd.R_drew)); exact HO_696000.out⟩, ⟨by (with_reducible repeat (first | apply Kd.R_alloc | apply Kd.R_drewN | apply Kd.R_drew)); exact HO_696001.out⟩, ⟨by (with_reducible repeat (first | apply Kd.R_alloc | apply Kd.R_drewN | apply Kd.R_drew)); exact HO_704000.out⟩, ⟨by (with_reducible repeat (first | apply Kd.R_alloc | apply Kd.R_drewN | apply Kd.R_drew)); exact HO_704001.out⟩, ⟨by (with_reducible repeat (first | refine blk_drewN ?_ _ | refine blk_drew ?_ | refine blk_alloc ?_ _)); exact BK695.out⟩, ⟨by (with_reducible repeat (first | refine blk_drewN ?_ _ | refine blk_drew ?_ | refine blk_alloc ?_ _)); exact BK703.out⟩, ⟨by repeat (first | (with_reducible first | exact HB.out | apply below_alloc | apply pw_below_drewN | apply below_drew1 | refine below_set ?_ GE695.out | refine below_set ?_ GE703.out) | exact HB.out)⟩⟩
       case rest =>
        clear HC25
        try clear c1
        try clear c2
        try clear p2
        try clear c3
        try clear c5
        try clear c6
        try clear p6
        try clear c14
        try clear c17
        try clear c18
        try clear c20
        try clear c24
        try clear c24b0
        try clear c27
        try clear c28
        try clear c29
        try clear c34
        try clear hcz15_0
        try clear hcz15_1
        try clear hcz21_0
        try clear hcz21_1
        try clear hcz22_0
        try clear hcz22_1
        try clear hcz30_0
        try clear hcz30_1
        try clear hcz32_0
        try clear hcz32_1
        try clear hcz35_0
        try clear hcz35_1
        try clear hcz9_0
        try clear hcz9_1
        try clear hfz15_0
        try clear hfz15_1
        try clear hfz21_0
        try clear hfz21_1
        try clear hfz22_0
        try clear hfz22_1
        try clear hfz30_0
        try clear hfz30_1
        try clear hfz32_0
        try clear hfz32_1
        try clear hfz35_0
        try clear hfz35_1
        try clear hfz9_0
        try clear hfz9_1
        try clear p2
        try clear p6
        obtain ⟨kq, x41_24, rfl, HA, HJ24, HO_696000, HO_696001, HO_704000, HO_704001, BK695, BK703, HB⟩ := hcut
        cases kq with
        | zero => exact absurd HA.out (by simp [impl_ProofDiffer.j2])
        | succ kj24 =>
         have H := HA.out
         clear HA
         simp only [impl_ProofDiffer.j2] at H
         by_cases c37 : x41_24 = true
         ·subst c37
          have H1 : ((impl_proofText.f kj24 (⟨#[102, 105, 114, 115, 116]⟩ : ByteArray) (([x38_2] : List Int))).bind fun t711 => (some (t711, true))) = some (r1, r2) := by rw [if_pos rfl] at H; exact H
          clear H
          have H := H1
          clear H1
          obtain ⟨y708, hy708⟩ : ∃ y_ : List Int, y_ = (([x38_2] : List Int)) := ⟨_, rfl⟩
          replace H : ((impl_proofText.f kj24 (⟨#[102, 105, 114, 115, 116]⟩ : ByteArray) y708).bind fun t711 => (some (t711, true))) = some (r1, r2) := by first | (rw [hy708]; with_reducible exact H) | (have H2_ := (Option.bind_some _ _).symm.trans H; rw [hy708]; with_reducible exact H2_) | (have H2_ := (Option.bind_some _ _).symm.trans H; with_reducible exact H2_) | with_reducible exact H | (rw [hy708]; exact H) | exact H
          have Ny708 := Aside0.mk hy708
          clear hy708
          replace H := Option.bind_eq_some_iff.mp H
          obtain ⟨t711, A380, H⟩ := H
          replace H : (some (t711, true)) = some (r1, r2) := H
          have A38 := Aside0.mk A380
          clear A380
          simp only [Option.some.injEq, Prod.mk.injEq] at H
          obtain ⟨rfl, rfl⟩ := H
          go_wp2_with (first | ((with_reducible refine gate_dst (N := 52) rfl ?_); refine Kd.R_lit (Kd.int .i64) _ 3 ?hg (N := 52) ?hd (xs := ([x38_2] : List Int)) (inner := [.int .i64 x38_2]) (ok := fun _ => True) (okp := fun _ => True) ?hr ?hp (fun _ hk => hk) trivial (Below.refl _ _) (Nat.le_refl _) (by simp) ?_; (case hd => rfl); (case hg => rfl); (case hr => first | (go_simp; done) | (go_simp; rfl)); (case hp => exact (Reps.one (show Kd.M (Kd.int .i64) _ _ _ x38_2 [.int .i64 x38_2] from rfl) (Reps.none _ _))); intro v709 w39 ho40 hb hg_ hnew_; clear hg_ hnew_; (first | rw [← Ny708.out] at ho40 | (simp only [Int.reduceToNat] at ho40; rw [← Ny708.out] at ho40)); have n0_ := Aside0.mk (Kd.R_below (by (with_reducible repeat (first | apply Kd.R_alloc | apply Kd.R_drewN | apply Kd.R_drew)); exact HO_696000.out) hb); have n1_ := Aside0.mk (Kd.R_below (by (with_reducible repeat (first | apply Kd.R_alloc | apply Kd.R_drewN | apply Kd.R_drew)); exact HO_696001.out) hb); have n2_ := Aside0.mk (Kd.R_below (by (with_reducible repeat (first | apply Kd.R_alloc | apply Kd.R_drewN | apply Kd.R_drew)); exact HO_704000.out) hb); have n3_ := Aside0.mk (Kd.R_below (by (with_reducible repeat (first | apply Kd.R_alloc | apply Kd.R_drewN | apply Kd.R_drew)); exact HO_704001.out) hb); have n4_ := Aside0.mk (Kd.R_lower ho40 (below_size (by repeat (first | (with_reducible first | exact HB.out | apply below_alloc | apply pw_below_drewN | apply below_drew1 | refine below_set ?_ GE695.out | refine below_set ?_ GE703.out) | exact HB.out)))); have n5_ := Aside0.mk (blk_below (g := gb695) (o := .cells #[.slice Ao8 t688.length co8, .slice Ao10 t691.length co10] 49 (0, 0)) (by (with_reducible repeat (first | refine blk_drewN ?_ _ | refine blk_drew ?_ | refine blk_alloc ?_ _)); exact BK695.out) hb); have n6_ := Aside0.mk (blk_below (g := gb703) (o := .cells #[.slice Ao13 t696.length co13, .slice Ao16 t699.length co16] 49 (0, 0)) (by (with_reducible repeat (first | refine blk_drewN ?_ _ | refine blk_drew ?_ | refine blk_alloc ?_ _)); exact BK703.out) hb); have n7_ := Aside0.mk (below_step (by repeat (first | (with_reducible first | exact HB.out | apply below_alloc | apply pw_below_drewN | apply below_drew1 | refine below_set ?_ GE695.out | refine below_set ?_ GE703.out) | exact HB.out)) hb); clear HO_696000; clear HO_696001; clear HO_704000; clear HO_704001; clear BK695; clear BK703; clear HB; have HO_696000 := n0_; have HO_696001 := n1_; have HO_704000 := n2_; have HO_704001 := n3_; have HO710 := n4_; have BK695 := n5_; have BK703 := n6_; have HB := n7_; clear n0_ n1_ n2_ n3_ n4_ n5_ n6_ n7_; clear hb ho40; obtain ⟨Ao41, co41, eo41⟩ := Kd.R_slice HO710.out; subst eo41) | ((with_reducible refine gate_callee (f := 43) rfl ?_); refine goesL_ (some 53) rfl rfl Tryd.func43 (by kernel_rfl) rfl #[.string (⟨#[102, 105, 114, 115, 116]⟩ : ByteArray), .slice Ao41 y708.length co41] rfl (by (try simp only [List.map_toArray, List.map_cons, List.map_nil]); first | done | rfl | (simp only [List.length_drop, List.length_take]; rfl)) ?_; (with_reducible refine (impl_proofText.calls kj24 (⟨#[102, 105, 114, 115, 116]⟩ : ByteArray) _ _ y708 t711 _ ?side1 ?side2 A38.out (Glob.below hG (by repeat (first | (with_reducible first | exact HB.out | apply below_alloc | apply pw_below_drewN | apply below_drew1 | refine below_set ?_ GE695.out | refine below_set ?_ GE703.out) | exact HB.out)))).mono ?_); (case side1 => repeat (first | exact (Kd.R_reads' HO710.out).2.2 | (with_reducible refine Kd.C_alloc ?_ _) | (with_reducible refine Kd.C_drewN ?_ _) | (with_reducible refine Kd.C_drew ?_))); (case side2 => exact (Kd.R_reads' HO710.out).2.1); rintro e w42 ⟨rfl, hb⟩; refine ⟨_, rfl, ?_⟩; have n0_ := Aside0.mk (Kd.R_below (by (with_reducible repeat (first | apply Kd.R_alloc | apply Kd.R_drewN | apply Kd.R_drew)); exact HO_696000.out) hb); have n1_ := Aside0.mk (Kd.R_below (by (with_reducible repeat (first | apply Kd.R_alloc | apply Kd.R_drewN | apply Kd.R_drew)); exact HO_696001.out) hb); have n2_ := Aside0.mk (Kd.R_below (by (with_reducible repeat (first | apply Kd.R_alloc | apply Kd.R_drewN | apply Kd.R_drew)); exact HO_704000.out) hb); have n3_ := Aside0.mk (Kd.R_below (by (with_reducible repeat (first | apply Kd.R_alloc | apply Kd.R_drewN | apply Kd.R_drew)); exact HO_704001.out) hb); have n4_ := Aside0.mk (Kd.R_below (by (with_reducible repeat (first | apply Kd.R_alloc | apply Kd.R_drewN | apply Kd.R_drew)); exact HO710.out) hb); have n5_ := Aside0.mk (blk_below (g := gb695) (o := .cells #[.slice Ao8 t688.length co8, .slice Ao10 t691.length co10] 49 (0, 0)) (by (with_reducible repeat (first | refine blk_drewN ?_ _ | refine blk_drew ?_ | refine blk_alloc ?_ _)); exact BK695.out) hb); have n6_ := Aside0.mk (blk_below (g := gb703) (o := .cells #[.slice Ao13 t696.length co13, .slice Ao16 t699.length co16] 49 (0, 0)) (by (with_reducible repeat (first | refine blk_drewN ?_ _ | refine blk_drew ?_ | refine blk_alloc ?_ _)); exact BK703.out) hb); have n7_ := Aside0.mk (below_step (by repeat (first | (with_reducible first | exact HB.out | apply below_alloc | apply pw_below_drewN | apply below_drew1 | refine below_set ?_ GE695.out | refine below_set ?_ GE703.out) | exact HB.out)) hb); clear HO_696000; clear HO_696001; clear HO_704000; clear HO_704001; clear HO710; clear BK695; clear BK703; clear HB; have HO_696000 := n0_; have HO_696001 := n1_; have HO_704000 := n2_; have HO_704001 := n3_; have HO710 := n4_; have BK695 := n5_; have BK703 := n6_; have HB := n7_; clear n0_ n1_ n2_ n3_ n4_ n5_ n6_ n7_; (try clear hb); (try clear hb2); (try clear hk); (try clear hi)))
          go_ret2
          exact ⟨by first | rfl | (simp [errW_none, errW_some] <;> rfl) | (simp [errW_none, errW_some]; exact ⟨rfl, rfl⟩) | (simp [errW_none, errW_some]; exact ⟨rfl, rfl, rfl⟩) | (simp [*, errW_none, errW_some] <;> rfl), by repeat (first | (with_reducible first | exact HB.out | apply below_alloc | apply pw_below_drewN | apply below_drew1 | refine below_set ?_ GE695.out | refine below_set ?_ GE703.out) | exact HB.out)⟩
         ·replace c37 := Bool.eq_false_iff.mpr c37
          subst c37
          have H1 : ((impl_set_has.f t696 t699 x38_2).bind fun t712 => (if t712 = true then ((impl_set_has.f t688 t691 x38_2).bind fun t713 => (if t713 = true then (impl_ProofDiffer.l0 kj24 (wrap64 (t704 + t705)) (wrap64 (x38_2 + 1)) t688 t691 t696 t699) else ((impl_proofText.f kj24 (⟨#[115, 101, 99, 111, 110, 100]⟩ : ByteArray) (([x38_2] : List Int))).bind fun t717 => (some (t717, true))))) else (impl_ProofDiffer.l0 kj24 (wrap64 (t704 + t705)) (wrap64 (x38_2 + 1)) t688 t691 t696 t699))) = some (r1, r2) := by rw [if_neg (show ¬ (false = true) by decide)] at H; exact H
          clear H
          have H := H1
          clear H1
          replace H := Option.bind_eq_some_iff.mp H
          obtain ⟨t712, A430, H⟩ := H
          replace H : (if t712 = true then ((impl_set_has.f t688 t691 x38_2).bind fun t713 => (if t713 = true then (impl_ProofDiffer.l0 kj24 (wrap64 (t704 + t705)) (wrap64 (x38_2 + 1)) t688 t691 t696 t699) else ((impl_proofText.f kj24 (⟨#[115, 101, 99, 111, 110, 100]⟩ : ByteArray) (([x38_2] : List Int))).bind fun t717 => (some (t717, true))))) else (impl_ProofDiffer.l0 kj24 (wrap64 (t704 + t705)) (wrap64 (x38_2 + 1)) t688 t691 t696 t699)) = some (r1, r2) := H
          have A43 := Aside0.mk A430
          clear A430
          by_cases c44 : t712 = true
          ·subst c44
           have H1 : ((impl_set_has.f t688 t691 x38_2).bind fun t713 => (if t713 = true then (impl_ProofDiffer.l0 kj24 (wrap64 (t704 + t705)) (wrap64 (x38_2 + 1)) t688 t691 t696 t699) else ((impl_proofText.f kj24 (⟨#[115, 101, 99, 111, 110, 100]⟩ : ByteArray) (([x38_2] : List Int))).bind fun t717 => (some (t717, true))))) = some (r1, r2) := by rw [if_pos rfl] at H; exact H
           clear H
           have H := H1
           clear H1
           replace H := Option.bind_eq_some_iff.mp H
           obtain ⟨t713, A450, H⟩ := H
           replace H : (if t713 = true then (impl_ProofDiffer.l0 kj24 (wrap64 (t704 + t705)) (wrap64 (x38_2 + 1)) t688 t691 t696 t699) else ((impl_proofText.f kj24 (⟨#[115, 101, 99, 111, 110, 100]⟩ : ByteArray) (([x38_2] : List Int))).bind fun t717 => (some (t717, true)))) = some (r1, r2) := H
           have A45 := Aside0.mk A450
           clear A450
           by_cases c46 : t713 = true
           ·subst c46
            have H1 : (impl_ProofDiffer.l0 kj24 (wrap64 (t704 + t705)) (wrap64 (x38_2 + 1)) t688 t691 t696 t699) = some (r1, r2) := by rw [if_pos rfl] at H; exact H
            clear H
            have H := H1
            clear H1
            have H' := Aside0.mk H
            clear H
            have hnb47 := NB703_695.out
            have hnc47 := NB695_703.out
            have hcz48_0 : wc.cell? ⟨gb703, 0, none⟩ = some (.slice Ao13 t696.length co13) := (blk_cell BK703.out 0).trans rfl
            have hcz48_1 : wc.cell? ⟨gb703, 1, none⟩ = some (.slice Ao16 t699.length co16) := (blk_cell BK703.out 1).trans rfl
            have hfz48_0 := blk_frozen BK703.out 0
            have hfz48_1 := blk_frozen BK703.out 1
            go_wp2_with (first | ((with_reducible refine gate_callee (f := 58) rfl ?_); refine goesL_ (some 57) rfl rfl Tryd.func58 (by kernel_rfl) rfl #[.agg #[.slice Ao13 t696.length co13, .slice Ao16 t699.length co16], .int .i64 x38_2] rfl (by (try simp only [List.map_toArray, List.map_cons, List.map_nil]); first | done | rfl | (simp only [List.length_drop, List.length_take]; rfl)) ?_; (with_reducible refine (impl_set_has.calls _ _ t696 _ _ t699 x38_2 true _ ?side1 ?side2 ?side3 ?side4 A43.out).mono ?_); (case side1 => repeat (first | exact (Kd.R_reads' HO_704000.out).2.2 | (with_reducible refine Kd.C_alloc ?_ _) | (with_reducible refine Kd.C_drewN ?_ _) | (with_reducible refine Kd.C_drew ?_))); (case side2 => exact (Kd.R_reads' HO_704000.out).2.1); (case side3 => repeat (first | exact (Kd.R_reads' HO_704001.out).2.2 | (with_reducible refine Kd.C_alloc ?_ _) | (with_reducible refine Kd.C_drewN ?_ _) | (with_reducible refine Kd.C_drew ?_))); (case side4 => exact (Kd.R_reads' HO_704001.out).2.1); rintro e w49 ⟨rfl, hb⟩; refine ⟨_, rfl, ?_⟩; have n0_ := Aside0.mk (Kd.R_below (by (with_reducible repeat (first | apply Kd.R_alloc | apply Kd.R_drewN | apply Kd.R_drew)); exact HO_696000.out) hb); have n1_ := Aside0.mk (Kd.R_below (by (with_reducible repeat (first | apply Kd.R_alloc | apply Kd.R_drewN | apply Kd.R_drew)); exact HO_696001.out) hb); have n2_ := Aside0.mk (Kd.R_below (by (with_reducible repeat (first | apply Kd.R_alloc | apply Kd.R_drewN | apply Kd.R_drew)); exact HO_704000.out) hb); have n3_ := Aside0.mk (Kd.R_below (by (with_reducible repeat (first | apply Kd.R_alloc | apply Kd.R_drewN | apply Kd.R_drew)); exact HO_704001.out) hb); have n4_ := Aside0.mk (blk_below (g := gb695) (o := .cells #[.slice Ao8 t688.length co8, .slice Ao10 t691.length co10] 49 (0, 0)) (by (with_reducible repeat (first | refine blk_drewN ?_ _ | refine blk_drew ?_ | refine blk_alloc ?_ _)); exact BK695.out) hb); have n5_ := Aside0.mk (blk_below (g := gb703) (o := .cells #[.slice Ao13 t696.length co13, .slice Ao16 t699.length co16] 49 (0, 0)) (by (with_reducible repeat (first | refine blk_drewN ?_ _ | refine blk_drew ?_ | refine blk_alloc ?_ _)); exact BK703.out) hb); have n6_ := Aside0.mk (below_step (by repeat (first | (with_reducible first | exact HB.out | apply below_alloc | apply pw_below_drewN | apply below_drew1 | refine below_set ?_ GE695.out | refine below_set ?_ GE703.out) | exact HB.out)) hb); clear HO_696000; clear HO_696001; clear HO_704000; clear HO_704001; clear BK695; clear BK703; clear HB; have HO_696000 := n0_; have HO_696001 := n1_; have HO_704000 := n2_; have HO_704001 := n3_; have BK695 := n4_; have BK703 := n5_; have HB := n6_; clear n0_ n1_ n2_ n3_ n4_ n5_ n6_; (try clear hb); (try clear hb2); (try clear hk); (try clear hi); have hcz50_0 : w49.cell? ⟨gb695, 0, none⟩ = some (.slice Ao8 t688.length co8) := (blk_cell BK695.out 0).trans rfl; have hcz50_1 : w49.cell? ⟨gb695, 1, none⟩ = some (.slice Ao10 t691.length co10) := (blk_cell BK695.out 1).trans rfl; have hfz50_0 := blk_frozen BK695.out 0; have hfz50_1 := blk_frozen BK695.out 1) | (go_at_call 58; (with_reducible refine (impl_set_has.calls _ _ t688 _ _ t691 x38_2 true _ ?side1 ?side2 ?side3 ?side4 A45.out).mono ?_); (case side1 => repeat (first | exact (Kd.R_reads' HO_696000.out).2.2 | (with_reducible refine Kd.C_alloc ?_ _) | (with_reducible refine Kd.C_drewN ?_ _) | (with_reducible refine Kd.C_drew ?_))); (case side2 => exact (Kd.R_reads' HO_696000.out).2.1); (case side3 => repeat (first | exact (Kd.R_reads' HO_696001.out).2.2 | (with_reducible refine Kd.C_alloc ?_ _) | (with_reducible refine Kd.C_drewN ?_ _) | (with_reducible refine Kd.C_drew ?_))); (case side4 => exact (Kd.R_reads' HO_696001.out).2.1); rintro e w51 ⟨rfl, hb⟩; have n0_ := Aside0.mk (Kd.R_below (by (with_reducible repeat (first | apply Kd.R_alloc | apply Kd.R_drewN | apply Kd.R_drew)); exact HO_696000.out) hb); have n1_ := Aside0.mk (Kd.R_below (by (with_reducible repeat (first | apply Kd.R_alloc | apply Kd.R_drewN | apply Kd.R_drew)); exact HO_696001.out) hb); have n2_ := Aside0.mk (Kd.R_below (by (with_reducible repeat (first | apply Kd.R_alloc | apply Kd.R_drewN | apply Kd.R_drew)); exact HO_704000.out) hb); have n3_ := Aside0.mk (Kd.R_below (by (with_reducible repeat (first | apply Kd.R_alloc | apply Kd.R_drewN | apply Kd.R_drew)); exact HO_704001.out) hb); have n4_ := Aside0.mk (blk_below (g := gb695) (o := .cells #[.slice Ao8 t688.length co8, .slice Ao10 t691.length co10] 49 (0, 0)) (by (with_reducible repeat (first | refine blk_drewN ?_ _ | refine blk_drew ?_ | refine blk_alloc ?_ _)); exact BK695.out) hb); have n5_ := Aside0.mk (blk_below (g := gb703) (o := .cells #[.slice Ao13 t696.length co13, .slice Ao16 t699.length co16] 49 (0, 0)) (by (with_reducible repeat (first | refine blk_drewN ?_ _ | refine blk_drew ?_ | refine blk_alloc ?_ _)); exact BK703.out) hb); have n6_ := Aside0.mk (below_step (by repeat (first | (with_reducible first | exact HB.out | apply below_alloc | apply pw_below_drewN | apply below_drew1 | refine below_set ?_ GE695.out | refine below_set ?_ GE703.out) | exact HB.out)) hb); clear HO_696000; clear HO_696001; clear HO_704000; clear HO_704001; clear BK695; clear BK703; clear HB; have HO_696000 := n0_; have HO_696001 := n1_; have HO_704000 := n2_; have HO_704001 := n3_; have BK695 := n4_; have BK703 := n5_; have HB := n6_; clear n0_ n1_ n2_ n3_ n4_ n5_ n6_; (try clear hb); (try clear hb2); (try clear hk); (try clear hi)))
            go_roundg kj24
            case measure => have := HJ4.out; have := HK2.out; have := HJ24.out; omega
            case rel => exact ⟨(wrap64 (x38_2 + 1)), (by first | rfl | (simp; done) | (simp [*]; done) | (simp [Int.tmod_eq_emod_of_nonneg]; done)), H', ⟨by have := HJ4.out; have := HK2.out; have := HJ24.out; omega⟩, ⟨by (with_reducible repeat (first | apply Kd.R_alloc | apply Kd.R_drewN | apply Kd.R_drew)); exact HO_696000.out⟩, ⟨by (with_reducible repeat (first | apply Kd.R_alloc | apply Kd.R_drewN | apply Kd.R_drew)); exact HO_696001.out⟩, ⟨by (with_reducible repeat (first | apply Kd.R_alloc | apply Kd.R_drewN | apply Kd.R_drew)); exact HO_704000.out⟩, ⟨by (with_reducible repeat (first | apply Kd.R_alloc | apply Kd.R_drewN | apply Kd.R_drew)); exact HO_704001.out⟩, ⟨by (with_reducible repeat (first | refine blk_drewN ?_ _ | refine blk_drew ?_ | refine blk_alloc ?_ _)); exact BK695.out⟩, ⟨by (with_reducible repeat (first | refine blk_drewN ?_ _ | refine blk_drew ?_ | refine blk_alloc ?_ _)); exact BK703.out⟩, ⟨by repeat (first | (with_reducible first | exact HB.out | apply below_alloc | apply pw_below_drewN | apply below_drew1 | refine below_set ?_ GE695.out | refine below_set ?_ GE703.out) | exact HB.out)⟩⟩
           ·replace c46 := Bool.eq_false_iff.mpr c46
            subst c46
            have H1 : ((impl_proofText.f kj24 (⟨#[115, 101, 99, 111, 110, 100]⟩ : ByteArray) (([x38_2] : List Int))).bind fun t717 => (some (t717, true))) = some (r1, r2) := by rw [if_neg (show ¬ (false = true) by decide)] at H; exact H
            clear H
            have H := H1
            clear H1
            obtain ⟨y714, hy714⟩ : ∃ y_ : List Int, y_ = (([x38_2] : List Int)) := ⟨_, rfl⟩
            replace H : ((impl_proofText.f kj24 (⟨#[115, 101, 99, 111, 110, 100]⟩ : ByteArray) y714).bind fun t717 => (some (t717, true))) = some (r1, r2) := by first | (rw [hy714]; with_reducible exact H) | (have H2_ := (Option.bind_some _ _).symm.trans H; rw [hy714]; with_reducible exact H2_) | (have H2_ := (Option.bind_some _ _).symm.trans H; with_reducible exact H2_) | with_reducible exact H | (rw [hy714]; exact H) | exact H
            have Ny714 := Aside0.mk hy714
            clear hy714
            replace H := Option.bind_eq_some_iff.mp H
            obtain ⟨t717, A520, H⟩ := H
            replace H : (some (t717, true)) = some (r1, r2) := H
            have A52 := Aside0.mk A520
            clear A520
            simp only [Option.some.injEq, Prod.mk.injEq] at H
            obtain ⟨rfl, rfl⟩ := H
            have hnb53 := NB703_695.out
            have hnc53 := NB695_703.out
            have hcz54_0 : wc.cell? ⟨gb703, 0, none⟩ = some (.slice Ao13 t696.length co13) := (blk_cell BK703.out 0).trans rfl
            have hcz54_1 : wc.cell? ⟨gb703, 1, none⟩ = some (.slice Ao16 t699.length co16) := (blk_cell BK703.out 1).trans rfl
            have hfz54_0 := blk_frozen BK703.out 0
            have hfz54_1 := blk_frozen BK703.out 1
            go_wp2_with (first | ((with_reducible refine gate_callee (f := 58) rfl ?_); refine goesL_ (some 57) rfl rfl Tryd.func58 (by kernel_rfl) rfl #[.agg #[.slice Ao13 t696.length co13, .slice Ao16 t699.length co16], .int .i64 x38_2] rfl (by (try simp only [List.map_toArray, List.map_cons, List.map_nil]); first | done | rfl | (simp only [List.length_drop, List.length_take]; rfl)) ?_; (with_reducible refine (impl_set_has.calls _ _ t696 _ _ t699 x38_2 true _ ?side1 ?side2 ?side3 ?side4 A43.out).mono ?_); (case side1 => repeat (first | exact (Kd.R_reads' HO_704000.out).2.2 | (with_reducible refine Kd.C_alloc ?_ _) | (with_reducible refine Kd.C_drewN ?_ _) | (with_reducible refine Kd.C_drew ?_))); (case side2 => exact (Kd.R_reads' HO_704000.out).2.1); (case side3 => repeat (first | exact (Kd.R_reads' HO_704001.out).2.2 | (with_reducible refine Kd.C_alloc ?_ _) | (with_reducible refine Kd.C_drewN ?_ _) | (with_reducible refine Kd.C_drew ?_))); (case side4 => exact (Kd.R_reads' HO_704001.out).2.1); rintro e w55 ⟨rfl, hb⟩; refine ⟨_, rfl, ?_⟩; have n0_ := Aside0.mk (Kd.R_below (by (with_reducible repeat (first | apply Kd.R_alloc | apply Kd.R_drewN | apply Kd.R_drew)); exact HO_696000.out) hb); have n1_ := Aside0.mk (Kd.R_below (by (with_reducible repeat (first | apply Kd.R_alloc | apply Kd.R_drewN | apply Kd.R_drew)); exact HO_696001.out) hb); have n2_ := Aside0.mk (Kd.R_below (by (with_reducible repeat (first | apply Kd.R_alloc | apply Kd.R_drewN | apply Kd.R_drew)); exact HO_704000.out) hb); have n3_ := Aside0.mk (Kd.R_below (by (with_reducible repeat (first | apply Kd.R_alloc | apply Kd.R_drewN | apply Kd.R_drew)); exact HO_704001.out) hb); have n4_ := Aside0.mk (blk_below (g := gb695) (o := .cells #[.slice Ao8 t688.length co8, .slice Ao10 t691.length co10] 49 (0, 0)) (by (with_reducible repeat (first | refine blk_drewN ?_ _ | refine blk_drew ?_ | refine blk_alloc ?_ _)); exact BK695.out) hb); have n5_ := Aside0.mk (blk_below (g := gb703) (o := .cells #[.slice Ao13 t696.length co13, .slice Ao16 t699.length co16] 49 (0, 0)) (by (with_reducible repeat (first | refine blk_drewN ?_ _ | refine blk_drew ?_ | refine blk_alloc ?_ _)); exact BK703.out) hb); have n6_ := Aside0.mk (below_step (by repeat (first | (with_reducible first | exact HB.out | apply below_alloc | apply pw_below_drewN | apply below_drew1 | refine below_set ?_ GE695.out | refine below_set ?_ GE703.out) | exact HB.out)) hb); clear HO_696000; clear HO_696001; clear HO_704000; clear HO_704001; clear BK695; clear BK703; clear HB; have HO_696000 := n0_; have HO_696001 := n1_; have HO_704000 := n2_; have HO_704001 := n3_; have BK695 := n4_; have BK703 := n5_; have HB := n6_; clear n0_ n1_ n2_ n3_ n4_ n5_ n6_; (try clear hb); (try clear hb2); (try clear hk); (try clear hi); have hcz56_0 : w55.cell? ⟨gb695, 0, none⟩ = some (.slice Ao8 t688.length co8) := (blk_cell BK695.out 0).trans rfl; have hcz56_1 : w55.cell? ⟨gb695, 1, none⟩ = some (.slice Ao10 t691.length co10) := (blk_cell BK695.out 1).trans rfl; have hfz56_0 := blk_frozen BK695.out 0; have hfz56_1 := blk_frozen BK695.out 1) | (go_at_call 58; (with_reducible refine (impl_set_has.calls _ _ t688 _ _ t691 x38_2 false _ ?side1 ?side2 ?side3 ?side4 A45.out).mono ?_); (case side1 => repeat (first | exact (Kd.R_reads' HO_696000.out).2.2 | (with_reducible refine Kd.C_alloc ?_ _) | (with_reducible refine Kd.C_drewN ?_ _) | (with_reducible refine Kd.C_drew ?_))); (case side2 => exact (Kd.R_reads' HO_696000.out).2.1); (case side3 => repeat (first | exact (Kd.R_reads' HO_696001.out).2.2 | (with_reducible refine Kd.C_alloc ?_ _) | (with_reducible refine Kd.C_drewN ?_ _) | (with_reducible refine Kd.C_drew ?_))); (case side4 => exact (Kd.R_reads' HO_696001.out).2.1); rintro e w57 ⟨rfl, hb⟩; have n0_ := Aside0.mk (Kd.R_below (by (with_reducible repeat (first | apply Kd.R_alloc | apply Kd.R_drewN | apply Kd.R_drew)); exact HO_696000.out) hb); have n1_ := Aside0.mk (Kd.R_below (by (with_reducible repeat (first | apply Kd.R_alloc | apply Kd.R_drewN | apply Kd.R_drew)); exact HO_696001.out) hb); have n2_ := Aside0.mk (Kd.R_below (by (with_reducible repeat (first | apply Kd.R_alloc | apply Kd.R_drewN | apply Kd.R_drew)); exact HO_704000.out) hb); have n3_ := Aside0.mk (Kd.R_below (by (with_reducible repeat (first | apply Kd.R_alloc | apply Kd.R_drewN | apply Kd.R_drew)); exact HO_704001.out) hb); have n4_ := Aside0.mk (blk_below (g := gb695) (o := .cells #[.slice Ao8 t688.length co8, .slice Ao10 t691.length co10] 49 (0, 0)) (by (with_reducible repeat (first | refine blk_drewN ?_ _ | refine blk_drew ?_ | refine blk_alloc ?_ _)); exact BK695.out) hb); have n5_ := Aside0.mk (blk_below (g := gb703) (o := .cells #[.slice Ao13 t696.length co13, .slice Ao16 t699.length co16] 49 (0, 0)) (by (with_reducible repeat (first | refine blk_drewN ?_ _ | refine blk_drew ?_ | refine blk_alloc ?_ _)); exact BK703.out) hb); have n6_ := Aside0.mk (below_step (by repeat (first | (with_reducible first | exact HB.out | apply below_alloc | apply pw_below_drewN | apply below_drew1 | refine below_set ?_ GE695.out | refine below_set ?_ GE703.out) | exact HB.out)) hb); clear HO_696000; clear HO_696001; clear HO_704000; clear HO_704001; clear BK695; clear BK703; clear HB; have HO_696000 := n0_; have HO_696001 := n1_; have HO_704000 := n2_; have HO_704001 := n3_; have BK695 := n4_; have BK703 := n5_; have HB := n6_; clear n0_ n1_ n2_ n3_ n4_ n5_ n6_; (try clear hb); (try clear hb2); (try clear hk); (try clear hi)) | ((with_reducible refine gate_dst (N := 65) rfl ?_); refine Kd.R_lit (Kd.int .i64) _ 3 ?hg (N := 65) ?hd (xs := ([x38_2] : List Int)) (inner := [.int .i64 x38_2]) (ok := fun _ => True) (okp := fun _ => True) ?hr ?hp (fun _ hk => hk) trivial (Below.refl _ _) (Nat.le_refl _) (by simp) ?_; (case hd => rfl); (case hg => rfl); (case hr => first | (go_simp; done) | (go_simp; rfl)); (case hp => exact (Reps.one (show Kd.M (Kd.int .i64) _ _ _ x38_2 [.int .i64 x38_2] from rfl) (Reps.none _ _))); intro v715 w58 ho59 hb hg_ hnew_; clear hg_ hnew_; (first | rw [← Ny714.out] at ho59 | (simp only [Int.reduceToNat] at ho59; rw [← Ny714.out] at ho59)); have n0_ := Aside0.mk (Kd.R_below (by (with_reducible repeat (first | apply Kd.R_alloc | apply Kd.R_drewN | apply Kd.R_drew)); exact HO_696000.out) hb); have n1_ := Aside0.mk (Kd.R_below (by (with_reducible repeat (first | apply Kd.R_alloc | apply Kd.R_drewN | apply Kd.R_drew)); exact HO_696001.out) hb); have n2_ := Aside0.mk (Kd.R_below (by (with_reducible repeat (first | apply Kd.R_alloc | apply Kd.R_drewN | apply Kd.R_drew)); exact HO_704000.out) hb); have n3_ := Aside0.mk (Kd.R_below (by (with_reducible repeat (first | apply Kd.R_alloc | apply Kd.R_drewN | apply Kd.R_drew)); exact HO_704001.out) hb); have n4_ := Aside0.mk (Kd.R_lower ho59 (below_size (by repeat (first | (with_reducible first | exact HB.out | apply below_alloc | apply pw_below_drewN | apply below_drew1 | refine below_set ?_ GE695.out | refine below_set ?_ GE703.out) | exact HB.out)))); have n5_ := Aside0.mk (blk_below (g := gb695) (o := .cells #[.slice Ao8 t688.length co8, .slice Ao10 t691.length co10] 49 (0, 0)) (by (with_reducible repeat (first | refine blk_drewN ?_ _ | refine blk_drew ?_ | refine blk_alloc ?_ _)); exact BK695.out) hb); have n6_ := Aside0.mk (blk_below (g := gb703) (o := .cells #[.slice Ao13 t696.length co13, .slice Ao16 t699.length co16] 49 (0, 0)) (by (with_reducible repeat (first | refine blk_drewN ?_ _ | refine blk_drew ?_ | refine blk_alloc ?_ _)); exact BK703.out) hb); have n7_ := Aside0.mk (below_step (by repeat (first | (with_reducible first | exact HB.out | apply below_alloc | apply pw_below_drewN | apply below_drew1 | refine below_set ?_ GE695.out | refine below_set ?_ GE703.out) | exact HB.out)) hb); clear HO_696000; clear HO_696001; clear HO_704000; clear HO_704001; clear BK695; clear BK703; clear HB; have HO_696000 := n0_; have HO_696001 := n1_; have HO_704000 := n2_; have HO_704001 := n3_; have HO716 := n4_; have BK695 := n5_; have BK703 := n6_; have HB := n7_; clear n0_ n1_ n2_ n3_ n4_ n5_ n6_ n7_; clear hb ho59; obtain ⟨Ao60, co60, eo60⟩ := Kd.R_slice HO716.out; subst eo60) | ((with_reducible refine gate_callee (f := 43) rfl ?_); refine goesL_ (some 66) rfl rfl Tryd.func43 (by kernel_rfl) rfl #[.string (⟨#[115, 101, 99, 111, 110, 100]⟩ : ByteArray), .slice Ao60 y714.length co60] rfl (by (try simp only [List.map_toArray, List.map_cons, List.map_nil]); first | done | rfl | (simp only [List.length_drop, List.length_take]; rfl)) ?_; (with_reducible refine (impl_proofText.calls kj24 (⟨#[115, 101, 99, 111, 110, 100]⟩ : ByteArray) _ _ y714 t717 _ ?side1 ?side2 A52.out (Glob.below hG (by repeat (first | (with_reducible first | exact HB.out | apply below_alloc | apply pw_below_drewN | apply below_drew1 | refine below_set ?_ GE695.out | refine below_set ?_ GE703.out) | exact HB.out)))).mono ?_); (case side1 => repeat (first | exact (Kd.R_reads' HO716.out).2.2 | (with_reducible refine Kd.C_alloc ?_ _) | (with_reducible refine Kd.C_drewN ?_ _) | (with_reducible refine Kd.C_drew ?_))); (case side2 => exact (Kd.R_reads' HO716.out).2.1); rintro e w61 ⟨rfl, hb⟩; refine ⟨_, rfl, ?_⟩; have n0_ := Aside0.mk (Kd.R_below (by (with_reducible repeat (first | apply Kd.R_alloc | apply Kd.R_drewN | apply Kd.R_drew)); exact HO_696000.out) hb); have n1_ := Aside0.mk (Kd.R_below (by (with_reducible repeat (first | apply Kd.R_alloc | apply Kd.R_drewN | apply Kd.R_drew)); exact HO_696001.out) hb); have n2_ := Aside0.mk (Kd.R_below (by (with_reducible repeat (first | apply Kd.R_alloc | apply Kd.R_drewN | apply Kd.R_drew)); exact HO_704000.out) hb); have n3_ := Aside0.mk (Kd.R_below (by (with_reducible repeat (first | apply Kd.R_alloc | apply Kd.R_drewN | apply Kd.R_drew)); exact HO_704001.out) hb); have n4_ := Aside0.mk (Kd.R_below (by (with_reducible repeat (first | apply Kd.R_alloc | apply Kd.R_drewN | apply Kd.R_drew)); exact HO716.out) hb); have n5_ := Aside0.mk (blk_below (g := gb695) (o := .cells #[.slice Ao8 t688.length co8, .slice Ao10 t691.length co10] 49 (0, 0)) (by (with_reducible repeat (first | refine blk_drewN ?_ _ | refine blk_drew ?_ | refine blk_alloc ?_ _)); exact BK695.out) hb); have n6_ := Aside0.mk (blk_below (g := gb703) (o := .cells #[.slice Ao13 t696.length co13, .slice Ao16 t699.length co16] 49 (0, 0)) (by (with_reducible repeat (first | refine blk_drewN ?_ _ | refine blk_drew ?_ | refine blk_alloc ?_ _)); exact BK703.out) hb); have n7_ := Aside0.mk (below_step (by repeat (first | (with_reducible first | exact HB.out | apply below_alloc | apply pw_below_drewN | apply below_drew1 | refine below_set ?_ GE695.out | refine below_set ?_ GE703.out) | exact HB.out)) hb); clear HO_696000; clear HO_696001; clear HO_704000; clear HO_704001; clear HO716; clear BK695; clear BK703; clear HB; have HO_696000 := n0_; have HO_696001 := n1_; have HO_704000 := n2_; have HO_704001 := n3_; have HO716 := n4_; have BK695 := n5_; have BK703 := n6_; have HB := n7_; clear n0_ n1_ n2_ n3_ n4_ n5_ n6_ n7_; (try clear hb); (try clear hb2); (try clear hk); (try clear hi)))
            go_ret2
            exact ⟨by first | rfl | (simp [errW_none, errW_some] <;> rfl) | (simp [errW_none, errW_some]; exact ⟨rfl, rfl⟩) | (simp [errW_none, errW_some]; exact ⟨rfl, rfl, rfl⟩) | (simp [*, errW_none, errW_some] <;> rfl), by repeat (first | (with_reducible first | exact HB.out | apply below_alloc | apply pw_below_drewN | apply below_drew1 | refine below_set ?_ GE695.out | refine below_set ?_ GE703.out) | exact HB.out)⟩
          ·replace c44 := Bool.eq_false_iff.mpr c44
           subst c44
           have H1 : (impl_ProofDiffer.l0 kj24 (wrap64 (t704 + t705)) (wrap64 (x38_2 + 1)) t688 t691 t696 t699) = some (r1, r2) := by rw [if_neg (show ¬ (false = true) by decide)] at H; exact H
           clear H
           have H := H1
           clear H1
           have H' := Aside0.mk H
           clear H
           have hnb62 := NB703_695.out
           have hnc62 := NB695_703.out
           have hcz63_0 : wc.cell? ⟨gb703, 0, none⟩ = some (.slice Ao13 t696.length co13) := (blk_cell BK703.out 0).trans rfl
           have hcz63_1 : wc.cell? ⟨gb703, 1, none⟩ = some (.slice Ao16 t699.length co16) := (blk_cell BK703.out 1).trans rfl
           have hfz63_0 := blk_frozen BK703.out 0
           have hfz63_1 := blk_frozen BK703.out 1
           go_wp2_with (first | ((with_reducible refine gate_callee (f := 58) rfl ?_); refine goesL_ (some 57) rfl rfl Tryd.func58 (by kernel_rfl) rfl #[.agg #[.slice Ao13 t696.length co13, .slice Ao16 t699.length co16], .int .i64 x38_2] rfl (by (try simp only [List.map_toArray, List.map_cons, List.map_nil]); first | done | rfl | (simp only [List.length_drop, List.length_take]; rfl)) ?_; (with_reducible refine (impl_set_has.calls _ _ t696 _ _ t699 x38_2 false _ ?side1 ?side2 ?side3 ?side4 A43.out).mono ?_); (case side1 => repeat (first | exact (Kd.R_reads' HO_704000.out).2.2 | (with_reducible refine Kd.C_alloc ?_ _) | (with_reducible refine Kd.C_drewN ?_ _) | (with_reducible refine Kd.C_drew ?_))); (case side2 => exact (Kd.R_reads' HO_704000.out).2.1); (case side3 => repeat (first | exact (Kd.R_reads' HO_704001.out).2.2 | (with_reducible refine Kd.C_alloc ?_ _) | (with_reducible refine Kd.C_drewN ?_ _) | (with_reducible refine Kd.C_drew ?_))); (case side4 => exact (Kd.R_reads' HO_704001.out).2.1); rintro e w64 ⟨rfl, hb⟩; refine ⟨_, rfl, ?_⟩; have n0_ := Aside0.mk (Kd.R_below (by (with_reducible repeat (first | apply Kd.R_alloc | apply Kd.R_drewN | apply Kd.R_drew)); exact HO_696000.out) hb); have n1_ := Aside0.mk (Kd.R_below (by (with_reducible repeat (first | apply Kd.R_alloc | apply Kd.R_drewN | apply Kd.R_drew)); exact HO_696001.out) hb); have n2_ := Aside0.mk (Kd.R_below (by (with_reducible repeat (first | apply Kd.R_alloc | apply Kd.R_drewN | apply Kd.R_drew)); exact HO_704000.out) hb); have n3_ := Aside0.mk (Kd.R_below (by (with_reducible repeat (first | apply Kd.R_alloc | apply Kd.R_drewN | apply Kd.R_drew)); exact HO_704001.out) hb); have n4_ := Aside0.mk (blk_below (g := gb695) (o := .cells #[.slice Ao8 t688.length co8, .slice Ao10 t691.length co10] 49 (0, 0)) (by (with_reducible repeat (first | refine blk_drewN ?_ _ | refine blk_drew ?_ | refine blk_alloc ?_ _)); exact BK695.out) hb); have n5_ := Aside0.mk (blk_below (g := gb703) (o := .cells #[.slice Ao13 t696.length co13, .slice Ao16 t699.length co16] 49 (0, 0)) (by (with_reducible repeat (first | refine blk_drewN ?_ _ | refine blk_drew ?_ | refine blk_alloc ?_ _)); exact BK703.out) hb); have n6_ := Aside0.mk (below_step (by repeat (first | (with_reducible first | exact HB.out | apply below_alloc | apply pw_below_drewN | apply below_drew1 | refine below_set ?_ GE695.out | refine below_set ?_ GE703.out) | exact HB.out)) hb); clear HO_696000; clear HO_696001; clear HO_704000; clear HO_704001; clear BK695; clear BK703; clear HB; have HO_696000 := n0_; have HO_696001 := n1_; have HO_704000 := n2_; have HO_704001 := n3_; have BK695 := n4_; have BK703 := n5_; have HB := n6_; clear n0_ n1_ n2_ n3_ n4_ n5_ n6_; (try clear hb); (try clear hb2); (try clear hk); (try clear hi)))
           go_roundg kj24
           case measure => have := HJ4.out; have := HK2.out; have := HJ24.out; omega
           case rel => exact ⟨(wrap64 (x38_2 + 1)), (by first | rfl | (simp; done) | (simp [*]; done) | (simp [Int.tmod_eq_emod_of_nonneg]; done)), H', ⟨by have := HJ4.out; have := HK2.out; have := HJ24.out; omega⟩, ⟨by (with_reducible repeat (first | apply Kd.R_alloc | apply Kd.R_drewN | apply Kd.R_drew)); exact HO_696000.out⟩, ⟨by (with_reducible repeat (first | apply Kd.R_alloc | apply Kd.R_drewN | apply Kd.R_drew)); exact HO_696001.out⟩, ⟨by (with_reducible repeat (first | apply Kd.R_alloc | apply Kd.R_drewN | apply Kd.R_drew)); exact HO_704000.out⟩, ⟨by (with_reducible repeat (first | apply Kd.R_alloc | apply Kd.R_drewN | apply Kd.R_drew)); exact HO_704001.out⟩, ⟨by (with_reducible repeat (first | refine blk_drewN ?_ _ | refine blk_drew ?_ | refine blk_alloc ?_ _)); exact BK695.out⟩, ⟨by (with_reducible repeat (first | refine blk_drewN ?_ _ | refine blk_drew ?_ | refine blk_alloc ?_ _)); exact BK703.out⟩, ⟨by repeat (first | (with_reducible first | exact HB.out | apply below_alloc | apply pw_below_drewN | apply below_drew1 | refine below_set ?_ GE695.out | refine below_set ?_ GE703.out) | exact HB.out)⟩⟩
      ·rw [if_neg c24] at H
       have c24b0 : decide (x38_2 < (wrap64 (t704 + t705))) = false := decide_eq_false c24
       clear c24
       simp only [Option.some.injEq, Prod.mk.injEq] at H
       obtain ⟨rfl, rfl⟩ := H
       go_wp2
       go_ret2
       exact ⟨by first | rfl | (simp [errW_none, errW_some] <;> rfl) | (simp [errW_none, errW_some]; exact ⟨rfl, rfl⟩) | (simp [errW_none, errW_some]; exact ⟨rfl, rfl, rfl⟩) | (simp [*, errW_none, errW_some] <;> rfl), by repeat (first | (with_reducible first | exact HB.out | apply below_alloc | apply pw_below_drewN | apply below_drew1 | refine below_set ?_ GE695.out | refine below_set ?_ GE703.out) | exact HB.out)⟩


def laws_FnExactProofDiffer.f (k : Nat) (a0 : ByteArray) (a1 : ByteArray) : Option (Bool) := if (a0.size : Int) > 1048576 then (some true) else (if (a1.size : Int) > 1048576 then (some true) else ((spec_ProofDiffer.f k a0 a1).bind fun bt718 => ((impl_ProofDiffer.f k a0 a1).bind fun bt720 => (if bt720.1.toList = bt718.1.toList then (if (bt720.2 != bt718.2) = true then (some false) else (some true)) else (some false)))))
theorem laws_FnExactProofDiffer.mono : ∀ a0 a1 k, LeO (laws_FnExactProofDiffer.f k a0 a1) (laws_FnExactProofDiffer.f (k + 1) a0 a1) := by
 intro a0 a1 k
 unfold laws_FnExactProofDiffer.f
 repeat' first
   |(with_reducible exact impl_ProofDiffer.mono _ _ _)
   |(with_reducible exact spec_ProofDiffer.mono _ _ _)
   |(with_reducible exact LeO.refl _)
   |(with_reducible exact LeO.none _)
   |(with_reducible refine LeO.ite ?_ ?_)
   |(with_reducible refine LeO.bind ?_ (fun _ => ?_))
   |exact impl_ProofDiffer.mono _ _ _
   |exact spec_ProofDiffer.mono _ _ _
   |exact LeO.none _
   |refine LeO.ite ?_ ?_
   |refine LeO.bind ?_ (fun _ => ?_)
set_option maxHeartbeats 8000000 in
set_option maxRecDepth 100000 in
theorem laws_FnExactProofDiffer.calls (k : Nat) (a0 : ByteArray) (a1 : ByteArray) (r : Bool) (w : World) (h : laws_FnExactProofDiffer.f k a0 a1 = some r) (hG : Glob w) :
  Calls Tryd.prog 6 #[.string a0, .string a1] w fun e w' => e = .returned (.bool r) ∧ Below w.heap.size w w' := by
 have HB := Aside0.mk (Below.refl w.heap.size w)
 have H : (if (a0.size : Int) > 1048576 then (some true) else (if (a1.size : Int) > 1048576 then (some true) else ((spec_ProofDiffer.f k a0 a1).bind fun bt718 => ((impl_ProofDiffer.f k a0 a1).bind fun bt720 => (if bt720.1.toList = bt718.1.toList then (if (bt720.2 != bt718.2) = true then (some false) else (some true)) else (some false)))))) = some r := h
 clear h
 by_cases c3 : (a0.size : Int) > 1048576
 ·rw [if_pos c3] at H
  have c3b0 : decide (1048576 < (a0.size : Int)) = true := decide_eq_true c3
  have c3b1 : decide (1048576 < a0.size) = true := decide_eq_true (by omega)
  clear c3
  obtain rfl := Option.some.inj H
  go_enter Tryd.func6, Tryd.ntmps6
  go_wp2
  go_ret
  exact ⟨by first | rfl | (simp [errW_none, errW_some] <;> rfl) | (simp [errW_none, errW_some]; exact ⟨rfl, rfl⟩) | (simp [errW_none, errW_some]; exact ⟨rfl, rfl, rfl⟩) | (simp [*, errW_none, errW_some] <;> rfl), by repeat (first | (with_reducible first | exact HB.out | apply below_alloc | apply pw_below_drewN | apply below_drew1) | exact HB.out)⟩
 ·rw [if_neg c3] at H
  have c3b0 : decide (1048576 < (a0.size : Int)) = false := decide_eq_false c3
  have c3b1 : decide (1048576 < a0.size) = false := decide_eq_false (by omega)
  clear c3
  by_cases c4 : (a1.size : Int) > 1048576
  ·rw [if_pos c4] at H
   have c4b0 : decide (1048576 < (a1.size : Int)) = true := decide_eq_true c4
   have c4b1 : decide (1048576 < a1.size) = true := decide_eq_true (by omega)
   clear c4
   obtain rfl := Option.some.inj H
   go_enter Tryd.func6, Tryd.ntmps6
   go_wp2
   go_ret
   exact ⟨by first | rfl | (simp [errW_none, errW_some] <;> rfl) | (simp [errW_none, errW_some]; exact ⟨rfl, rfl⟩) | (simp [errW_none, errW_some]; exact ⟨rfl, rfl, rfl⟩) | (simp [*, errW_none, errW_some] <;> rfl), by repeat (first | (with_reducible first | exact HB.out | apply below_alloc | apply pw_below_drewN | apply below_drew1) | exact HB.out)⟩
  ·rw [if_neg c4] at H
   have c4b0 : decide (1048576 < (a1.size : Int)) = false := decide_eq_false c4
   have c4b1 : decide (1048576 < a1.size) = false := decide_eq_false (by omega)
   clear c4
   replace H := Option.bind_eq_some_iff.mp H
   obtain ⟨⟨t718, t719⟩, A50, H⟩ := H
   replace H : ((impl_ProofDiffer.f k a0 a1).bind fun bt720 => (if bt720.1.toList = t718.toList then (if (bt720.2 != t719) = true then (some false) else (some true)) else (some false))) = some r := H
   have A5 := Aside0.mk A50
   clear A50
   replace H := Option.bind_eq_some_iff.mp H
   obtain ⟨⟨t720, t721⟩, A60, H⟩ := H
   replace H : (if t720.toList = t718.toList then (if (t721 != t719) = true then (some false) else (some true)) else (some false)) = some r := H
   have A6 := Aside0.mk A60
   clear A60
   by_cases c7 : t720.toList = t718.toList
   ·rw [if_pos c7] at H
    have c7b0 : (t720.toList == t718.toList) = true := beq_iff_eq.mpr c7
    have c7b1 : (t720.toList != t718.toList) = false := bne_eq_false_iff_eq.mpr c7
    clear c7
    by_cases c8 : (t721 != t719) = true
    ·rw [if_pos c8] at H
     have c8b0 : (t721 != t719) = true := c8
     (try (have c8b1 : decide (t721 = t719) = false := by simpa using c8))
     (try (have c8b2 : (t721 == t719) = false := by simpa using c8))
     (try (have c8b3 : ¬ (t721 = t719) := by simpa using c8))
     clear c8
     obtain rfl := Option.some.inj H
     go_enter Tryd.func6, Tryd.ntmps6
     go_wp2_with (first | ((with_reducible refine gate_callee (f := 27) rfl ?_); refine goesL_ (some 18) rfl rfl Tryd.func27 (by kernel_rfl) rfl #[.string a0, .string a1] rfl (by (try simp only [List.map_toArray, List.map_cons, List.map_nil]); first | done | rfl | (simp only [List.length_drop, List.length_take]; rfl)) ?_; (with_reducible refine (spec_ProofDiffer.calls k a0 a1 t718 t719 _ A5.out).mono ?_); rintro e w9 ⟨rfl, hb⟩; refine ⟨_, rfl, ?_⟩; have n0_ := Aside0.mk (below_step (by repeat (first | (with_reducible first | exact HB.out | apply below_alloc | apply pw_below_drewN | apply below_drew1) | exact HB.out)) hb); clear HB; have HB := n0_; clear n0_; (try clear hb); (try clear hb2); (try clear hk); (try clear hi)) | ((with_reducible refine gate_callee (f := 28) rfl ?_); refine goesL_ (some 24) rfl rfl Tryd.func28 (by kernel_rfl) rfl #[.string a0, .string a1] rfl (by (try simp only [List.map_toArray, List.map_cons, List.map_nil]); first | done | rfl | (simp only [List.length_drop, List.length_take]; rfl)) ?_; (with_reducible refine (impl_ProofDiffer.calls k a0 a1 t720 t721 _ A6.out (Glob.below hG (by repeat (first | (with_reducible first | exact HB.out | apply below_alloc | apply pw_below_drewN | apply below_drew1) | exact HB.out)))).mono ?_); rintro e w10 ⟨rfl, hb⟩; refine ⟨_, rfl, ?_⟩; have n0_ := Aside0.mk (below_step (by repeat (first | (with_reducible first | exact HB.out | apply below_alloc | apply pw_below_drewN | apply below_drew1) | exact HB.out)) hb); clear HB; have HB := n0_; clear n0_; (try clear hb); (try clear hb2); (try clear hk); (try clear hi)))
     go_ret
     exact ⟨by first | rfl | (simp [errW_none, errW_some] <;> rfl) | (simp [errW_none, errW_some]; exact ⟨rfl, rfl⟩) | (simp [errW_none, errW_some]; exact ⟨rfl, rfl, rfl⟩) | (simp [*, errW_none, errW_some] <;> rfl), by repeat (first | (with_reducible first | exact HB.out | apply below_alloc | apply pw_below_drewN | apply below_drew1) | exact HB.out)⟩
    ·rw [if_neg c8] at H
     have c8b0 : (t721 != t719) = false := by simpa using c8
     (try (have c8b1 : decide (t721 = t719) = true := by simpa using c8))
     (try (have c8b2 : (t721 == t719) = true := by simpa using c8))
     clear c8
     obtain rfl := Option.some.inj H
     go_enter Tryd.func6, Tryd.ntmps6
     go_wp2_with (first | ((with_reducible refine gate_callee (f := 27) rfl ?_); refine goesL_ (some 18) rfl rfl Tryd.func27 (by kernel_rfl) rfl #[.string a0, .string a1] rfl (by (try simp only [List.map_toArray, List.map_cons, List.map_nil]); first | done | rfl | (simp only [List.length_drop, List.length_take]; rfl)) ?_; (with_reducible refine (spec_ProofDiffer.calls k a0 a1 t718 t719 _ A5.out).mono ?_); rintro e w11 ⟨rfl, hb⟩; refine ⟨_, rfl, ?_⟩; have n0_ := Aside0.mk (below_step (by repeat (first | (with_reducible first | exact HB.out | apply below_alloc | apply pw_below_drewN | apply below_drew1) | exact HB.out)) hb); clear HB; have HB := n0_; clear n0_; (try clear hb); (try clear hb2); (try clear hk); (try clear hi)) | ((with_reducible refine gate_callee (f := 28) rfl ?_); refine goesL_ (some 24) rfl rfl Tryd.func28 (by kernel_rfl) rfl #[.string a0, .string a1] rfl (by (try simp only [List.map_toArray, List.map_cons, List.map_nil]); first | done | rfl | (simp only [List.length_drop, List.length_take]; rfl)) ?_; (with_reducible refine (impl_ProofDiffer.calls k a0 a1 t720 t721 _ A6.out (Glob.below hG (by repeat (first | (with_reducible first | exact HB.out | apply below_alloc | apply pw_below_drewN | apply below_drew1) | exact HB.out)))).mono ?_); rintro e w12 ⟨rfl, hb⟩; refine ⟨_, rfl, ?_⟩; have n0_ := Aside0.mk (below_step (by repeat (first | (with_reducible first | exact HB.out | apply below_alloc | apply pw_below_drewN | apply below_drew1) | exact HB.out)) hb); clear HB; have HB := n0_; clear n0_; (try clear hb); (try clear hb2); (try clear hk); (try clear hi)))
     go_ret
     exact ⟨by first | rfl | (simp [errW_none, errW_some] <;> rfl) | (simp [errW_none, errW_some]; exact ⟨rfl, rfl⟩) | (simp [errW_none, errW_some]; exact ⟨rfl, rfl, rfl⟩) | (simp [*, errW_none, errW_some] <;> rfl), by repeat (first | (with_reducible first | exact HB.out | apply below_alloc | apply pw_below_drewN | apply below_drew1) | exact HB.out)⟩
   ·rw [if_neg c7] at H
    have c7b0 : (t720.toList == t718.toList) = false := beq_eq_false_iff_ne.mpr c7
    have c7b1 : (t720.toList != t718.toList) = true := bne_iff_ne.mpr c7
    obtain rfl := Option.some.inj H
    go_enter Tryd.func6, Tryd.ntmps6
    go_wp2_with (first | ((with_reducible refine gate_callee (f := 27) rfl ?_); refine goesL_ (some 18) rfl rfl Tryd.func27 (by kernel_rfl) rfl #[.string a0, .string a1] rfl (by (try simp only [List.map_toArray, List.map_cons, List.map_nil]); first | done | rfl | (simp only [List.length_drop, List.length_take]; rfl)) ?_; (with_reducible refine (spec_ProofDiffer.calls k a0 a1 t718 t719 _ A5.out).mono ?_); rintro e w13 ⟨rfl, hb⟩; refine ⟨_, rfl, ?_⟩; have n0_ := Aside0.mk (below_step (by repeat (first | (with_reducible first | exact HB.out | apply below_alloc | apply pw_below_drewN | apply below_drew1) | exact HB.out)) hb); clear HB; have HB := n0_; clear n0_; (try clear hb); (try clear hb2); (try clear hk); (try clear hi)) | ((with_reducible refine gate_callee (f := 28) rfl ?_); refine goesL_ (some 24) rfl rfl Tryd.func28 (by kernel_rfl) rfl #[.string a0, .string a1] rfl (by (try simp only [List.map_toArray, List.map_cons, List.map_nil]); first | done | rfl | (simp only [List.length_drop, List.length_take]; rfl)) ?_; (with_reducible refine (impl_ProofDiffer.calls k a0 a1 t720 t721 _ A6.out (Glob.below hG (by repeat (first | (with_reducible first | exact HB.out | apply below_alloc | apply pw_below_drewN | apply below_drew1) | exact HB.out)))).mono ?_); rintro e w14 ⟨rfl, hb⟩; refine ⟨_, rfl, ?_⟩; have n0_ := Aside0.mk (below_step (by repeat (first | (with_reducible first | exact HB.out | apply below_alloc | apply pw_below_drewN | apply below_drew1) | exact HB.out)) hb); clear HB; have HB := n0_; clear n0_; (try clear hb); (try clear hb2); (try clear hk); (try clear hi)))
    go_ret
    exact ⟨by first | rfl | (simp [errW_none, errW_some] <;> rfl) | (simp [errW_none, errW_some]; exact ⟨rfl, rfl⟩) | (simp [errW_none, errW_some]; exact ⟨rfl, rfl, rfl⟩) | (simp [*, errW_none, errW_some] <;> rfl), by repeat (first | (with_reducible first | exact HB.out | apply below_alloc | apply pw_below_drewN | apply below_drew1) | exact HB.out)⟩

/-- THE ONE PURE STATEMENT of laws_FnExactProofDiffer: yours. -/
def laws_FnExactProofDiffer.Pure : Prop := ∀ (a0 : ByteArray) (a1 : ByteArray), a0.size ≤ 140737488351232 → a1.size ≤ 140737488351232 → ∃ k, laws_FnExactProofDiffer.f k a0 a1 = some true
theorem laws_FnExactProofDiffer.walk (P : laws_FnExactProofDiffer.Pure) (a0 : ByteArray) (a1 : ByteArray) (w : World) (w0 : a0.size ≤ 140737488351232) (w1 : a1.size ≤ 140737488351232) (hG : Glob w) :
  Calls Tryd.prog 6 #[.string a0, .string a1] w fun e w' => e = .returned (.bool true) ∧ Below w.heap.size w w' := by
 obtain ⟨k, h⟩ := P a0 a1 w0 w1
 refine (laws_FnExactProofDiffer.calls k a0 a1 true w h hG).mono ?_
 rintro e w' ⟨rfl, hd⟩
 exact ⟨rfl, hd⟩

end Go.Proofs.YtinjblbfaijhdaaDoor.Q
