/- The law FnProofDiffer holds for all that it draws. -/
import Derived.Lib.AppendIntMem
import Derived.Test.YtinjblbfaijhdaaDoorCFnProofDiffer10
import Derived.Test.YtinjblbfaijhdaaDoorCFnProofDiffer11
import Derived.Test.YtinjblbfaijhdaaDoorCFnProofDiffer12
namespace Go.Proofs.YtinjblbfaijhdaaDoor.Q
open Go.RowKit Go.Proofs.YtinjblbfaijhdaaDoorW.PrintWords Go.Proofs.YtinjblbfaijhdaaDoorW.PrintLast Go.Proofs.YtinjblbfaijhdaaDoorW.PrintMore
attribute [local go_sem] max2_int min2_int max_two min_two max_three min_three max_four min_four   -- for this text's walks alone
set_option linter.unusedVariables false
set_option linter.unusedSimpArgs false
/-- The table of powers of ten lies in this world as the program's text lays it. -/
def Glob (w : World) : Prop := Lib.TabIs Tryd.prog w "internal/strconv.uint64pow10" .u64 Lib.pow10Tab
theorem Glob.below {w w' : World} (h : Glob w) (hb : Below w.heap.size w w') : Glob w' := by
 unfold Glob Lib.TabIs World.var? at *
 rw [show Tryd.prog.globalNamed "internal/strconv.uint64pow10" = some 3 by kernel_rfl] at *
 simp only [Option.bind_some] at *
 have lt : 3 < w.heap.size := by
  rcases Nat.lt_or_ge 3 w.heap.size with k | k
  ·exact k
  ·rw [Array.getElem?_eq_none k] at h
   cases h
 rw [hb.block 3 lt]
 exact h
/-- A whole number in decimal signs. -/
def strconv_Itoa_68.f (a0 : Int) : Option ByteArray := if -9223372036854775808 ≤ a0 ∧ a0 ≤ 9223372036854775807 then some ⟨(Lib.itoa a0).toArray⟩ else none
set_option maxHeartbeats 1000000 in
set_option maxRecDepth 100000 in
theorem strconv_Itoa_68.calls (a0 : Int) (r : ByteArray) (w : World) (h : strconv_Itoa_68.f a0 = some r) (hG : Glob w) :
  Calls Tryd.prog 68 #[.int .i64 a0] w fun e w' => e = .returned (.string r) ∧ Below w.heap.size w w' := by
 unfold strconv_Itoa_68.f at h
 split at h
 case isFalse => cases h
 rename_i hs
 obtain rfl := Option.some.inj h
 exact (Tryd.strconv_Itoa a0 hs.1 hs.2 w hG).mono fun e w' ⟨he, k, os, hw⟩ => ⟨he, hw ▸ Lib.below_grow w.heap.size w (Nat.le_refl _) k os⟩

def impl_proofText.l0 : Nat → ByteArray → List Int → Int → Int → Option (ByteArray)
 | 0, _, _, _, _ => none
 | k + 1, x0, x7, x8, x9 => if x9 < x8 then (if 0 ≤ x9 then (if x9 < (x7.length : Int) then ((strconv_Itoa_68.f (rd x7 x9)).bind fun t253 => (if 1 + t253.size ≤ 9223372036854775807 then (if x0.size + 1 + t253.size ≤ 9223372036854775807 then (impl_proofText.l0 k (x0 ++ ((⟨#[32]⟩ : ByteArray) ++ t253)) x7 x8 (wrap64 (x9 + 1))) else (none)) else (none))) else (none)) else (none)) else (some x0)
def impl_proofText.f (k : Nat) (a0 : ByteArray) (l1 : List Int) : Option (ByteArray) := impl_proofText.l0 k a0 l1 (l1.length : Int) 0
theorem impl_proofText.mono_l : ∀ k, (∀ y0 y1 y2 y3, LeO (impl_proofText.l0 k y0 y1 y2 y3) (impl_proofText.l0 (k + 1) y0 y1 y2 y3))
 | 0 => fun _ _ _ _ r h => by simp [impl_proofText.l0] at h
 | k + 1 => by
  have ih0 := impl_proofText.mono_l k
  ·intro y0 y1 y2 y3
   unfold impl_proofText.l0
   repeat' first | (with_reducible exact ih0 _ _ _ _) | (with_reducible exact LeO.refl _) | (with_reducible refine LeO.ite ?_ ?_) | (with_reducible refine LeO.bind ?_ (fun _ => ?_))
theorem impl_proofText.mono : ∀ a0 a1 k, LeO (impl_proofText.f k a0 a1) (impl_proofText.f (k + 1) a0 a1) := by
 intro a0 a1 k
 have ih0 := impl_proofText.mono_l k
 unfold impl_proofText.f
 repeat' (with_reducible exact ih0 _ _ _ _)
set_option maxHeartbeats 8000000 in
set_option maxRecDepth 100000 in
theorem impl_proofText.calls (k : Nat) (a0 : ByteArray) (A1 : Option Addr) (c1 : Nat) (l1 : List Int) (r : ByteArray) (w : World) (hr1 : Kd.C (Kd.int .i64) w A1 l1.length l1) (hc1 : l1.length ≤ c1) (h : impl_proofText.f k a0 l1 = some r) (hG : Glob w) :
  Calls Tryd.prog 43 #[.string a0, .slice A1 l1.length c1] w fun e w' => e = .returned (.string r) ∧ Below w.heap.size w w' := by
 have HR1 := Aside0.mk hr1
 have HC1 := Aside0.mk hc1
 clear hr1 hc1
 have HB := Aside0.mk (Below.refl w.heap.size w)
 have H : (impl_proofText.l0 k a0 l1 (l1.length : Int) 0) = some r := h
 clear h
 have H' := Aside0.mk H
 clear H
 go_enter Tryd.func43, Tryd.ntmps43
 go_wp2
 go_loopg [0, 9] k (fun kq v0 v9 w' => ∃ (x0_1 : ByteArray) (x9_1 : Int), v0 = .string x0_1 ∧ v9 = .int .i64 x9_1 ∧ Aside0 (impl_proofText.l0 kq x0_1 l1 (l1.length : Int) x9_1 = some r) ∧ Aside0 (kq ≤ k) ∧ Aside0 (Below w.heap.size w w'))
 case atStart => exact ⟨(a0), (0), (by rfl), (by rfl), H', ⟨Nat.le_refl _⟩, ⟨HB.out⟩⟩
 case round =>
  clear H'
  obtain ⟨x0_1, x9_1, rfl, rfl, HA, HK1, HB⟩ := hrel
  cases gk with
  | zero => exact absurd HA.out (by simp [impl_proofText.l0])
  | succ k1 =>
   have H := HA.out
   clear HA
   simp only [impl_proofText.l0] at H
   by_cases c3 : x9_1 < (l1.length : Int)
   ·rw [if_pos c3] at H
    have c3b0 : decide (x9_1 < (l1.length : Int)) = true := decide_eq_true c3
    clear c3
    by_cases c4 : 0 ≤ x9_1
    ·rw [if_pos c4] at H
     have c4b0 : decide (0 ≤ x9_1) = true := decide_eq_true c4
     clear c4
     by_cases c5 : x9_1 < (l1.length : Int)
     ·rw [if_pos c5] at H
      have c5b0 : decide (x9_1 < (l1.length : Int)) = true := decide_eq_true c5
      clear c5
      replace H := Option.bind_eq_some_iff.mp H
      obtain ⟨t253, A60, H⟩ := H
      replace H : (if 1 + t253.size ≤ 9223372036854775807 then (if x0_1.size + 1 + t253.size ≤ 9223372036854775807 then (impl_proofText.l0 k1 (x0_1 ++ ((⟨#[32]⟩ : ByteArray) ++ t253)) l1 (l1.length : Int) (wrap64 (x9_1 + 1))) else (none)) else (none)) = some r := H
      have A6 := Aside0.mk A60
      clear A60
      by_cases c7 : 1 + t253.size ≤ 9223372036854775807
      ·rw [if_pos c7] at H
       have c7b0 := eq_true c7
       have c7b1 : decide (1 + t253.size ≤ 9223372036854775807) = true := decide_eq_true c7
       try have c7b2 : (9223372036854775807 < 1 + t253.size) = False := eq_false (Nat.not_lt.2 c7)
       by_cases c8 : x0_1.size + 1 + t253.size ≤ 9223372036854775807
       ·rw [if_pos c8] at H
        have c8b0 := eq_true c8
        have c8b1 : decide (x0_1.size + 1 + t253.size ≤ 9223372036854775807) = true := decide_eq_true c8
        try have c8b2 : (9223372036854775807 < x0_1.size + 1 + t253.size) = False := eq_false (Nat.not_lt.2 c8)
        have H' := Aside0.mk H
        clear H
        have p252 : 0 ≤ (x9_1 : Int) := of_decide_eq_true (by (with_reducible assumption))
        have q252 : x9_1 < (l1.length : Int) := of_decide_eq_true (by (with_reducible assumption))
        obtain ⟨ad252, e252, hx252_0⟩ := Kd.at_int HR1.out x9_1 p252 q252
        cases e252
        replace hx252_0 := (HB.out.cell (World.block_lt_of_cell? w _ hx252_0)).trans hx252_0
        replace p252 := eq_true p252
        replace q252 := eq_true q252
        go_wp2_with (first | ((with_reducible refine gate_callee (f := 68) rfl ?_); refine goesL_ (some 15) rfl rfl Tryd.func68 (by kernel_rfl) rfl #[.int .i64 (rd l1 x9_1)] rfl (by (try simp only [List.map_toArray, List.map_cons, List.map_nil]); rfl) ?_; (with_reducible refine (strconv_Itoa_68.calls (rd l1 x9_1) t253 _ A6.out (Glob.below hG HB.out)).mono ?_); rintro e w9 ⟨rfl, hb⟩; refine ⟨_, rfl, ?_⟩; replace HB := Aside0.mk (below_step HB.out hb); (try clear hb)))
        go_roundg k1
        case measure => have := HK1.out; omega
        case rel => exact ⟨(x0_1 ++ ((⟨#[32]⟩ : ByteArray) ++ t253)), (wrap64 (x9_1 + 1)), (by rfl), (by rfl), H', ⟨by have := HK1.out; omega⟩, ⟨HB.out⟩⟩
       ·rw [if_neg c8] at H
        exact absurd H (by simp)
      ·rw [if_neg c7] at H
       exact absurd H (by simp)
     ·rw [if_neg c5] at H
      exact absurd H (by simp)
    ·rw [if_neg c4] at H
     exact absurd H (by simp)
   ·rw [if_neg c3] at H
    have c3b0 : decide (x9_1 < (l1.length : Int)) = false := decide_eq_false c3
    clear c3
    obtain rfl := Option.some.inj H
    go_wp2
    go_ret
    exact ⟨by first | rfl | (simp [*, errW_none, errW_some] <;> rfl), HB.out⟩


mutual
def impl_ProofDiffer.j0 : Nat → Bool → List Bool → List Bool → List Bool → List Bool → Option (ByteArray × Bool)
 | 0, _, _, _, _, _ => none
 | k + 1, x28, x712000, x712001, x720000, x720001 => if x28 = true then (some ((⟨#[]⟩ : ByteArray), false)) else ((impl_both.f k x712000 x712001 x720000 x720001).bind fun bt720 => (impl_ProofDiffer.l0 k (wrap64 (bt720.1 + bt720.2)) 0 x712000 x712001 x720000 x720001))
def impl_ProofDiffer.l0 : Nat → Int → Int → List Bool → List Bool → List Bool → List Bool → Option (ByteArray × Bool)
 | 0, _, _, _, _, _, _ => none
 | k + 1, x37, x38, x712000, x712001, x720000, x720001 => if x38 < x37 then ((impl_set_has.f x712000 x712001 x38).bind fun t722 => (if t722 = true then ((impl_set_has.f x720000 x720001 x38).bind fun t723 => (impl_ProofDiffer.j2 k x38 x37 x38 (!t723) x712000 x712001 x720000 x720001)) else (impl_ProofDiffer.j2 k x38 x37 x38 false x712000 x712001 x720000 x720001))) else (some ((⟨#[]⟩ : ByteArray), false))
def impl_ProofDiffer.j2 : Nat → Int → Int → Int → Bool → List Bool → List Bool → List Bool → List Bool → Option (ByteArray × Bool)
 | 0, _, _, _, _, _, _, _, _ => none
 | k + 1, x12, x37, x38, x41, x712000, x712001, x720000, x720001 => if x41 = true then ((impl_proofText.f k (⟨#[102, 105, 114, 115, 116]⟩ : ByteArray) (([x12] : List Int))).bind fun t727 => (some (t727, true))) else ((impl_set_has.f x720000 x720001 x12).bind fun t728 => (if t728 = true then ((impl_set_has.f x712000 x712001 x12).bind fun t729 => (if t729 = true then (impl_ProofDiffer.l0 k x37 (wrap64 (x38 + 1)) x712000 x712001 x720000 x720001) else ((impl_proofText.f k (⟨#[115, 101, 99, 111, 110, 100]⟩ : ByteArray) (([x12] : List Int))).bind fun t733 => (some (t733, true))))) else (impl_ProofDiffer.l0 k x37 (wrap64 (x38 + 1)) x712000 x712001 x720000 x720001)))
end
def impl_ProofDiffer.f (k : Nat) (a0 : ByteArray) (a1 : ByteArray) : Option (ByteArray × Bool) := (impl_setOf.f a0).bind fun bt704 => ((impl_setOf.f a1).bind fun bt712 => (if bt704.2.2 = true then (impl_ProofDiffer.j0 k (!bt712.2.2) bt704.1 bt704.2.1 bt712.1 bt712.2.1) else (impl_ProofDiffer.j0 k true bt704.1 bt704.2.1 bt712.1 bt712.2.1)))
theorem impl_ProofDiffer.mono_l : ∀ k, (∀ y0 y1 y2 y3 y4, LeO (impl_ProofDiffer.j0 k y0 y1 y2 y3 y4) (impl_ProofDiffer.j0 (k + 1) y0 y1 y2 y3 y4)) ∧ (∀ y0 y1 y2 y3 y4 y5, LeO (impl_ProofDiffer.l0 k y0 y1 y2 y3 y4 y5) (impl_ProofDiffer.l0 (k + 1) y0 y1 y2 y3 y4 y5)) ∧ (∀ y0 y1 y2 y3 y4 y5 y6 y7, LeO (impl_ProofDiffer.j2 k y0 y1 y2 y3 y4 y5 y6 y7) (impl_ProofDiffer.j2 (k + 1) y0 y1 y2 y3 y4 y5 y6 y7))
 | 0 => ⟨fun _ _ _ _ _ r h => by simp [impl_ProofDiffer.j0] at h, fun _ _ _ _ _ _ r h => by simp [impl_ProofDiffer.l0] at h, fun _ _ _ _ _ _ _ _ r h => by simp [impl_ProofDiffer.j2] at h⟩
 | k + 1 => by
  obtain ⟨ih0, ih1, ih2⟩ := impl_ProofDiffer.mono_l k
  refine ⟨?_, ?_, ?_⟩
  ·intro y0 y1 y2 y3 y4
   unfold impl_ProofDiffer.j0
   repeat' first | (with_reducible exact ih1 _ _ _ _ _ _) | (with_reducible exact impl_both.mono _ _ _ _ _) | (with_reducible exact LeO.refl _) | (with_reducible refine LeO.ite ?_ ?_) | (with_reducible refine LeO.bind ?_ (fun _ => ?_))
  ·intro y0 y1 y2 y3 y4 y5
   unfold impl_ProofDiffer.l0
   repeat' first | (with_reducible exact ih2 _ _ _ _ _ _ _ _) | (with_reducible exact LeO.refl _) | (with_reducible refine LeO.ite ?_ ?_) | (with_reducible refine LeO.bind ?_ (fun _ => ?_))
  ·intro y0 y1 y2 y3 y4 y5 y6 y7
   unfold impl_ProofDiffer.j2
   repeat' first | (with_reducible exact ih1 _ _ _ _ _ _) | (with_reducible exact impl_proofText.mono _ _ _) | (with_reducible exact LeO.refl _) | (with_reducible refine LeO.ite ?_ ?_) | (with_reducible refine LeO.bind ?_ (fun _ => ?_))
theorem impl_ProofDiffer.mono : ∀ a0 a1 k, LeO (impl_ProofDiffer.f k a0 a1) (impl_ProofDiffer.f (k + 1) a0 a1) := by
 intro a0 a1 k
 obtain ⟨ih0, ih1, ih2⟩ := impl_ProofDiffer.mono_l k
 unfold impl_ProofDiffer.f
 repeat' first | (with_reducible exact ih0 _ _ _ _ _) | (with_reducible exact LeO.refl _) | (with_reducible refine LeO.ite ?_ ?_) | (with_reducible refine LeO.bind ?_ (fun _ => ?_))
set_option maxHeartbeats 8000000 in
set_option maxRecDepth 100000 in
theorem impl_ProofDiffer.calls (k : Nat) (a0 : ByteArray) (a1 : ByteArray) (r1 : ByteArray) (r2 : Bool) (w : World) (h : impl_ProofDiffer.f k a0 a1 = some (r1, r2)) (hG : Glob w) :
  Calls Tryd.prog 28 #[.string a0, .string a1] w fun e w' => e = .returned (.tuple #[.string r1, .bool r2]) ∧ Below w.heap.size w w' := by
 have hu49 := Tryd.underlying49
 have HB := Aside0.mk (Below.refl w.heap.size w)
 have H : ((impl_setOf.f a0).bind fun bt704 => ((impl_setOf.f a1).bind fun bt712 => (if bt704.2.2 = true then (impl_ProofDiffer.j0 k (!bt712.2.2) bt704.1 bt704.2.1 bt712.1 bt712.2.1) else (impl_ProofDiffer.j0 k true bt704.1 bt704.2.1 bt712.1 bt712.2.1)))) = some (r1, r2) := h
 clear h
 replace H := Option.bind_eq_some_iff.mp H
 obtain ⟨⟨t704, t707, t710⟩, A30, H⟩ := H
 replace H : ((impl_setOf.f a1).bind fun bt712 => (if t710 = true then (impl_ProofDiffer.j0 k (!bt712.2.2) t704 t707 bt712.1 bt712.2.1) else (impl_ProofDiffer.j0 k true t704 t707 bt712.1 bt712.2.1))) = some (r1, r2) := H
 have A3 := Aside0.mk A30
 clear A30
 replace H := Option.bind_eq_some_iff.mp H
 obtain ⟨⟨t712, t715, t718⟩, A40, H⟩ := H
 replace H : (if t710 = true then (impl_ProofDiffer.j0 k (!t718) t704 t707 t712 t715) else (impl_ProofDiffer.j0 k true t704 t707 t712 t715)) = some (r1, r2) := H
 have A4 := Aside0.mk A40
 clear A40
 have HC5 := Aside0.mk H
 clear H
 go_enter Tryd.func28, Tryd.ntmps28
 go_upto_region 3 with (first | ((with_reducible refine gate_callee (f := 62) rfl ?_); refine goesL_ (some 15) rfl rfl Tryd.func62 (by kernel_rfl) rfl #[.string a0] rfl (by (try simp only [List.map_toArray, List.map_cons, List.map_nil]); rfl) ?_; (with_reducible refine (impl_setOf.calls a0 t704 t707 t710 _ A3.out).mono ?_); rintro e w6 ⟨v705, v708, rfl, ho0, ho1, hb⟩; refine ⟨_, rfl, ?_⟩; have HO706 := Aside0.mk (Kd.R_lower ho0 (below_size HB.out)); have HO709 := Aside0.mk (Kd.R_lower ho1 (below_size HB.out)); replace HB := Aside0.mk (below_step HB.out hb); (try clear hb); (try clear ho0); (try clear ho1)) | ((with_reducible refine gate_dst (N := 6) rfl ?_); refine box_event ?hg (N := 6) ?hd (cs := #[.slice none 0 0, .slice none 0 0]) (t := 49) ?hr ?_; (case hd => rfl); (case hg => rfl); (case hr => first | (go_simp; done)); intro gb711 hg w7 hbox hb; replace HO706 := Aside0.mk (Kd.R_below HO706.out hb); replace HO709 := Aside0.mk (Kd.R_below HO709.out hb); have BK711 := Aside0.mk hbox; have GW711 := Aside0.mk ((by rw [hg]; exact (below_size HB.out) : w.heap.size ≤ gb711)); have GE711 := Aside0.mk ((by rw [hg]; exact (below_size HB.out) : w.heap.size ≤ gb711)); replace HB := Aside0.mk (below_step HB.out hb); clear hb hbox hg; obtain ⟨Ao8, co8, eo8⟩ := Kd.R_slice HO706.out; subst eo8; have hcz9_0 : w7.cell? ⟨gb711, 0, none⟩ = some (.slice none 0 0) := (blk_cell BK711.out 0).trans rfl; have hcz9_1 : w7.cell? ⟨gb711, 1, none⟩ = some (.slice none 0 0) := (blk_cell BK711.out 1).trans rfl; have hfz9_0 := blk_frozen BK711.out 0; have hfz9_1 := blk_frozen BK711.out 1; obtain ⟨Ao10, co10, eo10⟩ := Kd.R_slice HO709.out; subst eo10) | ((with_reducible refine gate_callee (f := 62) rfl ?_); refine goesL_ (some 20) rfl rfl Tryd.func62 (by kernel_rfl) rfl #[.string a1] rfl (by (try simp only [List.map_toArray, List.map_cons, List.map_nil]); rfl) ?_; (with_reducible refine (impl_setOf.calls a1 t712 t715 t718 _ A4.out).mono ?_); rintro e w11 ⟨v713, v716, rfl, ho0, ho1, hb⟩; refine ⟨_, rfl, ?_⟩; have HO714 := Aside0.mk (Kd.R_lower (Kd.R_new' (Kd.R_new' ho0 (Kd.R_lt (by exact (Kd.R_mono (Kd.R_far (p := ⟨gb711, 1, none⟩) (Kd.R_far (p := ⟨gb711, 0, none⟩) (Kd.R_types HO706.out BK711.out (by decide)) (fun _ hk => hk.2) (.slice Ao8 t704.length co8)) (fun _ hk => hk.2) (.slice Ao10 t707.length co10)) (fun _ h_ => h_.1))))) (Kd.R_lt (by exact (Kd.R_mono (Kd.R_far (p := ⟨gb711, 1, none⟩) (Kd.R_far (p := ⟨gb711, 0, none⟩) (Kd.R_types HO709.out BK711.out (by decide)) (fun _ hk => hk.2) (.slice Ao8 t704.length co8)) (fun _ hk => hk.2) (.slice Ao10 t707.length co10)) (fun _ h_ => h_.1))))) (below_size (by repeat (first | (with_reducible first | exact HB.out | refine below_set ?_ GE711.out))))); have HO717 := Aside0.mk (Kd.R_lower (Kd.R_new' (Kd.R_new' ho1 (Kd.R_lt (by exact (Kd.R_mono (Kd.R_far (p := ⟨gb711, 1, none⟩) (Kd.R_far (p := ⟨gb711, 0, none⟩) (Kd.R_types HO706.out BK711.out (by decide)) (fun _ hk => hk.2) (.slice Ao8 t704.length co8)) (fun _ hk => hk.2) (.slice Ao10 t707.length co10)) (fun _ h_ => h_.1))))) (Kd.R_lt (by exact (Kd.R_mono (Kd.R_far (p := ⟨gb711, 1, none⟩) (Kd.R_far (p := ⟨gb711, 0, none⟩) (Kd.R_types HO709.out BK711.out (by decide)) (fun _ hk => hk.2) (.slice Ao8 t704.length co8)) (fun _ hk => hk.2) (.slice Ao10 t707.length co10)) (fun _ h_ => h_.1))))) (below_size (by repeat (first | (with_reducible first | exact HB.out | refine below_set ?_ GE711.out))))); replace HO706 := Aside0.mk (Kd.R_mono (Kd.R_told (Kd.R_told (Kd.R_old (by exact (Kd.R_mono (Kd.R_far (p := ⟨gb711, 1, none⟩) (Kd.R_far (p := ⟨gb711, 0, none⟩) (Kd.R_types HO706.out BK711.out (by decide)) (fun _ hk => hk.2) (.slice Ao8 t704.length co8)) (fun _ hk => hk.2) (.slice Ao10 t707.length co10)) (fun _ h_ => h_.1))) hb) (Kd.R_base ho0)) (Kd.R_base ho1)) (fun _ h_ => h_.1)); replace HO709 := Aside0.mk (Kd.R_mono (Kd.R_told (Kd.R_told (Kd.R_old (by exact (Kd.R_mono (Kd.R_far (p := ⟨gb711, 1, none⟩) (Kd.R_far (p := ⟨gb711, 0, none⟩) (Kd.R_types HO709.out BK711.out (by decide)) (fun _ hk => hk.2) (.slice Ao8 t704.length co8)) (fun _ hk => hk.2) (.slice Ao10 t707.length co10)) (fun _ h_ => h_.1))) hb) (Kd.R_base ho0)) (Kd.R_base ho1)) (fun _ h_ => h_.1)); replace BK711 := Aside0.mk (blk_below (g := gb711) (o := .cells #[.slice Ao8 t704.length co8, .slice Ao10 t707.length co10] 49 (0, 0)) (by refine blk_put (cs := #[.slice Ao8 t704.length co8, .slice none 0 0]) ?_ 1 _ rfl; refine blk_put (cs := #[.slice none 0 0, .slice none 0 0]) ?_ 0 _ rfl; exact BK711.out) hb); replace HB := Aside0.mk (below_step (by repeat (first | (with_reducible first | exact HB.out | refine below_set ?_ GE711.out))) hb); (try clear hb); (try clear ho0); (try clear ho1)) | ((with_reducible refine gate_dst (N := 8) rfl ?_); refine box_event ?hg (N := 8) ?hd (cs := #[.slice none 0 0, .slice none 0 0]) (t := 49) ?hr ?_; (case hd => rfl); (case hg => rfl); (case hr => first | (go_simp; done)); intro gb719 hg w12 hbox hb; replace HO706 := Aside0.mk (Kd.R_below HO706.out hb); replace HO709 := Aside0.mk (Kd.R_below HO709.out hb); replace HO714 := Aside0.mk (Kd.R_below HO714.out hb); replace HO717 := Aside0.mk (Kd.R_below HO717.out hb); have BK719 := Aside0.mk hbox; have GW719 := Aside0.mk ((by rw [hg]; exact (below_size HB.out) : w.heap.size ≤ gb719)); have GE719 := Aside0.mk ((by rw [hg]; exact (below_size HB.out) : w.heap.size ≤ gb719)); replace HB := Aside0.mk (below_step HB.out hb); have NB711_719 := Aside0.mk ((by rw [hg]; exact Nat.ne_of_lt (blk_lt (g := gb711) (o := .cells #[.slice Ao8 t704.length co8, .slice Ao10 t707.length co10] 49 (0, 0)) BK711.out) : gb711 ≠ gb719)); have NB719_711 := Aside0.mk ((by rw [hg]; exact Nat.ne_of_gt (blk_lt (g := gb711) (o := .cells #[.slice Ao8 t704.length co8, .slice Ao10 t707.length co10] 49 (0, 0)) BK711.out) : gb719 ≠ gb711)); replace BK711 := Aside0.mk (blk_below (g := gb711) (o := .cells #[.slice Ao8 t704.length co8, .slice Ao10 t707.length co10] 49 (0, 0)) BK711.out hb); clear hb hbox hg; obtain ⟨Ao13, co13, eo13⟩ := Kd.R_slice HO714.out; subst eo13; have hnb14 := NB719_711.out; have hnc14 := NB711_719.out; have hcz15_0 : w12.cell? ⟨gb719, 0, none⟩ = some (.slice none 0 0) := (blk_cell BK719.out 0).trans rfl; have hcz15_1 : w12.cell? ⟨gb719, 1, none⟩ = some (.slice none 0 0) := (blk_cell BK719.out 1).trans rfl; have hfz15_0 := blk_frozen BK719.out 0; have hfz15_1 := blk_frozen BK719.out 1; obtain ⟨Ao16, co16, eo16⟩ := Kd.R_slice HO717.out; subst eo16))
 go_cut [28] (fun v28 wc => ∃ (kq : Nat) (x28_4 : Bool), v28 = .bool x28_4 ∧ Aside0 (impl_ProofDiffer.j0 kq x28_4 t704 t707 t712 t715 = some (r1, r2)) ∧ Aside0 (kq ≤ k) ∧ Aside0 (Kd.R Kd.bool 4 wc w.heap.size (fun k_ => some k_ ≠ ((.slice Ao10 t707.length co10) : Value).ownBlock ∧ some k_ ≠ ((.slice Ao13 t712.length co13) : Value).ownBlock ∧ some k_ ≠ ((.slice Ao16 t715.length co16) : Value).ownBlock) (.slice Ao8 t704.length co8) t704) ∧ Aside0 (Kd.R Kd.bool 4 wc w.heap.size (fun k_ => some k_ ≠ ((.slice Ao8 t704.length co8) : Value).ownBlock ∧ some k_ ≠ ((.slice Ao13 t712.length co13) : Value).ownBlock ∧ some k_ ≠ ((.slice Ao16 t715.length co16) : Value).ownBlock) (.slice Ao10 t707.length co10) t707) ∧ Aside0 (Kd.R Kd.bool 4 wc w.heap.size (fun k_ => some k_ ≠ ((.slice Ao8 t704.length co8) : Value).ownBlock ∧ some k_ ≠ ((.slice Ao10 t707.length co10) : Value).ownBlock ∧ some k_ ≠ ((.slice Ao16 t715.length co16) : Value).ownBlock) (.slice Ao13 t712.length co13) t712) ∧ Aside0 (Kd.R Kd.bool 4 wc w.heap.size (fun k_ => some k_ ≠ ((.slice Ao8 t704.length co8) : Value).ownBlock ∧ some k_ ≠ ((.slice Ao10 t707.length co10) : Value).ownBlock ∧ some k_ ≠ ((.slice Ao13 t712.length co13) : Value).ownBlock) (.slice Ao16 t715.length co16) t715) ∧ Aside0 (wc.heap[gb711]? = some (.cells #[(.slice Ao8 t704.length co8), (.slice Ao10 t707.length co10)] 49 (0, 0))) ∧ Aside0 (wc.heap[gb719]? = some (.cells #[(.slice Ao13 t712.length co13), (.slice Ao16 t715.length co16)] 49 (0, 0))) ∧ Aside0 (Below w.heap.size w wc))
 case first =>
  have H := HC5.out
  clear HC5
  by_cases c17 : t710 = true
  ·subst c17
   replace H : (impl_ProofDiffer.j0 k (!t718) t704 t707 t712 t715) = some (r1, r2) := by rw [if_pos rfl] at H; exact H
   have H' := Aside0.mk H
   clear H
   go_wp2
   go_meet
   case rel => exact ⟨_, (!t718), (by rfl), H', ⟨by omega⟩, ⟨by exact Kd.R_mono (Kd.R_far (p := ⟨gb719, 1, none⟩) (Kd.R_far (p := ⟨gb719, 0, none⟩) (Kd.R_types HO706.out BK719.out (by decide)) (fun _ hk => hk.2) (.slice Ao13 t712.length co13)) (fun _ hk => hk.2) (.slice Ao16 t715.length co16)) (fun _ hk => ⟨hk.1.1.1, ⟨hk.1.1.2, hk.1.2⟩⟩)⟩, ⟨by exact Kd.R_mono (Kd.R_far (p := ⟨gb719, 1, none⟩) (Kd.R_far (p := ⟨gb719, 0, none⟩) (Kd.R_types HO709.out BK719.out (by decide)) (fun _ hk => hk.2) (.slice Ao13 t712.length co13)) (fun _ hk => hk.2) (.slice Ao16 t715.length co16)) (fun _ hk => ⟨hk.1.1.1, ⟨hk.1.1.2, hk.1.2⟩⟩)⟩, ⟨by exact Kd.R_mono (Kd.R_far (p := ⟨gb719, 1, none⟩) (Kd.R_far (p := ⟨gb719, 0, none⟩) (Kd.R_types HO714.out BK719.out (by decide)) (fun _ hk => hk.2) (.slice Ao13 t712.length co13)) (fun _ hk => hk.2) (.slice Ao16 t715.length co16)) (fun _ hk => ⟨hk.1.1.2, ⟨hk.1.2, hk.1.1.1⟩⟩)⟩, ⟨by exact Kd.R_mono (Kd.R_far (p := ⟨gb719, 1, none⟩) (Kd.R_far (p := ⟨gb719, 0, none⟩) (Kd.R_types HO717.out BK719.out (by decide)) (fun _ hk => hk.2) (.slice Ao13 t712.length co13)) (fun _ hk => hk.2) (.slice Ao16 t715.length co16)) (fun _ hk => ⟨hk.1.1.2, ⟨hk.1.2, hk.1.1.1⟩⟩)⟩, ⟨by refine blk_far ?_ NB711_719.out _; refine blk_far ?_ NB711_719.out _; exact BK711.out⟩, ⟨by refine blk_put (cs := #[.slice Ao13 t712.length co13, .slice none 0 0]) ?_ 1 _ rfl; refine blk_put (cs := #[.slice none 0 0, .slice none 0 0]) ?_ 0 _ rfl; exact BK719.out⟩, ⟨by repeat (first | (with_reducible first | exact HB.out | refine below_set ?_ GE719.out))⟩⟩
  ·replace c17 := Bool.eq_false_iff.mpr c17
   subst c17
   replace H : (impl_ProofDiffer.j0 k true t704 t707 t712 t715) = some (r1, r2) := by rw [if_neg (show ¬ (false = true) by decide)] at H; exact H
   have H' := Aside0.mk H
   clear H
   go_wp2
   go_meet
   case rel => exact ⟨_, (true), (by rfl), H', ⟨by omega⟩, ⟨by exact Kd.R_mono (Kd.R_far (p := ⟨gb719, 1, none⟩) (Kd.R_far (p := ⟨gb719, 0, none⟩) (Kd.R_types HO706.out BK719.out (by decide)) (fun _ hk => hk.2) (.slice Ao13 t712.length co13)) (fun _ hk => hk.2) (.slice Ao16 t715.length co16)) (fun _ hk => ⟨hk.1.1.1, ⟨hk.1.1.2, hk.1.2⟩⟩)⟩, ⟨by exact Kd.R_mono (Kd.R_far (p := ⟨gb719, 1, none⟩) (Kd.R_far (p := ⟨gb719, 0, none⟩) (Kd.R_types HO709.out BK719.out (by decide)) (fun _ hk => hk.2) (.slice Ao13 t712.length co13)) (fun _ hk => hk.2) (.slice Ao16 t715.length co16)) (fun _ hk => ⟨hk.1.1.1, ⟨hk.1.1.2, hk.1.2⟩⟩)⟩, ⟨by exact Kd.R_mono (Kd.R_far (p := ⟨gb719, 1, none⟩) (Kd.R_far (p := ⟨gb719, 0, none⟩) (Kd.R_types HO714.out BK719.out (by decide)) (fun _ hk => hk.2) (.slice Ao13 t712.length co13)) (fun _ hk => hk.2) (.slice Ao16 t715.length co16)) (fun _ hk => ⟨hk.1.1.2, ⟨hk.1.2, hk.1.1.1⟩⟩)⟩, ⟨by exact Kd.R_mono (Kd.R_far (p := ⟨gb719, 1, none⟩) (Kd.R_far (p := ⟨gb719, 0, none⟩) (Kd.R_types HO717.out BK719.out (by decide)) (fun _ hk => hk.2) (.slice Ao13 t712.length co13)) (fun _ hk => hk.2) (.slice Ao16 t715.length co16)) (fun _ hk => ⟨hk.1.1.2, ⟨hk.1.2, hk.1.1.1⟩⟩)⟩, ⟨by refine blk_far ?_ NB711_719.out _; refine blk_far ?_ NB711_719.out _; exact BK711.out⟩, ⟨by refine blk_put (cs := #[.slice Ao13 t712.length co13, .slice none 0 0]) ?_ 1 _ rfl; refine blk_put (cs := #[.slice none 0 0, .slice none 0 0]) ?_ 0 _ rfl; exact BK719.out⟩, ⟨by repeat (first | (with_reducible first | exact HB.out | refine below_set ?_ GE719.out))⟩⟩
 case rest =>
  clear HC5
  try clear hcz15_0
  try clear hcz15_1
  try clear hcz9_0
  try clear hcz9_1
  try clear hfz15_0
  try clear hfz15_1
  try clear hfz9_0
  try clear hfz9_1
  obtain ⟨kq, x28_4, rfl, HA, HJ4, HO_712000, HO_712001, HO_720000, HO_720001, BK711, BK719, HB⟩ := hcut
  cases kq with
  | zero => exact absurd HA.out (by simp [impl_ProofDiffer.j0])
  | succ kj4 =>
   have H := HA.out
   clear HA
   simp only [impl_ProofDiffer.j0] at H
   by_cases c18 : x28_4 = true
   ·subst c18
    replace H : (some ((⟨#[]⟩ : ByteArray), false)) = some (r1, r2) := by rw [if_pos rfl] at H; exact H
    simp only [Option.some.injEq, Prod.mk.injEq] at H
    obtain ⟨rfl, rfl⟩ := H
    go_wp2
    go_ret2
    exact ⟨by first | rfl | (simp [*, errW_none, errW_some] <;> rfl), HB.out⟩
   ·replace c18 := Bool.eq_false_iff.mpr c18
    subst c18
    replace H : ((impl_both.f kj4 t704 t707 t712 t715).bind fun bt720 => (impl_ProofDiffer.l0 kj4 (wrap64 (bt720.1 + bt720.2)) 0 t704 t707 t712 t715)) = some (r1, r2) := by rw [if_neg (show ¬ (false = true) by decide)] at H; exact H
    replace H := Option.bind_eq_some_iff.mp H
    obtain ⟨⟨t720, t721⟩, A190, H⟩ := H
    replace H : (impl_ProofDiffer.l0 kj4 (wrap64 (t720 + t721)) 0 t704 t707 t712 t715) = some (r1, r2) := H
    have A19 := Aside0.mk A190
    clear A190
    have H' := Aside0.mk H
    clear H
    have hnb20 := NB711_719.out
    have hnc20 := NB719_711.out
    have hcz21_0 : wc.cell? ⟨gb711, 0, none⟩ = some (.slice Ao8 t704.length co8) := (blk_cell BK711.out 0).trans rfl
    have hcz21_1 : wc.cell? ⟨gb711, 1, none⟩ = some (.slice Ao10 t707.length co10) := (blk_cell BK711.out 1).trans rfl
    have hfz21_0 := blk_frozen BK711.out 0
    have hfz21_1 := blk_frozen BK711.out 1
    have hcz22_0 : wc.cell? ⟨gb719, 0, none⟩ = some (.slice Ao13 t712.length co13) := (blk_cell BK719.out 0).trans rfl
    have hcz22_1 : wc.cell? ⟨gb719, 1, none⟩ = some (.slice Ao16 t715.length co16) := (blk_cell BK719.out 1).trans rfl
    have hfz22_0 := blk_frozen BK719.out 0
    have hfz22_1 := blk_frozen BK719.out 1
    go_wp2_with (first | ((with_reducible refine gate_callee (f := 63) rfl ?_); refine goesL_ (some 32) rfl rfl Tryd.func63 (by kernel_rfl) rfl #[.agg #[.slice Ao8 t704.length co8, .slice Ao10 t707.length co10], .agg #[.slice Ao13 t712.length co13, .slice Ao16 t715.length co16]] rfl (by (try simp only [List.map_toArray, List.map_cons, List.map_nil]); rfl) ?_; (with_reducible refine (impl_both.calls kj4 _ _ t704 _ _ t707 _ _ t712 _ _ t715 t720 t721 _ ?side1 ?side2 ?side3 ?side4 ?side5 ?side6 ?side7 ?side8 A19.out).mono ?_); (case side1 => repeat (exact (Kd.R_reads' HO_712000.out).2.2)); (case side2 => exact (Kd.R_reads' HO_712000.out).2.1); (case side3 => repeat (exact (Kd.R_reads' HO_712001.out).2.2)); (case side4 => exact (Kd.R_reads' HO_712001.out).2.1); (case side5 => repeat (exact (Kd.R_reads' HO_720000.out).2.2)); (case side6 => exact (Kd.R_reads' HO_720000.out).2.1); (case side7 => repeat (exact (Kd.R_reads' HO_720001.out).2.2)); (case side8 => exact (Kd.R_reads' HO_720001.out).2.1); rintro e w23 ⟨rfl, hb⟩; refine ⟨_, rfl, ?_⟩; replace HO_712000 := Aside0.mk (Kd.R_below HO_712000.out hb); replace HO_712001 := Aside0.mk (Kd.R_below HO_712001.out hb); replace HO_720000 := Aside0.mk (Kd.R_below HO_720000.out hb); replace HO_720001 := Aside0.mk (Kd.R_below HO_720001.out hb); replace BK711 := Aside0.mk (blk_below (g := gb711) (o := .cells #[.slice Ao8 t704.length co8, .slice Ao10 t707.length co10] 49 (0, 0)) BK711.out hb); replace BK719 := Aside0.mk (blk_below (g := gb719) (o := .cells #[.slice Ao13 t712.length co13, .slice Ao16 t715.length co16] 49 (0, 0)) BK719.out hb); replace HB := Aside0.mk (below_step HB.out hb); (try clear hb)))
    go_loopg [38] kj4 (fun kq v38 w' => ∃ (x38_2 : Int), v38 = .int .i64 x38_2 ∧ Aside0 (impl_ProofDiffer.l0 kq (wrap64 (t720 + t721)) x38_2 t704 t707 t712 t715 = some (r1, r2)) ∧ Aside0 (kq ≤ kj4) ∧ Aside0 (Kd.R Kd.bool 4 w' w.heap.size (fun k_ => some k_ ≠ ((.slice Ao10 t707.length co10) : Value).ownBlock ∧ some k_ ≠ ((.slice Ao13 t712.length co13) : Value).ownBlock ∧ some k_ ≠ ((.slice Ao16 t715.length co16) : Value).ownBlock) (.slice Ao8 t704.length co8) t704) ∧ Aside0 (Kd.R Kd.bool 4 w' w.heap.size (fun k_ => some k_ ≠ ((.slice Ao8 t704.length co8) : Value).ownBlock ∧ some k_ ≠ ((.slice Ao13 t712.length co13) : Value).ownBlock ∧ some k_ ≠ ((.slice Ao16 t715.length co16) : Value).ownBlock) (.slice Ao10 t707.length co10) t707) ∧ Aside0 (Kd.R Kd.bool 4 w' w.heap.size (fun k_ => some k_ ≠ ((.slice Ao8 t704.length co8) : Value).ownBlock ∧ some k_ ≠ ((.slice Ao10 t707.length co10) : Value).ownBlock ∧ some k_ ≠ ((.slice Ao16 t715.length co16) : Value).ownBlock) (.slice Ao13 t712.length co13) t712) ∧ Aside0 (Kd.R Kd.bool 4 w' w.heap.size (fun k_ => some k_ ≠ ((.slice Ao8 t704.length co8) : Value).ownBlock ∧ some k_ ≠ ((.slice Ao10 t707.length co10) : Value).ownBlock ∧ some k_ ≠ ((.slice Ao13 t712.length co13) : Value).ownBlock) (.slice Ao16 t715.length co16) t715) ∧ Aside0 (w'.heap[gb711]? = some (.cells #[(.slice Ao8 t704.length co8), (.slice Ao10 t707.length co10)] 49 (0, 0))) ∧ Aside0 (w'.heap[gb719]? = some (.cells #[(.slice Ao13 t712.length co13), (.slice Ao16 t715.length co16)] 49 (0, 0))) ∧ Aside0 (Below w.heap.size w w'))
    case atStart => exact ⟨(0), (by rfl), H', ⟨Nat.le_refl _⟩, ⟨by exact HO_712000.out⟩, ⟨by exact HO_712001.out⟩, ⟨by exact HO_720000.out⟩, ⟨by exact HO_720001.out⟩, ⟨by exact BK711.out⟩, ⟨by exact BK719.out⟩, ⟨HB.out⟩⟩
    case round =>
     clear H'
     try clear hcz21_0
     try clear hcz21_1
     try clear hcz22_0
     try clear hcz22_1
     try clear hfz21_0
     try clear hfz21_1
     try clear hfz22_0
     try clear hfz22_1
     obtain ⟨x38_2, rfl, HA, HK2, HO_712000, HO_712001, HO_720000, HO_720001, BK711, BK719, HB⟩ := hrel
     cases gk with
     | zero => exact absurd HA.out (by simp [impl_ProofDiffer.l0])
     | succ k2 =>
      have H := HA.out
      clear HA
      simp only [impl_ProofDiffer.l0] at H
      by_cases c24 : x38_2 < (wrap64 (t720 + t721))
      ·rw [if_pos c24] at H
       have c24b0 : decide (x38_2 < (wrap64 (t720 + t721))) = true := decide_eq_true c24
       clear c24
       have HC25 := Aside0.mk H
       clear H
       go_upto_region 9 with (fail)
       go_cut [41] (fun v41 wc => ∃ (kq : Nat) (x41_24 : Bool), v41 = .bool x41_24 ∧ Aside0 (impl_ProofDiffer.j2 kq x38_2 (wrap64 (t720 + t721)) x38_2 x41_24 t704 t707 t712 t715 = some (r1, r2)) ∧ Aside0 (kq ≤ k2) ∧ Aside0 (Kd.R Kd.bool 4 wc w.heap.size (fun k_ => some k_ ≠ ((.slice Ao10 t707.length co10) : Value).ownBlock ∧ some k_ ≠ ((.slice Ao13 t712.length co13) : Value).ownBlock ∧ some k_ ≠ ((.slice Ao16 t715.length co16) : Value).ownBlock) (.slice Ao8 t704.length co8) t704) ∧ Aside0 (Kd.R Kd.bool 4 wc w.heap.size (fun k_ => some k_ ≠ ((.slice Ao8 t704.length co8) : Value).ownBlock ∧ some k_ ≠ ((.slice Ao13 t712.length co13) : Value).ownBlock ∧ some k_ ≠ ((.slice Ao16 t715.length co16) : Value).ownBlock) (.slice Ao10 t707.length co10) t707) ∧ Aside0 (Kd.R Kd.bool 4 wc w.heap.size (fun k_ => some k_ ≠ ((.slice Ao8 t704.length co8) : Value).ownBlock ∧ some k_ ≠ ((.slice Ao10 t707.length co10) : Value).ownBlock ∧ some k_ ≠ ((.slice Ao16 t715.length co16) : Value).ownBlock) (.slice Ao13 t712.length co13) t712) ∧ Aside0 (Kd.R Kd.bool 4 wc w.heap.size (fun k_ => some k_ ≠ ((.slice Ao8 t704.length co8) : Value).ownBlock ∧ some k_ ≠ ((.slice Ao10 t707.length co10) : Value).ownBlock ∧ some k_ ≠ ((.slice Ao13 t712.length co13) : Value).ownBlock) (.slice Ao16 t715.length co16) t715) ∧ Aside0 (wc.heap[gb711]? = some (.cells #[(.slice Ao8 t704.length co8), (.slice Ao10 t707.length co10)] 49 (0, 0))) ∧ Aside0 (wc.heap[gb719]? = some (.cells #[(.slice Ao13 t712.length co13), (.slice Ao16 t715.length co16)] 49 (0, 0))) ∧ Aside0 (Below w.heap.size w wc))
       case first =>
        have H := HC25.out
        clear HC25
        replace H := Option.bind_eq_some_iff.mp H
        obtain ⟨t722, A260, H⟩ := H
        replace H : (if t722 = true then ((impl_set_has.f t712 t715 x38_2).bind fun t723 => (impl_ProofDiffer.j2 k2 x38_2 (wrap64 (t720 + t721)) x38_2 (!t723) t704 t707 t712 t715)) else (impl_ProofDiffer.j2 k2 x38_2 (wrap64 (t720 + t721)) x38_2 false t704 t707 t712 t715)) = some (r1, r2) := H
        have A26 := Aside0.mk A260
        clear A260
        by_cases c27 : t722 = true
        ·subst c27
         replace H : ((impl_set_has.f t712 t715 x38_2).bind fun t723 => (impl_ProofDiffer.j2 k2 x38_2 (wrap64 (t720 + t721)) x38_2 (!t723) t704 t707 t712 t715)) = some (r1, r2) := by rw [if_pos rfl] at H; exact H
         replace H := Option.bind_eq_some_iff.mp H
         obtain ⟨t723, A280, H⟩ := H
         replace H : (impl_ProofDiffer.j2 k2 x38_2 (wrap64 (t720 + t721)) x38_2 (!t723) t704 t707 t712 t715) = some (r1, r2) := H
         have A28 := Aside0.mk A280
         clear A280
         have H' := Aside0.mk H
         clear H
         have hnb29 := NB711_719.out
         have hnc29 := NB719_711.out
         have hcz30_0 : wr.cell? ⟨gb711, 0, none⟩ = some (.slice Ao8 t704.length co8) := (blk_cell BK711.out 0).trans rfl
         have hcz30_1 : wr.cell? ⟨gb711, 1, none⟩ = some (.slice Ao10 t707.length co10) := (blk_cell BK711.out 1).trans rfl
         have hfz30_0 := blk_frozen BK711.out 0
         have hfz30_1 := blk_frozen BK711.out 1
         go_wp2_with (first | ((with_reducible refine gate_callee (f := 58) rfl ?_); refine goesL_ (some 44) rfl rfl Tryd.func58 (by kernel_rfl) rfl #[.agg #[.slice Ao8 t704.length co8, .slice Ao10 t707.length co10], .int .i64 x38_2] rfl (by (try simp only [List.map_toArray, List.map_cons, List.map_nil]); rfl) ?_; (with_reducible refine (impl_set_has.calls _ _ t704 _ _ t707 x38_2 true _ ?side1 ?side2 ?side3 ?side4 A26.out).mono ?_); (case side1 => repeat (exact (Kd.R_reads' HO_712000.out).2.2)); (case side2 => exact (Kd.R_reads' HO_712000.out).2.1); (case side3 => repeat (exact (Kd.R_reads' HO_712001.out).2.2)); (case side4 => exact (Kd.R_reads' HO_712001.out).2.1); rintro e w31 ⟨rfl, hb⟩; refine ⟨_, rfl, ?_⟩; replace HO_712000 := Aside0.mk (Kd.R_below HO_712000.out hb); replace HO_712001 := Aside0.mk (Kd.R_below HO_712001.out hb); replace HO_720000 := Aside0.mk (Kd.R_below HO_720000.out hb); replace HO_720001 := Aside0.mk (Kd.R_below HO_720001.out hb); replace BK711 := Aside0.mk (blk_below (g := gb711) (o := .cells #[.slice Ao8 t704.length co8, .slice Ao10 t707.length co10] 49 (0, 0)) BK711.out hb); replace BK719 := Aside0.mk (blk_below (g := gb719) (o := .cells #[.slice Ao13 t712.length co13, .slice Ao16 t715.length co16] 49 (0, 0)) BK719.out hb); replace HB := Aside0.mk (below_step HB.out hb); (try clear hb); have hcz32_0 : w31.cell? ⟨gb719, 0, none⟩ = some (.slice Ao13 t712.length co13) := (blk_cell BK719.out 0).trans rfl; have hcz32_1 : w31.cell? ⟨gb719, 1, none⟩ = some (.slice Ao16 t715.length co16) := (blk_cell BK719.out 1).trans rfl; have hfz32_0 := blk_frozen BK719.out 0; have hfz32_1 := blk_frozen BK719.out 1) | (go_at_call 58; (with_reducible refine (impl_set_has.calls _ _ t712 _ _ t715 x38_2 t723 _ ?side1 ?side2 ?side3 ?side4 A28.out).mono ?_); (case side1 => repeat (exact (Kd.R_reads' HO_720000.out).2.2)); (case side2 => exact (Kd.R_reads' HO_720000.out).2.1); (case side3 => repeat (exact (Kd.R_reads' HO_720001.out).2.2)); (case side4 => exact (Kd.R_reads' HO_720001.out).2.1); rintro e w33 ⟨rfl, hb⟩; replace HO_712000 := Aside0.mk (Kd.R_below HO_712000.out hb); replace HO_712001 := Aside0.mk (Kd.R_below HO_712001.out hb); replace HO_720000 := Aside0.mk (Kd.R_below HO_720000.out hb); replace HO_720001 := Aside0.mk (Kd.R_below HO_720001.out hb); replace BK711 := Aside0.mk (blk_below (g := gb711) (o := .cells #[.slice Ao8 t704.length co8, .slice Ao10 t707.length co10] 49 (0, 0)) BK711.out hb); replace BK719 := Aside0.mk (blk_below (g := gb719) (o := .cells #[.slice Ao13 t712.length co13, .slice Ao16 t715.length co16] 49 (0, 0)) BK719.out hb); replace HB := Aside0.mk (below_step HB.out hb); (try clear hb)))
         go_meet
         case rel => exact ⟨_, (!t723), (by rfl), H', ⟨by have := HJ4.out; have := HK2.out; omega⟩, ⟨by exact HO_712000.out⟩, ⟨by exact HO_712001.out⟩, ⟨by exact HO_720000.out⟩, ⟨by exact HO_720001.out⟩, ⟨by exact BK711.out⟩, ⟨by exact BK719.out⟩, ⟨HB.out⟩⟩
        ·replace c27 := Bool.eq_false_iff.mpr c27
         subst c27
         replace H : (impl_ProofDiffer.j2 k2 x38_2 (wrap64 (t720 + t721)) x38_2 false t704 t707 t712 t715) = some (r1, r2) := by rw [if_neg (show ¬ (false = true) by decide)] at H; exact H
         have H' := Aside0.mk H
         clear H
         have hnb34 := NB711_719.out
         have hnc34 := NB719_711.out
         have hcz35_0 : wr.cell? ⟨gb711, 0, none⟩ = some (.slice Ao8 t704.length co8) := (blk_cell BK711.out 0).trans rfl
         have hcz35_1 : wr.cell? ⟨gb711, 1, none⟩ = some (.slice Ao10 t707.length co10) := (blk_cell BK711.out 1).trans rfl
         have hfz35_0 := blk_frozen BK711.out 0
         have hfz35_1 := blk_frozen BK711.out 1
         go_wp2_with (first | ((with_reducible refine gate_callee (f := 58) rfl ?_); refine goesL_ (some 44) rfl rfl Tryd.func58 (by kernel_rfl) rfl #[.agg #[.slice Ao8 t704.length co8, .slice Ao10 t707.length co10], .int .i64 x38_2] rfl (by (try simp only [List.map_toArray, List.map_cons, List.map_nil]); rfl) ?_; (with_reducible refine (impl_set_has.calls _ _ t704 _ _ t707 x38_2 false _ ?side1 ?side2 ?side3 ?side4 A26.out).mono ?_); (case side1 => repeat (exact (Kd.R_reads' HO_712000.out).2.2)); (case side2 => exact (Kd.R_reads' HO_712000.out).2.1); (case side3 => repeat (exact (Kd.R_reads' HO_712001.out).2.2)); (case side4 => exact (Kd.R_reads' HO_712001.out).2.1); rintro e w36 ⟨rfl, hb⟩; refine ⟨_, rfl, ?_⟩; replace HO_712000 := Aside0.mk (Kd.R_below HO_712000.out hb); replace HO_712001 := Aside0.mk (Kd.R_below HO_712001.out hb); replace HO_720000 := Aside0.mk (Kd.R_below HO_720000.out hb); replace HO_720001 := Aside0.mk (Kd.R_below HO_720001.out hb); replace BK711 := Aside0.mk (blk_below (g := gb711) (o := .cells #[.slice Ao8 t704.length co8, .slice Ao10 t707.length co10] 49 (0, 0)) BK711.out hb); replace BK719 := Aside0.mk (blk_below (g := gb719) (o := .cells #[.slice Ao13 t712.length co13, .slice Ao16 t715.length co16] 49 (0, 0)) BK719.out hb); replace HB := Aside0.mk (below_step HB.out hb); (try clear hb)))
         go_meet
         case rel => exact ⟨_, (false), (by rfl), H', ⟨by have := HJ4.out; have := HK2.out; omega⟩, ⟨by exact HO_712000.out⟩, ⟨by exact HO_712001.out⟩, ⟨by exact HO_720000.out⟩, ⟨by exact HO_720001.out⟩, ⟨by exact BK711.out⟩, ⟨by exact BK719.out⟩, ⟨HB.out⟩⟩
       case rest =>
        clear HC25
        try clear c24b0
        obtain ⟨kq, x41_24, rfl, HA, HJ24, HO_712000, HO_712001, HO_720000, HO_720001, BK711, BK719, HB⟩ := hcut
        cases kq with
        | zero => exact absurd HA.out (by simp [impl_ProofDiffer.j2])
        | succ kj24 =>
         have H := HA.out
         clear HA
         simp only [impl_ProofDiffer.j2] at H
         by_cases c37 : x41_24 = true
         ·subst c37
          replace H : ((impl_proofText.f kj24 (⟨#[102, 105, 114, 115, 116]⟩ : ByteArray) (([x38_2] : List Int))).bind fun t727 => (some (t727, true))) = some (r1, r2) := by rw [if_pos rfl] at H; exact H
          obtain ⟨y724, hy724⟩ : ∃ y_ : List Int, y_ = (([x38_2] : List Int)) := ⟨_, rfl⟩
          replace H : ((impl_proofText.f kj24 (⟨#[102, 105, 114, 115, 116]⟩ : ByteArray) y724).bind fun t727 => (some (t727, true))) = some (r1, r2) := by first | (rw [hy724]; with_reducible exact H)
          have Ny724 := Aside0.mk hy724
          clear hy724
          replace H := Option.bind_eq_some_iff.mp H
          obtain ⟨t727, A380, H⟩ := H
          replace H : (some (t727, true)) = some (r1, r2) := H
          have A38 := Aside0.mk A380
          clear A380
          simp only [Option.some.injEq, Prod.mk.injEq] at H
          obtain ⟨rfl, rfl⟩ := H
          go_wp2_with (first | ((with_reducible refine gate_dst (N := 52) rfl ?_); refine Kd.R_lit (Kd.int .i64) _ 3 ?hg (N := 52) ?hd (xs := ([x38_2] : List Int)) (inner := [.int .i64 x38_2]) (ok := fun _ => True) (okp := fun _ => True) ?hr ?hp (fun _ hk => hk) trivial (Below.refl _ _) (Nat.le_refl _) (by simp) ?_; (case hd => rfl); (case hg => rfl); (case hr => first | (go_simp; done)); (case hp => exact (Reps.one (show Kd.M (Kd.int .i64) _ _ _ x38_2 [.int .i64 x38_2] from rfl) (Reps.none _ _))); intro v725 w39 ho40 hb hg_ hnew_; clear hg_ hnew_; (rw [← Ny724.out] at ho40); replace HO_712000 := Aside0.mk (Kd.R_below HO_712000.out hb); replace HO_712001 := Aside0.mk (Kd.R_below HO_712001.out hb); replace HO_720000 := Aside0.mk (Kd.R_below HO_720000.out hb); replace HO_720001 := Aside0.mk (Kd.R_below HO_720001.out hb); have HO726 := Aside0.mk (Kd.R_lower ho40 (below_size HB.out)); replace BK711 := Aside0.mk (blk_below (g := gb711) (o := .cells #[.slice Ao8 t704.length co8, .slice Ao10 t707.length co10] 49 (0, 0)) BK711.out hb); replace BK719 := Aside0.mk (blk_below (g := gb719) (o := .cells #[.slice Ao13 t712.length co13, .slice Ao16 t715.length co16] 49 (0, 0)) BK719.out hb); replace HB := Aside0.mk (below_step HB.out hb); clear hb ho40; obtain ⟨Ao41, co41, eo41⟩ := Kd.R_slice HO726.out; subst eo41) | ((with_reducible refine gate_callee (f := 43) rfl ?_); refine goesL_ (some 53) rfl rfl Tryd.func43 (by kernel_rfl) rfl #[.string (⟨#[102, 105, 114, 115, 116]⟩ : ByteArray), .slice Ao41 y724.length co41] rfl (by (try simp only [List.map_toArray, List.map_cons, List.map_nil]); rfl) ?_; (with_reducible refine (impl_proofText.calls kj24 (⟨#[102, 105, 114, 115, 116]⟩ : ByteArray) _ _ y724 t727 _ ?side1 ?side2 A38.out (Glob.below hG HB.out)).mono ?_); (case side1 => repeat (exact (Kd.R_reads' HO726.out).2.2)); (case side2 => exact (Kd.R_reads' HO726.out).2.1); rintro e w42 ⟨rfl, hb⟩; refine ⟨_, rfl, ?_⟩; replace HO_712000 := Aside0.mk (Kd.R_below HO_712000.out hb); replace HO_712001 := Aside0.mk (Kd.R_below HO_712001.out hb); replace HO_720000 := Aside0.mk (Kd.R_below HO_720000.out hb); replace HO_720001 := Aside0.mk (Kd.R_below HO_720001.out hb); replace HO726 := Aside0.mk (Kd.R_below HO726.out hb); replace BK711 := Aside0.mk (blk_below (g := gb711) (o := .cells #[.slice Ao8 t704.length co8, .slice Ao10 t707.length co10] 49 (0, 0)) BK711.out hb); replace BK719 := Aside0.mk (blk_below (g := gb719) (o := .cells #[.slice Ao13 t712.length co13, .slice Ao16 t715.length co16] 49 (0, 0)) BK719.out hb); replace HB := Aside0.mk (below_step HB.out hb); (try clear hb)))
          go_ret2
          exact ⟨by first | rfl | (simp [*, errW_none, errW_some] <;> rfl), HB.out⟩
         ·replace c37 := Bool.eq_false_iff.mpr c37
          subst c37
          replace H : ((impl_set_has.f t712 t715 x38_2).bind fun t728 => (if t728 = true then ((impl_set_has.f t704 t707 x38_2).bind fun t729 => (if t729 = true then (impl_ProofDiffer.l0 kj24 (wrap64 (t720 + t721)) (wrap64 (x38_2 + 1)) t704 t707 t712 t715) else ((impl_proofText.f kj24 (⟨#[115, 101, 99, 111, 110, 100]⟩ : ByteArray) (([x38_2] : List Int))).bind fun t733 => (some (t733, true))))) else (impl_ProofDiffer.l0 kj24 (wrap64 (t720 + t721)) (wrap64 (x38_2 + 1)) t704 t707 t712 t715))) = some (r1, r2) := by rw [if_neg (show ¬ (false = true) by decide)] at H; exact H
          replace H := Option.bind_eq_some_iff.mp H
          obtain ⟨t728, A430, H⟩ := H
          replace H : (if t728 = true then ((impl_set_has.f t704 t707 x38_2).bind fun t729 => (if t729 = true then (impl_ProofDiffer.l0 kj24 (wrap64 (t720 + t721)) (wrap64 (x38_2 + 1)) t704 t707 t712 t715) else ((impl_proofText.f kj24 (⟨#[115, 101, 99, 111, 110, 100]⟩ : ByteArray) (([x38_2] : List Int))).bind fun t733 => (some (t733, true))))) else (impl_ProofDiffer.l0 kj24 (wrap64 (t720 + t721)) (wrap64 (x38_2 + 1)) t704 t707 t712 t715)) = some (r1, r2) := H
          have A43 := Aside0.mk A430
          clear A430
          by_cases c44 : t728 = true
          ·subst c44
           replace H : ((impl_set_has.f t704 t707 x38_2).bind fun t729 => (if t729 = true then (impl_ProofDiffer.l0 kj24 (wrap64 (t720 + t721)) (wrap64 (x38_2 + 1)) t704 t707 t712 t715) else ((impl_proofText.f kj24 (⟨#[115, 101, 99, 111, 110, 100]⟩ : ByteArray) (([x38_2] : List Int))).bind fun t733 => (some (t733, true))))) = some (r1, r2) := by rw [if_pos rfl] at H; exact H
           replace H := Option.bind_eq_some_iff.mp H
           obtain ⟨t729, A450, H⟩ := H
           replace H : (if t729 = true then (impl_ProofDiffer.l0 kj24 (wrap64 (t720 + t721)) (wrap64 (x38_2 + 1)) t704 t707 t712 t715) else ((impl_proofText.f kj24 (⟨#[115, 101, 99, 111, 110, 100]⟩ : ByteArray) (([x38_2] : List Int))).bind fun t733 => (some (t733, true)))) = some (r1, r2) := H
           have A45 := Aside0.mk A450
           clear A450
           by_cases c46 : t729 = true
           ·subst c46
            replace H : (impl_ProofDiffer.l0 kj24 (wrap64 (t720 + t721)) (wrap64 (x38_2 + 1)) t704 t707 t712 t715) = some (r1, r2) := by rw [if_pos rfl] at H; exact H
            have H' := Aside0.mk H
            clear H
            have hnb47 := NB719_711.out
            have hnc47 := NB711_719.out
            have hcz48_0 : wc.cell? ⟨gb719, 0, none⟩ = some (.slice Ao13 t712.length co13) := (blk_cell BK719.out 0).trans rfl
            have hcz48_1 : wc.cell? ⟨gb719, 1, none⟩ = some (.slice Ao16 t715.length co16) := (blk_cell BK719.out 1).trans rfl
            have hfz48_0 := blk_frozen BK719.out 0
            have hfz48_1 := blk_frozen BK719.out 1
            go_wp2_with (first | ((with_reducible refine gate_callee (f := 58) rfl ?_); refine goesL_ (some 57) rfl rfl Tryd.func58 (by kernel_rfl) rfl #[.agg #[.slice Ao13 t712.length co13, .slice Ao16 t715.length co16], .int .i64 x38_2] rfl (by (try simp only [List.map_toArray, List.map_cons, List.map_nil]); rfl) ?_; (with_reducible refine (impl_set_has.calls _ _ t712 _ _ t715 x38_2 true _ ?side1 ?side2 ?side3 ?side4 A43.out).mono ?_); (case side1 => repeat (exact (Kd.R_reads' HO_720000.out).2.2)); (case side2 => exact (Kd.R_reads' HO_720000.out).2.1); (case side3 => repeat (exact (Kd.R_reads' HO_720001.out).2.2)); (case side4 => exact (Kd.R_reads' HO_720001.out).2.1); rintro e w49 ⟨rfl, hb⟩; refine ⟨_, rfl, ?_⟩; replace HO_712000 := Aside0.mk (Kd.R_below HO_712000.out hb); replace HO_712001 := Aside0.mk (Kd.R_below HO_712001.out hb); replace HO_720000 := Aside0.mk (Kd.R_below HO_720000.out hb); replace HO_720001 := Aside0.mk (Kd.R_below HO_720001.out hb); replace BK711 := Aside0.mk (blk_below (g := gb711) (o := .cells #[.slice Ao8 t704.length co8, .slice Ao10 t707.length co10] 49 (0, 0)) BK711.out hb); replace BK719 := Aside0.mk (blk_below (g := gb719) (o := .cells #[.slice Ao13 t712.length co13, .slice Ao16 t715.length co16] 49 (0, 0)) BK719.out hb); replace HB := Aside0.mk (below_step HB.out hb); (try clear hb); have hcz50_0 : w49.cell? ⟨gb711, 0, none⟩ = some (.slice Ao8 t704.length co8) := (blk_cell BK711.out 0).trans rfl; have hcz50_1 : w49.cell? ⟨gb711, 1, none⟩ = some (.slice Ao10 t707.length co10) := (blk_cell BK711.out 1).trans rfl; have hfz50_0 := blk_frozen BK711.out 0; have hfz50_1 := blk_frozen BK711.out 1) | (go_at_call 58; (with_reducible refine (impl_set_has.calls _ _ t704 _ _ t707 x38_2 true _ ?side1 ?side2 ?side3 ?side4 A45.out).mono ?_); (case side1 => repeat (exact (Kd.R_reads' HO_712000.out).2.2)); (case side2 => exact (Kd.R_reads' HO_712000.out).2.1); (case side3 => repeat (exact (Kd.R_reads' HO_712001.out).2.2)); (case side4 => exact (Kd.R_reads' HO_712001.out).2.1); rintro e w51 ⟨rfl, hb⟩; replace HO_712000 := Aside0.mk (Kd.R_below HO_712000.out hb); replace HO_712001 := Aside0.mk (Kd.R_below HO_712001.out hb); replace HO_720000 := Aside0.mk (Kd.R_below HO_720000.out hb); replace HO_720001 := Aside0.mk (Kd.R_below HO_720001.out hb); replace BK711 := Aside0.mk (blk_below (g := gb711) (o := .cells #[.slice Ao8 t704.length co8, .slice Ao10 t707.length co10] 49 (0, 0)) BK711.out hb); replace BK719 := Aside0.mk (blk_below (g := gb719) (o := .cells #[.slice Ao13 t712.length co13, .slice Ao16 t715.length co16] 49 (0, 0)) BK719.out hb); replace HB := Aside0.mk (below_step HB.out hb); (try clear hb)))
            go_roundg kj24
            case measure => have := HJ4.out; have := HK2.out; have := HJ24.out; omega
            case rel => exact ⟨(wrap64 (x38_2 + 1)), (by rfl), H', ⟨by have := HJ4.out; have := HK2.out; have := HJ24.out; omega⟩, ⟨by exact HO_712000.out⟩, ⟨by exact HO_712001.out⟩, ⟨by exact HO_720000.out⟩, ⟨by exact HO_720001.out⟩, ⟨by exact BK711.out⟩, ⟨by exact BK719.out⟩, ⟨HB.out⟩⟩
           ·replace c46 := Bool.eq_false_iff.mpr c46
            subst c46
            replace H : ((impl_proofText.f kj24 (⟨#[115, 101, 99, 111, 110, 100]⟩ : ByteArray) (([x38_2] : List Int))).bind fun t733 => (some (t733, true))) = some (r1, r2) := by rw [if_neg (show ¬ (false = true) by decide)] at H; exact H
            obtain ⟨y730, hy730⟩ : ∃ y_ : List Int, y_ = (([x38_2] : List Int)) := ⟨_, rfl⟩
            replace H : ((impl_proofText.f kj24 (⟨#[115, 101, 99, 111, 110, 100]⟩ : ByteArray) y730).bind fun t733 => (some (t733, true))) = some (r1, r2) := by first | (rw [hy730]; with_reducible exact H)
            have Ny730 := Aside0.mk hy730
            clear hy730
            replace H := Option.bind_eq_some_iff.mp H
            obtain ⟨t733, A520, H⟩ := H
            replace H : (some (t733, true)) = some (r1, r2) := H
            have A52 := Aside0.mk A520
            clear A520
            simp only [Option.some.injEq, Prod.mk.injEq] at H
            obtain ⟨rfl, rfl⟩ := H
            have hnb53 := NB719_711.out
            have hnc53 := NB711_719.out
            have hcz54_0 : wc.cell? ⟨gb719, 0, none⟩ = some (.slice Ao13 t712.length co13) := (blk_cell BK719.out 0).trans rfl
            have hcz54_1 : wc.cell? ⟨gb719, 1, none⟩ = some (.slice Ao16 t715.length co16) := (blk_cell BK719.out 1).trans rfl
            have hfz54_0 := blk_frozen BK719.out 0
            have hfz54_1 := blk_frozen BK719.out 1
            go_wp2_with (first | ((with_reducible refine gate_callee (f := 58) rfl ?_); refine goesL_ (some 57) rfl rfl Tryd.func58 (by kernel_rfl) rfl #[.agg #[.slice Ao13 t712.length co13, .slice Ao16 t715.length co16], .int .i64 x38_2] rfl (by (try simp only [List.map_toArray, List.map_cons, List.map_nil]); rfl) ?_; (with_reducible refine (impl_set_has.calls _ _ t712 _ _ t715 x38_2 true _ ?side1 ?side2 ?side3 ?side4 A43.out).mono ?_); (case side1 => repeat (exact (Kd.R_reads' HO_720000.out).2.2)); (case side2 => exact (Kd.R_reads' HO_720000.out).2.1); (case side3 => repeat (exact (Kd.R_reads' HO_720001.out).2.2)); (case side4 => exact (Kd.R_reads' HO_720001.out).2.1); rintro e w55 ⟨rfl, hb⟩; refine ⟨_, rfl, ?_⟩; replace HO_712000 := Aside0.mk (Kd.R_below HO_712000.out hb); replace HO_712001 := Aside0.mk (Kd.R_below HO_712001.out hb); replace HO_720000 := Aside0.mk (Kd.R_below HO_720000.out hb); replace HO_720001 := Aside0.mk (Kd.R_below HO_720001.out hb); replace BK711 := Aside0.mk (blk_below (g := gb711) (o := .cells #[.slice Ao8 t704.length co8, .slice Ao10 t707.length co10] 49 (0, 0)) BK711.out hb); replace BK719 := Aside0.mk (blk_below (g := gb719) (o := .cells #[.slice Ao13 t712.length co13, .slice Ao16 t715.length co16] 49 (0, 0)) BK719.out hb); replace HB := Aside0.mk (below_step HB.out hb); (try clear hb); have hcz56_0 : w55.cell? ⟨gb711, 0, none⟩ = some (.slice Ao8 t704.length co8) := (blk_cell BK711.out 0).trans rfl; have hcz56_1 : w55.cell? ⟨gb711, 1, none⟩ = some (.slice Ao10 t707.length co10) := (blk_cell BK711.out 1).trans rfl; have hfz56_0 := blk_frozen BK711.out 0; have hfz56_1 := blk_frozen BK711.out 1) | (go_at_call 58; (with_reducible refine (impl_set_has.calls _ _ t704 _ _ t707 x38_2 false _ ?side1 ?side2 ?side3 ?side4 A45.out).mono ?_); (case side1 => repeat (exact (Kd.R_reads' HO_712000.out).2.2)); (case side2 => exact (Kd.R_reads' HO_712000.out).2.1); (case side3 => repeat (exact (Kd.R_reads' HO_712001.out).2.2)); (case side4 => exact (Kd.R_reads' HO_712001.out).2.1); rintro e w57 ⟨rfl, hb⟩; replace HO_712000 := Aside0.mk (Kd.R_below HO_712000.out hb); replace HO_712001 := Aside0.mk (Kd.R_below HO_712001.out hb); replace HO_720000 := Aside0.mk (Kd.R_below HO_720000.out hb); replace HO_720001 := Aside0.mk (Kd.R_below HO_720001.out hb); replace BK711 := Aside0.mk (blk_below (g := gb711) (o := .cells #[.slice Ao8 t704.length co8, .slice Ao10 t707.length co10] 49 (0, 0)) BK711.out hb); replace BK719 := Aside0.mk (blk_below (g := gb719) (o := .cells #[.slice Ao13 t712.length co13, .slice Ao16 t715.length co16] 49 (0, 0)) BK719.out hb); replace HB := Aside0.mk (below_step HB.out hb); (try clear hb)) | ((with_reducible refine gate_dst (N := 65) rfl ?_); refine Kd.R_lit (Kd.int .i64) _ 3 ?hg (N := 65) ?hd (xs := ([x38_2] : List Int)) (inner := [.int .i64 x38_2]) (ok := fun _ => True) (okp := fun _ => True) ?hr ?hp (fun _ hk => hk) trivial (Below.refl _ _) (Nat.le_refl _) (by simp) ?_; (case hd => rfl); (case hg => rfl); (case hr => first | (go_simp; done)); (case hp => exact (Reps.one (show Kd.M (Kd.int .i64) _ _ _ x38_2 [.int .i64 x38_2] from rfl) (Reps.none _ _))); intro v731 w58 ho59 hb hg_ hnew_; clear hg_ hnew_; (rw [← Ny730.out] at ho59); replace HO_712000 := Aside0.mk (Kd.R_below HO_712000.out hb); replace HO_712001 := Aside0.mk (Kd.R_below HO_712001.out hb); replace HO_720000 := Aside0.mk (Kd.R_below HO_720000.out hb); replace HO_720001 := Aside0.mk (Kd.R_below HO_720001.out hb); have HO732 := Aside0.mk (Kd.R_lower ho59 (below_size HB.out)); replace BK711 := Aside0.mk (blk_below (g := gb711) (o := .cells #[.slice Ao8 t704.length co8, .slice Ao10 t707.length co10] 49 (0, 0)) BK711.out hb); replace BK719 := Aside0.mk (blk_below (g := gb719) (o := .cells #[.slice Ao13 t712.length co13, .slice Ao16 t715.length co16] 49 (0, 0)) BK719.out hb); replace HB := Aside0.mk (below_step HB.out hb); clear hb ho59; obtain ⟨Ao60, co60, eo60⟩ := Kd.R_slice HO732.out; subst eo60) | ((with_reducible refine gate_callee (f := 43) rfl ?_); refine goesL_ (some 66) rfl rfl Tryd.func43 (by kernel_rfl) rfl #[.string (⟨#[115, 101, 99, 111, 110, 100]⟩ : ByteArray), .slice Ao60 y730.length co60] rfl (by (try simp only [List.map_toArray, List.map_cons, List.map_nil]); rfl) ?_; (with_reducible refine (impl_proofText.calls kj24 (⟨#[115, 101, 99, 111, 110, 100]⟩ : ByteArray) _ _ y730 t733 _ ?side1 ?side2 A52.out (Glob.below hG HB.out)).mono ?_); (case side1 => repeat (exact (Kd.R_reads' HO732.out).2.2)); (case side2 => exact (Kd.R_reads' HO732.out).2.1); rintro e w61 ⟨rfl, hb⟩; refine ⟨_, rfl, ?_⟩; replace HO_712000 := Aside0.mk (Kd.R_below HO_712000.out hb); replace HO_712001 := Aside0.mk (Kd.R_below HO_712001.out hb); replace HO_720000 := Aside0.mk (Kd.R_below HO_720000.out hb); replace HO_720001 := Aside0.mk (Kd.R_below HO_720001.out hb); replace HO732 := Aside0.mk (Kd.R_below HO732.out hb); replace BK711 := Aside0.mk (blk_below (g := gb711) (o := .cells #[.slice Ao8 t704.length co8, .slice Ao10 t707.length co10] 49 (0, 0)) BK711.out hb); replace BK719 := Aside0.mk (blk_below (g := gb719) (o := .cells #[.slice Ao13 t712.length co13, .slice Ao16 t715.length co16] 49 (0, 0)) BK719.out hb); replace HB := Aside0.mk (below_step HB.out hb); (try clear hb)))
            go_ret2
            exact ⟨by first | rfl | (simp [*, errW_none, errW_some] <;> rfl), HB.out⟩
          ·replace c44 := Bool.eq_false_iff.mpr c44
           subst c44
           replace H : (impl_ProofDiffer.l0 kj24 (wrap64 (t720 + t721)) (wrap64 (x38_2 + 1)) t704 t707 t712 t715) = some (r1, r2) := by rw [if_neg (show ¬ (false = true) by decide)] at H; exact H
           have H' := Aside0.mk H
           clear H
           have hnb62 := NB719_711.out
           have hnc62 := NB711_719.out
           have hcz63_0 : wc.cell? ⟨gb719, 0, none⟩ = some (.slice Ao13 t712.length co13) := (blk_cell BK719.out 0).trans rfl
           have hcz63_1 : wc.cell? ⟨gb719, 1, none⟩ = some (.slice Ao16 t715.length co16) := (blk_cell BK719.out 1).trans rfl
           have hfz63_0 := blk_frozen BK719.out 0
           have hfz63_1 := blk_frozen BK719.out 1
           go_wp2_with (first | ((with_reducible refine gate_callee (f := 58) rfl ?_); refine goesL_ (some 57) rfl rfl Tryd.func58 (by kernel_rfl) rfl #[.agg #[.slice Ao13 t712.length co13, .slice Ao16 t715.length co16], .int .i64 x38_2] rfl (by (try simp only [List.map_toArray, List.map_cons, List.map_nil]); rfl) ?_; (with_reducible refine (impl_set_has.calls _ _ t712 _ _ t715 x38_2 false _ ?side1 ?side2 ?side3 ?side4 A43.out).mono ?_); (case side1 => repeat (exact (Kd.R_reads' HO_720000.out).2.2)); (case side2 => exact (Kd.R_reads' HO_720000.out).2.1); (case side3 => repeat (exact (Kd.R_reads' HO_720001.out).2.2)); (case side4 => exact (Kd.R_reads' HO_720001.out).2.1); rintro e w64 ⟨rfl, hb⟩; refine ⟨_, rfl, ?_⟩; replace HO_712000 := Aside0.mk (Kd.R_below HO_712000.out hb); replace HO_712001 := Aside0.mk (Kd.R_below HO_712001.out hb); replace HO_720000 := Aside0.mk (Kd.R_below HO_720000.out hb); replace HO_720001 := Aside0.mk (Kd.R_below HO_720001.out hb); replace BK711 := Aside0.mk (blk_below (g := gb711) (o := .cells #[.slice Ao8 t704.length co8, .slice Ao10 t707.length co10] 49 (0, 0)) BK711.out hb); replace BK719 := Aside0.mk (blk_below (g := gb719) (o := .cells #[.slice Ao13 t712.length co13, .slice Ao16 t715.length co16] 49 (0, 0)) BK719.out hb); replace HB := Aside0.mk (below_step HB.out hb); (try clear hb)))
           go_roundg kj24
           case measure => have := HJ4.out; have := HK2.out; have := HJ24.out; omega
           case rel => exact ⟨(wrap64 (x38_2 + 1)), (by rfl), H', ⟨by have := HJ4.out; have := HK2.out; have := HJ24.out; omega⟩, ⟨by exact HO_712000.out⟩, ⟨by exact HO_712001.out⟩, ⟨by exact HO_720000.out⟩, ⟨by exact HO_720001.out⟩, ⟨by exact BK711.out⟩, ⟨by exact BK719.out⟩, ⟨HB.out⟩⟩
      ·rw [if_neg c24] at H
       have c24b0 : decide (x38_2 < (wrap64 (t720 + t721))) = false := decide_eq_false c24
       clear c24
       simp only [Option.some.injEq, Prod.mk.injEq] at H
       obtain ⟨rfl, rfl⟩ := H
       go_wp2
       go_ret2
       exact ⟨by first | rfl | (simp [*, errW_none, errW_some] <;> rfl), HB.out⟩

end Go.Proofs.YtinjblbfaijhdaaDoor.Q

namespace Go.Proofs.YtinjblbfaijhdaaDoor.Q
open Go.RowKit Go.Proofs.YtinjblbfaijhdaaDoorW.PrintWords Go.Proofs.YtinjblbfaijhdaaDoorW.PrintLast Go.Proofs.YtinjblbfaijhdaaDoorW.PrintMore
attribute [local go_sem] max2_int min2_int max_two min_two max_three min_three max_four min_four   -- for this text's walks alone
set_option linter.unusedVariables false
set_option linter.unusedSimpArgs false

end Go.Proofs.YtinjblbfaijhdaaDoor.Q

namespace Go.Proofs.YtinjblbfaijhdaaDoor.Q
open Go.RowKit Go.Proofs.YtinjblbfaijhdaaDoorW.PrintWords Go.Proofs.YtinjblbfaijhdaaDoorW.PrintLast Go.Proofs.YtinjblbfaijhdaaDoorW.PrintMore
attribute [local go_sem] max2_int min2_int max_two min_two max_three min_three max_four min_four   -- for this text's walks alone
set_option linter.unusedVariables false
set_option linter.unusedSimpArgs false

end Go.Proofs.YtinjblbfaijhdaaDoor.Q
