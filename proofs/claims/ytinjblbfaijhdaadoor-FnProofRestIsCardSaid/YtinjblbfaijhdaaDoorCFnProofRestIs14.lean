/- The law FnProofRestIs holds for all that it draws. -/
import Derived.Lib.AppendIntMem
import Derived.Test.YtinjblbfaijhdaaDoorCFnProofRestIs9
import Derived.Test.YtinjblbfaijhdaaDoorCFnProofRestIs10
import Derived.Test.YtinjblbfaijhdaaDoorCFnProofRestIs13
namespace Go.Proofs.YtinjblbfaijhdaaDoor.Q
open Go.RowKit Go.Proofs.YtinjblbfaijhdaaDoorW.PrintWords Go.Proofs.YtinjblbfaijhdaaDoorW.PrintLast Go.Proofs.YtinjblbfaijhdaaDoorW.PrintMore
attribute [local go_sem] max2_int min2_int max_two min_two max_three min_three max_four min_four   -- for this text's walks alone
set_option linter.unusedVariables false
set_option linter.unusedSimpArgs false
/-- The table of powers of ten lies in this world as the program's text lays it. -/
def Glob (w : World) : Prop := Lib.TabIs Tryd.prog w "internal/strconv.uint64pow10" .u64 Lib.pow10Tab
theorem Glob.below {w w' : World} (h : Glob w) (hb : Below w.heap.size w w') : Glob w' := by
 unfold Glob Lib.TabIs World.var? at *
 rw [show Tryd.prog.globalNamed "internal/strconv.uint64pow10" = some 3 by kernel_rfl] at *
 simp only [Option.bind_some] at *
 have lt : 3 < w.heap.size := by
  rcases Nat.lt_or_ge 3 w.heap.size with k | k
  ·exact k
  ·rw [Array.getElem?_eq_none k] at h
   cases h
 rw [hb.block 3 lt]
 exact h
/-- A whole number in decimal signs. -/
def strconv_Itoa_68.f (a0 : Int) : Option ByteArray := if -9223372036854775808 ≤ a0 ∧ a0 ≤ 9223372036854775807 then some ⟨(Lib.itoa a0).toArray⟩ else none
set_option maxHeartbeats 1000000 in
set_option maxRecDepth 100000 in
theorem strconv_Itoa_68.calls (a0 : Int) (r : ByteArray) (w : World) (h : strconv_Itoa_68.f a0 = some r) (hG : Glob w) :
  Calls Tryd.prog 68 #[.int .i64 a0] w fun e w' => e = .returned (.string r) ∧ Below w.heap.size w w' := by
 unfold strconv_Itoa_68.f at h
 split at h
 case isFalse => cases h
 rename_i hs
 obtain rfl := Option.some.inj h
 exact (Tryd.strconv_Itoa a0 hs.1 hs.2 w hG).mono fun e w' ⟨he, k, os, hw⟩ => ⟨he, hw ▸ Lib.below_grow w.heap.size w (Nat.le_refl _) k os⟩

def impl_proofText.l0 : Nat → ByteArray → List Int → Int → Int → Option (ByteArray)
 | 0, _, _, _, _ => none
 | k + 1, x0, x7, x8, x9 => if x9 < x8 then (if 0 ≤ x9 then (if x9 < (x7.length : Int) then ((strconv_Itoa_68.f (rd x7 x9)).bind fun t253 => (if 1 + t253.size ≤ 9223372036854775807 then (if x0.size + 1 + t253.size ≤ 9223372036854775807 then (impl_proofText.l0 k (x0 ++ ((⟨#[32]⟩ : ByteArray) ++ t253)) x7 x8 (wrap64 (x9 + 1))) else (none)) else (none))) else (none)) else (none)) else (some x0)
def impl_proofText.f (k : Nat) (a0 : ByteArray) (l1 : List Int) : Option (ByteArray) := impl_proofText.l0 k a0 l1 (l1.length : Int) 0
theorem impl_proofText.mono_l : ∀ k, (∀ y0 y1 y2 y3, LeO (impl_proofText.l0 k y0 y1 y2 y3) (impl_proofText.l0 (k + 1) y0 y1 y2 y3))
 | 0 => fun _ _ _ _ r h => by simp [impl_proofText.l0] at h
 | k + 1 => by
  have ih0 := impl_proofText.mono_l k
  ·intro y0 y1 y2 y3
   unfold impl_proofText.l0
   repeat' first | (with_reducible exact ih0 _ _ _ _) | (with_reducible exact LeO.refl _) | (with_reducible refine LeO.ite ?_ ?_) | (with_reducible refine LeO.bind ?_ (fun _ => ?_))
theorem impl_proofText.mono : ∀ a0 a1 k, LeO (impl_proofText.f k a0 a1) (impl_proofText.f (k + 1) a0 a1) := by
 intro a0 a1 k
 have ih0 := impl_proofText.mono_l k
 unfold impl_proofText.f
 repeat' (with_reducible exact ih0 _ _ _ _)
set_option maxHeartbeats 8000000 in
set_option maxRecDepth 100000 in
theorem impl_proofText.calls (k : Nat) (a0 : ByteArray) (A1 : Option Addr) (c1 : Nat) (l1 : List Int) (r : ByteArray) (w : World) (hr1 : Kd.C (Kd.int .i64) w A1 l1.length l1) (hc1 : l1.length ≤ c1) (h : impl_proofText.f k a0 l1 = some r) (hG : Glob w) :
  Calls Tryd.prog 43 #[.string a0, .slice A1 l1.length c1] w fun e w' => e = .returned (.string r) ∧ Below w.heap.size w w' := by
 have HR1 := Aside0.mk hr1
 have HC1 := Aside0.mk hc1
 clear hr1 hc1
 have HB := Aside0.mk (Below.refl w.heap.size w)
 have H : (impl_proofText.l0 k a0 l1 (l1.length : Int) 0) = some r := h
 clear h
 have H' := Aside0.mk H
 clear H
 go_enter Tryd.func43, Tryd.ntmps43
 go_wp2
 go_loopg [0, 9] k (fun kq v0 v9 w' => ∃ (x0_1 : ByteArray) (x9_1 : Int), v0 = .string x0_1 ∧ v9 = .int .i64 x9_1 ∧ Aside0 (impl_proofText.l0 kq x0_1 l1 (l1.length : Int) x9_1 = some r) ∧ Aside0 (kq ≤ k) ∧ Aside0 (Below w.heap.size w w'))
 case atStart => exact ⟨(a0), (0), (by rfl), (by rfl), H', ⟨Nat.le_refl _⟩, ⟨HB.out⟩⟩
 case round =>
  clear H'
  obtain ⟨x0_1, x9_1, rfl, rfl, HA, HK1, HB⟩ := hrel
  cases gk with
  | zero => exact absurd HA.out (by simp [impl_proofText.l0])
  | succ k1 =>
   have H := HA.out
   clear HA
   simp only [impl_proofText.l0] at H
   by_cases c3 : x9_1 < (l1.length : Int)
   ·rw [if_pos c3] at H
    have c3b0 : decide (x9_1 < (l1.length : Int)) = true := decide_eq_true c3
    clear c3
    by_cases c4 : 0 ≤ x9_1
    ·rw [if_pos c4] at H
     have c4b0 : decide (0 ≤ x9_1) = true := decide_eq_true c4
     clear c4
     by_cases c5 : x9_1 < (l1.length : Int)
     ·rw [if_pos c5] at H
      have c5b0 : decide (x9_1 < (l1.length : Int)) = true := decide_eq_true c5
      clear c5
      replace H := Option.bind_eq_some_iff.mp H
      obtain ⟨t253, A60, H⟩ := H
      replace H : (if 1 + t253.size ≤ 9223372036854775807 then (if x0_1.size + 1 + t253.size ≤ 9223372036854775807 then (impl_proofText.l0 k1 (x0_1 ++ ((⟨#[32]⟩ : ByteArray) ++ t253)) l1 (l1.length : Int) (wrap64 (x9_1 + 1))) else (none)) else (none)) = some r := H
      have A6 := Aside0.mk A60
      clear A60
      by_cases c7 : 1 + t253.size ≤ 9223372036854775807
      ·rw [if_pos c7] at H
       have c7b0 := eq_true c7
       have c7b1 : decide (1 + t253.size ≤ 9223372036854775807) = true := decide_eq_true c7
       try have c7b2 : (9223372036854775807 < 1 + t253.size) = False := eq_false (Nat.not_lt.2 c7)
       by_cases c8 : x0_1.size + 1 + t253.size ≤ 9223372036854775807
       ·rw [if_pos c8] at H
        have c8b0 := eq_true c8
        have c8b1 : decide (x0_1.size + 1 + t253.size ≤ 9223372036854775807) = true := decide_eq_true c8
        try have c8b2 : (9223372036854775807 < x0_1.size + 1 + t253.size) = False := eq_false (Nat.not_lt.2 c8)
        have H' := Aside0.mk H
        clear H
        have p252 : 0 ≤ (x9_1 : Int) := of_decide_eq_true (by (with_reducible assumption))
        have q252 : x9_1 < (l1.length : Int) := of_decide_eq_true (by (with_reducible assumption))
        obtain ⟨ad252, e252, hx252_0⟩ := Kd.at_int HR1.out x9_1 p252 q252
        cases e252
        replace hx252_0 := (HB.out.cell (World.block_lt_of_cell? w _ hx252_0)).trans hx252_0
        replace p252 := eq_true p252
        replace q252 := eq_true q252
        go_wp2_with (first | ((with_reducible refine gate_callee (f := 68) rfl ?_); refine goesL_ (some 15) rfl rfl Tryd.func68 (by kernel_rfl) rfl #[.int .i64 (rd l1 x9_1)] rfl (by (try simp only [List.map_toArray, List.map_cons, List.map_nil]); rfl) ?_; (with_reducible refine (strconv_Itoa_68.calls (rd l1 x9_1) t253 _ A6.out (Glob.below hG HB.out)).mono ?_); rintro e w9 ⟨rfl, hb⟩; refine ⟨_, rfl, ?_⟩; replace HB := Aside0.mk (below_step HB.out hb); (try clear hb)))
        go_roundg k1
        case measure => have := HK1.out; omega
        case rel => exact ⟨(x0_1 ++ ((⟨#[32]⟩ : ByteArray) ++ t253)), (wrap64 (x9_1 + 1)), (by rfl), (by rfl), H', ⟨by have := HK1.out; omega⟩, ⟨HB.out⟩⟩
       ·rw [if_neg c8] at H
        exact absurd H (by simp)
      ·rw [if_neg c7] at H
       exact absurd H (by simp)
     ·rw [if_neg c5] at H
      exact absurd H (by simp)
    ·rw [if_neg c4] at H
     exact absurd H (by simp)
   ·rw [if_neg c3] at H
    have c3b0 : decide (x9_1 < (l1.length : Int)) = false := decide_eq_false c3
    clear c3
    obtain rfl := Option.some.inj H
    go_wp2
    go_ret
    exact ⟨by first | rfl | (simp [*, errW_none, errW_some] <;> rfl), HB.out⟩


def impl_ProofRest.j0 : Nat → Int → Bool → List Bool → List Bool → Option (ByteArray × Bool)
 | 0, _, _, _, _ => none
 | k + 1, x1, x20, x262000, x262001 => if x20 = true then (some ((⟨#[]⟩ : ByteArray), false)) else ((impl_set_divisor.f k x262000 x262001).bind fun t263 => (if t263 < 2 then (some ((⟨#[]⟩ : ByteArray), false)) else (if t263 = 0 then (none) else (if (Int.tmod x1 t263) = 0 then (some ((⟨#[]⟩ : ByteArray), false)) else ((impl_proofText.f k (⟨#[114, 101, 115, 116]⟩ : ByteArray) (([t263] : List Int))).bind fun t267 => (some (t267, true)))))))
def impl_ProofRest.f (k : Nat) (a0 : ByteArray) (a1 : Int) : Option (ByteArray × Bool) := (impl_small.f k a0).bind fun bt254 => (if bt254.2.2 = true then ((impl_in.f a1 1 1000).bind fun t262 => (impl_ProofRest.j0 k a1 (!t262) bt254.1 bt254.2.1)) else (impl_ProofRest.j0 k a1 true bt254.1 bt254.2.1))
theorem impl_ProofRest.mono_l : ∀ k, (∀ y0 y1 y2 y3, LeO (impl_ProofRest.j0 k y0 y1 y2 y3) (impl_ProofRest.j0 (k + 1) y0 y1 y2 y3))
 | 0 => fun _ _ _ _ r h => by simp [impl_ProofRest.j0] at h
 | k + 1 => by
  have ih0 := impl_ProofRest.mono_l k
  ·intro y0 y1 y2 y3
   unfold impl_ProofRest.j0
   repeat' first | (with_reducible exact impl_proofText.mono _ _ _) | (with_reducible exact impl_set_divisor.mono _ _ _) | (with_reducible exact LeO.refl _) | (with_reducible refine LeO.ite ?_ ?_) | (with_reducible refine LeO.bind ?_ (fun _ => ?_))
theorem impl_ProofRest.mono : ∀ a0 a1 k, LeO (impl_ProofRest.f k a0 a1) (impl_ProofRest.f (k + 1) a0 a1) := by
 intro a0 a1 k
 have ih0 := impl_ProofRest.mono_l k
 unfold impl_ProofRest.f
 repeat' first | (with_reducible exact ih0 _ _ _ _) | (with_reducible exact impl_small.mono _ _) | (with_reducible exact LeO.refl _) | (with_reducible refine LeO.ite ?_ ?_) | (with_reducible refine LeO.bind ?_ (fun _ => ?_))
set_option maxHeartbeats 8000000 in
set_option maxRecDepth 100000 in
theorem impl_ProofRest.calls (k : Nat) (a0 : ByteArray) (a1 : Int) (r1 : ByteArray) (r2 : Bool) (w : World) (h : impl_ProofRest.f k a0 a1 = some (r1, r2)) (hG : Glob w) :
  Calls Tryd.prog 16 #[.string a0, .int .i64 a1] w fun e w' => e = .returned (.tuple #[.string r1, .bool r2]) ∧ Below w.heap.size w w' := by
 have hu49 := Tryd.underlying49
 have HB := Aside0.mk (Below.refl w.heap.size w)
 have H : ((impl_small.f k a0).bind fun bt254 => (if bt254.2.2 = true then ((impl_in.f a1 1 1000).bind fun t262 => (impl_ProofRest.j0 k a1 (!t262) bt254.1 bt254.2.1)) else (impl_ProofRest.j0 k a1 true bt254.1 bt254.2.1))) = some (r1, r2) := h
 clear h
 replace H := Option.bind_eq_some_iff.mp H
 obtain ⟨⟨t254, t257, t260⟩, A30, H⟩ := H
 replace H : (if t260 = true then ((impl_in.f a1 1 1000).bind fun t262 => (impl_ProofRest.j0 k a1 (!t262) t254 t257)) else (impl_ProofRest.j0 k a1 true t254 t257)) = some (r1, r2) := H
 have A3 := Aside0.mk A30
 clear A30
 have HC4 := Aside0.mk H
 clear H
 go_enter Tryd.func16, Tryd.ntmps16
 go_upto_region 2 with (first | ((with_reducible refine gate_callee (f := 40) rfl ?_); refine goesL_ (some 11) rfl rfl Tryd.func40 (by kernel_rfl) rfl #[.string a0] rfl (by (try simp only [List.map_toArray, List.map_cons, List.map_nil]); rfl) ?_; (with_reducible refine (impl_small.calls k a0 t254 t257 t260 _ A3.out).mono ?_); rintro e w5 ⟨v255, v258, rfl, ho0, ho1, hb⟩; refine ⟨_, rfl, ?_⟩; have HO256 := Aside0.mk (Kd.R_lower ho0 (below_size HB.out)); have HO259 := Aside0.mk (Kd.R_lower ho1 (below_size HB.out)); replace HB := Aside0.mk (below_step HB.out hb); (try clear hb); (try clear ho0); (try clear ho1)) | ((with_reducible refine gate_dst (N := 6) rfl ?_); refine box_event ?hg (N := 6) ?hd (cs := #[.slice none 0 0, .slice none 0 0]) (t := 49) ?hr ?_; (case hd => rfl); (case hg => rfl); (case hr => first | (go_simp; done)); intro gb261 hg w6 hbox hb; replace HO256 := Aside0.mk (Kd.R_below HO256.out hb); replace HO259 := Aside0.mk (Kd.R_below HO259.out hb); have BK261 := Aside0.mk hbox; have GW261 := Aside0.mk ((by rw [hg]; exact (below_size HB.out) : w.heap.size ≤ gb261)); have GE261 := Aside0.mk ((by rw [hg]; exact (below_size HB.out) : w.heap.size ≤ gb261)); replace HB := Aside0.mk (below_step HB.out hb); clear hb hbox hg; obtain ⟨Ao7, co7, eo7⟩ := Kd.R_slice HO256.out; subst eo7; have hcz8_0 : w6.cell? ⟨gb261, 0, none⟩ = some (.slice none 0 0) := (blk_cell BK261.out 0).trans rfl; have hcz8_1 : w6.cell? ⟨gb261, 1, none⟩ = some (.slice none 0 0) := (blk_cell BK261.out 1).trans rfl; have hfz8_0 := blk_frozen BK261.out 0; have hfz8_1 := blk_frozen BK261.out 1; obtain ⟨Ao9, co9, eo9⟩ := Kd.R_slice HO259.out; subst eo9))
 go_cut [20] (fun v20 wc => ∃ (kq : Nat) (x20_3 : Bool), v20 = .bool x20_3 ∧ Aside0 (impl_ProofRest.j0 kq a1 x20_3 t254 t257 = some (r1, r2)) ∧ Aside0 (kq ≤ k) ∧ Aside0 (Kd.R Kd.bool 4 wc w.heap.size (fun k_ => some k_ ≠ ((.slice Ao9 t257.length co9) : Value).ownBlock) (.slice Ao7 t254.length co7) t254) ∧ Aside0 (Kd.R Kd.bool 4 wc w.heap.size (fun k_ => some k_ ≠ ((.slice Ao7 t254.length co7) : Value).ownBlock) (.slice Ao9 t257.length co9) t257) ∧ Aside0 (wc.heap[gb261]? = some (.cells #[(.slice Ao7 t254.length co7), (.slice Ao9 t257.length co9)] 49 (0, 0))) ∧ Aside0 (Below w.heap.size w wc))
 case first =>
  have H := HC4.out
  clear HC4
  by_cases c10 : t260 = true
  ·subst c10
   replace H : ((impl_in.f a1 1 1000).bind fun t262 => (impl_ProofRest.j0 k a1 (!t262) t254 t257)) = some (r1, r2) := by rw [if_pos rfl] at H; exact H
   replace H := Option.bind_eq_some_iff.mp H
   obtain ⟨t262, A110, H⟩ := H
   replace H : (impl_ProofRest.j0 k a1 (!t262) t254 t257) = some (r1, r2) := H
   have A11 := Aside0.mk A110
   clear A110
   have H' := Aside0.mk H
   clear H
   go_wp2_with (first | (go_at_call 41; (with_reducible refine (impl_in.calls a1 1 1000 t262 _ A11.out).mono ?_); rintro e w' ⟨rfl, ⟨nd, rfl⟩⟩))
   go_meet
   case rel => exact ⟨_, (!t262), (by rfl), H', ⟨by omega⟩, ⟨by (with_reducible repeat (apply Kd.R_drewN)); exact Kd.R_mono (Kd.R_far (p := ⟨gb261, 1, none⟩) (Kd.R_far (p := ⟨gb261, 0, none⟩) (Kd.R_types HO256.out BK261.out (by decide)) (fun _ hk => hk.2) (.slice Ao7 t254.length co7)) (fun _ hk => hk.2) (.slice Ao9 t257.length co9)) (fun _ hk => hk.1)⟩, ⟨by (with_reducible repeat (apply Kd.R_drewN)); exact Kd.R_mono (Kd.R_far (p := ⟨gb261, 1, none⟩) (Kd.R_far (p := ⟨gb261, 0, none⟩) (Kd.R_types HO259.out BK261.out (by decide)) (fun _ hk => hk.2) (.slice Ao7 t254.length co7)) (fun _ hk => hk.2) (.slice Ao9 t257.length co9)) (fun _ hk => hk.1)⟩, ⟨by (with_reducible repeat (refine blk_drewN ?_ _)); refine blk_put (cs := #[.slice Ao7 t254.length co7, .slice none 0 0]) ?_ 1 _ rfl; refine blk_put (cs := #[.slice none 0 0, .slice none 0 0]) ?_ 0 _ rfl; exact BK261.out⟩, ⟨by repeat (first | (with_reducible first | exact HB.out | apply pw_below_drewN | refine below_set ?_ GE261.out))⟩⟩
  ·replace c10 := Bool.eq_false_iff.mpr c10
   subst c10
   replace H : (impl_ProofRest.j0 k a1 true t254 t257) = some (r1, r2) := by rw [if_neg (show ¬ (false = true) by decide)] at H; exact H
   have H' := Aside0.mk H
   clear H
   go_wp2
   go_meet
   case rel => exact ⟨_, (true), (by rfl), H', ⟨by omega⟩, ⟨by exact Kd.R_mono (Kd.R_far (p := ⟨gb261, 1, none⟩) (Kd.R_far (p := ⟨gb261, 0, none⟩) (Kd.R_types HO256.out BK261.out (by decide)) (fun _ hk => hk.2) (.slice Ao7 t254.length co7)) (fun _ hk => hk.2) (.slice Ao9 t257.length co9)) (fun _ hk => hk.1)⟩, ⟨by exact Kd.R_mono (Kd.R_far (p := ⟨gb261, 1, none⟩) (Kd.R_far (p := ⟨gb261, 0, none⟩) (Kd.R_types HO259.out BK261.out (by decide)) (fun _ hk => hk.2) (.slice Ao7 t254.length co7)) (fun _ hk => hk.2) (.slice Ao9 t257.length co9)) (fun _ hk => hk.1)⟩, ⟨by refine blk_put (cs := #[.slice Ao7 t254.length co7, .slice none 0 0]) ?_ 1 _ rfl; refine blk_put (cs := #[.slice none 0 0, .slice none 0 0]) ?_ 0 _ rfl; exact BK261.out⟩, ⟨by repeat (first | (with_reducible first | exact HB.out | refine below_set ?_ GE261.out))⟩⟩
 case rest =>
  clear HC4
  try clear hcz8_0
  try clear hcz8_1
  try clear hfz8_0
  try clear hfz8_1
  obtain ⟨kq, x20_3, rfl, HA, HJ3, HO_262000, HO_262001, BK261, HB⟩ := hcut
  cases kq with
  | zero => exact absurd HA.out (by simp [impl_ProofRest.j0])
  | succ kj3 =>
   have H := HA.out
   clear HA
   simp only [impl_ProofRest.j0] at H
   by_cases c12 : x20_3 = true
   ·subst c12
    replace H : (some ((⟨#[]⟩ : ByteArray), false)) = some (r1, r2) := by rw [if_pos rfl] at H; exact H
    simp only [Option.some.injEq, Prod.mk.injEq] at H
    obtain ⟨rfl, rfl⟩ := H
    go_wp2
    go_ret2
    exact ⟨by first | rfl | (simp [*, errW_none, errW_some] <;> rfl), HB.out⟩
   ·replace c12 := Bool.eq_false_iff.mpr c12
    subst c12
    replace H : ((impl_set_divisor.f kj3 t254 t257).bind fun t263 => (if t263 < 2 then (some ((⟨#[]⟩ : ByteArray), false)) else (if t263 = 0 then (none) else (if (Int.tmod a1 t263) = 0 then (some ((⟨#[]⟩ : ByteArray), false)) else ((impl_proofText.f kj3 (⟨#[114, 101, 115, 116]⟩ : ByteArray) (([t263] : List Int))).bind fun t267 => (some (t267, true))))))) = some (r1, r2) := by rw [if_neg (show ¬ (false = true) by decide)] at H; exact H
    replace H := Option.bind_eq_some_iff.mp H
    obtain ⟨t263, A130, H⟩ := H
    replace H : (if t263 < 2 then (some ((⟨#[]⟩ : ByteArray), false)) else (if t263 = 0 then (none) else (if (Int.tmod a1 t263) = 0 then (some ((⟨#[]⟩ : ByteArray), false)) else ((impl_proofText.f kj3 (⟨#[114, 101, 115, 116]⟩ : ByteArray) (([t263] : List Int))).bind fun t267 => (some (t267, true)))))) = some (r1, r2) := H
    have A13 := Aside0.mk A130
    clear A130
    by_cases c14 : t263 < 2
    ·rw [if_pos c14] at H
     have c14b0 : decide (t263 < 2) = true := decide_eq_true c14
     clear c14
     simp only [Option.some.injEq, Prod.mk.injEq] at H
     obtain ⟨rfl, rfl⟩ := H
     have hcz15_0 : wc.cell? ⟨gb261, 0, none⟩ = some (.slice Ao7 t254.length co7) := (blk_cell BK261.out 0).trans rfl
     have hcz15_1 : wc.cell? ⟨gb261, 1, none⟩ = some (.slice Ao9 t257.length co9) := (blk_cell BK261.out 1).trans rfl
     have hfz15_0 := blk_frozen BK261.out 0
     have hfz15_1 := blk_frozen BK261.out 1
     go_wp2_with (first | ((with_reducible refine gate_callee (f := 42) rfl ?_); refine goesL_ (some 22) rfl rfl Tryd.func42 (by kernel_rfl) rfl #[.agg #[.slice Ao7 t254.length co7, .slice Ao9 t257.length co9]] rfl (by (try simp only [List.map_toArray, List.map_cons, List.map_nil]); rfl) ?_; (with_reducible refine (impl_set_divisor.calls kj3 _ _ t254 _ _ t257 t263 _ ?side1 ?side2 ?side3 ?side4 A13.out).mono ?_); (case side1 => repeat (exact (Kd.R_reads' HO_262000.out).2.2)); (case side2 => exact (Kd.R_reads' HO_262000.out).2.1); (case side3 => repeat (exact (Kd.R_reads' HO_262001.out).2.2)); (case side4 => exact (Kd.R_reads' HO_262001.out).2.1); rintro e w16 ⟨rfl, hb⟩; refine ⟨_, rfl, ?_⟩; replace HO_262000 := Aside0.mk (Kd.R_below HO_262000.out hb); replace HO_262001 := Aside0.mk (Kd.R_below HO_262001.out hb); replace BK261 := Aside0.mk (blk_below (g := gb261) (o := .cells #[.slice Ao7 t254.length co7, .slice Ao9 t257.length co9] 49 (0, 0)) BK261.out hb); replace HB := Aside0.mk (below_step HB.out hb); (try clear hb)))
     go_ret2
     exact ⟨by first | rfl | (simp [*, errW_none, errW_some] <;> rfl), HB.out⟩
    ·rw [if_neg c14] at H
     have c14b0 : decide (t263 < 2) = false := decide_eq_false c14
     clear c14
     by_cases c17 : t263 = 0
     ·rw [if_pos c17] at H
      exact absurd H (by simp)
     ·rw [if_neg c17] at H
      have c17b0 : (t263 == 0) = false := beq_eq_false_iff_ne.mpr c17
      have c17b1 : (t263 != 0) = true := bne_iff_ne.mpr c17
      by_cases c18 : (Int.tmod a1 t263) = 0
      ·rw [if_pos c18] at H
       have c18b0 : ((Int.tmod a1 t263) == 0) = true := beq_iff_eq.mpr c18
       have c18b1 : ((Int.tmod a1 t263) != 0) = false := bne_eq_false_iff_eq.mpr c18
       clear c18
       simp only [Option.some.injEq, Prod.mk.injEq] at H
       obtain ⟨rfl, rfl⟩ := H
       have hcz19_0 : wc.cell? ⟨gb261, 0, none⟩ = some (.slice Ao7 t254.length co7) := (blk_cell BK261.out 0).trans rfl
       have hcz19_1 : wc.cell? ⟨gb261, 1, none⟩ = some (.slice Ao9 t257.length co9) := (blk_cell BK261.out 1).trans rfl
       have hfz19_0 := blk_frozen BK261.out 0
       have hfz19_1 := blk_frozen BK261.out 1
       go_wp2_with (first | ((with_reducible refine gate_callee (f := 42) rfl ?_); refine goesL_ (some 22) rfl rfl Tryd.func42 (by kernel_rfl) rfl #[.agg #[.slice Ao7 t254.length co7, .slice Ao9 t257.length co9]] rfl (by (try simp only [List.map_toArray, List.map_cons, List.map_nil]); rfl) ?_; (with_reducible refine (impl_set_divisor.calls kj3 _ _ t254 _ _ t257 t263 _ ?side1 ?side2 ?side3 ?side4 A13.out).mono ?_); (case side1 => repeat (exact (Kd.R_reads' HO_262000.out).2.2)); (case side2 => exact (Kd.R_reads' HO_262000.out).2.1); (case side3 => repeat (exact (Kd.R_reads' HO_262001.out).2.2)); (case side4 => exact (Kd.R_reads' HO_262001.out).2.1); rintro e w20 ⟨rfl, hb⟩; refine ⟨_, rfl, ?_⟩; replace HO_262000 := Aside0.mk (Kd.R_below HO_262000.out hb); replace HO_262001 := Aside0.mk (Kd.R_below HO_262001.out hb); replace BK261 := Aside0.mk (blk_below (g := gb261) (o := .cells #[.slice Ao7 t254.length co7, .slice Ao9 t257.length co9] 49 (0, 0)) BK261.out hb); replace HB := Aside0.mk (below_step HB.out hb); (try clear hb)))
       go_ret2
       exact ⟨by first | rfl | (simp [*, errW_none, errW_some] <;> rfl), HB.out⟩
      ·rw [if_neg c18] at H
       have c18b0 : ((Int.tmod a1 t263) == 0) = false := beq_eq_false_iff_ne.mpr c18
       have c18b1 : ((Int.tmod a1 t263) != 0) = true := bne_iff_ne.mpr c18
       obtain ⟨y264, hy264⟩ : ∃ y_ : List Int, y_ = (([t263] : List Int)) := ⟨_, rfl⟩
       replace H : ((impl_proofText.f kj3 (⟨#[114, 101, 115, 116]⟩ : ByteArray) y264).bind fun t267 => (some (t267, true))) = some (r1, r2) := by first | (rw [hy264]; with_reducible exact H)
       have Ny264 := Aside0.mk hy264
       clear hy264
       replace H := Option.bind_eq_some_iff.mp H
       obtain ⟨t267, A210, H⟩ := H
       replace H : (some (t267, true)) = some (r1, r2) := H
       have A21 := Aside0.mk A210
       clear A210
       simp only [Option.some.injEq, Prod.mk.injEq] at H
       obtain ⟨rfl, rfl⟩ := H
       have hcz22_0 : wc.cell? ⟨gb261, 0, none⟩ = some (.slice Ao7 t254.length co7) := (blk_cell BK261.out 0).trans rfl
       have hcz22_1 : wc.cell? ⟨gb261, 1, none⟩ = some (.slice Ao9 t257.length co9) := (blk_cell BK261.out 1).trans rfl
       have hfz22_0 := blk_frozen BK261.out 0
       have hfz22_1 := blk_frozen BK261.out 1
       go_wp2_with (first | ((with_reducible refine gate_callee (f := 42) rfl ?_); refine goesL_ (some 22) rfl rfl Tryd.func42 (by kernel_rfl) rfl #[.agg #[.slice Ao7 t254.length co7, .slice Ao9 t257.length co9]] rfl (by (try simp only [List.map_toArray, List.map_cons, List.map_nil]); rfl) ?_; (with_reducible refine (impl_set_divisor.calls kj3 _ _ t254 _ _ t257 t263 _ ?side1 ?side2 ?side3 ?side4 A13.out).mono ?_); (case side1 => repeat (exact (Kd.R_reads' HO_262000.out).2.2)); (case side2 => exact (Kd.R_reads' HO_262000.out).2.1); (case side3 => repeat (exact (Kd.R_reads' HO_262001.out).2.2)); (case side4 => exact (Kd.R_reads' HO_262001.out).2.1); rintro e w23 ⟨rfl, hb⟩; refine ⟨_, rfl, ?_⟩; replace HO_262000 := Aside0.mk (Kd.R_below HO_262000.out hb); replace HO_262001 := Aside0.mk (Kd.R_below HO_262001.out hb); replace BK261 := Aside0.mk (blk_below (g := gb261) (o := .cells #[.slice Ao7 t254.length co7, .slice Ao9 t257.length co9] 49 (0, 0)) BK261.out hb); replace HB := Aside0.mk (below_step HB.out hb); (try clear hb)) | ((with_reducible refine gate_dst (N := 32) rfl ?_); refine Kd.R_lit (Kd.int .i64) _ 3 ?hg (N := 32) ?hd (xs := ([t263] : List Int)) (inner := [.int .i64 t263]) (ok := fun _ => True) (okp := fun _ => True) ?hr ?hp (fun _ hk => hk) trivial (Below.refl _ _) (Nat.le_refl _) (by simp) ?_; (case hd => rfl); (case hg => rfl); (case hr => first | (go_simp; done)); (case hp => exact (Reps.one (show Kd.M (Kd.int .i64) _ _ _ t263 [.int .i64 t263] from rfl) (Reps.none _ _))); intro v265 w24 ho25 hb hg_ hnew_; clear hg_ hnew_; (rw [← Ny264.out] at ho25); replace HO_262000 := Aside0.mk (Kd.R_below HO_262000.out hb); replace HO_262001 := Aside0.mk (Kd.R_below HO_262001.out hb); have HO266 := Aside0.mk (Kd.R_lower ho25 (below_size HB.out)); replace BK261 := Aside0.mk (blk_below (g := gb261) (o := .cells #[.slice Ao7 t254.length co7, .slice Ao9 t257.length co9] 49 (0, 0)) BK261.out hb); replace HB := Aside0.mk (below_step HB.out hb); clear hb ho25; obtain ⟨Ao26, co26, eo26⟩ := Kd.R_slice HO266.out; subst eo26) | ((with_reducible refine gate_callee (f := 43) rfl ?_); refine goesL_ (some 33) rfl rfl Tryd.func43 (by kernel_rfl) rfl #[.string (⟨#[114, 101, 115, 116]⟩ : ByteArray), .slice Ao26 y264.length co26] rfl (by (try simp only [List.map_toArray, List.map_cons, List.map_nil]); rfl) ?_; (with_reducible refine (impl_proofText.calls kj3 (⟨#[114, 101, 115, 116]⟩ : ByteArray) _ _ y264 t267 _ ?side1 ?side2 A21.out (Glob.below hG HB.out)).mono ?_); (case side1 => repeat (exact (Kd.R_reads' HO266.out).2.2)); (case side2 => exact (Kd.R_reads' HO266.out).2.1); rintro e w27 ⟨rfl, hb⟩; refine ⟨_, rfl, ?_⟩; replace HO_262000 := Aside0.mk (Kd.R_below HO_262000.out hb); replace HO_262001 := Aside0.mk (Kd.R_below HO_262001.out hb); replace HO266 := Aside0.mk (Kd.R_below HO266.out hb); replace BK261 := Aside0.mk (blk_below (g := gb261) (o := .cells #[.slice Ao7 t254.length co7, .slice Ao9 t257.length co9] 49 (0, 0)) BK261.out hb); replace HB := Aside0.mk (below_step HB.out hb); (try clear hb)))
       go_ret2
       exact ⟨by first | rfl | (simp [*, errW_none, errW_some] <;> rfl), HB.out⟩

end Go.Proofs.YtinjblbfaijhdaaDoor.Q

namespace Go.Proofs.YtinjblbfaijhdaaDoor.Q
open Go.RowKit Go.Proofs.YtinjblbfaijhdaaDoorW.PrintWords Go.Proofs.YtinjblbfaijhdaaDoorW.PrintLast Go.Proofs.YtinjblbfaijhdaaDoorW.PrintMore
attribute [local go_sem] max2_int min2_int max_two min_two max_three min_three max_four min_four   -- for this text's walks alone
set_option linter.unusedVariables false
set_option linter.unusedSimpArgs false

end Go.Proofs.YtinjblbfaijhdaaDoor.Q

namespace Go.Proofs.YtinjblbfaijhdaaDoor.Q
open Go.RowKit Go.Proofs.YtinjblbfaijhdaaDoorW.PrintWords Go.Proofs.YtinjblbfaijhdaaDoorW.PrintLast Go.Proofs.YtinjblbfaijhdaaDoorW.PrintMore
attribute [local go_sem] max2_int min2_int max_two min_two max_three min_three max_four min_four   -- for this text's walks alone
set_option linter.unusedVariables false
set_option linter.unusedSimpArgs false

end Go.Proofs.YtinjblbfaijhdaaDoor.Q
