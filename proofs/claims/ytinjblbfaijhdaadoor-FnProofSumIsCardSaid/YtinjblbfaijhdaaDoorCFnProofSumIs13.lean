/- The law FnProofSumIs holds for all that it draws. -/
import Derived.Test.YtinjblbfaijhdaaDoorCFnProofSumIs1
import Derived.Test.YtinjblbfaijhdaaDoorCFnProofSumIs9
import Derived.Test.YtinjblbfaijhdaaDoorCFnProofSumIs10
import Derived.Test.YtinjblbfaijhdaaDoorCFnProofSumIs11
import Derived.Test.YtinjblbfaijhdaaDoorCFnProofSumIs12
namespace Go.Proofs.YtinjblbfaijhdaaDoor.Q
open Go.RowKit Go.Proofs.YtinjblbfaijhdaaDoorW.PrintWords Go.Proofs.YtinjblbfaijhdaaDoorW.PrintLast Go.Proofs.YtinjblbfaijhdaaDoorW.PrintMore
attribute [local go_sem] max2_int min2_int max_two min_two max_three min_three max_four min_four   -- for this text's walks alone
set_option linter.unusedVariables false
set_option linter.unusedSimpArgs false
mutual
def spec_ProofSumIs.j0 : Nat → Int → List Int → Bool → List Bool → List Bool → Option (Bool)
 | 0, _, _, _, _, _ => none
 | k + 1, x1, x9, x28, x824000, x824001 => if x28 = true then (some false) else (spec_ProofSumIs.l0 k x1 x9 0 0 x824000 x824001)
def spec_ProofSumIs.l0 : Nat → Int → List Int → Int → Int → List Bool → List Bool → Option (Bool)
 | 0, _, _, _, _, _, _ => none
 | k + 1, x1, x9, x11, x12, x824000, x824001 => if x12 < (x9.length : Int) then (if 0 ≤ x12 then (if (rd x9 x12) < 1 then (some false) else ((spec_l1Has.f x824000 x824001 (rd x9 x12)).bind fun t830 => (if t830 = true then (spec_ProofSumIs.l0 k x1 x9 (wrap64 (x11 + (rd x9 x12))) (wrap64 (x12 + 1)) x824000 x824001) else (some false)))) else (none)) else (some (x11 == x1))
end
def spec_ProofSumIs.f (k : Nat) (a0 : ByteArray) (a1 : Int) (a2 : ByteArray) : Option (Bool) := (spec_l4Small.f k a0).bind fun bt816 => ((spec_l11Read.f k a2 (⟨#[115, 117, 109]⟩ : ByteArray)).bind fun bt824 => (if bt816.2.2 = true then (spec_ProofSumIs.j0 k a1 bt824.1 (!bt824.2) bt816.1 bt816.2.1) else (spec_ProofSumIs.j0 k a1 bt824.1 true bt816.1 bt816.2.1)))
theorem spec_ProofSumIs.mono_l : ∀ k, (∀ y0 y1 y2 y3 y4, LeO (spec_ProofSumIs.j0 k y0 y1 y2 y3 y4) (spec_ProofSumIs.j0 (k + 1) y0 y1 y2 y3 y4)) ∧ (∀ y0 y1 y2 y3 y4 y5, LeO (spec_ProofSumIs.l0 k y0 y1 y2 y3 y4 y5) (spec_ProofSumIs.l0 (k + 1) y0 y1 y2 y3 y4 y5))
 | 0 => ⟨fun _ _ _ _ _ r h => by simp [spec_ProofSumIs.j0] at h, fun _ _ _ _ _ _ r h => by simp [spec_ProofSumIs.l0] at h⟩
 | k + 1 => by
  obtain ⟨ih0, ih1⟩ := spec_ProofSumIs.mono_l k
  refine ⟨?_, ?_⟩
  ·intro y0 y1 y2 y3 y4
   unfold spec_ProofSumIs.j0
   repeat' first | (with_reducible exact ih1 _ _ _ _ _ _) | (with_reducible exact LeO.refl _) | (with_reducible refine LeO.ite ?_ ?_)
  ·intro y0 y1 y2 y3 y4 y5
   unfold spec_ProofSumIs.l0
   repeat' first | (with_reducible exact ih1 _ _ _ _ _ _) | (with_reducible exact LeO.refl _) | (with_reducible refine LeO.ite ?_ ?_) | (with_reducible refine LeO.bind ?_ (fun _ => ?_))
theorem spec_ProofSumIs.mono : ∀ a0 a1 a2 k, LeO (spec_ProofSumIs.f k a0 a1 a2) (spec_ProofSumIs.f (k + 1) a0 a1 a2) := by
 intro a0 a1 a2 k
 obtain ⟨ih0, ih1⟩ := spec_ProofSumIs.mono_l k
 unfold spec_ProofSumIs.f
 repeat' first | (with_reducible exact ih0 _ _ _ _ _) | (with_reducible exact spec_l11Read.mono _ _ _) | (with_reducible exact spec_l4Small.mono _ _) | (with_reducible refine LeO.ite ?_ ?_) | (with_reducible refine LeO.bind ?_ (fun _ => ?_))
def spec_ProofSumIs.T9 : Bool × List (List Nat × List Nat) := (true, [([], []), ([], []), ([0, 1], [0, 1]), ([2], [2]), ([3], [3]), ([4], [4]), ([5], [5]), ([5], [5]), ([5], [5]), ([7, 8, 5], [5, 7, 8]), ([9, 5], [5, 9]), ([6, 10, 5, 5], [5, 6, 10]), ([11, 5], [5, 11]), ([5, 12], [5, 12])])
def spec_ProofSumIs.B9 : List Nat := [0, 0, 3, 7, 15, 31, 63, 63, 63, 447, 959, 2047, 4095, 8191]
theorem spec_ProofSumIs.tab9 : rtab .any (opsOf Tryd.f31 9) = spec_ProofSumIs.T9 := by kernel_rfl
theorem spec_ProofSumIs.bits9 : waitsOk spec_ProofSumIs.T9.2 spec_ProofSumIs.B9 = true := by kernel_rfl
set_option maxHeartbeats 8000000 in
set_option maxRecDepth 100000 in
theorem spec_ProofSumIs.calls (k : Nat) (a0 : ByteArray) (a1 : Int) (a2 : ByteArray) (r : Bool) (w : World) (h : spec_ProofSumIs.f k a0 a1 a2 = some r) :
  Calls Tryd.prog 31 #[.string a0, .int .i64 a1, .string a2] w fun e w' => e = .returned (.bool r) ∧ Below w.heap.size w w' := by
 have hu56 := Tryd.underlying56
 have HB := Aside0.mk (Below.refl w.heap.size w)
 have H : ((spec_l4Small.f k a0).bind fun bt816 => ((spec_l11Read.f k a2 (⟨#[115, 117, 109]⟩ : ByteArray)).bind fun bt824 => (if bt816.2.2 = true then (spec_ProofSumIs.j0 k a1 bt824.1 (!bt824.2) bt816.1 bt816.2.1) else (spec_ProofSumIs.j0 k a1 bt824.1 true bt816.1 bt816.2.1)))) = some r := h
 clear h
 replace H := Option.bind_eq_some_iff.mp H
 obtain ⟨⟨t816, t819, t822⟩, A40, H⟩ := H
 replace H : ((spec_l11Read.f k a2 (⟨#[115, 117, 109]⟩ : ByteArray)).bind fun bt824 => (if t822 = true then (spec_ProofSumIs.j0 k a1 bt824.1 (!bt824.2) t816 t819) else (spec_ProofSumIs.j0 k a1 bt824.1 true t816 t819))) = some r := H
 have A4 := Aside0.mk A40
 clear A40
 replace H := Option.bind_eq_some_iff.mp H
 obtain ⟨⟨t824, t825⟩, A50, H⟩ := H
 replace H : (if t822 = true then (spec_ProofSumIs.j0 k a1 t824 (!t825) t816 t819) else (spec_ProofSumIs.j0 k a1 t824 true t816 t819)) = some r := H
 have A5 := Aside0.mk A50
 clear A50
 have HC6 := Aside0.mk H
 clear H
 go_enter Tryd.func31, Tryd.ntmps31
 go_upto_region 3 with (first | ((with_reducible refine gate_callee (f := 44) rfl ?_); refine goesL_ (some 15) rfl rfl Tryd.func44 (by kernel_rfl) rfl #[.string a0] rfl (by (try simp only [List.map_toArray, List.map_cons, List.map_nil]); rfl) ?_; (with_reducible refine (spec_l4Small.calls k a0 t816 t819 t822 _ A4.out).mono ?_); rintro e w7 ⟨v817, v820, rfl, ho0, ho1, hb⟩; refine ⟨_, rfl, ?_⟩; have HO818 := Aside0.mk (Kd.V_lower (Kd.V_mono (ok' := fun k_ => True) ho0 (fun k_ hk_ => trivial)) (below_size HB.out)); have HO821 := Aside0.mk (Kd.V_lower (Kd.V_mono (ok' := fun k_ => True) ho1 (fun k_ hk_ => trivial)) (below_size HB.out)); replace HB := Aside0.mk (below_step HB.out hb); (try clear hb); (try clear ho0); (try clear ho1)) | ((with_reducible refine gate_dst (N := 7) rfl ?_); refine box_event ?hg (N := 7) ?hd (cs := #[.slice none 0 0, .slice none 0 0]) (t := 56) ?hr ?_; (case hd => rfl); (case hg => rfl); (case hr => first | (go_simp; done)); intro gb823 hg w8 hbox hb; replace HO818 := Aside0.mk (Kd.V_below (Kd.V_elderB HO818.out gb823 (Nat.le_of_eq hg.symm)) hb); replace HO821 := Aside0.mk (Kd.V_below (Kd.V_elderB HO821.out gb823 (Nat.le_of_eq hg.symm)) hb); have BK823 := Aside0.mk hbox; have GW823 := Aside0.mk ((by rw [hg]; exact (below_size HB.out) : w.heap.size ≤ gb823)); have GE823 := Aside0.mk ((by rw [hg]; exact (below_size HB.out) : w.heap.size ≤ gb823)); replace HB := Aside0.mk (below_step HB.out hb); clear hb hbox hg; obtain ⟨Ao9, co9, eo9⟩ := Kd.V_slice HO818.out; subst eo9; have hcz10_0 : w8.cell? ⟨gb823, 0, none⟩ = some (.slice none 0 0) := (blk_cell BK823.out 0).trans rfl; have hcz10_1 : w8.cell? ⟨gb823, 1, none⟩ = some (.slice none 0 0) := (blk_cell BK823.out 1).trans rfl; have hfz10_0 := blk_frozen BK823.out 0; have hfz10_1 := blk_frozen BK823.out 1; obtain ⟨Ao11, co11, eo11⟩ := Kd.V_slice HO821.out; subst eo11) | ((with_reducible refine gate_callee (f := 54) rfl ?_); refine goesL_ (some 20) rfl rfl Tryd.func54 (by kernel_rfl) rfl #[.string a2, .string (⟨#[115, 117, 109]⟩ : ByteArray)] rfl (by (try simp only [List.map_toArray, List.map_cons, List.map_nil]); rfl) ?_; (with_reducible refine (spec_l11Read.calls k a2 (⟨#[115, 117, 109]⟩ : ByteArray) t824 t825 _ A5.out).mono ?_); rintro e w12 ⟨v826, rfl, ho0, hb⟩; refine ⟨_, rfl, ?_⟩; replace HO818 := Aside0.mk (Kd.V_elder' (by exact (Kd.V_mono (Kd.V_far (p := ⟨gb823, 1, none⟩) (Kd.V_far (p := ⟨gb823, 0, none⟩) (Kd.V_mono HO818.out (fun k_ hk => (⟨hk, hk.2⟩ : _ ∧ k_ ≠ gb823))) (fun _ hk => hk.2) (.slice Ao9 t816.length co9)) (fun _ hk => hk.2) (.slice Ao11 t819.length co11)) (fun _ h_ => h_.1))) (Kd.R_base ho0) hb); replace HO821 := Aside0.mk (Kd.V_elder' (by exact (Kd.V_mono (Kd.V_far (p := ⟨gb823, 1, none⟩) (Kd.V_far (p := ⟨gb823, 0, none⟩) (Kd.V_mono HO821.out (fun k_ hk => (⟨hk, hk.2⟩ : _ ∧ k_ ≠ gb823))) (fun _ hk => hk.2) (.slice Ao9 t816.length co9)) (fun _ hk => hk.2) (.slice Ao11 t819.length co11)) (fun _ h_ => h_.1))) (Kd.R_base ho0) hb); have HO827 := Aside0.mk (Kd.R_lower ho0 (below_size (by repeat (first | (with_reducible first | exact HB.out | refine below_set ?_ GE823.out))))); replace BK823 := Aside0.mk (blk_below (g := gb823) (o := .cells #[.slice Ao9 t816.length co9, .slice Ao11 t819.length co11] 56 (0, 0)) (by refine blk_put (cs := #[.slice Ao9 t816.length co9, .slice none 0 0]) ?_ 1 _ rfl; refine blk_put (cs := #[.slice none 0 0, .slice none 0 0]) ?_ 0 _ rfl; exact BK823.out) hb); replace HB := Aside0.mk (below_step (by repeat (first | (with_reducible first | exact HB.out | refine below_set ?_ GE823.out))) hb); (try clear hb); (try clear ho0)))
 go_cut [28] (fun v28 wc => ∃ (kq : Nat) (x28_5 : Bool), v28 = .bool x28_5 ∧ Aside0 (spec_ProofSumIs.j0 kq a1 t824 x28_5 t816 t819 = some r) ∧ Aside0 (kq ≤ k) ∧ Aside0 (Kd.R (Kd.int .i64) 3 wc w.heap.size (fun _ => True) v826 t824) ∧ Aside0 (Kd.V Kd.bool 4 wc w.heap.size (fun k_ => some k_ ≠ (v826 : Value).ownBlock ∧ k_ ≠ gb823) (.slice Ao9 t816.length co9) t816) ∧ Aside0 (Kd.V Kd.bool 4 wc w.heap.size (fun k_ => some k_ ≠ (v826 : Value).ownBlock ∧ k_ ≠ gb823) (.slice Ao11 t819.length co11) t819) ∧ Aside0 (wc.heap[gb823]? = some (.cells #[(.slice Ao9 t816.length co9), (.slice Ao11 t819.length co11)] 56 (0, 0))) ∧ Aside0 (Below w.heap.size w wc))
 case first =>
  have H := HC6.out
  clear HC6
  by_cases c13 : t822 = true
  ·subst c13
   replace H : (spec_ProofSumIs.j0 k a1 t824 (!t825) t816 t819) = some r := by rw [if_pos rfl] at H; exact H
   have H' := Aside0.mk H
   clear H
   go_wp2
   go_meet
   case rel => exact ⟨_, (!t825), (by rfl), H', ⟨by omega⟩, ⟨by exact HO827.out⟩, ⟨by exact Kd.V_mono HO818.out (fun _ hk => ⟨hk.2, hk.1.2⟩)⟩, ⟨by exact Kd.V_mono HO821.out (fun _ hk => ⟨hk.2, hk.1.2⟩)⟩, ⟨by exact BK823.out⟩, ⟨HB.out⟩⟩
  ·replace c13 := Bool.eq_false_iff.mpr c13
   subst c13
   replace H : (spec_ProofSumIs.j0 k a1 t824 true t816 t819) = some r := by rw [if_neg (show ¬ (false = true) by decide)] at H; exact H
   have H' := Aside0.mk H
   clear H
   go_wp2
   go_meet
   case rel => exact ⟨_, (true), (by rfl), H', ⟨by omega⟩, ⟨by exact HO827.out⟩, ⟨by exact Kd.V_mono HO818.out (fun _ hk => ⟨hk.2, hk.1.2⟩)⟩, ⟨by exact Kd.V_mono HO821.out (fun _ hk => ⟨hk.2, hk.1.2⟩)⟩, ⟨by exact BK823.out⟩, ⟨HB.out⟩⟩
 case rest =>
  clear HC6
  try clear hcz10_0
  try clear hcz10_1
  try clear hfz10_0
  try clear hfz10_1
  obtain ⟨kq, x28_5, rfl, HA, HJ5, HO_9, HO_824000, HO_824001, BK823, HB⟩ := hcut
  cases kq with
  | zero => exact absurd HA.out (by simp [spec_ProofSumIs.j0])
  | succ kj5 =>
   have H := HA.out
   clear HA
   simp only [spec_ProofSumIs.j0] at H
   by_cases c14 : x28_5 = true
   ·subst c14
    replace H : (some false) = some r := by rw [if_pos rfl] at H; exact H
    obtain rfl := Option.some.inj H
    go_wp2
    go_ret
    exact ⟨by first | rfl | (simp [*, errW_none, errW_some] <;> rfl), HB.out⟩
   ·replace c14 := Bool.eq_false_iff.mpr c14
    subst c14
    replace H : (spec_ProofSumIs.l0 kj5 a1 t824 0 0 t816 t819) = some r := by rw [if_neg (show ¬ (false = true) by decide)] at H; exact H
    have H' := Aside0.mk H
    clear H
    go_wp2
    go_loopg [11, 12] kj5 (fun kq v11 v12 w' => ∃ (x11_2 : Int) (x12_2 : Int), v11 = .int .i64 x11_2 ∧ v12 = .int .i64 x12_2 ∧ Aside0 (spec_ProofSumIs.l0 kq a1 t824 x11_2 x12_2 t816 t819 = some r) ∧ Aside0 (kq ≤ kj5) ∧ Aside0 (Kd.R (Kd.int .i64) 3 w' w.heap.size (fun _ => True) v826 t824) ∧ Aside0 (Kd.V Kd.bool 4 w' w.heap.size (fun k_ => some k_ ≠ (v826 : Value).ownBlock ∧ k_ ≠ gb823) (.slice Ao9 t816.length co9) t816) ∧ Aside0 (Kd.V Kd.bool 4 w' w.heap.size (fun k_ => some k_ ≠ (v826 : Value).ownBlock ∧ k_ ≠ gb823) (.slice Ao11 t819.length co11) t819) ∧ Aside0 (w'.heap[gb823]? = some (.cells #[(.slice Ao9 t816.length co9), (.slice Ao11 t819.length co11)] 56 (0, 0))) ∧ Aside0 (Below w.heap.size w w'))
    case atStart => exact ⟨(0), (0), (by rfl), (by rfl), H', ⟨Nat.le_refl _⟩, ⟨by exact HO_9.out⟩, ⟨by exact HO_824000.out⟩, ⟨by exact HO_824001.out⟩, ⟨by exact BK823.out⟩, ⟨HB.out⟩⟩
    case round =>
     clear H'
     obtain ⟨x11_2, x12_2, rfl, rfl, HA, HK2, HO_9, HO_824000, HO_824001, BK823, HB⟩ := hrel
     cases gk with
     | zero => exact absurd HA.out (by simp [spec_ProofSumIs.l0])
     | succ k2 =>
      have H := HA.out
      clear HA
      simp only [spec_ProofSumIs.l0] at H
      by_cases c15 : x12_2 < (t824.length : Int)
      ·rw [if_pos c15] at H
       have c15b0 : decide (x12_2 < (t824.length : Int)) = true := decide_eq_true c15
       clear c15
       by_cases c16 : 0 ≤ x12_2
       ·rw [if_pos c16] at H
        have c16b0 : decide (0 ≤ x12_2) = true := decide_eq_true c16
        clear c16
        by_cases c17 : (rd t824 x12_2) < 1
        ·rw [if_pos c17] at H
         have c17b0 : decide ((rd t824 x12_2) < 1) = true := decide_eq_true c17
         clear c17
         obtain rfl := Option.some.inj H
         obtain ⟨Ao18, co18, eo18⟩ := Kd.R_slice HO_9.out
         subst eo18
         try go_wp2
         replace HO_9 := Aside0.mk (Kd.R_drew HO_9.out)
         replace HO_824000 := Aside0.mk (Kd.V_drew HO_824000.out)
         replace HO_824001 := Aside0.mk (Kd.V_drew HO_824001.out)
         replace BK823 := Aside0.mk (blk_drew BK823.out)
         replace HB := Aside0.mk (below_drew1 HB.out)
         have p828 : 0 ≤ (x12_2 : Int) := of_decide_eq_true (by (with_reducible assumption))
         have q828 : x12_2 < (t824.length : Int) := of_decide_eq_true (by (with_reducible assumption))
         obtain ⟨ad828, e828, hx828_0⟩ := Kd.at_int (Kd.R_reads' HO_9.out).2.2 x12_2 p828 q828
         cases e828
         replace p828 := eq_true p828
         replace q828 := eq_true q828
         refine start_ (n := 14) (S := fun w' => w'.cell? (ad828.add (x12_2).toNat) = some (.int .i64 (rd t824 x12_2))) (ds := []) #[false, false, false, false, false, false, false, false, false, false, false, false, false, false] (by kernel_rfl) rfl rfl (hx828_0) (fun hHeld => ?_); refine with_tabW spec_ProofSumIs.tab9 spec_ProofSumIs.bits9 (fun HT_ HW_ => ?_)
         generalize wr.drew = w19 at HO_9 HO_824000 HO_824001 BK823 HB hx828_0 hHeld ⊢
         refine pure_ (i := 0) (N := some 35) (v := ?_) (a' := ?_) #[true, false, false, false, false, false, false, false, false, false, false, false, false, false] rfl rfl (any_of HT_.out (by kernel_rfl)) (fun _ _ _ h => h) (Or.inl ⟨by rfl, ?_⟩) ?_ ?_
         rotate_left
         ·intro w'
          go_simp
          with_reducible rfl
         rotate_left
         ·simp only [Act.put, List.setIfInBounds_toArray, List.set_cons_zero, List.set_cons_succ, i64_w, i32_w]
          rfl
         refine pure_ (i := 1) (N := some 36) (v := ?_) (a' := ?_) #[true, true, false, false, false, false, false, false, false, false, false, false, false, false] rfl rfl (any_of HT_.out (by kernel_rfl)) (fun _ _ _ h => h) (Or.inl ⟨by rfl, ?_⟩) ?_ ?_
         rotate_left
         ·intro w'
          go_simp
          with_reducible rfl
         rotate_left
         ·simp only [Act.put, List.setIfInBounds_toArray, List.set_cons_zero, List.set_cons_succ, i64_w, i32_w]
          rfl
         refine pure_ (i := 2) (N := some 37) (v := ?_) (a' := ?_) #[true, true, true, false, false, false, false, false, false, false, false, false, false, false] rfl rfl (any_of HT_.out (by kernel_rfl)) (fun _ _ _ h => h) (Or.inl ⟨by rfl, ?_⟩) ?_ ?_
         rotate_left
         ·intro w'
          go_simp
          with_reducible rfl
         rotate_left
         ·simp only [Act.put, List.setIfInBounds_toArray, List.set_cons_zero, List.set_cons_succ, i64_w, i32_w]
          rfl
         refine take_ (i := 3) (N := some 38) (v := ?_) (a' := ?_) #[true, true, true, true, false, false, false, false, false, false, false, false, false, false] rfl rfl (take_ofW HT_.out HW_.out (by kernel_rfl)) (fun _ _ _ h => h) (Or.inl ⟨by rfl, ?_⟩) hHeld ?_ ?_
         rotate_left
         ·intro w' s0
          go_simp
          with_reducible rfl
         rotate_left
         ·simp only [Act.put, List.setIfInBounds_toArray, List.set_cons_zero, List.set_cons_succ, i64_w, i32_w]
          rfl
         refine pure_ (i := 4) (N := some 39) (v := ?_) (a' := ?_) #[true, true, true, true, true, false, false, false, false, false, false, false, false, false] rfl rfl (any_of HT_.out (by kernel_rfl)) (fun _ _ _ h => h) (Or.inl ⟨by rfl, ?_⟩) ?_ ?_
         rotate_left
         ·intro w'
          go_simp
          with_reducible rfl
         rotate_left
         ·simp only [Act.put, List.setIfInBounds_toArray, List.set_cons_zero, List.set_cons_succ, i64_w, i32_w]
          rfl
         refine pure_ (i := 5) (N := some 40) (v := ?_) (a' := ?_) #[true, true, true, true, true, true, false, false, false, false, false, false, false, false] rfl rfl (any_of HT_.out (by kernel_rfl)) (fun _ _ _ h => h) (Or.inl ⟨by rfl, ?_⟩) ?_ ?_
         rotate_left
         ·intro w'
          go_simp
          with_reducible rfl
         rotate_left
         ·simp only [Act.put, List.setIfInBounds_toArray, List.set_cons_zero, List.set_cons_succ, i64_w, i32_w]
          rfl
         refine pure_ (i := 6) (N := some 41) (v := undef) (a' := ?_) #[true, true, true, true, true, true, true, false, false, false, false, false, false, false] rfl rfl (any_of HT_.out (by kernel_rfl)) (fun _ _ _ h => h) (Or.inr ⟨by rfl, rfl⟩) ?_ ?_
         rotate_left
         ·simp only [Act.put, List.setIfInBounds_toArray, List.set_cons_zero, List.set_cons_succ, i64_w, i32_w]
          rfl
         refine pure_ (i := 7) (N := some 42) (v := undef) (a' := ?_) #[true, true, true, true, true, true, true, true, false, false, false, false, false, false] rfl rfl (any_of HT_.out (by kernel_rfl)) (fun _ _ _ h => h) (Or.inr ⟨by rfl, rfl⟩) ?_ ?_
         rotate_left
         ·simp only [Act.put, List.setIfInBounds_toArray, List.set_cons_zero, List.set_cons_succ, i64_w, i32_w]
          rfl
         refine pure_ (i := 8) (N := some 43) (v := undef) (a' := ?_) #[true, true, true, true, true, true, true, true, true, false, false, false, false, false] rfl rfl (any_of HT_.out (by kernel_rfl)) (fun _ _ _ h => h) (Or.inr ⟨by rfl, rfl⟩) ?_ ?_
         rotate_left
         ·simp only [Act.put, List.setIfInBounds_toArray, List.set_cons_zero, List.set_cons_succ, i64_w, i32_w]
          rfl
         refine pure_ (i := 9) (N := some 44) (v := undef) (a' := ?_) #[true, true, true, true, true, true, true, true, true, true, false, false, false, false] rfl rfl (any_of HT_.out (by kernel_rfl)) (fun _ _ _ h => h) (Or.inr ⟨by rfl, rfl⟩) ?_ ?_
         rotate_left
         ·simp only [Act.put, List.setIfInBounds_toArray, List.set_cons_zero, List.set_cons_succ, i64_w, i32_w]
          rfl
         refine pure_ (i := 10) (N := some 45) (v := undef) (a' := ?_) #[true, true, true, true, true, true, true, true, true, true, true, false, false, false] rfl rfl (any_of HT_.out (by kernel_rfl)) (fun _ _ _ h => h) (Or.inr ⟨by rfl, rfl⟩) ?_ ?_
         rotate_left
         ·simp only [Act.put, List.setIfInBounds_toArray, List.set_cons_zero, List.set_cons_succ, i64_w, i32_w]
          rfl
         refine pure_ (i := 11) (N := some 46) (v := undef) (a' := ?_) #[true, true, true, true, true, true, true, true, true, true, true, true, false, false] rfl rfl (any_of HT_.out (by kernel_rfl)) (fun _ _ _ h => h) (Or.inr ⟨by rfl, rfl⟩) ?_ ?_
         rotate_left
         ·simp only [Act.put, List.setIfInBounds_toArray, List.set_cons_zero, List.set_cons_succ, i64_w, i32_w]
          rfl
         refine pure_ (i := 12) (N := some 47) (v := undef) (a' := ?_) #[true, true, true, true, true, true, true, true, true, true, true, true, true, false] rfl rfl (any_of HT_.out (by kernel_rfl)) (fun _ _ _ h => h) (Or.inr ⟨by rfl, rfl⟩) ?_ ?_
         rotate_left
         ·simp only [Act.put, List.setIfInBounds_toArray, List.set_cons_zero, List.set_cons_succ, i64_w, i32_w]
          rfl
         refine pure_ (i := 13) (N := some 48) (v := ?_) (a' := ?_) #[true, true, true, true, true, true, true, true, true, true, true, true, true, true] rfl rfl (any_of HT_.out (by kernel_rfl)) (fun _ _ _ h => h) (Or.inl ⟨by rfl, ?_⟩) ?_ ?_
         rotate_left
         ·intro w'
          go_simp
          with_reducible rfl
         rotate_left
         ·simp only [Act.put, List.setIfInBounds_toArray, List.set_cons_zero, List.set_cons_succ, i64_w, i32_w]
          rfl
         refine done_ (done_of HT_.out (by kernel_rfl)) ?_
         try go_wp2
         go_ret
         exact ⟨by first | rfl | (simp [*, errW_none, errW_some] <;> rfl), HB.out⟩
        ·rw [if_neg c17] at H
         have c17b0 : decide ((rd t824 x12_2) < 1) = false := decide_eq_false c17
         clear c17
         replace H := Option.bind_eq_some_iff.mp H
         obtain ⟨t830, A200, H⟩ := H
         replace H : (if t830 = true then (spec_ProofSumIs.l0 k2 a1 t824 (wrap64 (x11_2 + (rd t824 x12_2))) (wrap64 (x12_2 + 1)) t816 t819) else (some false)) = some r := H
         have A20 := Aside0.mk A200
         clear A200
         by_cases c21 : t830 = true
         ·subst c21
          replace H : (spec_ProofSumIs.l0 k2 a1 t824 (wrap64 (x11_2 + (rd t824 x12_2))) (wrap64 (x12_2 + 1)) t816 t819) = some r := by rw [if_pos rfl] at H; exact H
          have H' := Aside0.mk H
          clear H
          obtain ⟨Ao22, co22, eo22⟩ := Kd.R_slice HO_9.out
          subst eo22
          try go_wp2
          replace HO_9 := Aside0.mk (Kd.R_drew HO_9.out)
          replace HO_824000 := Aside0.mk (Kd.V_drew HO_824000.out)
          replace HO_824001 := Aside0.mk (Kd.V_drew HO_824001.out)
          replace BK823 := Aside0.mk (blk_drew BK823.out)
          replace HB := Aside0.mk (below_drew1 HB.out)
          have p828 : 0 ≤ (x12_2 : Int) := of_decide_eq_true (by (with_reducible assumption))
          have q828 : x12_2 < (t824.length : Int) := of_decide_eq_true (by (with_reducible assumption))
          obtain ⟨ad828, e828, hx828_0⟩ := Kd.at_int (Kd.R_reads' HO_9.out).2.2 x12_2 p828 q828
          cases e828
          replace p828 := eq_true p828
          replace q828 := eq_true q828
          have p829 : 0 ≤ (x12_2 : Int) := of_decide_eq_true (by (with_reducible assumption))
          have q829 : x12_2 < (t824.length : Int) := of_decide_eq_true (by (with_reducible assumption))
          obtain ⟨ad829, e829, hx829_0⟩ := Kd.at_int (Kd.R_reads' HO_9.out).2.2 x12_2 p829 q829
          obtain rfl : ad828 = ad829 := (by injection e829)
          replace p829 := eq_true p829
          replace q829 := eq_true q829
          refine start_ (n := 14) (S := fun w' => w'.cell? ⟨gb823, 0, none⟩ = some (.slice Ao9 t816.length co9) ∧ w'.cell? ⟨gb823, 1, none⟩ = some (.slice Ao11 t819.length co11) ∧ w'.cell? (ad828.add (x12_2).toNat) = some (.int .i64 (rd t824 x12_2)) ∧ w'.cell? (ad828.add (x12_2).toNat) = some (.int .i64 (rd t824 x12_2))) (ds := []) #[false, false, false, false, false, false, false, false, false, false, false, false, false, false] (by kernel_rfl) rfl rfl ⟨(blk_cell BK823.out 0).trans rfl, (blk_cell BK823.out 1).trans rfl, hx828_0, hx829_0⟩ (fun hHeld => ?_); refine with_tabW spec_ProofSumIs.tab9 spec_ProofSumIs.bits9 (fun HT_ HW_ => ?_)
          generalize wr.drew = w23 at HO_9 HO_824000 HO_824001 BK823 HB hx828_0 hx829_0 hHeld ⊢
          refine pure_ (i := 0) (N := some 35) (v := ?_) (a' := ?_) #[true, false, false, false, false, false, false, false, false, false, false, false, false, false] rfl rfl (any_of HT_.out (by kernel_rfl)) (fun _ _ _ h => h) (Or.inl ⟨by rfl, ?_⟩) ?_ ?_
          rotate_left
          ·intro w'
           go_simp
           with_reducible rfl
          rotate_left
          ·simp only [Act.put, List.setIfInBounds_toArray, List.set_cons_zero, List.set_cons_succ, i64_w, i32_w]
           rfl
          refine pure_ (i := 1) (N := some 36) (v := ?_) (a' := ?_) #[true, true, false, false, false, false, false, false, false, false, false, false, false, false] rfl rfl (any_of HT_.out (by kernel_rfl)) (fun _ _ _ h => h) (Or.inl ⟨by rfl, ?_⟩) ?_ ?_
          rotate_left
          ·intro w'
           go_simp
           with_reducible rfl
          rotate_left
          ·simp only [Act.put, List.setIfInBounds_toArray, List.set_cons_zero, List.set_cons_succ, i64_w, i32_w]
           rfl
          refine pure_ (i := 2) (N := some 37) (v := ?_) (a' := ?_) #[true, true, true, false, false, false, false, false, false, false, false, false, false, false] rfl rfl (any_of HT_.out (by kernel_rfl)) (fun _ _ _ h => h) (Or.inl ⟨by rfl, ?_⟩) ?_ ?_
          rotate_left
          ·intro w'
           go_simp
           with_reducible rfl
          rotate_left
          ·simp only [Act.put, List.setIfInBounds_toArray, List.set_cons_zero, List.set_cons_succ, i64_w, i32_w]
           rfl
          refine take_ (i := 3) (N := some 38) (v := ?_) (a' := ?_) #[true, true, true, true, false, false, false, false, false, false, false, false, false, false] rfl rfl (take_ofW HT_.out HW_.out (by kernel_rfl)) (fun _ _ _ h => h) (Or.inl ⟨by rfl, ?_⟩) hHeld ?_ ?_
          rotate_left
          ·rintro w' ⟨s0, s1, s2, s3⟩
           go_simp
           with_reducible rfl
          rotate_left
          ·simp only [Act.put, List.setIfInBounds_toArray, List.set_cons_zero, List.set_cons_succ, i64_w, i32_w]
           rfl
          refine pure_ (i := 4) (N := some 39) (v := ?_) (a' := ?_) #[true, true, true, true, true, false, false, false, false, false, false, false, false, false] rfl rfl (any_of HT_.out (by kernel_rfl)) (fun _ _ _ h => h) (Or.inl ⟨by rfl, ?_⟩) ?_ ?_
          rotate_left
          ·intro w'
           go_simp
           with_reducible rfl
          rotate_left
          ·simp only [Act.put, List.setIfInBounds_toArray, List.set_cons_zero, List.set_cons_succ, i64_w, i32_w]
           rfl
          refine pure_ (i := 5) (N := some 40) (v := ?_) (a' := ?_) #[true, true, true, true, true, true, false, false, false, false, false, false, false, false] rfl rfl (any_of HT_.out (by kernel_rfl)) (fun _ _ _ h => h) (Or.inl ⟨by rfl, ?_⟩) ?_ ?_
          rotate_left
          ·intro w'
           go_simp
           with_reducible rfl
          rotate_left
          ·simp only [Act.put, List.setIfInBounds_toArray, List.set_cons_zero, List.set_cons_succ, i64_w, i32_w]
           rfl
          refine pure_ (i := 7) (N := some 42) (v := ?_) (a' := ?_) #[true, true, true, true, true, true, false, true, false, false, false, false, false, false] rfl rfl (any_of HT_.out (by kernel_rfl)) (fun _ _ _ h => h) (Or.inl ⟨by rfl, ?_⟩) ?_ ?_
          rotate_left
          ·intro w'
           go_simp
           with_reducible rfl
          rotate_left
          ·simp only [Act.put, List.setIfInBounds_toArray, List.set_cons_zero, List.set_cons_succ, i64_w, i32_w]
           rfl
          refine pure_ (i := 8) (N := some 43) (v := ?_) (a' := ?_) #[true, true, true, true, true, true, false, true, true, false, false, false, false, false] rfl rfl (any_of HT_.out (by kernel_rfl)) (fun _ _ _ h => h) (Or.inl ⟨by rfl, ?_⟩) ?_ ?_
          rotate_left
          ·intro w'
           go_simp
           with_reducible rfl
          rotate_left
          ·simp only [Act.put, List.setIfInBounds_toArray, List.set_cons_zero, List.set_cons_succ, i64_w, i32_w]
           rfl
          refine pure_ (i := 9) (N := some 44) (v := ?_) (a' := ?_) #[true, true, true, true, true, true, false, true, true, true, false, false, false, false] rfl rfl (any_of HT_.out (by kernel_rfl)) (fun _ _ _ h => h) (Or.inl ⟨by rfl, ?_⟩) ?_ ?_
          rotate_left
          ·intro w'
           go_simp
           with_reducible rfl
          rotate_left
          ·simp only [Act.put, List.setIfInBounds_toArray, List.set_cons_zero, List.set_cons_succ, i64_w, i32_w]
           rfl
          refine take_ (i := 6) (N := some 41) (v := ?_) (a' := ?_) #[true, true, true, true, true, true, true, true, true, true, false, false, false, false] rfl rfl (take_ofW HT_.out HW_.out (by kernel_rfl)) (fun _ _ _ h => h) (Or.inl ⟨by rfl, ?_⟩) hHeld ?_ ?_
          rotate_left
          ·rintro w' ⟨s0, s1, s2, s3⟩
           go_simp
           with_reducible rfl
          rotate_left
          ·simp only [Act.put, List.setIfInBounds_toArray, List.set_cons_zero, List.set_cons_succ, i64_w, i32_w]
           rfl
          refine take_ (i := 10) (N := some 45) (v := ?_) (a' := ?_) #[true, true, true, true, true, true, true, true, true, true, true, false, false, false] rfl rfl (take_ofW HT_.out HW_.out (by kernel_rfl)) (fun _ _ _ h => h) (Or.inl ⟨by rfl, ?_⟩) hHeld ?_ ?_
          rotate_left
          ·rintro w' ⟨s0, s1, s2, s3⟩
           go_simp
           with_reducible rfl
          rotate_left
          ·simp only [Act.put, List.setIfInBounds_toArray, List.set_cons_zero, List.set_cons_succ, i64_w, i32_w]
           rfl
          refine one_ (i := 11) (N := some 46) #[true, true, true, true, true, true, true, true, true, true, true, true, false, false] rfl rfl (one_of HT_.out (by kernel_rfl)) (by decide) (fun K hK => ?_)
          refine goes_ Tryd.func61 (by kernel_rfl) rfl #[.agg #[.slice Ao9 t816.length co9, .slice Ao11 t819.length co11], .int .i64 (rd t824 x12_2)] (by rfl) rfl rfl (by (try simp only [List.map_toArray, List.map_cons, List.map_nil]); rfl) ?_
          with_reducible refine (spec_l1Has.calls _ _ t816 _ _ t819 (rd t824 x12_2) true _ ?side1 ?side2 ?side3 ?side4 A20.out).mono ?_
          (case side1 => repeat (exact (Kd.V_reads' HO_824000.out).2.2))
          (case side2 => exact (Kd.V_reads' HO_824000.out).2.1)
          (case side3 => repeat (exact (Kd.V_reads' HO_824001.out).2.2))
          (case side4 => exact (Kd.V_reads' HO_824001.out).2.1)
          rintro e w24 ⟨rfl, hb⟩
          have HS2_ := (hb.cell (World.block_lt_of_cell? _ _ (hHeld.2.2.1))).trans (hHeld.2.2.1)
          have HS3_ := (hb.cell (World.block_lt_of_cell? _ _ (hHeld.2.2.2))).trans (hHeld.2.2.2)
          refine ⟨_, rfl, ?_⟩
          replace HO_9 := Aside0.mk (Kd.R_below HO_9.out hb)
          replace HO_824000 := Aside0.mk (Kd.V_below HO_824000.out hb)
          replace HO_824001 := Aside0.mk (Kd.V_below HO_824001.out hb)
          replace BK823 := Aside0.mk (blk_below (g := gb823) (o := .cells #[.slice Ao9 t816.length co9, .slice Ao11 t819.length co11] 56 (0, 0)) BK823.out hb)
          replace HB := Aside0.mk (below_step HB.out hb)
          (try clear hb)
          refine hK.out _ _ ⟨(blk_cell BK823.out 0).trans rfl, (blk_cell BK823.out 1).trans rfl, HS2_, HS3_⟩ (fun hHeld => ?_)
          clear hK K
          refine norm_ (a' := ?_) ?_ ?_
          rotate_left
          ·show Act.put _ (some 46) _ = _
           simp only [Act.put, List.setIfInBounds_toArray, List.set_cons_zero, List.set_cons_succ, i64_w, i32_w]
           rfl
          refine pure_ (i := 12) (N := some 47) (v := ?_) (a' := ?_) #[true, true, true, true, true, true, true, true, true, true, true, true, true, false] rfl rfl (any_of HT_.out (by kernel_rfl)) (fun _ _ _ h => h) (Or.inl ⟨by rfl, ?_⟩) ?_ ?_
          rotate_left
          ·intro w'
           go_simp
           with_reducible rfl
          rotate_left
          ·simp only [Act.put, List.setIfInBounds_toArray, List.set_cons_zero, List.set_cons_succ, i64_w, i32_w]
           rfl
          refine pure_ (i := 13) (N := some 48) (v := ?_) (a' := ?_) #[true, true, true, true, true, true, true, true, true, true, true, true, true, true] rfl rfl (any_of HT_.out (by kernel_rfl)) (fun _ _ _ h => h) (Or.inl ⟨by rfl, ?_⟩) ?_ ?_
          rotate_left
          ·intro w'
           go_simp
           with_reducible rfl
          rotate_left
          ·simp only [Act.put, List.setIfInBounds_toArray, List.set_cons_zero, List.set_cons_succ, i64_w, i32_w]
           rfl
          refine done_ (done_of HT_.out (by kernel_rfl)) ?_
          have p831 : 0 ≤ (x12_2 : Int) := of_decide_eq_true (by (with_reducible assumption))
          have q831 : x12_2 < (t824.length : Int) := of_decide_eq_true (by (with_reducible assumption))
          obtain ⟨ad831, e831, hx831_0⟩ := Kd.at_int (Kd.R_reads' HO_9.out).2.2 x12_2 p831 q831
          obtain rfl : ad828 = ad831 := (by injection e831)
          replace p831 := eq_true p831
          replace q831 := eq_true q831
          try go_wp2
          go_roundg k2
          case measure => have := HJ5.out; have := HK2.out; omega
          case rel => exact ⟨(wrap64 (x11_2 + (rd t824 x12_2))), (wrap64 (x12_2 + 1)), (by rfl), (by rfl), H', ⟨by have := HJ5.out; have := HK2.out; omega⟩, ⟨by exact HO_9.out⟩, ⟨by exact HO_824000.out⟩, ⟨by exact HO_824001.out⟩, ⟨by exact BK823.out⟩, ⟨HB.out⟩⟩
         ·replace c21 := Bool.eq_false_iff.mpr c21
          subst c21
          replace H : (some false) = some r := by rw [if_neg (show ¬ (false = true) by decide)] at H; exact H
          obtain rfl := Option.some.inj H
          obtain ⟨Ao25, co25, eo25⟩ := Kd.R_slice HO_9.out
          subst eo25
          try go_wp2
          replace HO_9 := Aside0.mk (Kd.R_drew HO_9.out)
          replace HO_824000 := Aside0.mk (Kd.V_drew HO_824000.out)
          replace HO_824001 := Aside0.mk (Kd.V_drew HO_824001.out)
          replace BK823 := Aside0.mk (blk_drew BK823.out)
          replace HB := Aside0.mk (below_drew1 HB.out)
          have p828 : 0 ≤ (x12_2 : Int) := of_decide_eq_true (by (with_reducible assumption))
          have q828 : x12_2 < (t824.length : Int) := of_decide_eq_true (by (with_reducible assumption))
          obtain ⟨ad828, e828, hx828_0⟩ := Kd.at_int (Kd.R_reads' HO_9.out).2.2 x12_2 p828 q828
          cases e828
          replace p828 := eq_true p828
          replace q828 := eq_true q828
          have p829 : 0 ≤ (x12_2 : Int) := of_decide_eq_true (by (with_reducible assumption))
          have q829 : x12_2 < (t824.length : Int) := of_decide_eq_true (by (with_reducible assumption))
          obtain ⟨ad829, e829, hx829_0⟩ := Kd.at_int (Kd.R_reads' HO_9.out).2.2 x12_2 p829 q829
          obtain rfl : ad828 = ad829 := (by injection e829)
          replace p829 := eq_true p829
          replace q829 := eq_true q829
          refine start_ (n := 14) (S := fun w' => w'.cell? ⟨gb823, 0, none⟩ = some (.slice Ao9 t816.length co9) ∧ w'.cell? ⟨gb823, 1, none⟩ = some (.slice Ao11 t819.length co11) ∧ w'.cell? (ad828.add (x12_2).toNat) = some (.int .i64 (rd t824 x12_2)) ∧ w'.cell? (ad828.add (x12_2).toNat) = some (.int .i64 (rd t824 x12_2))) (ds := []) #[false, false, false, false, false, false, false, false, false, false, false, false, false, false] (by kernel_rfl) rfl rfl ⟨(blk_cell BK823.out 0).trans rfl, (blk_cell BK823.out 1).trans rfl, hx828_0, hx829_0⟩ (fun hHeld => ?_); refine with_tabW spec_ProofSumIs.tab9 spec_ProofSumIs.bits9 (fun HT_ HW_ => ?_)
          generalize wr.drew = w26 at HO_9 HO_824000 HO_824001 BK823 HB hx828_0 hx829_0 hHeld ⊢
          refine pure_ (i := 0) (N := some 35) (v := ?_) (a' := ?_) #[true, false, false, false, false, false, false, false, false, false, false, false, false, false] rfl rfl (any_of HT_.out (by kernel_rfl)) (fun _ _ _ h => h) (Or.inl ⟨by rfl, ?_⟩) ?_ ?_
          rotate_left
          ·intro w'
           go_simp
           with_reducible rfl
          rotate_left
          ·simp only [Act.put, List.setIfInBounds_toArray, List.set_cons_zero, List.set_cons_succ, i64_w, i32_w]
           rfl
          refine pure_ (i := 1) (N := some 36) (v := ?_) (a' := ?_) #[true, true, false, false, false, false, false, false, false, false, false, false, false, false] rfl rfl (any_of HT_.out (by kernel_rfl)) (fun _ _ _ h => h) (Or.inl ⟨by rfl, ?_⟩) ?_ ?_
          rotate_left
          ·intro w'
           go_simp
           with_reducible rfl
          rotate_left
          ·simp only [Act.put, List.setIfInBounds_toArray, List.set_cons_zero, List.set_cons_succ, i64_w, i32_w]
           rfl
          refine pure_ (i := 2) (N := some 37) (v := ?_) (a' := ?_) #[true, true, true, false, false, false, false, false, false, false, false, false, false, false] rfl rfl (any_of HT_.out (by kernel_rfl)) (fun _ _ _ h => h) (Or.inl ⟨by rfl, ?_⟩) ?_ ?_
          rotate_left
          ·intro w'
           go_simp
           with_reducible rfl
          rotate_left
          ·simp only [Act.put, List.setIfInBounds_toArray, List.set_cons_zero, List.set_cons_succ, i64_w, i32_w]
           rfl
          refine take_ (i := 3) (N := some 38) (v := ?_) (a' := ?_) #[true, true, true, true, false, false, false, false, false, false, false, false, false, false] rfl rfl (take_ofW HT_.out HW_.out (by kernel_rfl)) (fun _ _ _ h => h) (Or.inl ⟨by rfl, ?_⟩) hHeld ?_ ?_
          rotate_left
          ·rintro w' ⟨s0, s1, s2, s3⟩
           go_simp
           with_reducible rfl
          rotate_left
          ·simp only [Act.put, List.setIfInBounds_toArray, List.set_cons_zero, List.set_cons_succ, i64_w, i32_w]
           rfl
          refine pure_ (i := 4) (N := some 39) (v := ?_) (a' := ?_) #[true, true, true, true, true, false, false, false, false, false, false, false, false, false] rfl rfl (any_of HT_.out (by kernel_rfl)) (fun _ _ _ h => h) (Or.inl ⟨by rfl, ?_⟩) ?_ ?_
          rotate_left
          ·intro w'
           go_simp
           with_reducible rfl
          rotate_left
          ·simp only [Act.put, List.setIfInBounds_toArray, List.set_cons_zero, List.set_cons_succ, i64_w, i32_w]
           rfl
          refine pure_ (i := 5) (N := some 40) (v := ?_) (a' := ?_) #[true, true, true, true, true, true, false, false, false, false, false, false, false, false] rfl rfl (any_of HT_.out (by kernel_rfl)) (fun _ _ _ h => h) (Or.inl ⟨by rfl, ?_⟩) ?_ ?_
          rotate_left
          ·intro w'
           go_simp
           with_reducible rfl
          rotate_left
          ·simp only [Act.put, List.setIfInBounds_toArray, List.set_cons_zero, List.set_cons_succ, i64_w, i32_w]
           rfl
          refine pure_ (i := 7) (N := some 42) (v := ?_) (a' := ?_) #[true, true, true, true, true, true, false, true, false, false, false, false, false, false] rfl rfl (any_of HT_.out (by kernel_rfl)) (fun _ _ _ h => h) (Or.inl ⟨by rfl, ?_⟩) ?_ ?_
          rotate_left
          ·intro w'
           go_simp
           with_reducible rfl
          rotate_left
          ·simp only [Act.put, List.setIfInBounds_toArray, List.set_cons_zero, List.set_cons_succ, i64_w, i32_w]
           rfl
          refine pure_ (i := 8) (N := some 43) (v := ?_) (a' := ?_) #[true, true, true, true, true, true, false, true, true, false, false, false, false, false] rfl rfl (any_of HT_.out (by kernel_rfl)) (fun _ _ _ h => h) (Or.inl ⟨by rfl, ?_⟩) ?_ ?_
          rotate_left
          ·intro w'
           go_simp
           with_reducible rfl
          rotate_left
          ·simp only [Act.put, List.setIfInBounds_toArray, List.set_cons_zero, List.set_cons_succ, i64_w, i32_w]
           rfl
          refine pure_ (i := 9) (N := some 44) (v := ?_) (a' := ?_) #[true, true, true, true, true, true, false, true, true, true, false, false, false, false] rfl rfl (any_of HT_.out (by kernel_rfl)) (fun _ _ _ h => h) (Or.inl ⟨by rfl, ?_⟩) ?_ ?_
          rotate_left
          ·intro w'
           go_simp
           with_reducible rfl
          rotate_left
          ·simp only [Act.put, List.setIfInBounds_toArray, List.set_cons_zero, List.set_cons_succ, i64_w, i32_w]
           rfl
          refine take_ (i := 6) (N := some 41) (v := ?_) (a' := ?_) #[true, true, true, true, true, true, true, true, true, true, false, false, false, false] rfl rfl (take_ofW HT_.out HW_.out (by kernel_rfl)) (fun _ _ _ h => h) (Or.inl ⟨by rfl, ?_⟩) hHeld ?_ ?_
          rotate_left
          ·rintro w' ⟨s0, s1, s2, s3⟩
           go_simp
           with_reducible rfl
          rotate_left
          ·simp only [Act.put, List.setIfInBounds_toArray, List.set_cons_zero, List.set_cons_succ, i64_w, i32_w]
           rfl
          refine take_ (i := 10) (N := some 45) (v := ?_) (a' := ?_) #[true, true, true, true, true, true, true, true, true, true, true, false, false, false] rfl rfl (take_ofW HT_.out HW_.out (by kernel_rfl)) (fun _ _ _ h => h) (Or.inl ⟨by rfl, ?_⟩) hHeld ?_ ?_
          rotate_left
          ·rintro w' ⟨s0, s1, s2, s3⟩
           go_simp
           with_reducible rfl
          rotate_left
          ·simp only [Act.put, List.setIfInBounds_toArray, List.set_cons_zero, List.set_cons_succ, i64_w, i32_w]
           rfl
          refine one_ (i := 11) (N := some 46) #[true, true, true, true, true, true, true, true, true, true, true, true, false, false] rfl rfl (one_of HT_.out (by kernel_rfl)) (by decide) (fun K hK => ?_)
          refine goes_ Tryd.func61 (by kernel_rfl) rfl #[.agg #[.slice Ao9 t816.length co9, .slice Ao11 t819.length co11], .int .i64 (rd t824 x12_2)] (by rfl) rfl rfl (by (try simp only [List.map_toArray, List.map_cons, List.map_nil]); rfl) ?_
          with_reducible refine (spec_l1Has.calls _ _ t816 _ _ t819 (rd t824 x12_2) false _ ?side1 ?side2 ?side3 ?side4 A20.out).mono ?_
          (case side1 => repeat (exact (Kd.V_reads' HO_824000.out).2.2))
          (case side2 => exact (Kd.V_reads' HO_824000.out).2.1)
          (case side3 => repeat (exact (Kd.V_reads' HO_824001.out).2.2))
          (case side4 => exact (Kd.V_reads' HO_824001.out).2.1)
          rintro e w27 ⟨rfl, hb⟩
          have HS2_ := (hb.cell (World.block_lt_of_cell? _ _ (hHeld.2.2.1))).trans (hHeld.2.2.1)
          have HS3_ := (hb.cell (World.block_lt_of_cell? _ _ (hHeld.2.2.2))).trans (hHeld.2.2.2)
          refine ⟨_, rfl, ?_⟩
          replace HO_9 := Aside0.mk (Kd.R_below HO_9.out hb)
          replace HO_824000 := Aside0.mk (Kd.V_below HO_824000.out hb)
          replace HO_824001 := Aside0.mk (Kd.V_below HO_824001.out hb)
          replace BK823 := Aside0.mk (blk_below (g := gb823) (o := .cells #[.slice Ao9 t816.length co9, .slice Ao11 t819.length co11] 56 (0, 0)) BK823.out hb)
          replace HB := Aside0.mk (below_step HB.out hb)
          (try clear hb)
          refine hK.out _ _ ⟨(blk_cell BK823.out 0).trans rfl, (blk_cell BK823.out 1).trans rfl, HS2_, HS3_⟩ (fun hHeld => ?_)
          clear hK K
          refine norm_ (a' := ?_) ?_ ?_
          rotate_left
          ·show Act.put _ (some 46) _ = _
           simp only [Act.put, List.setIfInBounds_toArray, List.set_cons_zero, List.set_cons_succ, i64_w, i32_w]
           rfl
          refine pure_ (i := 12) (N := some 47) (v := ?_) (a' := ?_) #[true, true, true, true, true, true, true, true, true, true, true, true, true, false] rfl rfl (any_of HT_.out (by kernel_rfl)) (fun _ _ _ h => h) (Or.inl ⟨by rfl, ?_⟩) ?_ ?_
          rotate_left
          ·intro w'
           go_simp
           with_reducible rfl
          rotate_left
          ·simp only [Act.put, List.setIfInBounds_toArray, List.set_cons_zero, List.set_cons_succ, i64_w, i32_w]
           rfl
          refine pure_ (i := 13) (N := some 48) (v := ?_) (a' := ?_) #[true, true, true, true, true, true, true, true, true, true, true, true, true, true] rfl rfl (any_of HT_.out (by kernel_rfl)) (fun _ _ _ h => h) (Or.inl ⟨by rfl, ?_⟩) ?_ ?_
          rotate_left
          ·intro w'
           go_simp
           with_reducible rfl
          rotate_left
          ·simp only [Act.put, List.setIfInBounds_toArray, List.set_cons_zero, List.set_cons_succ, i64_w, i32_w]
           rfl
          refine done_ (done_of HT_.out (by kernel_rfl)) ?_
          try go_wp2
          go_ret
          exact ⟨by first | rfl | (simp [*, errW_none, errW_some] <;> rfl), HB.out⟩
       ·rw [if_neg c16] at H
        exact absurd H (by simp)
      ·rw [if_neg c15] at H
       have c15b0 : decide (x12_2 < (t824.length : Int)) = false := decide_eq_false c15
       clear c15
       obtain rfl := Option.some.inj H
       obtain ⟨Ao28, co28, eo28⟩ := Kd.R_slice HO_9.out
       subst eo28
       go_wp2
       go_ret
       exact ⟨by first | rfl | (simp [*, errW_none, errW_some] <;> rfl), HB.out⟩


/-- A state of type 74 at block g of W; what its slices lead to came in by w0. -/
def IsS74 (w0 W : World) (g : Nat) (f0 : List Int) (f1 : Int) : Prop := ∃ A0 c0, W.heap[g]? = some (.cells #[.slice A0 f0.length c0, .int .i64 f1] 74 (0, 0)) ∧ w0.heap.size ≤ g ∧ Kd.C (Kd.int .u8) w0 A0 f0.length f0
theorem IsS74.grown {w0 W : World} {g : Nat} {f0 : List Int} {f1 : Int} {W1 : World} {row : Option Nat} (h : IsS74 w0 W g f0 f1) (hw : W.grownBy W1 row) (hne : some g ≠ row) : IsS74 w0 W1 g f0 f1 := by
 obtain ⟨A0, c0, hb, hg, hr0⟩ := h
 exact ⟨A0, c0, blk_grown hb hw hne, hg, hr0⟩
theorem IsS74.fresh {w0 W : World} {g : Nat} {f0 : List Int} {f1 : Int} (h : IsS74 w0 W g f0 f1) : ∀ k, W.heap.size ≤ k → k ≠ g := by
 obtain ⟨A0, c0, hb, hg, hr0⟩ := h
 exact Kd.freshB hb
theorem IsS74.kept {w0 W : World} {g : Nat} {f0 : List Int} {f1 : Int} {W1 : World} {S : Nat → Prop} (h : IsS74 w0 W g f0 f1) (hk : Kept W W1 S) (hne : ¬ S g) : IsS74 w0 W1 g f0 f1 := by
 obtain ⟨A0, c0, hb, hg, hr0⟩ := h
 exact ⟨A0, c0, blk_kept hb hk hne, hg, hr0⟩
theorem IsS74.below {w0 W : World} {g : Nat} {f0 : List Int} {f1 : Int} {W1 : World} (h : IsS74 w0 W g f0 f1) (hw : Below W.heap.size W W1) : IsS74 w0 W1 g f0 f1 := h.grown (grown_of_below hw none) (by simp)
theorem IsS74.alloc {w0 W : World} {g : Nat} {f0 : List Int} {f1 : Int} (h : IsS74 w0 W g f0 f1) (o : Obj) : IsS74 w0 (W.alloc o) g f0 f1 := h.below (below_alloc (Below.refl _ _) o)
theorem IsS74.drewN {w0 W : World} {g : Nat} {f0 : List Int} {f1 : Int} (h : IsS74 w0 W g f0 f1) (m : Nat) : IsS74 w0 (W.drewN m) g f0 f1 := h
theorem IsS74.drew {w0 W : World} {g : Nat} {f0 : List Int} {f1 : Int} (h : IsS74 w0 W g f0 f1) : IsS74 w0 W.drew g f0 f1 := h
theorem IsS74.at_ {w0 W : World} {g : Nat} {f0 : List Int} {f1 : Int} {w' : World} {m : Nat} (hq : W.drewN m = w') (h : IsS74 w0 W g f0 f1) : IsS74 w0 w' g f0 f1 := by subst hq; exact IsS74.drewN h m
theorem IsS74.apart {w0 W : World} {g : Nat} {f0 : List Int} {f1 : Int} {α : Type} {d : Kd α} {e : Nat} {base : Nat} {ok : Nat → Prop} {v : Value} {xs : List α} (h : IsS74 w0 W g f0 f1) (ho : d.R e W base ok v xs) (ht : ∀ q, q ∈ e :: d.E → q ≠ 74) : d.R e W base (fun k => ok k ∧ k ≠ g) v xs := by
 obtain ⟨A0, c0, hb, hg, hr0⟩ := h
 exact Kd.R_types ho hb ht
theorem IsS74.own_ne {w0 W : World} {g : Nat} {f0 : List Int} {f1 : Int} {α : Type} {d : Kd α} {e : Nat} {base : Nat} {ok : Nat → Prop} {v : Value} {xs : List α} (h : IsS74 w0 W g f0 f1) (ho : d.R e W base ok v xs) (ht : e ≠ 74) : some g ≠ v.ownBlock := by
 obtain ⟨A0, c0, hb, hg, hr0⟩ := h
 exact Kd.R_ne ho hb ht
theorem IsS74.lt {w0 W : World} {g : Nat} {f0 : List Int} {f1 : Int} (h : IsS74 w0 W g f0 f1) : g < W.heap.size := by
 obtain ⟨A0, c0, hb, hg, hr0⟩ := h
 exact blk_lt hb
theorem IsS74.ge {w0 W : World} {g : Nat} {f0 : List Int} {f1 : Int} (h : IsS74 w0 W g f0 f1) : w0.heap.size ≤ g := by
 obtain ⟨A0, c0, hb, hg, hr0⟩ := h
 exact hg
theorem cellS74_0 {W : World} {g : Nat} {A0 : Option Addr} {c0 : Nat} {f0 : List Int} {f1 : Int} (h : W.heap[g]? = some (.cells #[.slice A0 f0.length c0, .int .i64 f1] 74 (0, 0))) : W.cell? ⟨g, 0, none⟩ = some (.slice A0 f0.length c0) := (blk_cell h 0).trans rfl
theorem cellS74_1 {W : World} {g : Nat} {A0 : Option Addr} {c0 : Nat} {f0 : List Int} {f1 : Int} (h : W.heap[g]? = some (.cells #[.slice A0 f0.length c0, .int .i64 f1] 74 (0, 0))) : W.cell? ⟨g, 1, none⟩ = some (.int .i64 f1) := (blk_cell h 1).trans rfl
theorem IsS74.set_1 {w0 W : World} {g : Nat} {f0 : List Int} {f1 : Int} (h : IsS74 w0 W g f0 f1) (x : Int) : IsS74 w0 (W.setCell ⟨g, 1, none⟩ (.int .i64 x)) g f0 x := by
 obtain ⟨A0, c0, hb, hg, hr0⟩ := h
 exact ⟨A0, c0, by simpa using blk_set hb 1 (.int .i64 x), hg, hr0⟩
def spec_l6Open.f (l0 : List Int) : Option (List Int × Int) := if (l0.length : Int) > 2000 then (if 2000 ≤ (l0.length : Int) then (some (l0.take 2000, 0)) else (none)) else (some (l0, 0))
set_option maxHeartbeats 8000000 in
set_option maxRecDepth 100000 in
theorem spec_l6Open.calls (A0 : Option Addr) (c0 : Nat) (l0 : List Int) (r1 : List Int) (r2 : Int) (w0 w : World) (hB : Below w0.heap.size w0 w) (hr0 : Kd.C (Kd.int .u8) w0 A0 l0.length l0) (hc0 : l0.length ≤ c0) (h : spec_l6Open.f l0 = some (r1, r2)) :
  Calls Tryd.prog 37 #[.slice A0 l0.length c0] w fun e w' => ∃ g_ : Nat, e = .returned (.pointer (some ⟨g_, 0, none⟩)) ∧ IsS74 w0 w' g_ r1 r2 ∧ Below w0.heap.size w0 w' ∧ Below w.heap.size w w' := by
 have hu74 := Tryd.underlying74
 have HR0 := Aside0.mk hr0
 have HC0 := Aside0.mk hc0
 clear hr0 hc0
 have HBW := Aside0.mk (Below.refl w.heap.size w)
 have HW0 := Aside0.mk hB.size
 have HB := Aside0.mk hB
 clear hB
 have H : (if (l0.length : Int) > 2000 then (if 2000 ≤ (l0.length : Int) then (some (l0.take 2000, 0)) else (none)) else (some (l0, 0))) = some (r1, r2) := h
 clear h
 by_cases c2 : (l0.length : Int) > 2000
 ·rw [if_pos c2] at H
  have c2b0 : decide (2000 < (l0.length : Int)) = true := decide_eq_true c2
  have c2b1 : decide (2000 < l0.length) = true := decide_eq_true (by omega)
  clear c2
  by_cases c3 : 2000 ≤ (l0.length : Int)
  ·rw [if_pos c3] at H
   have c3b0 := eq_true c3
   have c3b1 : decide (2000 ≤ (l0.length : Int)) = true := decide_eq_true c3
   clear c3
   simp only [Option.some.injEq, Prod.mk.injEq] at H
   obtain ⟨rfl, rfl⟩ := H
   obtain ⟨i04, hi04, _, hsz4, _⟩ := info_parts info5
   obtain ⟨hcut4, hA4, hC4⟩ := print_take_of (P := Tryd.prog) (Value.int .u8) 0 22 5 .i64 Tryd.underlying22 hi04 hsz4 A0 c0 l0 2000 (by omega) (of_decide_eq_true (by (with_reducible assumption))) HC0.out
   have HR101 := Aside0.mk (Kd.C_of_reads (h1 := fun _ => rfl) (hA4 _ (Kd.reads_of_C HR0.out)))
   have HC101 := Aside0.mk hC4
   clear hA4 hC4 hi04 hsz4
   go_enter Tryd.func37, Tryd.ntmps37
   go_wp2_with (first | ((with_reducible refine gate_dst (N := 10) rfl ?_); refine box_event ?hg (N := 10) ?hd (cs := #[.slice A0 (l0.take 2000).length c0, .int .i64 0]) (t := 74) ?hr ?_; (case hd => rfl); (case hg => rfl); (case hr => first | (go_simp; done)); intro gb102 hg w5 hbox hb; replace HB := Aside0.mk (below_step HB.out hb); have BK102 := Aside0.mk hbox; have GW102 := Aside0.mk ((by rw [hg]; exact (below_size HBW.out) : w.heap.size ≤ gb102)); have GE102 := Aside0.mk ((Nat.le_trans HW0.out (by rw [hg]; exact (below_size HBW.out) : w.heap.size ≤ gb102) : w0.heap.size ≤ gb102)); replace HBW := Aside0.mk (below_step HBW.out hb); clear hb hbox hg))
   go_ret
   exact ⟨_, rfl, (show IsS74 w0 _ gb102 (l0.take 2000) 0 from ⟨_, _, by exact BK102.out, GE102.out, HR101.out⟩), HB.out, HBW.out⟩
  ·rw [if_neg c3] at H
   exact absurd H (by simp)
 ·rw [if_neg c2] at H
  have c2b0 : decide (2000 < (l0.length : Int)) = false := decide_eq_false c2
  have c2b1 : decide (2000 < l0.length) = false := decide_eq_false (by omega)
  clear c2
  simp only [Option.some.injEq, Prod.mk.injEq] at H
  obtain ⟨rfl, rfl⟩ := H
  go_enter Tryd.func37, Tryd.ntmps37
  go_wp2_with (first | ((with_reducible refine gate_dst (N := 10) rfl ?_); refine box_event ?hg (N := 10) ?hd (cs := #[.slice A0 l0.length c0, .int .i64 0]) (t := 74) ?hr ?_; (case hd => rfl); (case hg => rfl); (case hr => first | (go_simp; done)); intro gb103 hg w6 hbox hb; replace HB := Aside0.mk (below_step HB.out hb); have BK103 := Aside0.mk hbox; have GW103 := Aside0.mk ((by rw [hg]; exact (below_size HBW.out) : w.heap.size ≤ gb103)); have GE103 := Aside0.mk ((Nat.le_trans HW0.out (by rw [hg]; exact (below_size HBW.out) : w.heap.size ≤ gb103) : w0.heap.size ≤ gb103)); replace HBW := Aside0.mk (below_step HBW.out hb); clear hb hbox hg))
  go_ret
  exact ⟨_, rfl, (show IsS74 w0 _ gb103 l0 0 from ⟨_, _, by exact BK103.out, GE103.out, HR0.out⟩), HB.out, HBW.out⟩


def spec_l6Rd_pick.j0 : Nat → Int → Bool → List Int → Int → Option (Int × Int)
 | 0, _, _, _, _ => none
 | k + 1, x1, x24, x1000, x1001 => if x24 = true then (some (0, x1001)) else (if (wrap64 (x1001 - 1)) < (x1000.length : Int) then (if 0 ≤ (wrap64 (x1001 - 1)) then (if x1 = 0 then (none) else (some (Int.tmod (wrap64 (rd x1000 (wrap64 (x1001 - 1)))) x1, x1001))) else (none)) else (if (x1000.length : Int) = 0 then (none) else (if 0 ≤ (Int.tmod (wrap64 (x1001 - 1)) (x1000.length : Int)) then (if (Int.tmod (wrap64 (x1001 - 1)) (x1000.length : Int)) < (x1000.length : Int) then (if 0 ≤ (Int.tmod (wrap64 ((wrap64 ((wrap64 (x1001 - 1)) * 7)) + 3)) (x1000.length : Int)) then (if (Int.tmod (wrap64 ((wrap64 ((wrap64 (x1001 - 1)) * 7)) + 3)) (x1000.length : Int)) < (x1000.length : Int) then (if x1 = 0 then (none) else (some (Int.tmod (Go.bits .xor .i64 (wrap64 ((wrap64 ((wrap64 ((wrap64 ((wrap64 (rd x1000 (Int.tmod (wrap64 (x1001 - 1)) (x1000.length : Int)))) * 131)) + (wrap64 ((wrap64 (rd x1000 (Int.tmod (wrap64 ((wrap64 ((wrap64 (x1001 - 1)) * 7)) + 3)) (x1000.length : Int)))) * 1117)))) + (wrap64 ((wrap64 (x1001 - 1)) * 29)))) + (wrap64 ((wrap64 (Int.tdiv (wrap64 (x1001 - 1)) (x1000.length : Int))) * 53)))) (wrap64 (Int.tdiv (wrap64 ((wrap64 ((wrap64 ((wrap64 ((wrap64 (rd x1000 (Int.tmod (wrap64 (x1001 - 1)) (x1000.length : Int)))) * 131)) + (wrap64 ((wrap64 (rd x1000 (Int.tmod (wrap64 ((wrap64 ((wrap64 (x1001 - 1)) * 7)) + 3)) (x1000.length : Int)))) * 1117)))) + (wrap64 ((wrap64 (x1001 - 1)) * 29)))) + (wrap64 ((wrap64 (Int.tdiv (wrap64 (x1001 - 1)) (x1000.length : Int))) * 53)))) 64))) x1, x1001))) else (none)) else (none)) else (none)) else (none))))
def spec_l6Rd_pick.f (k : Nat) (s0_0 : List Int) (s0_1 : Int) (a1 : Int) : Option (Int × Int) := if a1 < 1 then (spec_l6Rd_pick.j0 k a1 true s0_0 (wrap64 (s0_1 + 1))) else (spec_l6Rd_pick.j0 k a1 ((s0_0.length : Int) == 0) s0_0 (wrap64 (s0_1 + 1)))
theorem spec_l6Rd_pick.mono_l : ∀ k, (∀ y0 y1 y2 y3, LeO (spec_l6Rd_pick.j0 k y0 y1 y2 y3) (spec_l6Rd_pick.j0 (k + 1) y0 y1 y2 y3))
 | 0 => fun _ _ _ _ r h => by simp [spec_l6Rd_pick.j0] at h
 | k + 1 => by
  have ih0 := spec_l6Rd_pick.mono_l k
  ·intro y0 y1 y2 y3
   unfold spec_l6Rd_pick.j0
   repeat' (with_reducible exact LeO.refl _)
theorem spec_l6Rd_pick.mono : ∀ a0 a1 a2 k, LeO (spec_l6Rd_pick.f k a0 a1 a2) (spec_l6Rd_pick.f (k + 1) a0 a1 a2) := by
 intro a0 a1 a2 k
 have ih0 := spec_l6Rd_pick.mono_l k
 unfold spec_l6Rd_pick.f
 repeat' first | (with_reducible exact ih0 _ _ _ _) | (with_reducible refine LeO.ite ?_ ?_)
set_option maxHeartbeats 8000000 in
set_option maxRecDepth 100000 in
theorem spec_l6Rd_pick.calls (k : Nat) (g : Nat) (s0_0 : List Int) (s0_1 : Int) (a1 : Int) (r1 : Int) (r2 : Int) (w0 w : World) (hI : IsS74 w0 w g s0_0 s0_1) (hB : Below w0.heap.size w0 w) (h : spec_l6Rd_pick.f k s0_0 s0_1 a1 = some (r1, r2)) :
  Calls Tryd.prog 39 #[.pointer (some ⟨g, 0, none⟩), .int .i64 a1] w fun e w' => e = .returned (.int .i64 r1) ∧ IsS74 w0 w' g s0_0 r2 ∧ Below w0.heap.size w0 w' ∧ KeepBut w w' g none := by
 have HI0 := Aside0.mk hI
 have HK := Aside0.mk (KeepBut.refl w g none)
 have HL := Aside0.mk hB.size
 clear hI
 have HW0 := Aside0.mk hB.size
 have HB := Aside0.mk hB
 clear hB
 have H : (if a1 < 1 then (spec_l6Rd_pick.j0 k a1 true s0_0 (wrap64 (s0_1 + 1))) else (spec_l6Rd_pick.j0 k a1 ((s0_0.length : Int) == 0) s0_0 (wrap64 (s0_1 + 1)))) = some (r1, r2) := h
 clear h
 have HC3 := Aside0.mk H
 clear H
 obtain ⟨ASz4_0, cSz4_0, HGz4, hgz4, HSz4_0⟩ := HI0.out
 have hcz4_0 := cellS74_0 HGz4
 have hcz4_1 := cellS74_1 HGz4
 have hfz4_1 := blk_frozen HGz4 1
 clear HGz4 hgz4
 go_enter Tryd.func39, Tryd.ntmps39
 go_upto_region 2 with (fail)
 repeat (go_quiet (fail); go_upto_region 2 with (fail))
 go_cut [24] (fun v24 wc => ∃ (kq : Nat) (x24_2 : Bool), v24 = .bool x24_2 ∧ Aside0 (spec_l6Rd_pick.j0 kq a1 x24_2 s0_0 (wrap64 (s0_1 + 1)) = some (r1, r2)) ∧ Aside0 (kq ≤ k) ∧ Aside0 (IsS74 w0 wc g s0_0 (wrap64 (s0_1 + 1))) ∧ Aside0 (KeepBut w wc g none) ∧ Aside0 (Below w0.heap.size w0 wc))
 case first =>
  have H := HC3.out
  clear HC3
  by_cases c5 : a1 < 1
  ·rw [if_pos c5] at H
   have c5b0 : decide (a1 < 1) = true := decide_eq_true c5
   clear c5
   have H' := Aside0.mk H
   clear H
   go_wp2
   repeat (go_quiet (fail); try go_wp2)
   go_meet
   case rel => exact ⟨_, (true), (by rfl), H', ⟨by omega⟩, ⟨by repeat (first | (with_reducible first | exact HI0.out | apply IsS74.set_1))⟩, ⟨by repeat (first | (with_reducible first | exact HK.out | apply KeepBut.set_))⟩, ⟨by repeat (first | (with_reducible first | exact HB.out | refine below_set ?_ (IsS74.ge HI0.out)))⟩⟩
  ·rw [if_neg c5] at H
   have c5b0 : decide (a1 < 1) = false := decide_eq_false c5
   clear c5
   have H' := Aside0.mk H
   clear H
   obtain ⟨ASz6_0, cSz6_0, HGz6, hgz6, HSz6_0⟩ := HI0.out
   have hcz6_0 := cellS74_0 HGz6
   have hcz6_1 := cellS74_1 HGz6
   have hfz6_1 := blk_frozen HGz6 1
   clear HGz6 hgz6
   go_wp2
   repeat (go_quiet (fail); try go_wp2)
   go_meet
   case rel => exact ⟨_, (((s0_0.length : Int) == 0)), (by rfl), H', ⟨by omega⟩, ⟨by repeat (first | (with_reducible first | exact HI0.out | apply IsS74.set_1))⟩, ⟨by repeat (first | (with_reducible first | exact HK.out | apply KeepBut.set_))⟩, ⟨by repeat (first | (with_reducible first | exact HB.out | refine below_set ?_ (IsS74.ge HI0.out)))⟩⟩
 case rest =>
  clear HC3
  try clear hcz4_0
  try clear hcz4_1
  try clear hfz4_1
  obtain ⟨kq, x24_2, rfl, HA, HJ2, HI0, HK, HB⟩ := hcut
  cases kq with
  | zero => exact absurd HA.out (by simp [spec_l6Rd_pick.j0])
  | succ kj2 =>
   have H := HA.out
   clear HA
   simp only [spec_l6Rd_pick.j0] at H
   by_cases c7 : x24_2 = true
   ·subst c7
    replace H : (some (0, (wrap64 (s0_1 + 1)))) = some (r1, r2) := by rw [if_pos rfl] at H; exact H
    simp only [Option.some.injEq, Prod.mk.injEq] at H
    obtain ⟨rfl, rfl⟩ := H
    go_wp2
    repeat (go_quiet (fail); try go_wp2)
    go_ret
    exact ⟨by first | rfl | (simp [*, errW_none, errW_some] <;> rfl), HI0.out, HB.out, HK.out⟩
   ·replace c7 := Bool.eq_false_iff.mpr c7
    subst c7
    replace H : (if (wrap64 ((wrap64 (s0_1 + 1)) - 1)) < (s0_0.length : Int) then (if 0 ≤ (wrap64 ((wrap64 (s0_1 + 1)) - 1)) then (if a1 = 0 then (none) else (some (Int.tmod (wrap64 (rd s0_0 (wrap64 ((wrap64 (s0_1 + 1)) - 1)))) a1, (wrap64 (s0_1 + 1))))) else (none)) else (if (s0_0.length : Int) = 0 then (none) else (if 0 ≤ (Int.tmod (wrap64 ((wrap64 (s0_1 + 1)) - 1)) (s0_0.length : Int)) then (if (Int.tmod (wrap64 ((wrap64 (s0_1 + 1)) - 1)) (s0_0.length : Int)) < (s0_0.length : Int) then (if 0 ≤ (Int.tmod (wrap64 ((wrap64 ((wrap64 ((wrap64 (s0_1 + 1)) - 1)) * 7)) + 3)) (s0_0.length : Int)) then (if (Int.tmod (wrap64 ((wrap64 ((wrap64 ((wrap64 (s0_1 + 1)) - 1)) * 7)) + 3)) (s0_0.length : Int)) < (s0_0.length : Int) then (if a1 = 0 then (none) else (some (Int.tmod (Go.bits .xor .i64 (wrap64 ((wrap64 ((wrap64 ((wrap64 ((wrap64 (rd s0_0 (Int.tmod (wrap64 ((wrap64 (s0_1 + 1)) - 1)) (s0_0.length : Int)))) * 131)) + (wrap64 ((wrap64 (rd s0_0 (Int.tmod (wrap64 ((wrap64 ((wrap64 ((wrap64 (s0_1 + 1)) - 1)) * 7)) + 3)) (s0_0.length : Int)))) * 1117)))) + (wrap64 ((wrap64 ((wrap64 (s0_1 + 1)) - 1)) * 29)))) + (wrap64 ((wrap64 (Int.tdiv (wrap64 ((wrap64 (s0_1 + 1)) - 1)) (s0_0.length : Int))) * 53)))) (wrap64 (Int.tdiv (wrap64 ((wrap64 ((wrap64 ((wrap64 ((wrap64 (rd s0_0 (Int.tmod (wrap64 ((wrap64 (s0_1 + 1)) - 1)) (s0_0.length : Int)))) * 131)) + (wrap64 ((wrap64 (rd s0_0 (Int.tmod (wrap64 ((wrap64 ((wrap64 ((wrap64 (s0_1 + 1)) - 1)) * 7)) + 3)) (s0_0.length : Int)))) * 1117)))) + (wrap64 ((wrap64 ((wrap64 (s0_1 + 1)) - 1)) * 29)))) + (wrap64 ((wrap64 (Int.tdiv (wrap64 ((wrap64 (s0_1 + 1)) - 1)) (s0_0.length : Int))) * 53)))) 64))) a1, (wrap64 (s0_1 + 1))))) else (none)) else (none)) else (none)) else (none)))) = some (r1, r2) := by rw [if_neg (show ¬ (false = true) by decide)] at H; exact H
    by_cases c8 : (wrap64 ((wrap64 (s0_1 + 1)) - 1)) < (s0_0.length : Int)
    ·rw [if_pos c8] at H
     have c8b0 : decide ((wrap64 ((wrap64 (s0_1 + 1)) - 1)) < (s0_0.length : Int)) = true := decide_eq_true c8
     clear c8
     obtain ⟨ji9, hji9⟩ : ∃ j_ : Int, (wrap64 ((wrap64 (s0_1 + 1)) - 1)) = j_ := ⟨_, rfl⟩
     replace H : (if 0 ≤ (ji9) then (if a1 = 0 then (none) else (some (Int.tmod (wrap64 (rd s0_0 (ji9))) a1, (wrap64 (s0_1 + 1))))) else (none)) = some (r1, r2) := by first | (rw [hji9] at H; exact H)
     (try rw [hji9] at c8b0)
     have hji9w : (IntKind.i64.wrap ((wrap64 (s0_1 + 1)) - 1)) = ji9 := (i64_w _).trans hji9
     by_cases c10 : 0 ≤ (ji9)
     ·rw [if_pos c10] at H
      have c10b0 : decide (0 ≤ (ji9)) = true := decide_eq_true c10
      clear c10
      by_cases c11 : a1 = 0
      ·rw [if_pos c11] at H
       exact absurd H (by simp)
      ·rw [if_neg c11] at H
       have c11b0 : (a1 == 0) = false := beq_eq_false_iff_ne.mpr c11
       have c11b1 : (a1 != 0) = true := bne_iff_ne.mpr c11
       simp only [Option.some.injEq, Prod.mk.injEq] at H
       obtain ⟨rfl, rfl⟩ := H
       obtain ⟨ASz12_0, cSz12_0, HGz12, hgz12, HSz12_0⟩ := HI0.out
       have hcz12_0 := cellS74_0 HGz12
       have hcz12_1 := cellS74_1 HGz12
       have hfz12_1 := blk_frozen HGz12 1
       clear HGz12 hgz12
       have p104 : 0 ≤ ((ji9) : Int) := of_decide_eq_true (by (with_reducible assumption))
       have q104 : (ji9) < (s0_0.length : Int) := of_decide_eq_true (by (with_reducible assumption))
       obtain ⟨ad104, e104, hx104_0⟩ := Kd.at_int HSz12_0 (ji9) p104 q104
       cases e104
       replace hx104_0 := pw_cell_below HB.out hx104_0
       replace p104 := eq_true p104
       replace q104 := eq_true q104
       go_wp2
       repeat (go_quiet (fail); try go_wp2)
       go_ret
       exact ⟨by first | rfl | (simp [*, errW_none, errW_some] <;> rfl), HI0.out, HB.out, HK.out⟩
     ·rw [if_neg c10] at H
      exact absurd H (by simp)
    ·rw [if_neg c8] at H
     have c8b0 : decide ((wrap64 ((wrap64 (s0_1 + 1)) - 1)) < (s0_0.length : Int)) = false := decide_eq_false c8
     clear c8
     by_cases c13 : (s0_0.length : Int) = 0
     ·rw [if_pos c13] at H
      exact absurd H (by simp)
     ·rw [if_neg c13] at H
      have c13b0 : ((s0_0.length : Int) == 0) = false := beq_eq_false_iff_ne.mpr c13
      have c13b1 : ((s0_0.length : Int) != 0) = true := bne_iff_ne.mpr c13
      have c13b2 : ¬ (s0_0 = []) := fun h_ => c13 (by rw [h_]; rfl)
      obtain ⟨ji14, hji14⟩ : ∃ j_ : Int, (Int.tmod (wrap64 ((wrap64 (s0_1 + 1)) - 1)) (s0_0.length : Int)) = j_ := ⟨_, rfl⟩
      replace H : (if 0 ≤ (ji14) then (if (ji14) < (s0_0.length : Int) then (if 0 ≤ (Int.tmod (wrap64 ((wrap64 ((wrap64 ((wrap64 (s0_1 + 1)) - 1)) * 7)) + 3)) (s0_0.length : Int)) then (if (Int.tmod (wrap64 ((wrap64 ((wrap64 ((wrap64 (s0_1 + 1)) - 1)) * 7)) + 3)) (s0_0.length : Int)) < (s0_0.length : Int) then (if a1 = 0 then (none) else (some (Int.tmod (Go.bits .xor .i64 (wrap64 ((wrap64 ((wrap64 ((wrap64 ((wrap64 (rd s0_0 (ji14))) * 131)) + (wrap64 ((wrap64 (rd s0_0 (Int.tmod (wrap64 ((wrap64 ((wrap64 ((wrap64 (s0_1 + 1)) - 1)) * 7)) + 3)) (s0_0.length : Int)))) * 1117)))) + (wrap64 ((wrap64 ((wrap64 (s0_1 + 1)) - 1)) * 29)))) + (wrap64 ((wrap64 (Int.tdiv (wrap64 ((wrap64 (s0_1 + 1)) - 1)) (s0_0.length : Int))) * 53)))) (wrap64 (Int.tdiv (wrap64 ((wrap64 ((wrap64 ((wrap64 ((wrap64 (rd s0_0 (ji14))) * 131)) + (wrap64 ((wrap64 (rd s0_0 (Int.tmod (wrap64 ((wrap64 ((wrap64 ((wrap64 (s0_1 + 1)) - 1)) * 7)) + 3)) (s0_0.length : Int)))) * 1117)))) + (wrap64 ((wrap64 ((wrap64 (s0_1 + 1)) - 1)) * 29)))) + (wrap64 ((wrap64 (Int.tdiv (wrap64 ((wrap64 (s0_1 + 1)) - 1)) (s0_0.length : Int))) * 53)))) 64))) a1, (wrap64 (s0_1 + 1))))) else (none)) else (none)) else (none)) else (none)) = some (r1, r2) := by first | (rw [hji14] at H; exact H)
      by_cases c15 : 0 ≤ (ji14)
      ·rw [if_pos c15] at H
       have c15b0 : decide (0 ≤ (ji14)) = true := decide_eq_true c15
       clear c15
       by_cases c16 : (ji14) < (s0_0.length : Int)
       ·rw [if_pos c16] at H
        have c16b0 : decide ((ji14) < (s0_0.length : Int)) = true := decide_eq_true c16
        clear c16
        obtain ⟨ji17, hji17⟩ : ∃ j_ : Int, (Int.tmod (wrap64 ((wrap64 ((wrap64 ((wrap64 (s0_1 + 1)) - 1)) * 7)) + 3)) (s0_0.length : Int)) = j_ := ⟨_, rfl⟩
        replace H : (if 0 ≤ (ji17) then (if (ji17) < (s0_0.length : Int) then (if a1 = 0 then (none) else (some (Int.tmod (Go.bits .xor .i64 (wrap64 ((wrap64 ((wrap64 ((wrap64 ((wrap64 (rd s0_0 (ji14))) * 131)) + (wrap64 ((wrap64 (rd s0_0 (ji17))) * 1117)))) + (wrap64 ((wrap64 ((wrap64 (s0_1 + 1)) - 1)) * 29)))) + (wrap64 ((wrap64 (Int.tdiv (wrap64 ((wrap64 (s0_1 + 1)) - 1)) (s0_0.length : Int))) * 53)))) (wrap64 (Int.tdiv (wrap64 ((wrap64 ((wrap64 ((wrap64 ((wrap64 (rd s0_0 (ji14))) * 131)) + (wrap64 ((wrap64 (rd s0_0 (ji17))) * 1117)))) + (wrap64 ((wrap64 ((wrap64 (s0_1 + 1)) - 1)) * 29)))) + (wrap64 ((wrap64 (Int.tdiv (wrap64 ((wrap64 (s0_1 + 1)) - 1)) (s0_0.length : Int))) * 53)))) 64))) a1, (wrap64 (s0_1 + 1))))) else (none)) else (none)) = some (r1, r2) := by first | (rw [hji17] at H; exact H)
        by_cases c18 : 0 ≤ (ji17)
        ·rw [if_pos c18] at H
         have c18b0 : decide (0 ≤ (ji17)) = true := decide_eq_true c18
         clear c18
         by_cases c19 : (ji17) < (s0_0.length : Int)
         ·rw [if_pos c19] at H
          have c19b0 : decide ((ji17) < (s0_0.length : Int)) = true := decide_eq_true c19
          clear c19
          by_cases c20 : a1 = 0
          ·rw [if_pos c20] at H
           exact absurd H (by simp)
          ·rw [if_neg c20] at H
           have c20b0 : (a1 == 0) = false := beq_eq_false_iff_ne.mpr c20
           have c20b1 : (a1 != 0) = true := bne_iff_ne.mpr c20
           simp only [Option.some.injEq, Prod.mk.injEq] at H
           obtain ⟨rfl, rfl⟩ := H
           obtain ⟨ASz21_0, cSz21_0, HGz21, hgz21, HSz21_0⟩ := HI0.out
           have hcz21_0 := cellS74_0 HGz21
           have hcz21_1 := cellS74_1 HGz21
           have hfz21_1 := blk_frozen HGz21 1
           clear HGz21 hgz21
           have p105 : 0 ≤ ((ji14) : Int) := of_decide_eq_true (by (with_reducible assumption))
           have q105 : (ji14) < (s0_0.length : Int) := of_decide_eq_true (by (with_reducible assumption))
           obtain ⟨ad105, e105, hx105_0⟩ := Kd.at_int HSz21_0 (ji14) p105 q105
           cases e105
           replace hx105_0 := pw_cell_below HB.out hx105_0
           replace p105 := eq_true p105
           replace q105 := eq_true q105
           have p106 : 0 ≤ ((ji17) : Int) := of_decide_eq_true (by (with_reducible assumption))
           have q106 : (ji17) < (s0_0.length : Int) := of_decide_eq_true (by (with_reducible assumption))
           obtain ⟨ad106, e106, hx106_0⟩ := Kd.at_int HSz21_0 (ji17) p106 q106
           obtain rfl : ad105 = ad106 := (by injection e106)
           replace hx106_0 := pw_cell_below HB.out hx106_0
           replace p106 := eq_true p106
           replace q106 := eq_true q106
           go_wp2
           repeat (go_quiet (fail); try go_wp2)
           go_ret
           exact ⟨by first | rfl | (simp [*, errW_none, errW_some] <;> rfl), by repeat (first | (with_reducible first | exact HI0.out | apply IsS74.drewN)), by repeat (first | (with_reducible first | exact HB.out | apply pw_below_drewN)), by repeat (first | (with_reducible first | exact HK.out | apply keep_drewN))⟩
         ·rw [if_neg c19] at H
          exact absurd H (by simp)
        ·rw [if_neg c18] at H
         exact absurd H (by simp)
       ·rw [if_neg c16] at H
        exact absurd H (by simp)
      ·rw [if_neg c15] at H
       exact absurd H (by simp)


def spec_l91Signs.l0 : Nat → List Int → Int → List Int → Int → Option (ByteArray × Int)
 | 0, _, _, _, _ => none
 | k + 1, x7, x8, x1000, x1001 => if x8 > 0 then ((spec_l6Rd_pick.f k x1000 x1001 2).bind fun bt112 => (if x7.length < 140737488355328 then (spec_l91Signs.l0 k (x7 ++ [(wrap64 (48 + bt112.1)) % 256]) (wrap64 (x8 - 1)) x1000 bt112.2) else (none))) else (some (strOfNums x7, x1001))
def spec_l91Signs.f (k : Nat) (s0_0 : List Int) (s0_1 : Int) (a1 : Int) (a2 : Int) : Option (ByteArray × Int) := (spec_l6Rd_pick.f k s0_0 s0_1 a2).bind fun bt110 => (spec_l91Signs.l0 k (([] : List Int)) (wrap64 (a1 + bt110.1)) s0_0 bt110.2)
theorem spec_l91Signs.mono_l : ∀ k, (∀ y0 y1 y2 y3, LeO (spec_l91Signs.l0 k y0 y1 y2 y3) (spec_l91Signs.l0 (k + 1) y0 y1 y2 y3))
 | 0 => fun _ _ _ _ r h => by simp [spec_l91Signs.l0] at h
 | k + 1 => by
  have ih0 := spec_l91Signs.mono_l k
  ·intro y0 y1 y2 y3
   unfold spec_l91Signs.l0
   repeat' first | (with_reducible exact ih0 _ _ _ _) | (with_reducible exact spec_l6Rd_pick.mono _ _ _ _) | (with_reducible exact LeO.refl _) | (with_reducible refine LeO.ite ?_ ?_) | (with_reducible refine LeO.bind ?_ (fun _ => ?_))
theorem spec_l91Signs.mono : ∀ a0 a1 a2 a3 k, LeO (spec_l91Signs.f k a0 a1 a2 a3) (spec_l91Signs.f (k + 1) a0 a1 a2 a3) := by
 intro a0 a1 a2 a3 k
 have ih0 := spec_l91Signs.mono_l k
 unfold spec_l91Signs.f
 repeat' first | (with_reducible exact ih0 _ _ _ _) | (with_reducible exact spec_l6Rd_pick.mono _ _ _ _) | (with_reducible refine LeO.bind ?_ (fun _ => ?_))
set_option maxHeartbeats 8000000 in
set_option maxRecDepth 100000 in
theorem spec_l91Signs.calls (k : Nat) (g : Nat) (s0_0 : List Int) (s0_1 : Int) (a1 : Int) (a2 : Int) (r1 : ByteArray) (r2 : Int) (w0 w : World) (hI : IsS74 w0 w g s0_0 s0_1) (hB : Below w0.heap.size w0 w) (h : spec_l91Signs.f k s0_0 s0_1 a1 a2 = some (r1, r2)) :
  Calls Tryd.prog 65 #[.pointer (some ⟨g, 0, none⟩), .int .i64 a1, .int .i64 a2] w fun e w' => e = .returned (.string r1) ∧ IsS74 w0 w' g s0_0 r2 ∧ Below w0.heap.size w0 w' ∧ KeepBut w w' g none := by
 have HI0 := Aside0.mk hI
 have HK := Aside0.mk (KeepBut.refl w g none)
 have HL := Aside0.mk hB.size
 clear hI
 have HW0 := Aside0.mk hB.size
 have HB := Aside0.mk hB
 clear hB
 have H : ((spec_l6Rd_pick.f k s0_0 s0_1 a2).bind fun bt110 => (spec_l91Signs.l0 k (([] : List Int)) (wrap64 (a1 + bt110.1)) s0_0 bt110.2)) = some (r1, r2) := h
 clear h
 obtain ⟨y107, hy107⟩ : ∃ y_ : List Int, y_ = (([] : List Int)) := ⟨_, rfl⟩
 replace H : ((spec_l6Rd_pick.f k s0_0 s0_1 a2).bind fun bt110 => (spec_l91Signs.l0 k y107 (wrap64 (a1 + bt110.1)) s0_0 bt110.2)) = some (r1, r2) := by first | (rw [hy107]; with_reducible exact H)
 have Ny107 := Aside0.mk hy107
 clear hy107
 replace H := Option.bind_eq_some_iff.mp H
 obtain ⟨⟨t110, t111⟩, A40, H⟩ := H
 replace H : (spec_l91Signs.l0 k y107 (wrap64 (a1 + t110)) s0_0 t111) = some (r1, r2) := H
 have A4 := Aside0.mk A40
 clear A40
 have H' := Aside0.mk H
 clear H
 go_enter Tryd.func65, Tryd.ntmps65
 go_wp2_with (first | ((with_reducible refine gate_dst (N := 9) rfl ?_); refine Kd.R_lit (Kd.int .u8) _ 5 ?hg (N := 9) ?hd (xs := ([] : List Int)) (inner := []) (ok := fun _ => True) (okp := fun _ => True) ?hr ?hp (fun _ hk => hk) trivial (Below.refl _ _) (Nat.le_refl _) (by simp) ?_; (case hd => rfl); (case hg => rfl); (case hr => first | (go_simp; done)); (case hp => exact (Reps.none _ _)); intro v108 w5 ho6 hb hg_ hnew_; clear hg_ hnew_; (rw [← Ny107.out] at ho6); have HO109 := Aside0.mk (Kd.R_lower ho6 (keep_size (w := w) (g := g) (row := none) HK.out)); replace HI0 := Aside0.mk (IsS74.below HI0.out hb); replace HK := Aside0.mk (KeepBut.trans HK.out (KeepBut.of_below hb g none) (.inl rfl)); replace HB := Aside0.mk (below_step HB.out hb); clear hb ho6) | ((with_reducible refine gate_callee (f := 39) rfl ?_); refine goesL_ (some 13) rfl rfl Tryd.func39 (by kernel_rfl) rfl #[.pointer (some ⟨g, 0, none⟩), .int .i64 a2] rfl (by (try simp only [List.map_toArray, List.map_cons, List.map_nil]); rfl) ?_; (with_reducible refine (spec_l6Rd_pick.calls k g s0_0 s0_1 a2 t110 t111 w0 _ ?side1 ?side2 A4.out).mono ?_); (case side1 => repeat ((with_reducible exact HI0.out))); (case side2 => repeat ((with_reducible exact HB.out))); rintro e w7 ⟨rfl, hi, hb, hk⟩; refine ⟨_, rfl, ?_⟩; replace HO109 := Aside0.mk (Kd.R_mono (Kd.R_keep (IsS74.apart (show IsS74 w0 _ g s0_0 s0_1 from by repeat ((with_reducible exact HI0.out))) HO109.out (by decide)) hk (fun _ h => h.2)) (fun _ h => h.1)); replace HK := Aside0.mk (KeepBut.trans HK.out hk (.inl rfl)); replace HB := Aside0.mk hb; replace HI0 := Aside0.mk hi; (try clear hb); (try clear hk); (try clear hi)))
 go_loopg [7, 8] k (fun kq v7 v8 w' => ∃ (x7_1 : List Int) (x8_1 : Int) (x1001_1 : Int), v8 = .int .i64 x8_1 ∧ Aside0 (spec_l91Signs.l0 kq x7_1 x8_1 s0_0 x1001_1 = some (r1, r2)) ∧ Aside0 (kq ≤ k) ∧ Aside0 (Kd.R (Kd.int .u8) 5 w' w.heap.size (fun _ => True) v7 x7_1) ∧ Aside0 (IsS74 w0 w' g s0_0 x1001_1) ∧ Aside0 (KeepBut w w' g none) ∧ Aside0 (Below w0.heap.size w0 w'))
 case atStart => exact ⟨(y107), (wrap64 (a1 + t110)), (t111), (by rfl), H', ⟨Nat.le_refl _⟩, ⟨by exact HO109.out⟩, ⟨HI0.out⟩, ⟨HK.out⟩, ⟨HB.out⟩⟩
 case round =>
  clear H'
  obtain ⟨x7_1, x8_1, x1001_1, rfl, HA, HK1, HO_7, HI0, HK, HB⟩ := hrel
  cases gk with
  | zero => exact absurd HA.out (by simp [spec_l91Signs.l0])
  | succ k1 =>
   have H := HA.out
   clear HA
   simp only [spec_l91Signs.l0] at H
   by_cases c8 : x8_1 > 0
   ·rw [if_pos c8] at H
    have c8b0 : decide (0 < x8_1) = true := decide_eq_true c8
    clear c8
    replace H := Option.bind_eq_some_iff.mp H
    obtain ⟨⟨t112, t113⟩, A90, H⟩ := H
    replace H : (if x7_1.length < 140737488355328 then (spec_l91Signs.l0 k1 (x7_1 ++ [(wrap64 (48 + t112)) % 256]) (wrap64 (x8_1 - 1)) s0_0 t113) else (none)) = some (r1, r2) := H
    have A9 := Aside0.mk A90
    clear A90
    by_cases c10 : x7_1.length < 140737488355328
    ·rw [if_pos c10] at H
     have LMc10 := Aside0.mk c10
     clear c10
     obtain ⟨y114, hy114⟩ : ∃ y_ : List Int, y_ = (x7_1 ++ [(wrap64 (48 + t112)) % 256]) := ⟨_, rfl⟩
     replace H : (spec_l91Signs.l0 k1 y114 (wrap64 (x8_1 - 1)) s0_0 t113) = some (r1, r2) := by first | (rw [hy114]; with_reducible exact H)
     have Ny114 := Aside0.mk hy114
     clear hy114
     have H' := Aside0.mk H
     clear H
     go_wp2_with (first | ((with_reducible refine gate_callee (f := 39) rfl ?_); refine goesL_ (some 21) rfl rfl Tryd.func39 (by kernel_rfl) rfl #[.pointer (some ⟨g, 0, none⟩), .int .i64 2] rfl (by (try simp only [List.map_toArray, List.map_cons, List.map_nil]); rfl) ?_; (with_reducible refine (spec_l6Rd_pick.calls k1 g s0_0 x1001_1 2 t112 t113 w0 _ ?side1 ?side2 A9.out).mono ?_); (case side1 => repeat ((with_reducible exact HI0.out))); (case side2 => repeat ((with_reducible exact HB.out))); rintro e w11 ⟨rfl, hi, hb, hk⟩; refine ⟨_, rfl, ?_⟩; replace HO_7 := Aside0.mk (Kd.R_mono (Kd.R_keep (IsS74.apart (show IsS74 w0 _ g s0_0 x1001_1 from by repeat ((with_reducible exact HI0.out))) HO_7.out (by decide)) hk (fun _ h => h.2)) (fun _ h => h.1)); replace HK := Aside0.mk (KeepBut.trans HK.out hk (.inl rfl)); replace HB := Aside0.mk hb; replace HI0 := Aside0.mk hi; (try clear hb); (try clear hk); (try clear hi)) | ((with_reducible refine gate_builtin (b := .append) (xs := #[.tmp 19, .tmp 24]) rfl ?_); at_builtin; refine Kd.R_append (Kd.int .u8) w.heap.size rfl (.tmp 19) (.tmp 24) 22 5 (.int .u8 0) 1 rfl Tryd.underlying22 info5 rfl (by decide) (by omega) u7 x7_1 ((wrap64 (48 + t112)) % 256) [.int .u8 ((wrap64 (48 + t112)) % 256)] (fun _ => True) (fun _ => False) rfl rfl ?aP (fun _ hk => hk.elim) ?aF ?aO (Below.refl _ _) ?aS ?aL ?_; (case aP => exact rfl); (case aF => exact (fun _ _ => trivial)); (case aO => exact HO_7.out); (case aS => exact (keep_size (w := w) (g := g) (row := none) HK.out)); (case aL => have := LMc10.out; omega); intro v115 w12 ho hb hg hat; rw [← Ny114.out] at ho; replace HI0 := Aside0.mk (IsS74.grown HI0.out hg (IsS74.own_ne HI0.out HO_7.out (by decide))); replace HB := Aside0.mk (below_weaken HB.out HL.out hb); replace HK := Aside0.mk (KeepBut.trans HK.out (KeepBut.of_grown hg g) (Kd.R_base2 HO_7.out)); have HO116 := Aside0.mk ho; clear HO_7; clear ho hb hg hat))
     go_roundg k1
     case measure => have := HK1.out; omega
     case rel => exact ⟨(y114), (wrap64 (x8_1 - 1)), (t113), (by rfl), H', ⟨by have := HK1.out; omega⟩, ⟨by exact HO116.out⟩, ⟨HI0.out⟩, ⟨HK.out⟩, ⟨HB.out⟩⟩
    ·rw [if_neg c10] at H
     exact absurd H (by simp)
   ·rw [if_neg c8] at H
    have c8b0 : decide (0 < x8_1) = false := decide_eq_false c8
    clear c8
    simp only [Option.some.injEq, Prod.mk.injEq] at H
    obtain ⟨rfl, rfl⟩ := H
    have hcv13 := own_string (P := Tryd.prog) Tryd.underlying22 Tryd.underlying5 Tryd.underlying9 (Kd.own_of_R HO_7.out)
    go_wp2
    go_ret
    exact ⟨by first | rfl | (simp [*, errW_none, errW_some] <;> rfl), HI0.out, HB.out, HK.out⟩


def spec_l91Set.f (k : Nat) (s0_0 : List Int) (s0_1 : Int) : Option (ByteArray × Int) := (spec_l91Signs.f k s0_0 s0_1 0 6).bind fun bt117 => (if bt117.1.size + 1 ≤ 9223372036854775807 then ((spec_l91Signs.f k s0_0 bt117.2 1 5).bind fun bt119 => (if bt117.1.size + 1 + bt119.1.size ≤ 9223372036854775807 then (if bt117.1.size + 1 + bt119.1.size + 1 ≤ 9223372036854775807 then ((spec_l6Rd_pick.f k s0_0 bt119.2 24).bind fun bt121 => (if bt121.1 = 0 then ((some (([(⟨#[]⟩ : ByteArray), (⟨#[48]⟩ : ByteArray), (⟨#[40, 41]⟩ : ByteArray), (⟨#[49, 40]⟩ : ByteArray), (⟨#[40, 48, 41, 41]⟩ : ByteArray), (⟨#[97, 40, 49, 41]⟩ : ByteArray), (⟨#[40, 49, 41, 48]⟩ : ByteArray), (⟨#[48, 49, 40, 48, 50, 41]⟩ : ByteArray), (⟨#[48, 40, 40, 49, 41]⟩ : ByteArray)] : List ByteArray) : List ByteArray)).bind fun y123 => ((spec_l6Rd_pick.f k s0_0 bt121.2 9).bind fun bt126 => (if 0 ≤ bt126.1 then (if bt126.1 < (y123.length : Int) then (some (rdOf ByteArray.empty y123 bt126.1, bt126.2)) else (none)) else (none)))) else (if bt121.1 = 1 then ((spec_l91Signs.f k s0_0 bt121.2 0 6).bind fun bt129 => (if bt129.1.size + 3 ≤ 9223372036854775807 then (some (bt129.1 ++ (⟨#[40, 48, 41]⟩ : ByteArray), bt129.2)) else (none))) else (if bt121.1 = 2 then (if 1 ≤ ((((bt117.1 ++ (⟨#[40]⟩ : ByteArray)) ++ bt119.1) ++ (⟨#[41]⟩ : ByteArray)).size : Int) then (if 1 + ((((bt117.1 ++ (⟨#[40]⟩ : ByteArray)) ++ bt119.1) ++ (⟨#[41]⟩ : ByteArray)).extract 1 (((bt117.1 ++ (⟨#[40]⟩ : ByteArray)) ++ bt119.1) ++ (⟨#[41]⟩ : ByteArray)).size).size ≤ 9223372036854775807 then (some ((⟨#[40]⟩ : ByteArray) ++ ((((bt117.1 ++ (⟨#[40]⟩ : ByteArray)) ++ bt119.1) ++ (⟨#[41]⟩ : ByteArray)).extract 1 (((bt117.1 ++ (⟨#[40]⟩ : ByteArray)) ++ bt119.1) ++ (⟨#[41]⟩ : ByteArray)).size), bt121.2)) else (none)) else (none)) else (some (((bt117.1 ++ (⟨#[40]⟩ : ByteArray)) ++ bt119.1) ++ (⟨#[41]⟩ : ByteArray), bt121.2)))))) else (none)) else (none))) else (none))
theorem spec_l91Set.mono : ∀ a0 a1 k, LeO (spec_l91Set.f k a0 a1) (spec_l91Set.f (k + 1) a0 a1) := by
 intro a0 a1 k
 unfold spec_l91Set.f
 repeat' first | (with_reducible exact spec_l6Rd_pick.mono _ _ _ _) | (with_reducible exact spec_l91Signs.mono _ _ _ _ _) | (with_reducible exact LeO.refl _) | (with_reducible refine LeO.ite ?_ ?_) | (with_reducible refine LeO.bind ?_ (fun _ => ?_))
set_option maxHeartbeats 8000000 in
set_option maxRecDepth 100000 in
theorem spec_l91Set.calls (k : Nat) (g : Nat) (s0_0 : List Int) (s0_1 : Int) (r1 : ByteArray) (r2 : Int) (w0 w : World) (hI : IsS74 w0 w g s0_0 s0_1) (hB : Below w0.heap.size w0 w) (h : spec_l91Set.f k s0_0 s0_1 = some (r1, r2)) :
  Calls Tryd.prog 38 #[.pointer (some ⟨g, 0, none⟩)] w fun e w' => e = .returned (.string r1) ∧ IsS74 w0 w' g s0_0 r2 ∧ Below w0.heap.size w0 w' ∧ KeepBut w w' g none := by
 have HI0 := Aside0.mk hI
 have HK := Aside0.mk (KeepBut.refl w g none)
 have HL := Aside0.mk hB.size
 clear hI
 have HW0 := Aside0.mk hB.size
 have HB := Aside0.mk hB
 clear hB
 have H : ((spec_l91Signs.f k s0_0 s0_1 0 6).bind fun bt117 => (if bt117.1.size + 1 ≤ 9223372036854775807 then ((spec_l91Signs.f k s0_0 bt117.2 1 5).bind fun bt119 => (if bt117.1.size + 1 + bt119.1.size ≤ 9223372036854775807 then (if bt117.1.size + 1 + bt119.1.size + 1 ≤ 9223372036854775807 then ((spec_l6Rd_pick.f k s0_0 bt119.2 24).bind fun bt121 => (if bt121.1 = 0 then ((some (([(⟨#[]⟩ : ByteArray), (⟨#[48]⟩ : ByteArray), (⟨#[40, 41]⟩ : ByteArray), (⟨#[49, 40]⟩ : ByteArray), (⟨#[40, 48, 41, 41]⟩ : ByteArray), (⟨#[97, 40, 49, 41]⟩ : ByteArray), (⟨#[40, 49, 41, 48]⟩ : ByteArray), (⟨#[48, 49, 40, 48, 50, 41]⟩ : ByteArray), (⟨#[48, 40, 40, 49, 41]⟩ : ByteArray)] : List ByteArray) : List ByteArray)).bind fun y123 => ((spec_l6Rd_pick.f k s0_0 bt121.2 9).bind fun bt126 => (if 0 ≤ bt126.1 then (if bt126.1 < (y123.length : Int) then (some (rdOf ByteArray.empty y123 bt126.1, bt126.2)) else (none)) else (none)))) else (if bt121.1 = 1 then ((spec_l91Signs.f k s0_0 bt121.2 0 6).bind fun bt129 => (if bt129.1.size + 3 ≤ 9223372036854775807 then (some (bt129.1 ++ (⟨#[40, 48, 41]⟩ : ByteArray), bt129.2)) else (none))) else (if bt121.1 = 2 then (if 1 ≤ ((((bt117.1 ++ (⟨#[40]⟩ : ByteArray)) ++ bt119.1) ++ (⟨#[41]⟩ : ByteArray)).size : Int) then (if 1 + ((((bt117.1 ++ (⟨#[40]⟩ : ByteArray)) ++ bt119.1) ++ (⟨#[41]⟩ : ByteArray)).extract 1 (((bt117.1 ++ (⟨#[40]⟩ : ByteArray)) ++ bt119.1) ++ (⟨#[41]⟩ : ByteArray)).size).size ≤ 9223372036854775807 then (some ((⟨#[40]⟩ : ByteArray) ++ ((((bt117.1 ++ (⟨#[40]⟩ : ByteArray)) ++ bt119.1) ++ (⟨#[41]⟩ : ByteArray)).extract 1 (((bt117.1 ++ (⟨#[40]⟩ : ByteArray)) ++ bt119.1) ++ (⟨#[41]⟩ : ByteArray)).size), bt121.2)) else (none)) else (none)) else (some (((bt117.1 ++ (⟨#[40]⟩ : ByteArray)) ++ bt119.1) ++ (⟨#[41]⟩ : ByteArray), bt121.2)))))) else (none)) else (none))) else (none))) = some (r1, r2) := h
 clear h
 replace H := Option.bind_eq_some_iff.mp H
 obtain ⟨⟨t117, t118⟩, A20, H⟩ := H
 replace H : (if t117.size + 1 ≤ 9223372036854775807 then ((spec_l91Signs.f k s0_0 t118 1 5).bind fun bt119 => (if t117.size + 1 + bt119.1.size ≤ 9223372036854775807 then (if t117.size + 1 + bt119.1.size + 1 ≤ 9223372036854775807 then ((spec_l6Rd_pick.f k s0_0 bt119.2 24).bind fun bt121 => (if bt121.1 = 0 then ((some (([(⟨#[]⟩ : ByteArray), (⟨#[48]⟩ : ByteArray), (⟨#[40, 41]⟩ : ByteArray), (⟨#[49, 40]⟩ : ByteArray), (⟨#[40, 48, 41, 41]⟩ : ByteArray), (⟨#[97, 40, 49, 41]⟩ : ByteArray), (⟨#[40, 49, 41, 48]⟩ : ByteArray), (⟨#[48, 49, 40, 48, 50, 41]⟩ : ByteArray), (⟨#[48, 40, 40, 49, 41]⟩ : ByteArray)] : List ByteArray) : List ByteArray)).bind fun y123 => ((spec_l6Rd_pick.f k s0_0 bt121.2 9).bind fun bt126 => (if 0 ≤ bt126.1 then (if bt126.1 < (y123.length : Int) then (some (rdOf ByteArray.empty y123 bt126.1, bt126.2)) else (none)) else (none)))) else (if bt121.1 = 1 then ((spec_l91Signs.f k s0_0 bt121.2 0 6).bind fun bt129 => (if bt129.1.size + 3 ≤ 9223372036854775807 then (some (bt129.1 ++ (⟨#[40, 48, 41]⟩ : ByteArray), bt129.2)) else (none))) else (if bt121.1 = 2 then (if 1 ≤ ((((t117 ++ (⟨#[40]⟩ : ByteArray)) ++ bt119.1) ++ (⟨#[41]⟩ : ByteArray)).size : Int) then (if 1 + ((((t117 ++ (⟨#[40]⟩ : ByteArray)) ++ bt119.1) ++ (⟨#[41]⟩ : ByteArray)).extract 1 (((t117 ++ (⟨#[40]⟩ : ByteArray)) ++ bt119.1) ++ (⟨#[41]⟩ : ByteArray)).size).size ≤ 9223372036854775807 then (some ((⟨#[40]⟩ : ByteArray) ++ ((((t117 ++ (⟨#[40]⟩ : ByteArray)) ++ bt119.1) ++ (⟨#[41]⟩ : ByteArray)).extract 1 (((t117 ++ (⟨#[40]⟩ : ByteArray)) ++ bt119.1) ++ (⟨#[41]⟩ : ByteArray)).size), bt121.2)) else (none)) else (none)) else (some (((t117 ++ (⟨#[40]⟩ : ByteArray)) ++ bt119.1) ++ (⟨#[41]⟩ : ByteArray), bt121.2)))))) else (none)) else (none))) else (none)) = some (r1, r2) := H
 have A2 := Aside0.mk A20
 clear A20
 by_cases c3 : t117.size + 1 ≤ 9223372036854775807
 ·rw [if_pos c3] at H
  have c3b0 := eq_true c3
  have c3b1 : decide (t117.size + 1 ≤ 9223372036854775807) = true := decide_eq_true c3
  try have c3b2 : (9223372036854775807 < t117.size + 1) = False := eq_false (Nat.not_lt.2 c3)
  replace H := Option.bind_eq_some_iff.mp H
  obtain ⟨⟨t119, t120⟩, A40, H⟩ := H
  replace H : (if t117.size + 1 + t119.size ≤ 9223372036854775807 then (if t117.size + 1 + t119.size + 1 ≤ 9223372036854775807 then ((spec_l6Rd_pick.f k s0_0 t120 24).bind fun bt121 => (if bt121.1 = 0 then ((some (([(⟨#[]⟩ : ByteArray), (⟨#[48]⟩ : ByteArray), (⟨#[40, 41]⟩ : ByteArray), (⟨#[49, 40]⟩ : ByteArray), (⟨#[40, 48, 41, 41]⟩ : ByteArray), (⟨#[97, 40, 49, 41]⟩ : ByteArray), (⟨#[40, 49, 41, 48]⟩ : ByteArray), (⟨#[48, 49, 40, 48, 50, 41]⟩ : ByteArray), (⟨#[48, 40, 40, 49, 41]⟩ : ByteArray)] : List ByteArray) : List ByteArray)).bind fun y123 => ((spec_l6Rd_pick.f k s0_0 bt121.2 9).bind fun bt126 => (if 0 ≤ bt126.1 then (if bt126.1 < (y123.length : Int) then (some (rdOf ByteArray.empty y123 bt126.1, bt126.2)) else (none)) else (none)))) else (if bt121.1 = 1 then ((spec_l91Signs.f k s0_0 bt121.2 0 6).bind fun bt129 => (if bt129.1.size + 3 ≤ 9223372036854775807 then (some (bt129.1 ++ (⟨#[40, 48, 41]⟩ : ByteArray), bt129.2)) else (none))) else (if bt121.1 = 2 then (if 1 ≤ ((((t117 ++ (⟨#[40]⟩ : ByteArray)) ++ t119) ++ (⟨#[41]⟩ : ByteArray)).size : Int) then (if 1 + ((((t117 ++ (⟨#[40]⟩ : ByteArray)) ++ t119) ++ (⟨#[41]⟩ : ByteArray)).extract 1 (((t117 ++ (⟨#[40]⟩ : ByteArray)) ++ t119) ++ (⟨#[41]⟩ : ByteArray)).size).size ≤ 9223372036854775807 then (some ((⟨#[40]⟩ : ByteArray) ++ ((((t117 ++ (⟨#[40]⟩ : ByteArray)) ++ t119) ++ (⟨#[41]⟩ : ByteArray)).extract 1 (((t117 ++ (⟨#[40]⟩ : ByteArray)) ++ t119) ++ (⟨#[41]⟩ : ByteArray)).size), bt121.2)) else (none)) else (none)) else (some (((t117 ++ (⟨#[40]⟩ : ByteArray)) ++ t119) ++ (⟨#[41]⟩ : ByteArray), bt121.2)))))) else (none)) else (none)) = some (r1, r2) := H
  have A4 := Aside0.mk A40
  clear A40
  by_cases c5 : t117.size + 1 + t119.size ≤ 9223372036854775807
  ·rw [if_pos c5] at H
   have c5b0 := eq_true c5
   have c5b1 : decide (t117.size + 1 + t119.size ≤ 9223372036854775807) = true := decide_eq_true c5
   try have c5b2 : (9223372036854775807 < t117.size + 1 + t119.size) = False := eq_false (Nat.not_lt.2 c5)
   by_cases c6 : t117.size + 1 + t119.size + 1 ≤ 9223372036854775807
   ·rw [if_pos c6] at H
    have c6b0 := eq_true c6
    have c6b1 : decide (t117.size + 1 + t119.size + 1 ≤ 9223372036854775807) = true := decide_eq_true c6
    try have c6b2 : (9223372036854775807 < t117.size + 1 + t119.size + 1) = False := eq_false (Nat.not_lt.2 c6)
    replace H := Option.bind_eq_some_iff.mp H
    obtain ⟨⟨t121, t122⟩, A70, H⟩ := H
    replace H : (if t121 = 0 then ((some (([(⟨#[]⟩ : ByteArray), (⟨#[48]⟩ : ByteArray), (⟨#[40, 41]⟩ : ByteArray), (⟨#[49, 40]⟩ : ByteArray), (⟨#[40, 48, 41, 41]⟩ : ByteArray), (⟨#[97, 40, 49, 41]⟩ : ByteArray), (⟨#[40, 49, 41, 48]⟩ : ByteArray), (⟨#[48, 49, 40, 48, 50, 41]⟩ : ByteArray), (⟨#[48, 40, 40, 49, 41]⟩ : ByteArray)] : List ByteArray) : List ByteArray)).bind fun y123 => ((spec_l6Rd_pick.f k s0_0 t122 9).bind fun bt126 => (if 0 ≤ bt126.1 then (if bt126.1 < (y123.length : Int) then (some (rdOf ByteArray.empty y123 bt126.1, bt126.2)) else (none)) else (none)))) else (if t121 = 1 then ((spec_l91Signs.f k s0_0 t122 0 6).bind fun bt129 => (if bt129.1.size + 3 ≤ 9223372036854775807 then (some (bt129.1 ++ (⟨#[40, 48, 41]⟩ : ByteArray), bt129.2)) else (none))) else (if t121 = 2 then (if 1 ≤ ((((t117 ++ (⟨#[40]⟩ : ByteArray)) ++ t119) ++ (⟨#[41]⟩ : ByteArray)).size : Int) then (if 1 + ((((t117 ++ (⟨#[40]⟩ : ByteArray)) ++ t119) ++ (⟨#[41]⟩ : ByteArray)).extract 1 (((t117 ++ (⟨#[40]⟩ : ByteArray)) ++ t119) ++ (⟨#[41]⟩ : ByteArray)).size).size ≤ 9223372036854775807 then (some ((⟨#[40]⟩ : ByteArray) ++ ((((t117 ++ (⟨#[40]⟩ : ByteArray)) ++ t119) ++ (⟨#[41]⟩ : ByteArray)).extract 1 (((t117 ++ (⟨#[40]⟩ : ByteArray)) ++ t119) ++ (⟨#[41]⟩ : ByteArray)).size), t122)) else (none)) else (none)) else (some (((t117 ++ (⟨#[40]⟩ : ByteArray)) ++ t119) ++ (⟨#[41]⟩ : ByteArray), t122))))) = some (r1, r2) := H
    have A7 := Aside0.mk A70
    clear A70
    by_cases c8 : t121 = 0
    ·rw [if_pos c8] at H
     have c8b0 : (t121 == 0) = true := beq_iff_eq.mpr c8
     have c8b1 : (t121 != 0) = false := bne_eq_false_iff_eq.mpr c8
     clear c8
     obtain ⟨y123, hy123⟩ : ∃ y_ : List ByteArray, y_ = (([(⟨#[]⟩ : ByteArray), (⟨#[48]⟩ : ByteArray), (⟨#[40, 41]⟩ : ByteArray), (⟨#[49, 40]⟩ : ByteArray), (⟨#[40, 48, 41, 41]⟩ : ByteArray), (⟨#[97, 40, 49, 41]⟩ : ByteArray), (⟨#[40, 49, 41, 48]⟩ : ByteArray), (⟨#[48, 49, 40, 48, 50, 41]⟩ : ByteArray), (⟨#[48, 40, 40, 49, 41]⟩ : ByteArray)] : List ByteArray)) := ⟨_, rfl⟩
     replace H : ((spec_l6Rd_pick.f k s0_0 t122 9).bind fun bt126 => (if 0 ≤ bt126.1 then (if bt126.1 < (y123.length : Int) then (some (rdOf ByteArray.empty y123 bt126.1, bt126.2)) else (none)) else (none))) = some (r1, r2) := by first | (have H2_ := (Option.bind_some _ _).symm.trans H; rw [hy123]; with_reducible exact H2_)
     have Ny123 := Aside0.mk hy123
     clear hy123
     replace H := Option.bind_eq_some_iff.mp H
     obtain ⟨⟨t126, t127⟩, A90, H⟩ := H
     replace H : (if 0 ≤ t126 then (if t126 < (y123.length : Int) then (some (rdOf ByteArray.empty y123 t126, t127)) else (none)) else (none)) = some (r1, r2) := H
     have A9 := Aside0.mk A90
     clear A90
     by_cases c10 : 0 ≤ t126
     ·rw [if_pos c10] at H
      have c10b0 : decide (0 ≤ t126) = true := decide_eq_true c10
      clear c10
      by_cases c11 : t126 < (y123.length : Int)
      ·rw [if_pos c11] at H
       have c11b0 : decide (t126 < (y123.length : Int)) = true := decide_eq_true c11
       clear c11
       simp only [Option.some.injEq, Prod.mk.injEq] at H
       obtain ⟨rfl, rfl⟩ := H
       go_enter Tryd.func38, Tryd.ntmps38
       go_wp2_with (first | ((with_reducible refine gate_callee (f := 65) rfl ?_); refine goesL_ (some 5) rfl rfl Tryd.func65 (by kernel_rfl) rfl #[.pointer (some ⟨g, 0, none⟩), .int .i64 0, .int .i64 6] rfl (by (try simp only [List.map_toArray, List.map_cons, List.map_nil]); rfl) ?_; (with_reducible refine (spec_l91Signs.calls k g s0_0 s0_1 0 6 t117 t118 w0 _ ?side1 ?side2 A2.out).mono ?_); (case side1 => repeat ((with_reducible exact HI0.out))); (case side2 => repeat ((with_reducible exact HB.out))); rintro e w12 ⟨rfl, hi, hb, hk⟩; refine ⟨_, rfl, ?_⟩; replace HK := Aside0.mk (KeepBut.trans HK.out hk (.inl rfl)); replace HB := Aside0.mk hb; replace HI0 := Aside0.mk hi; (try clear hb); (try clear hk); (try clear hi)) | ((with_reducible refine gate_callee (f := 65) rfl ?_); refine goesL_ (some 8) rfl rfl Tryd.func65 (by kernel_rfl) rfl #[.pointer (some ⟨g, 0, none⟩), .int .i64 1, .int .i64 5] rfl (by (try simp only [List.map_toArray, List.map_cons, List.map_nil]); rfl) ?_; (with_reducible refine (spec_l91Signs.calls k g s0_0 t118 1 5 t119 t120 w0 _ ?side1 ?side2 A4.out).mono ?_); (case side1 => repeat ((with_reducible exact HI0.out))); (case side2 => repeat ((with_reducible exact HB.out))); rintro e w13 ⟨rfl, hi, hb, hk⟩; refine ⟨_, rfl, ?_⟩; replace HK := Aside0.mk (KeepBut.trans HK.out hk (.inl rfl)); replace HB := Aside0.mk hb; replace HI0 := Aside0.mk hi; (try clear hb); (try clear hk); (try clear hi)) | ((with_reducible refine gate_callee (f := 39) rfl ?_); refine goesL_ (some 12) rfl rfl Tryd.func39 (by kernel_rfl) rfl #[.pointer (some ⟨g, 0, none⟩), .int .i64 24] rfl (by (try simp only [List.map_toArray, List.map_cons, List.map_nil]); rfl) ?_; (with_reducible refine (spec_l6Rd_pick.calls k g s0_0 t120 24 t121 t122 w0 _ ?side1 ?side2 A7.out).mono ?_); (case side1 => repeat ((with_reducible exact HI0.out))); (case side2 => repeat ((with_reducible exact HB.out))); rintro e w14 ⟨rfl, hi, hb, hk⟩; refine ⟨_, rfl, ?_⟩; replace HK := Aside0.mk (KeepBut.trans HK.out hk (.inl rfl)); replace HB := Aside0.mk hb; replace HI0 := Aside0.mk hi; (try clear hb); (try clear hk); (try clear hi)) | ((with_reducible refine gate_dst (N := 15) rfl ?_); refine Kd.R_lit Kd.string _ 9 ?hg (N := 15) ?hd (xs := ([(⟨#[]⟩ : ByteArray), (⟨#[48]⟩ : ByteArray), (⟨#[40, 41]⟩ : ByteArray), (⟨#[49, 40]⟩ : ByteArray), (⟨#[40, 48, 41, 41]⟩ : ByteArray), (⟨#[97, 40, 49, 41]⟩ : ByteArray), (⟨#[40, 49, 41, 48]⟩ : ByteArray), (⟨#[48, 49, 40, 48, 50, 41]⟩ : ByteArray), (⟨#[48, 40, 40, 49, 41]⟩ : ByteArray)] : List ByteArray)) (inner := [.string (⟨#[]⟩ : ByteArray), .string (⟨#[48]⟩ : ByteArray), .string (⟨#[40, 41]⟩ : ByteArray), .string (⟨#[49, 40]⟩ : ByteArray), .string (⟨#[40, 48, 41, 41]⟩ : ByteArray), .string (⟨#[97, 40, 49, 41]⟩ : ByteArray), .string (⟨#[40, 49, 41, 48]⟩ : ByteArray), .string (⟨#[48, 49, 40, 48, 50, 41]⟩ : ByteArray), .string (⟨#[48, 40, 40, 49, 41]⟩ : ByteArray)]) (ok := fun _ => True) (okp := fun _ => True) ?hr ?hp (fun _ hk => hk) trivial (Below.refl _ _) (Nat.le_refl _) (by simp) ?_; (case hd => rfl); (case hg => rfl); (case hr => first | (go_simp; done)); (case hp => exact (Reps.one (show Kd.M Kd.string _ _ _ (⟨#[]⟩ : ByteArray) [.string (⟨#[]⟩ : ByteArray)] from rfl) (Reps.one (show Kd.M Kd.string _ _ _ (⟨#[48]⟩ : ByteArray) [.string (⟨#[48]⟩ : ByteArray)] from rfl) (Reps.one (show Kd.M Kd.string _ _ _ (⟨#[40, 41]⟩ : ByteArray) [.string (⟨#[40, 41]⟩ : ByteArray)] from rfl) (Reps.one (show Kd.M Kd.string _ _ _ (⟨#[49, 40]⟩ : ByteArray) [.string (⟨#[49, 40]⟩ : ByteArray)] from rfl) (Reps.one (show Kd.M Kd.string _ _ _ (⟨#[40, 48, 41, 41]⟩ : ByteArray) [.string (⟨#[40, 48, 41, 41]⟩ : ByteArray)] from rfl) (Reps.one (show Kd.M Kd.string _ _ _ (⟨#[97, 40, 49, 41]⟩ : ByteArray) [.string (⟨#[97, 40, 49, 41]⟩ : ByteArray)] from rfl) (Reps.one (show Kd.M Kd.string _ _ _ (⟨#[40, 49, 41, 48]⟩ : ByteArray) [.string (⟨#[40, 49, 41, 48]⟩ : ByteArray)] from rfl) (Reps.one (show Kd.M Kd.string _ _ _ (⟨#[48, 49, 40, 48, 50, 41]⟩ : ByteArray) [.string (⟨#[48, 49, 40, 48, 50, 41]⟩ : ByteArray)] from rfl) (Reps.one (show Kd.M Kd.string _ _ _ (⟨#[48, 40, 40, 49, 41]⟩ : ByteArray) [.string (⟨#[48, 40, 40, 49, 41]⟩ : ByteArray)] from rfl) (Reps.none _ _))))))))))); intro v124 w15 ho16 hb hg_ hnew_; clear hg_ hnew_; (rw [← Ny123.out] at ho16); have HO125 := Aside0.mk (Kd.R_lower ho16 (keep_size (w := w) (g := g) (row := none) HK.out)); replace HI0 := Aside0.mk (IsS74.below HI0.out hb); replace HK := Aside0.mk (KeepBut.trans HK.out (KeepBut.of_below hb g none) (.inl rfl)); replace HB := Aside0.mk (below_step HB.out hb); clear hb ho16) | ((with_reducible refine gate_callee (f := 39) rfl ?_); refine goesL_ (some 17) rfl rfl Tryd.func39 (by kernel_rfl) rfl #[.pointer (some ⟨g, 0, none⟩), .int .i64 9] rfl (by (try simp only [List.map_toArray, List.map_cons, List.map_nil]); rfl) ?_; (with_reducible refine (spec_l6Rd_pick.calls k g s0_0 t122 9 t126 t127 w0 _ ?side1 ?side2 A9.out).mono ?_); (case side1 => repeat ((with_reducible exact HI0.out))); (case side2 => repeat ((with_reducible exact HB.out))); rintro e w17 ⟨rfl, hi, hb, hk⟩; refine ⟨_, rfl, ?_⟩; replace HO125 := Aside0.mk (Kd.R_mono (Kd.R_keep (IsS74.apart (show IsS74 w0 _ g s0_0 t122 from by repeat ((with_reducible exact HI0.out))) HO125.out (by decide)) hk (fun _ h => h.2)) (fun _ h => h.1)); replace HK := Aside0.mk (KeepBut.trans HK.out hk (.inl rfl)); replace HB := Aside0.mk hb; replace HI0 := Aside0.mk hi; (try clear hb); (try clear hk); (try clear hi); obtain ⟨Ao18, co18, eo18⟩ := Kd.R_slice HO125.out; subst eo18; have p128 : 0 ≤ (t126 : Int) := of_decide_eq_true (by (with_reducible assumption)); have q128 : t126 < (y123.length : Int) := of_decide_eq_true (by (with_reducible assumption)); obtain ⟨ad128, e128, hx128_0⟩ := Kd.at_string (Kd.R_reads' HO125.out).2.2 t126 p128 q128; cases e128; replace p128 := eq_true p128; replace q128 := eq_true q128))
       go_ret
       exact ⟨by first | rfl | (simp [*, errW_none, errW_some] <;> rfl), HI0.out, HB.out, HK.out⟩
      ·rw [if_neg c11] at H
       exact absurd H (by simp)
     ·rw [if_neg c10] at H
      exact absurd H (by simp)
    ·rw [if_neg c8] at H
     have c8b0 : (t121 == 0) = false := beq_eq_false_iff_ne.mpr c8
     have c8b1 : (t121 != 0) = true := bne_iff_ne.mpr c8
     by_cases c19 : t121 = 1
     ·rw [if_pos c19] at H
      have c19b0 : (t121 == 1) = true := beq_iff_eq.mpr c19
      have c19b1 : (t121 != 1) = false := bne_eq_false_iff_eq.mpr c19
      clear c19
      replace H := Option.bind_eq_some_iff.mp H
      obtain ⟨⟨t129, t130⟩, A200, H⟩ := H
      replace H : (if t129.size + 3 ≤ 9223372036854775807 then (some (t129 ++ (⟨#[40, 48, 41]⟩ : ByteArray), t130)) else (none)) = some (r1, r2) := H
      have A20 := Aside0.mk A200
      clear A200
      by_cases c21 : t129.size + 3 ≤ 9223372036854775807
      ·rw [if_pos c21] at H
       have c21b0 := eq_true c21
       have c21b1 : decide (t129.size + 3 ≤ 9223372036854775807) = true := decide_eq_true c21
       try have c21b2 : (9223372036854775807 < t129.size + 3) = False := eq_false (Nat.not_lt.2 c21)
       simp only [Option.some.injEq, Prod.mk.injEq] at H
       obtain ⟨rfl, rfl⟩ := H
       go_enter Tryd.func38, Tryd.ntmps38
       go_wp2_with (first | ((with_reducible refine gate_callee (f := 65) rfl ?_); refine goesL_ (some 5) rfl rfl Tryd.func65 (by kernel_rfl) rfl #[.pointer (some ⟨g, 0, none⟩), .int .i64 0, .int .i64 6] rfl (by (try simp only [List.map_toArray, List.map_cons, List.map_nil]); rfl) ?_; (with_reducible refine (spec_l91Signs.calls k g s0_0 s0_1 0 6 t117 t118 w0 _ ?side1 ?side2 A2.out).mono ?_); (case side1 => repeat ((with_reducible exact HI0.out))); (case side2 => repeat ((with_reducible exact HB.out))); rintro e w22 ⟨rfl, hi, hb, hk⟩; refine ⟨_, rfl, ?_⟩; replace HK := Aside0.mk (KeepBut.trans HK.out hk (.inl rfl)); replace HB := Aside0.mk hb; replace HI0 := Aside0.mk hi; (try clear hb); (try clear hk); (try clear hi)) | ((with_reducible refine gate_callee (f := 65) rfl ?_); refine goesL_ (some 8) rfl rfl Tryd.func65 (by kernel_rfl) rfl #[.pointer (some ⟨g, 0, none⟩), .int .i64 1, .int .i64 5] rfl (by (try simp only [List.map_toArray, List.map_cons, List.map_nil]); rfl) ?_; (with_reducible refine (spec_l91Signs.calls k g s0_0 t118 1 5 t119 t120 w0 _ ?side1 ?side2 A4.out).mono ?_); (case side1 => repeat ((with_reducible exact HI0.out))); (case side2 => repeat ((with_reducible exact HB.out))); rintro e w23 ⟨rfl, hi, hb, hk⟩; refine ⟨_, rfl, ?_⟩; replace HK := Aside0.mk (KeepBut.trans HK.out hk (.inl rfl)); replace HB := Aside0.mk hb; replace HI0 := Aside0.mk hi; (try clear hb); (try clear hk); (try clear hi)) | ((with_reducible refine gate_callee (f := 39) rfl ?_); refine goesL_ (some 12) rfl rfl Tryd.func39 (by kernel_rfl) rfl #[.pointer (some ⟨g, 0, none⟩), .int .i64 24] rfl (by (try simp only [List.map_toArray, List.map_cons, List.map_nil]); rfl) ?_; (with_reducible refine (spec_l6Rd_pick.calls k g s0_0 t120 24 t121 t122 w0 _ ?side1 ?side2 A7.out).mono ?_); (case side1 => repeat ((with_reducible exact HI0.out))); (case side2 => repeat ((with_reducible exact HB.out))); rintro e w24 ⟨rfl, hi, hb, hk⟩; refine ⟨_, rfl, ?_⟩; replace HK := Aside0.mk (KeepBut.trans HK.out hk (.inl rfl)); replace HB := Aside0.mk hb; replace HI0 := Aside0.mk hi; (try clear hb); (try clear hk); (try clear hi)) | ((with_reducible refine gate_callee (f := 65) rfl ?_); refine goesL_ (some 23) rfl rfl Tryd.func65 (by kernel_rfl) rfl #[.pointer (some ⟨g, 0, none⟩), .int .i64 0, .int .i64 6] rfl (by (try simp only [List.map_toArray, List.map_cons, List.map_nil]); rfl) ?_; (with_reducible refine (spec_l91Signs.calls k g s0_0 t122 0 6 t129 t130 w0 _ ?side1 ?side2 A20.out).mono ?_); (case side1 => repeat ((with_reducible exact HI0.out))); (case side2 => repeat ((with_reducible exact HB.out))); rintro e w25 ⟨rfl, hi, hb, hk⟩; refine ⟨_, rfl, ?_⟩; replace HK := Aside0.mk (KeepBut.trans HK.out hk (.inl rfl)); replace HB := Aside0.mk hb; replace HI0 := Aside0.mk hi; (try clear hb); (try clear hk); (try clear hi)))
       go_ret
       exact ⟨by first | rfl | (simp [*, errW_none, errW_some] <;> rfl), HI0.out, HB.out, HK.out⟩
      ·rw [if_neg c21] at H
       exact absurd H (by simp)
     ·rw [if_neg c19] at H
      have c19b0 : (t121 == 1) = false := beq_eq_false_iff_ne.mpr c19
      have c19b1 : (t121 != 1) = true := bne_iff_ne.mpr c19
      by_cases c26 : t121 = 2
      ·rw [if_pos c26] at H
       have c26b0 : (t121 == 2) = true := beq_iff_eq.mpr c26
       have c26b1 : (t121 != 2) = false := bne_eq_false_iff_eq.mpr c26
       clear c26
       by_cases c27 : 1 ≤ ((((t117 ++ (⟨#[40]⟩ : ByteArray)) ++ t119) ++ (⟨#[41]⟩ : ByteArray)).size : Int)
       ·rw [if_pos c27] at H
        have c27b0 := eq_true c27
        have c27b1 : decide (1 ≤ ((((t117 ++ (⟨#[40]⟩ : ByteArray)) ++ t119) ++ (⟨#[41]⟩ : ByteArray)).size : Int)) = true := decide_eq_true c27
        by_cases c28 : 1 + ((((t117 ++ (⟨#[40]⟩ : ByteArray)) ++ t119) ++ (⟨#[41]⟩ : ByteArray)).extract 1 (((t117 ++ (⟨#[40]⟩ : ByteArray)) ++ t119) ++ (⟨#[41]⟩ : ByteArray)).size).size ≤ 9223372036854775807
        ·rw [if_pos c28] at H
         have c28b0 := eq_true c28
         have c28b1 : decide (1 + ((((t117 ++ (⟨#[40]⟩ : ByteArray)) ++ t119) ++ (⟨#[41]⟩ : ByteArray)).extract 1 (((t117 ++ (⟨#[40]⟩ : ByteArray)) ++ t119) ++ (⟨#[41]⟩ : ByteArray)).size).size ≤ 9223372036854775807) = true := decide_eq_true c28
         try have c28b2 : (9223372036854775807 < 1 + ((((t117 ++ (⟨#[40]⟩ : ByteArray)) ++ t119) ++ (⟨#[41]⟩ : ByteArray)).extract 1 (((t117 ++ (⟨#[40]⟩ : ByteArray)) ++ t119) ++ (⟨#[41]⟩ : ByteArray)).size).size) = False := eq_false (Nat.not_lt.2 c28)
         simp only [Option.some.injEq, Prod.mk.injEq] at H
         obtain ⟨rfl, rfl⟩ := H
         go_enter Tryd.func38, Tryd.ntmps38
         go_wp2_with (first | ((with_reducible refine gate_callee (f := 65) rfl ?_); refine goesL_ (some 5) rfl rfl Tryd.func65 (by kernel_rfl) rfl #[.pointer (some ⟨g, 0, none⟩), .int .i64 0, .int .i64 6] rfl (by (try simp only [List.map_toArray, List.map_cons, List.map_nil]); rfl) ?_; (with_reducible refine (spec_l91Signs.calls k g s0_0 s0_1 0 6 t117 t118 w0 _ ?side1 ?side2 A2.out).mono ?_); (case side1 => repeat ((with_reducible exact HI0.out))); (case side2 => repeat ((with_reducible exact HB.out))); rintro e w29 ⟨rfl, hi, hb, hk⟩; refine ⟨_, rfl, ?_⟩; replace HK := Aside0.mk (KeepBut.trans HK.out hk (.inl rfl)); replace HB := Aside0.mk hb; replace HI0 := Aside0.mk hi; (try clear hb); (try clear hk); (try clear hi)) | ((with_reducible refine gate_callee (f := 65) rfl ?_); refine goesL_ (some 8) rfl rfl Tryd.func65 (by kernel_rfl) rfl #[.pointer (some ⟨g, 0, none⟩), .int .i64 1, .int .i64 5] rfl (by (try simp only [List.map_toArray, List.map_cons, List.map_nil]); rfl) ?_; (with_reducible refine (spec_l91Signs.calls k g s0_0 t118 1 5 t119 t120 w0 _ ?side1 ?side2 A4.out).mono ?_); (case side1 => repeat ((with_reducible exact HI0.out))); (case side2 => repeat ((with_reducible exact HB.out))); rintro e w30 ⟨rfl, hi, hb, hk⟩; refine ⟨_, rfl, ?_⟩; replace HK := Aside0.mk (KeepBut.trans HK.out hk (.inl rfl)); replace HB := Aside0.mk hb; replace HI0 := Aside0.mk hi; (try clear hb); (try clear hk); (try clear hi)) | ((with_reducible refine gate_callee (f := 39) rfl ?_); refine goesL_ (some 12) rfl rfl Tryd.func39 (by kernel_rfl) rfl #[.pointer (some ⟨g, 0, none⟩), .int .i64 24] rfl (by (try simp only [List.map_toArray, List.map_cons, List.map_nil]); rfl) ?_; (with_reducible refine (spec_l6Rd_pick.calls k g s0_0 t120 24 t121 t122 w0 _ ?side1 ?side2 A7.out).mono ?_); (case side1 => repeat ((with_reducible exact HI0.out))); (case side2 => repeat ((with_reducible exact HB.out))); rintro e w31 ⟨rfl, hi, hb, hk⟩; refine ⟨_, rfl, ?_⟩; replace HK := Aside0.mk (KeepBut.trans HK.out hk (.inl rfl)); replace HB := Aside0.mk hb; replace HI0 := Aside0.mk hi; (try clear hb); (try clear hk); (try clear hi)))
         go_ret
         exact ⟨by first | (simp [errW_none, errW_some] <;> rfl) | (simp [*, errW_none, errW_some] <;> rfl), HI0.out, HB.out, HK.out⟩
        ·rw [if_neg c28] at H
         exact absurd H (by simp)
       ·rw [if_neg c27] at H
        exact absurd H (by simp)
      ·rw [if_neg c26] at H
       have c26b0 : (t121 == 2) = false := beq_eq_false_iff_ne.mpr c26
       have c26b1 : (t121 != 2) = true := bne_iff_ne.mpr c26
       simp only [Option.some.injEq, Prod.mk.injEq] at H
       obtain ⟨rfl, rfl⟩ := H
       go_enter Tryd.func38, Tryd.ntmps38
       go_wp2_with (first | ((with_reducible refine gate_callee (f := 65) rfl ?_); refine goesL_ (some 5) rfl rfl Tryd.func65 (by kernel_rfl) rfl #[.pointer (some ⟨g, 0, none⟩), .int .i64 0, .int .i64 6] rfl (by (try simp only [List.map_toArray, List.map_cons, List.map_nil]); rfl) ?_; (with_reducible refine (spec_l91Signs.calls k g s0_0 s0_1 0 6 t117 t118 w0 _ ?side1 ?side2 A2.out).mono ?_); (case side1 => repeat ((with_reducible exact HI0.out))); (case side2 => repeat ((with_reducible exact HB.out))); rintro e w32 ⟨rfl, hi, hb, hk⟩; refine ⟨_, rfl, ?_⟩; replace HK := Aside0.mk (KeepBut.trans HK.out hk (.inl rfl)); replace HB := Aside0.mk hb; replace HI0 := Aside0.mk hi; (try clear hb); (try clear hk); (try clear hi)) | ((with_reducible refine gate_callee (f := 65) rfl ?_); refine goesL_ (some 8) rfl rfl Tryd.func65 (by kernel_rfl) rfl #[.pointer (some ⟨g, 0, none⟩), .int .i64 1, .int .i64 5] rfl (by (try simp only [List.map_toArray, List.map_cons, List.map_nil]); rfl) ?_; (with_reducible refine (spec_l91Signs.calls k g s0_0 t118 1 5 t119 t120 w0 _ ?side1 ?side2 A4.out).mono ?_); (case side1 => repeat ((with_reducible exact HI0.out))); (case side2 => repeat ((with_reducible exact HB.out))); rintro e w33 ⟨rfl, hi, hb, hk⟩; refine ⟨_, rfl, ?_⟩; replace HK := Aside0.mk (KeepBut.trans HK.out hk (.inl rfl)); replace HB := Aside0.mk hb; replace HI0 := Aside0.mk hi; (try clear hb); (try clear hk); (try clear hi)) | ((with_reducible refine gate_callee (f := 39) rfl ?_); refine goesL_ (some 12) rfl rfl Tryd.func39 (by kernel_rfl) rfl #[.pointer (some ⟨g, 0, none⟩), .int .i64 24] rfl (by (try simp only [List.map_toArray, List.map_cons, List.map_nil]); rfl) ?_; (with_reducible refine (spec_l6Rd_pick.calls k g s0_0 t120 24 t121 t122 w0 _ ?side1 ?side2 A7.out).mono ?_); (case side1 => repeat ((with_reducible exact HI0.out))); (case side2 => repeat ((with_reducible exact HB.out))); rintro e w34 ⟨rfl, hi, hb, hk⟩; refine ⟨_, rfl, ?_⟩; replace HK := Aside0.mk (KeepBut.trans HK.out hk (.inl rfl)); replace HB := Aside0.mk hb; replace HI0 := Aside0.mk hi; (try clear hb); (try clear hk); (try clear hi)))
       go_ret
       exact ⟨by first | rfl | (simp [*, errW_none, errW_some] <;> rfl), HI0.out, HB.out, HK.out⟩
   ·rw [if_neg c6] at H
    exact absurd H (by simp)
  ·rw [if_neg c5] at H
   exact absurd H (by simp)
 ·rw [if_neg c3] at H
  exact absurd H (by simp)


def spec_l91Proof.f (k : Nat) (s0_0 : List Int) (s0_1 : Int) : Option (ByteArray × Int) := (spec_l6Rd_pick.f k s0_0 s0_1 30).bind fun bt431 => ((spec_l6Dec.f k bt431.1).bind fun t433 => (if 6 + t433.size ≤ 9223372036854775807 then (if 7 + t433.size ≤ 9223372036854775807 then (if 4 + t433.size ≤ 9223372036854775807 then (if 4 + t433.size + 1 ≤ 9223372036854775807 then (if 4 + t433.size + 1 + t433.size ≤ 9223372036854775807 then (if 5 + t433.size ≤ 9223372036854775807 then ((some (([(⟨#[102, 105, 114, 115, 116, 32]⟩ : ByteArray) ++ t433, (⟨#[115, 101, 99, 111, 110, 100, 32]⟩ : ByteArray) ++ t433, (⟨#[115, 117, 109, 32]⟩ : ByteArray) ++ t433, (((⟨#[115, 117, 109, 32]⟩ : ByteArray) ++ t433) ++ (⟨#[32]⟩ : ByteArray)) ++ t433, (⟨#[115, 117, 109]⟩ : ByteArray), (⟨#[114, 101, 115, 116, 32]⟩ : ByteArray) ++ t433, (⟨#[114, 101, 115, 116, 32, 50]⟩ : ByteArray), (⟨#[102, 105, 114, 115, 116]⟩ : ByteArray), (⟨#[115, 117, 109, 32, 48]⟩ : ByteArray) ++ t433, (⟨#[114, 101, 115, 116, 32, 32, 50]⟩ : ByteArray), (⟨#[102, 105, 114, 115, 116, 32, 45, 49]⟩ : ByteArray)] : List ByteArray) : List ByteArray)).bind fun y434 => ((spec_l6Rd_pick.f k s0_0 bt431.2 11).bind fun bt437 => (if 0 ≤ bt437.1 then (if bt437.1 < (y434.length : Int) then (some (rdOf ByteArray.empty y434 bt437.1, bt437.2)) else (none)) else (none)))) else (none)) else (none)) else (none)) else (none)) else (none)) else (none)))
theorem spec_l91Proof.mono : ∀ a0 a1 k, LeO (spec_l91Proof.f k a0 a1) (spec_l91Proof.f (k + 1) a0 a1) := by
 intro a0 a1 k
 unfold spec_l91Proof.f
 repeat' first | (with_reducible exact spec_l6Dec.mono _ _) | (with_reducible exact spec_l6Rd_pick.mono _ _ _ _) | (with_reducible exact LeO.refl _) | (with_reducible refine LeO.ite ?_ ?_) | (with_reducible refine LeO.bind ?_ (fun _ => ?_))
set_option maxHeartbeats 8000000 in
set_option maxRecDepth 100000 in
theorem spec_l91Proof.calls (k : Nat) (g : Nat) (s0_0 : List Int) (s0_1 : Int) (r1 : ByteArray) (r2 : Int) (w0 w : World) (hI : IsS74 w0 w g s0_0 s0_1) (hB : Below w0.heap.size w0 w) (h : spec_l91Proof.f k s0_0 s0_1 = some (r1, r2)) :
  Calls Tryd.prog 53 #[.pointer (some ⟨g, 0, none⟩)] w fun e w' => e = .returned (.string r1) ∧ IsS74 w0 w' g s0_0 r2 ∧ Below w0.heap.size w0 w' ∧ KeepBut w w' g none := by
 have HI0 := Aside0.mk hI
 have HK := Aside0.mk (KeepBut.refl w g none)
 have HL := Aside0.mk hB.size
 clear hI
 have HW0 := Aside0.mk hB.size
 have HB := Aside0.mk hB
 clear hB
 have H : ((spec_l6Rd_pick.f k s0_0 s0_1 30).bind fun bt431 => ((spec_l6Dec.f k bt431.1).bind fun t433 => (if 6 + t433.size ≤ 9223372036854775807 then (if 7 + t433.size ≤ 9223372036854775807 then (if 4 + t433.size ≤ 9223372036854775807 then (if 4 + t433.size + 1 ≤ 9223372036854775807 then (if 4 + t433.size + 1 + t433.size ≤ 9223372036854775807 then (if 5 + t433.size ≤ 9223372036854775807 then ((some (([(⟨#[102, 105, 114, 115, 116, 32]⟩ : ByteArray) ++ t433, (⟨#[115, 101, 99, 111, 110, 100, 32]⟩ : ByteArray) ++ t433, (⟨#[115, 117, 109, 32]⟩ : ByteArray) ++ t433, (((⟨#[115, 117, 109, 32]⟩ : ByteArray) ++ t433) ++ (⟨#[32]⟩ : ByteArray)) ++ t433, (⟨#[115, 117, 109]⟩ : ByteArray), (⟨#[114, 101, 115, 116, 32]⟩ : ByteArray) ++ t433, (⟨#[114, 101, 115, 116, 32, 50]⟩ : ByteArray), (⟨#[102, 105, 114, 115, 116]⟩ : ByteArray), (⟨#[115, 117, 109, 32, 48]⟩ : ByteArray) ++ t433, (⟨#[114, 101, 115, 116, 32, 32, 50]⟩ : ByteArray), (⟨#[102, 105, 114, 115, 116, 32, 45, 49]⟩ : ByteArray)] : List ByteArray) : List ByteArray)).bind fun y434 => ((spec_l6Rd_pick.f k s0_0 bt431.2 11).bind fun bt437 => (if 0 ≤ bt437.1 then (if bt437.1 < (y434.length : Int) then (some (rdOf ByteArray.empty y434 bt437.1, bt437.2)) else (none)) else (none)))) else (none)) else (none)) else (none)) else (none)) else (none)) else (none)))) = some (r1, r2) := h
 clear h
 replace H := Option.bind_eq_some_iff.mp H
 obtain ⟨⟨t431, t432⟩, A20, H⟩ := H
 replace H : ((spec_l6Dec.f k t431).bind fun t433 => (if 6 + t433.size ≤ 9223372036854775807 then (if 7 + t433.size ≤ 9223372036854775807 then (if 4 + t433.size ≤ 9223372036854775807 then (if 4 + t433.size + 1 ≤ 9223372036854775807 then (if 4 + t433.size + 1 + t433.size ≤ 9223372036854775807 then (if 5 + t433.size ≤ 9223372036854775807 then ((some (([(⟨#[102, 105, 114, 115, 116, 32]⟩ : ByteArray) ++ t433, (⟨#[115, 101, 99, 111, 110, 100, 32]⟩ : ByteArray) ++ t433, (⟨#[115, 117, 109, 32]⟩ : ByteArray) ++ t433, (((⟨#[115, 117, 109, 32]⟩ : ByteArray) ++ t433) ++ (⟨#[32]⟩ : ByteArray)) ++ t433, (⟨#[115, 117, 109]⟩ : ByteArray), (⟨#[114, 101, 115, 116, 32]⟩ : ByteArray) ++ t433, (⟨#[114, 101, 115, 116, 32, 50]⟩ : ByteArray), (⟨#[102, 105, 114, 115, 116]⟩ : ByteArray), (⟨#[115, 117, 109, 32, 48]⟩ : ByteArray) ++ t433, (⟨#[114, 101, 115, 116, 32, 32, 50]⟩ : ByteArray), (⟨#[102, 105, 114, 115, 116, 32, 45, 49]⟩ : ByteArray)] : List ByteArray) : List ByteArray)).bind fun y434 => ((spec_l6Rd_pick.f k s0_0 t432 11).bind fun bt437 => (if 0 ≤ bt437.1 then (if bt437.1 < (y434.length : Int) then (some (rdOf ByteArray.empty y434 bt437.1, bt437.2)) else (none)) else (none)))) else (none)) else (none)) else (none)) else (none)) else (none)) else (none))) = some (r1, r2) := H
 have A2 := Aside0.mk A20
 clear A20
 replace H := Option.bind_eq_some_iff.mp H
 obtain ⟨t433, A30, H⟩ := H
 replace H : (if 6 + t433.size ≤ 9223372036854775807 then (if 7 + t433.size ≤ 9223372036854775807 then (if 4 + t433.size ≤ 9223372036854775807 then (if 4 + t433.size + 1 ≤ 9223372036854775807 then (if 4 + t433.size + 1 + t433.size ≤ 9223372036854775807 then (if 5 + t433.size ≤ 9223372036854775807 then ((some (([(⟨#[102, 105, 114, 115, 116, 32]⟩ : ByteArray) ++ t433, (⟨#[115, 101, 99, 111, 110, 100, 32]⟩ : ByteArray) ++ t433, (⟨#[115, 117, 109, 32]⟩ : ByteArray) ++ t433, (((⟨#[115, 117, 109, 32]⟩ : ByteArray) ++ t433) ++ (⟨#[32]⟩ : ByteArray)) ++ t433, (⟨#[115, 117, 109]⟩ : ByteArray), (⟨#[114, 101, 115, 116, 32]⟩ : ByteArray) ++ t433, (⟨#[114, 101, 115, 116, 32, 50]⟩ : ByteArray), (⟨#[102, 105, 114, 115, 116]⟩ : ByteArray), (⟨#[115, 117, 109, 32, 48]⟩ : ByteArray) ++ t433, (⟨#[114, 101, 115, 116, 32, 32, 50]⟩ : ByteArray), (⟨#[102, 105, 114, 115, 116, 32, 45, 49]⟩ : ByteArray)] : List ByteArray) : List ByteArray)).bind fun y434 => ((spec_l6Rd_pick.f k s0_0 t432 11).bind fun bt437 => (if 0 ≤ bt437.1 then (if bt437.1 < (y434.length : Int) then (some (rdOf ByteArray.empty y434 bt437.1, bt437.2)) else (none)) else (none)))) else (none)) else (none)) else (none)) else (none)) else (none)) else (none)) = some (r1, r2) := H
 have A3 := Aside0.mk A30
 clear A30
 by_cases c4 : 6 + t433.size ≤ 9223372036854775807
 ·rw [if_pos c4] at H
  have c4b0 := eq_true c4
  have c4b1 : decide (6 + t433.size ≤ 9223372036854775807) = true := decide_eq_true c4
  try have c4b2 : (9223372036854775807 < 6 + t433.size) = False := eq_false (Nat.not_lt.2 c4)
  by_cases c5 : 7 + t433.size ≤ 9223372036854775807
  ·rw [if_pos c5] at H
   have c5b0 := eq_true c5
   have c5b1 : decide (7 + t433.size ≤ 9223372036854775807) = true := decide_eq_true c5
   try have c5b2 : (9223372036854775807 < 7 + t433.size) = False := eq_false (Nat.not_lt.2 c5)
   by_cases c6 : 4 + t433.size ≤ 9223372036854775807
   ·rw [if_pos c6] at H
    have c6b0 := eq_true c6
    have c6b1 : decide (4 + t433.size ≤ 9223372036854775807) = true := decide_eq_true c6
    try have c6b2 : (9223372036854775807 < 4 + t433.size) = False := eq_false (Nat.not_lt.2 c6)
    by_cases c7 : 4 + t433.size + 1 ≤ 9223372036854775807
    ·rw [if_pos c7] at H
     have c7b0 := eq_true c7
     have c7b1 : decide (4 + t433.size + 1 ≤ 9223372036854775807) = true := decide_eq_true c7
     try have c7b2 : (9223372036854775807 < 4 + t433.size + 1) = False := eq_false (Nat.not_lt.2 c7)
     by_cases c8 : 4 + t433.size + 1 + t433.size ≤ 9223372036854775807
     ·rw [if_pos c8] at H
      have c8b0 := eq_true c8
      have c8b1 : decide (4 + t433.size + 1 + t433.size ≤ 9223372036854775807) = true := decide_eq_true c8
      try have c8b2 : (9223372036854775807 < 4 + t433.size + 1 + t433.size) = False := eq_false (Nat.not_lt.2 c8)
      by_cases c9 : 5 + t433.size ≤ 9223372036854775807
      ·rw [if_pos c9] at H
       have c9b0 := eq_true c9
       have c9b1 : decide (5 + t433.size ≤ 9223372036854775807) = true := decide_eq_true c9
       try have c9b2 : (9223372036854775807 < 5 + t433.size) = False := eq_false (Nat.not_lt.2 c9)
       obtain ⟨y434, hy434⟩ : ∃ y_ : List ByteArray, y_ = (([(⟨#[102, 105, 114, 115, 116, 32]⟩ : ByteArray) ++ t433, (⟨#[115, 101, 99, 111, 110, 100, 32]⟩ : ByteArray) ++ t433, (⟨#[115, 117, 109, 32]⟩ : ByteArray) ++ t433, (((⟨#[115, 117, 109, 32]⟩ : ByteArray) ++ t433) ++ (⟨#[32]⟩ : ByteArray)) ++ t433, (⟨#[115, 117, 109]⟩ : ByteArray), (⟨#[114, 101, 115, 116, 32]⟩ : ByteArray) ++ t433, (⟨#[114, 101, 115, 116, 32, 50]⟩ : ByteArray), (⟨#[102, 105, 114, 115, 116]⟩ : ByteArray), (⟨#[115, 117, 109, 32, 48]⟩ : ByteArray) ++ t433, (⟨#[114, 101, 115, 116, 32, 32, 50]⟩ : ByteArray), (⟨#[102, 105, 114, 115, 116, 32, 45, 49]⟩ : ByteArray)] : List ByteArray)) := ⟨_, rfl⟩
       replace H : ((spec_l6Rd_pick.f k s0_0 t432 11).bind fun bt437 => (if 0 ≤ bt437.1 then (if bt437.1 < (y434.length : Int) then (some (rdOf ByteArray.empty y434 bt437.1, bt437.2)) else (none)) else (none))) = some (r1, r2) := by first | (have H2_ := (Option.bind_some _ _).symm.trans H; rw [hy434]; with_reducible exact H2_)
       have Ny434 := Aside0.mk hy434
       clear hy434
       replace H := Option.bind_eq_some_iff.mp H
       obtain ⟨⟨t437, t438⟩, A100, H⟩ := H
       replace H : (if 0 ≤ t437 then (if t437 < (y434.length : Int) then (some (rdOf ByteArray.empty y434 t437, t438)) else (none)) else (none)) = some (r1, r2) := H
       have A10 := Aside0.mk A100
       clear A100
       by_cases c11 : 0 ≤ t437
       ·rw [if_pos c11] at H
        have c11b0 : decide (0 ≤ t437) = true := decide_eq_true c11
        clear c11
        by_cases c12 : t437 < (y434.length : Int)
        ·rw [if_pos c12] at H
         have c12b0 : decide (t437 < (y434.length : Int)) = true := decide_eq_true c12
         clear c12
         simp only [Option.some.injEq, Prod.mk.injEq] at H
         obtain ⟨rfl, rfl⟩ := H
         go_enter Tryd.func53, Tryd.ntmps53
         go_wp2_with (first | ((with_reducible refine gate_callee (f := 39) rfl ?_); refine goesL_ (some 5) rfl rfl Tryd.func39 (by kernel_rfl) rfl #[.pointer (some ⟨g, 0, none⟩), .int .i64 30] rfl (by (try simp only [List.map_toArray, List.map_cons, List.map_nil]); rfl) ?_; (with_reducible refine (spec_l6Rd_pick.calls k g s0_0 s0_1 30 t431 t432 w0 _ ?side1 ?side2 A2.out).mono ?_); (case side1 => repeat ((with_reducible exact HI0.out))); (case side2 => repeat ((with_reducible exact HB.out))); rintro e w13 ⟨rfl, hi, hb, hk⟩; refine ⟨_, rfl, ?_⟩; replace HK := Aside0.mk (KeepBut.trans HK.out hk (.inl rfl)); replace HB := Aside0.mk hb; replace HI0 := Aside0.mk hi; (try clear hb); (try clear hk); (try clear hi)) | ((with_reducible refine gate_callee (f := 71) rfl ?_); refine goesL_ (some 6) rfl rfl Tryd.func71 (by kernel_rfl) rfl #[.int .i64 t431] rfl (by (try simp only [List.map_toArray, List.map_cons, List.map_nil]); rfl) ?_; (with_reducible refine (spec_l6Dec.calls k t431 t433 _ A3.out).mono ?_); rintro e w14 ⟨rfl, hb⟩; refine ⟨_, rfl, ?_⟩; replace HI0 := Aside0.mk (IsS74.below HI0.out hb); replace HK := Aside0.mk (KeepBut.trans HK.out (KeepBut.of_below hb g none) (.inl rfl)); replace HB := Aside0.mk (below_step HB.out hb); (try clear hb)) | ((with_reducible refine gate_dst (N := 22) rfl ?_); refine Kd.R_lit Kd.string _ 9 ?hg (N := 22) ?hd (xs := ([(⟨#[102, 105, 114, 115, 116, 32]⟩ : ByteArray) ++ t433, (⟨#[115, 101, 99, 111, 110, 100, 32]⟩ : ByteArray) ++ t433, (⟨#[115, 117, 109, 32]⟩ : ByteArray) ++ t433, (((⟨#[115, 117, 109, 32]⟩ : ByteArray) ++ t433) ++ (⟨#[32]⟩ : ByteArray)) ++ t433, (⟨#[115, 117, 109]⟩ : ByteArray), (⟨#[114, 101, 115, 116, 32]⟩ : ByteArray) ++ t433, (⟨#[114, 101, 115, 116, 32, 50]⟩ : ByteArray), (⟨#[102, 105, 114, 115, 116]⟩ : ByteArray), (⟨#[115, 117, 109, 32, 48]⟩ : ByteArray) ++ t433, (⟨#[114, 101, 115, 116, 32, 32, 50]⟩ : ByteArray), (⟨#[102, 105, 114, 115, 116, 32, 45, 49]⟩ : ByteArray)] : List ByteArray)) (inner := [.string ((⟨#[102, 105, 114, 115, 116, 32]⟩ : ByteArray) ++ t433), .string ((⟨#[115, 101, 99, 111, 110, 100, 32]⟩ : ByteArray) ++ t433), .string ((⟨#[115, 117, 109, 32]⟩ : ByteArray) ++ t433), .string ((((⟨#[115, 117, 109, 32]⟩ : ByteArray) ++ t433) ++ (⟨#[32]⟩ : ByteArray)) ++ t433), .string (⟨#[115, 117, 109]⟩ : ByteArray), .string ((⟨#[114, 101, 115, 116, 32]⟩ : ByteArray) ++ t433), .string (⟨#[114, 101, 115, 116, 32, 50]⟩ : ByteArray), .string (⟨#[102, 105, 114, 115, 116]⟩ : ByteArray), .string ((⟨#[115, 117, 109, 32, 48]⟩ : ByteArray) ++ t433), .string (⟨#[114, 101, 115, 116, 32, 32, 50]⟩ : ByteArray), .string (⟨#[102, 105, 114, 115, 116, 32, 45, 49]⟩ : ByteArray)]) (ok := fun _ => True) (okp := fun _ => True) ?hr ?hp (fun _ hk => hk) trivial (Below.refl _ _) (Nat.le_refl _) (by simp) ?_; (case hd => rfl); (case hg => rfl); (case hr => first | (go_simp; done)); (case hp => exact (Reps.one (show Kd.M Kd.string _ _ _ ((⟨#[102, 105, 114, 115, 116, 32]⟩ : ByteArray) ++ t433) [.string ((⟨#[102, 105, 114, 115, 116, 32]⟩ : ByteArray) ++ t433)] from rfl) (Reps.one (show Kd.M Kd.string _ _ _ ((⟨#[115, 101, 99, 111, 110, 100, 32]⟩ : ByteArray) ++ t433) [.string ((⟨#[115, 101, 99, 111, 110, 100, 32]⟩ : ByteArray) ++ t433)] from rfl) (Reps.one (show Kd.M Kd.string _ _ _ ((⟨#[115, 117, 109, 32]⟩ : ByteArray) ++ t433) [.string ((⟨#[115, 117, 109, 32]⟩ : ByteArray) ++ t433)] from rfl) (Reps.one (show Kd.M Kd.string _ _ _ ((((⟨#[115, 117, 109, 32]⟩ : ByteArray) ++ t433) ++ (⟨#[32]⟩ : ByteArray)) ++ t433) [.string ((((⟨#[115, 117, 109, 32]⟩ : ByteArray) ++ t433) ++ (⟨#[32]⟩ : ByteArray)) ++ t433)] from rfl) (Reps.one (show Kd.M Kd.string _ _ _ (⟨#[115, 117, 109]⟩ : ByteArray) [.string (⟨#[115, 117, 109]⟩ : ByteArray)] from rfl) (Reps.one (show Kd.M Kd.string _ _ _ ((⟨#[114, 101, 115, 116, 32]⟩ : ByteArray) ++ t433) [.string ((⟨#[114, 101, 115, 116, 32]⟩ : ByteArray) ++ t433)] from rfl) (Reps.one (show Kd.M Kd.string _ _ _ (⟨#[114, 101, 115, 116, 32, 50]⟩ : ByteArray) [.string (⟨#[114, 101, 115, 116, 32, 50]⟩ : ByteArray)] from rfl) (Reps.one (show Kd.M Kd.string _ _ _ (⟨#[102, 105, 114, 115, 116]⟩ : ByteArray) [.string (⟨#[102, 105, 114, 115, 116]⟩ : ByteArray)] from rfl) (Reps.one (show Kd.M Kd.string _ _ _ ((⟨#[115, 117, 109, 32, 48]⟩ : ByteArray) ++ t433) [.string ((⟨#[115, 117, 109, 32, 48]⟩ : ByteArray) ++ t433)] from rfl) (Reps.one (show Kd.M Kd.string _ _ _ (⟨#[114, 101, 115, 116, 32, 32, 50]⟩ : ByteArray) [.string (⟨#[114, 101, 115, 116, 32, 32, 50]⟩ : ByteArray)] from rfl) (Reps.one (show Kd.M Kd.string _ _ _ (⟨#[102, 105, 114, 115, 116, 32, 45, 49]⟩ : ByteArray) [.string (⟨#[102, 105, 114, 115, 116, 32, 45, 49]⟩ : ByteArray)] from rfl) (Reps.none _ _))))))))))))); intro v435 w15 ho16 hb hg_ hnew_; clear hg_ hnew_; (rw [← Ny434.out] at ho16); have HO436 := Aside0.mk (Kd.R_lower ho16 (keep_size (w := w) (g := g) (row := none) HK.out)); replace HI0 := Aside0.mk (IsS74.below HI0.out hb); replace HK := Aside0.mk (KeepBut.trans HK.out (KeepBut.of_below hb g none) (.inl rfl)); replace HB := Aside0.mk (below_step HB.out hb); clear hb ho16) | ((with_reducible refine gate_callee (f := 39) rfl ?_); refine goesL_ (some 24) rfl rfl Tryd.func39 (by kernel_rfl) rfl #[.pointer (some ⟨g, 0, none⟩), .int .i64 11] rfl (by (try simp only [List.map_toArray, List.map_cons, List.map_nil]); rfl) ?_; (with_reducible refine (spec_l6Rd_pick.calls k g s0_0 t432 11 t437 t438 w0 _ ?side1 ?side2 A10.out).mono ?_); (case side1 => repeat ((with_reducible exact HI0.out))); (case side2 => repeat ((with_reducible exact HB.out))); rintro e w17 ⟨rfl, hi, hb, hk⟩; refine ⟨_, rfl, ?_⟩; replace HO436 := Aside0.mk (Kd.R_mono (Kd.R_keep (IsS74.apart (show IsS74 w0 _ g s0_0 t432 from by repeat ((with_reducible exact HI0.out))) HO436.out (by decide)) hk (fun _ h => h.2)) (fun _ h => h.1)); replace HK := Aside0.mk (KeepBut.trans HK.out hk (.inl rfl)); replace HB := Aside0.mk hb; replace HI0 := Aside0.mk hi; (try clear hb); (try clear hk); (try clear hi); obtain ⟨Ao18, co18, eo18⟩ := Kd.R_slice HO436.out; subst eo18; have p439 : 0 ≤ (t437 : Int) := of_decide_eq_true (by (with_reducible assumption)); have q439 : t437 < (y434.length : Int) := of_decide_eq_true (by (with_reducible assumption)); obtain ⟨ad439, e439, hx439_0⟩ := Kd.at_string (Kd.R_reads' HO436.out).2.2 t437 p439 q439; cases e439; replace p439 := eq_true p439; replace q439 := eq_true q439))
         go_ret
         exact ⟨by first | rfl | (simp [*, errW_none, errW_some] <;> rfl), HI0.out, HB.out, HK.out⟩
        ·rw [if_neg c12] at H
         exact absurd H (by simp)
       ·rw [if_neg c11] at H
        exact absurd H (by simp)
      ·rw [if_neg c9] at H
       exact absurd H (by simp)
     ·rw [if_neg c8] at H
      exact absurd H (by simp)
    ·rw [if_neg c7] at H
     exact absurd H (by simp)
   ·rw [if_neg c6] at H
    exact absurd H (by simp)
  ·rw [if_neg c5] at H
   exact absurd H (by simp)
 ·rw [if_neg c4] at H
  exact absurd H (by simp)


def spec_DrawProofSumIs.f (k : Nat) (l0 : List Int) : Option (ByteArray × Int × ByteArray) := (spec_l6Open.f l0).bind fun bt879 => ((spec_l91Set.f k bt879.1 bt879.2).bind fun bt882 => ((spec_l6Rd_pick.f k bt879.1 bt882.2 40).bind fun bt884 => ((spec_l6Rd_pick.f k bt879.1 bt884.2 80).bind fun bt886 => ((some (([bt884.1, bt886.1, 0, (-1), 99] : List Int) : List Int)).bind fun y888 => ((spec_l6Rd_pick.f k bt879.1 bt886.2 5).bind fun bt891 => (if 0 ≤ bt891.1 then (if bt891.1 < (y888.length : Int) then ((spec_l91Proof.f k bt879.1 bt891.2).bind fun bt894 => (some (bt882.1, rd y888 bt891.1, bt894.1))) else (none)) else (none)))))))
theorem spec_DrawProofSumIs.mono : ∀ a0 k, LeO (spec_DrawProofSumIs.f k a0) (spec_DrawProofSumIs.f (k + 1) a0) := by
 intro a0 k
 unfold spec_DrawProofSumIs.f
 repeat' first | (with_reducible exact spec_l6Rd_pick.mono _ _ _ _) | (with_reducible exact spec_l91Proof.mono _ _ _) | (with_reducible exact spec_l91Set.mono _ _ _) | (with_reducible exact LeO.refl _) | (with_reducible refine LeO.ite ?_ ?_) | (with_reducible refine LeO.bind ?_ (fun _ => ?_))
def spec_DrawProofSumIs.T2 : Bool × List (List Nat × List Nat) := (true, [([], []), ([0], [0]), ([], []), ([2, 1], [2]), ([], []), ([4, 3], [4]), ([3, 5], [3, 5]), ([], []), ([7, 5], [7]), ([6, 8], [6, 8]), ([9], [9]), ([], []), ([11, 8], [11]), ([1, 12, 0, 1], [1]), ([10, 13, 0, 1, 2, 3, 4, 5, 6, 7, 8, 9, 10, 13], [10]), ([12, 14, 0, 1, 2, 3, 4, 5, 6, 7, 8, 9, 10, 11, 12, 13, 14], [12])])
def spec_DrawProofSumIs.B2 : List Nat := [0, 1, 0, 7, 0, 31, 63, 0, 191, 511, 1023, 0, 2495, 6591, 16383, 32767]
theorem spec_DrawProofSumIs.tab2 : rtab .any (opsOf Tryd.f35 2) = spec_DrawProofSumIs.T2 := by kernel_rfl
theorem spec_DrawProofSumIs.bits2 : waitsOk spec_DrawProofSumIs.T2.2 spec_DrawProofSumIs.B2 = true := by kernel_rfl
set_option maxHeartbeats 8000000 in
set_option maxRecDepth 100000 in
theorem spec_DrawProofSumIs.calls (k : Nat) (A0 : Option Addr) (c0 : Nat) (l0 : List Int) (r1 : ByteArray) (r2 : Int) (r3 : ByteArray) (w : World) (hr0 : Kd.C (Kd.int .u8) w A0 l0.length l0) (hc0 : l0.length ≤ c0) (h : spec_DrawProofSumIs.f k l0 = some (r1, r2, r3)) :
  Calls Tryd.prog 35 #[.slice A0 l0.length c0] w fun e w' => e = .returned (.tuple #[.string r1, .int .i64 r2, .string r3]) ∧ Below w.heap.size w w' := by
 have HR0 := Aside0.mk hr0
 have HC0 := Aside0.mk hc0
 clear hr0 hc0
 have HB := Aside0.mk (Below.refl w.heap.size w)
 have H : ((spec_l6Open.f l0).bind fun bt879 => ((spec_l91Set.f k bt879.1 bt879.2).bind fun bt882 => ((spec_l6Rd_pick.f k bt879.1 bt882.2 40).bind fun bt884 => ((spec_l6Rd_pick.f k bt879.1 bt884.2 80).bind fun bt886 => ((some (([bt884.1, bt886.1, 0, (-1), 99] : List Int) : List Int)).bind fun y888 => ((spec_l6Rd_pick.f k bt879.1 bt886.2 5).bind fun bt891 => (if 0 ≤ bt891.1 then (if bt891.1 < (y888.length : Int) then ((spec_l91Proof.f k bt879.1 bt891.2).bind fun bt894 => (some (bt882.1, rd y888 bt891.1, bt894.1))) else (none)) else (none)))))))) = some (r1, r2, r3) := h
 clear h
 replace H := Option.bind_eq_some_iff.mp H
 obtain ⟨⟨t879, t880⟩, A20, H⟩ := H
 replace H : ((spec_l91Set.f k t879 t880).bind fun bt882 => ((spec_l6Rd_pick.f k t879 bt882.2 40).bind fun bt884 => ((spec_l6Rd_pick.f k t879 bt884.2 80).bind fun bt886 => ((some (([bt884.1, bt886.1, 0, (-1), 99] : List Int) : List Int)).bind fun y888 => ((spec_l6Rd_pick.f k t879 bt886.2 5).bind fun bt891 => (if 0 ≤ bt891.1 then (if bt891.1 < (y888.length : Int) then ((spec_l91Proof.f k t879 bt891.2).bind fun bt894 => (some (bt882.1, rd y888 bt891.1, bt894.1))) else (none)) else (none))))))) = some (r1, r2, r3) := H
 have A2 := Aside0.mk A20
 clear A20
 replace H := Option.bind_eq_some_iff.mp H
 obtain ⟨⟨t882, t883⟩, A30, H⟩ := H
 replace H : ((spec_l6Rd_pick.f k t879 t883 40).bind fun bt884 => ((spec_l6Rd_pick.f k t879 bt884.2 80).bind fun bt886 => ((some (([bt884.1, bt886.1, 0, (-1), 99] : List Int) : List Int)).bind fun y888 => ((spec_l6Rd_pick.f k t879 bt886.2 5).bind fun bt891 => (if 0 ≤ bt891.1 then (if bt891.1 < (y888.length : Int) then ((spec_l91Proof.f k t879 bt891.2).bind fun bt894 => (some (t882, rd y888 bt891.1, bt894.1))) else (none)) else (none)))))) = some (r1, r2, r3) := H
 have A3 := Aside0.mk A30
 clear A30
 replace H := Option.bind_eq_some_iff.mp H
 obtain ⟨⟨t884, t885⟩, A40, H⟩ := H
 replace H : ((spec_l6Rd_pick.f k t879 t885 80).bind fun bt886 => ((some (([t884, bt886.1, 0, (-1), 99] : List Int) : List Int)).bind fun y888 => ((spec_l6Rd_pick.f k t879 bt886.2 5).bind fun bt891 => (if 0 ≤ bt891.1 then (if bt891.1 < (y888.length : Int) then ((spec_l91Proof.f k t879 bt891.2).bind fun bt894 => (some (t882, rd y888 bt891.1, bt894.1))) else (none)) else (none))))) = some (r1, r2, r3) := H
 have A4 := Aside0.mk A40
 clear A40
 replace H := Option.bind_eq_some_iff.mp H
 obtain ⟨⟨t886, t887⟩, A50, H⟩ := H
 replace H : ((some (([t884, t886, 0, (-1), 99] : List Int) : List Int)).bind fun y888 => ((spec_l6Rd_pick.f k t879 t887 5).bind fun bt891 => (if 0 ≤ bt891.1 then (if bt891.1 < (y888.length : Int) then ((spec_l91Proof.f k t879 bt891.2).bind fun bt894 => (some (t882, rd y888 bt891.1, bt894.1))) else (none)) else (none)))) = some (r1, r2, r3) := H
 have A5 := Aside0.mk A50
 clear A50
 obtain ⟨y888, hy888⟩ : ∃ y_ : List Int, y_ = (([t884, t886, 0, (-1), 99] : List Int)) := ⟨_, rfl⟩
 replace H : ((spec_l6Rd_pick.f k t879 t887 5).bind fun bt891 => (if 0 ≤ bt891.1 then (if bt891.1 < (y888.length : Int) then ((spec_l91Proof.f k t879 bt891.2).bind fun bt894 => (some (t882, rd y888 bt891.1, bt894.1))) else (none)) else (none))) = some (r1, r2, r3) := by first | (have H2_ := (Option.bind_some _ _).symm.trans H; rw [hy888]; with_reducible exact H2_)
 have Ny888 := Aside0.mk hy888
 clear hy888
 replace H := Option.bind_eq_some_iff.mp H
 obtain ⟨⟨t891, t892⟩, A60, H⟩ := H
 replace H : (if 0 ≤ t891 then (if t891 < (y888.length : Int) then ((spec_l91Proof.f k t879 t892).bind fun bt894 => (some (t882, rd y888 t891, bt894.1))) else (none)) else (none)) = some (r1, r2, r3) := H
 have A6 := Aside0.mk A60
 clear A60
 by_cases c7 : 0 ≤ t891
 ·rw [if_pos c7] at H
  have c7b0 : decide (0 ≤ t891) = true := decide_eq_true c7
  clear c7
  by_cases c8 : t891 < (y888.length : Int)
  ·rw [if_pos c8] at H
   have c8b0 : decide (t891 < (y888.length : Int)) = true := decide_eq_true c8
   clear c8
   replace H := Option.bind_eq_some_iff.mp H
   obtain ⟨⟨t894, t895⟩, A90, H⟩ := H
   replace H : (some (t882, rd y888 t891, t894)) = some (r1, r2, r3) := H
   have A9 := Aside0.mk A90
   clear A90
   simp only [Option.some.injEq, Prod.mk.injEq] at H
   obtain ⟨rfl, rfl, rfl⟩ := H
   go_enter Tryd.func35, Tryd.ntmps35
   try go_wp2_with (first | ((with_reducible refine gate_callee (f := 37) rfl ?_); refine goesL_ (some 7) rfl rfl Tryd.func37 (by kernel_rfl) rfl #[.slice A0 l0.length c0] rfl (by (try simp only [List.map_toArray, List.map_cons, List.map_nil]); rfl) ?_; (with_reducible refine (spec_l6Open.calls _ _ l0 t879 t880 w _ ?side1 ?side2 ?side3 A2.out).mono ?_); (case side1 => repeat ((with_reducible exact HB.out))); (case side2 => exact HR0.out); (case side3 => exact HC0.out); rintro e w10 ⟨g881, rfl, hi, hb, hb2⟩; refine ⟨_, rfl, ?_⟩; replace HB := Aside0.mk hb; have HI881 := Aside0.mk hi; (try clear hb); (try clear hb2); (try clear hi)))
   have pi893 : (0 ≤ (t891 : Int)) = True := eq_true (of_decide_eq_true (by (with_reducible assumption)))
   have qi893 : (t891 < (y888.length : Int)) = True := eq_true (of_decide_eq_true (by (with_reducible assumption)))
   replace HI881 := Aside0.mk (IsS74.drew HI881.out)
   replace HB := Aside0.mk (below_drew1 HB.out)
   refine start_ (n := 16) (S := fun w' => True) (ds := []) #[false, false, false, false, false, false, false, false, false, false, false, false, false, false, false, false] (by kernel_rfl) rfl rfl trivial (fun hHeld => ?_); refine with_tabW spec_DrawProofSumIs.tab2 spec_DrawProofSumIs.bits2 (fun HT_ HW_ => ?_)
   generalize w10.drew = w11 at HI881 HB hHeld ⊢
   refine pure_ (i := 0) (N := some 8) (v := ?_) (a' := ?_) #[true, false, false, false, false, false, false, false, false, false, false, false, false, false, false, false] rfl rfl (any_of HT_.out (by kernel_rfl)) (fun _ _ _ h => h) (Or.inl ⟨by rfl, ?_⟩) ?_ ?_
   rotate_left
   ·intro w'
    go_simp
    with_reducible rfl
   rotate_left
   ·simp only [Act.put, List.setIfInBounds_toArray, List.set_cons_zero, List.set_cons_succ, i64_w, i32_w]
    rfl
   refine pure_ (i := 2) (N := some 10) (v := ?_) (a' := ?_) #[true, false, true, false, false, false, false, false, false, false, false, false, false, false, false, false] rfl rfl (any_of HT_.out (by kernel_rfl)) (fun _ _ _ h => h) (Or.inl ⟨by rfl, ?_⟩) ?_ ?_
   rotate_left
   ·intro w'
    go_simp
    with_reducible rfl
   rotate_left
   ·simp only [Act.put, List.setIfInBounds_toArray, List.set_cons_zero, List.set_cons_succ, i64_w, i32_w]
    rfl
   refine pure_ (i := 4) (N := some 12) (v := ?_) (a' := ?_) #[true, false, true, false, true, false, false, false, false, false, false, false, false, false, false, false] rfl rfl (any_of HT_.out (by kernel_rfl)) (fun _ _ _ h => h) (Or.inl ⟨by rfl, ?_⟩) ?_ ?_
   rotate_left
   ·intro w'
    go_simp
    with_reducible rfl
   rotate_left
   ·simp only [Act.put, List.setIfInBounds_toArray, List.set_cons_zero, List.set_cons_succ, i64_w, i32_w]
    rfl
   refine pure_ (i := 7) (N := some 15) (v := ?_) (a' := ?_) #[true, false, true, false, true, false, false, true, false, false, false, false, false, false, false, false] rfl rfl (any_of HT_.out (by kernel_rfl)) (fun _ _ _ h => h) (Or.inl ⟨by rfl, ?_⟩) ?_ ?_
   rotate_left
   ·intro w'
    go_simp
    with_reducible rfl
   rotate_left
   ·simp only [Act.put, List.setIfInBounds_toArray, List.set_cons_zero, List.set_cons_succ, i64_w, i32_w]
    rfl
   refine pure_ (i := 11) (N := some 19) (v := ?_) (a' := ?_) #[true, false, true, false, true, false, false, true, false, false, false, true, false, false, false, false] rfl rfl (any_of HT_.out (by kernel_rfl)) (fun _ _ _ h => h) (Or.inl ⟨by rfl, ?_⟩) ?_ ?_
   rotate_left
   ·intro w'
    go_simp
    with_reducible rfl
   rotate_left
   ·simp only [Act.put, List.setIfInBounds_toArray, List.set_cons_zero, List.set_cons_succ, i64_w, i32_w]
    rfl
   refine inv_at [1, 3, 5, 6, 8, 9, 10, 12, 13, 14, 15] (fun a0_ b a w' => ∃ (v889 : Value) (adz_v889 : Addr) (m9_ : Value), a = putSel a0_ b [(1, 9, .string t882), (3, 11, .int .i64 t884), (5, 13, .int .i64 t886), (6, 14, v889), (8, 16, .int .i64 t891), (9, 17, m9_), (10, 18, .int .i64 (rd y888 t891)), (12, 20, .string t894), (13, 2, .string t882), (14, 3, .int .i64 (rd y888 t891)), (15, 4, .string t894)] ∧ (b 1 = false → IsS74 w w' g881 t879 t880) ∧ (Below w.heap.size w w') ∧ (b 1 = true → b 3 = false → IsS74 w w' g881 t879 t883) ∧ (b 3 = true → b 5 = false → IsS74 w w' g881 t879 t885) ∧ (b 5 = true → b 8 = false → IsS74 w w' g881 t879 t887) ∧ (b 6 = true → Kd.R (Kd.int .i64) 3 w' w.heap.size (fun _ => True) v889 y888) ∧ (b 6 = true → ∃ c_, (v889 : Value) = .slice (some adz_v889) y888.length c_) ∧ (b 8 = true → b 12 = false → IsS74 w w' g881 t879 t892) ∧ (b 12 = true → IsS74 w w' g881 t879 t895) ∧ (b 9 = true → (m9_ : Value) = .pointer (some (adz_v889.add (t891).toNat)))) HT_.out HW_.out (by kernel_rfl) (by kernel_rfl) ?_ ?_ ?_
   ·exact ⟨.bool false, ⟨0, 0, none⟩, .bool false, by simp only [putSel, Bool.false_eq_true, if_false], fun _ => HI881.out, HB.out, fun h_ => absurd h_ (by decide), fun h_ => absurd h_ (by decide), fun h_ => absurd h_ (by decide), fun h_ => absurd h_ (by decide), fun h_ => absurd h_ (by decide), fun h_ => absurd h_ (by decide), fun h_ => absurd h_ (by decide), fun h_ => absurd h_ (by decide)⟩
   ·skip
    clear HB HI881
    refine steps_cons ?_ ?_
    ·rintro b a w' ⟨v889, adz_v889, m9_, ha, Q_HI881, Q_HB, Q_HI881_e1, Q_HI881_e3, Q_HI881_e5, Q_HO890, Q_HA_HO890, Q_HI881_e8, Q_HI881_e12, Q_X9_⟩ hb_ hon hoff
     refine ⟨_, rfl, fun K hK => ?_⟩
     have e8 : a.tmps[8]? = some (.pointer (some ⟨g881, 0, none⟩)) := by rw [ha]; exact (putSel_off rfl).trans rfl
     replace ha := Aside0.mk ha
     have HI881 := Aside0.mk (Q_HI881 hb_)
     have HB := Aside0.mk Q_HB
     refine goes_ Tryd.func38 (by kernel_rfl) rfl #[.pointer (some ⟨g881, 0, none⟩)] (by rfl) rfl rfl (by first | (simp only [List.map_toArray, List.map_cons, List.map_nil, Act.eval, Array.getD_eq_getD_getElem?, Option.getD_some, e8]; done)) ?_
     with_reducible refine (spec_l91Set.calls k g881 t879 t880 t882 t883 w _ ?side1 ?side2 A3.out).mono ?_
     (case side1 => repeat ((with_reducible exact HI881.out)))
     (case side2 => repeat ((with_reducible exact HB.out)))
     rintro e w12 ⟨rfl, hi, hb, hk⟩
     refine ⟨_, rfl, ?_⟩
     replace HB := Aside0.mk hb
     replace HI881 := Aside0.mk hi
     (try clear hb)
     (try clear hk)
     (try clear hi)
     refine hK.out _ _ ⟨v889, adz_v889, m9_, (by rw [ha.out]; exact putSel_upk 0 hb_ rfl rfl rfl), fun h0_ => absurd ((up_self b 1).symm.trans h0_) (by decide), HB.out, fun _ _ => HI881.out, fun h0_ _ => absurd ((hoff 3 (by kernel_rfl)).symm.trans h0_) (by decide), fun h0_ _ => absurd ((hoff 5 (by kernel_rfl)).symm.trans h0_) (by decide), fun h0_ => absurd ((hoff 6 (by kernel_rfl)).symm.trans h0_) (by decide), fun h0_ => absurd ((hoff 6 (by kernel_rfl)).symm.trans h0_) (by decide), fun h0_ _ => absurd ((hoff 8 (by kernel_rfl)).symm.trans h0_) (by decide), fun h0_ => absurd ((hoff 12 (by kernel_rfl)).symm.trans h0_) (by decide), fun h0_ => absurd ((hoff 9 (by kernel_rfl)).symm.trans h0_) (by decide)⟩
    refine steps_cons ?_ ?_
    ·rintro b a w' ⟨v889, adz_v889, m9_, ha, Q_HI881, Q_HB, Q_HI881_e1, Q_HI881_e3, Q_HI881_e5, Q_HO890, Q_HA_HO890, Q_HI881_e8, Q_HI881_e12, Q_X9_⟩ hb_ hon hoff
     refine ⟨_, rfl, fun K hK => ?_⟩
     have e10 : a.tmps[10]? = some (.pointer (some ⟨g881, 0, none⟩)) := by rw [ha]; exact (putSel_off rfl).trans rfl
     replace ha := Aside0.mk ha
     have HB := Aside0.mk Q_HB
     have HI881 := Aside0.mk (Q_HI881_e1 (hon 1 (by kernel_rfl)) hb_)
     refine goes_ Tryd.func39 (by kernel_rfl) rfl #[.pointer (some ⟨g881, 0, none⟩), .int .i64 40] (by rfl) rfl rfl (by first | (simp only [List.map_toArray, List.map_cons, List.map_nil, Act.eval, Array.getD_eq_getD_getElem?, Option.getD_some, e10]; done)) ?_
     with_reducible refine (spec_l6Rd_pick.calls k g881 t879 t883 40 t884 t885 w _ ?side1 ?side2 A4.out).mono ?_
     (case side1 => repeat ((with_reducible exact HI881.out)))
     (case side2 => repeat ((with_reducible exact HB.out)))
     rintro e w14 ⟨rfl, hi, hb, hk⟩
     refine ⟨_, rfl, ?_⟩
     replace HB := Aside0.mk hb
     replace HI881 := Aside0.mk hi
     (try clear hb)
     (try clear hk)
     (try clear hi)
     refine hK.out _ _ ⟨v889, adz_v889, m9_, (by rw [ha.out]; exact putSel_upk 1 hb_ rfl rfl rfl), fun h0_ => absurd ((hon 1 (by kernel_rfl)).symm.trans h0_) (by decide), HB.out, fun _ h1_ => absurd ((up_self b 3).symm.trans h1_) (by decide), fun _ _ => HI881.out, fun h0_ _ => absurd ((hoff 5 (by kernel_rfl)).symm.trans h0_) (by decide), fun h0_ => absurd ((hoff 6 (by kernel_rfl)).symm.trans h0_) (by decide), fun h0_ => absurd ((hoff 6 (by kernel_rfl)).symm.trans h0_) (by decide), fun h0_ _ => absurd ((hoff 8 (by kernel_rfl)).symm.trans h0_) (by decide), fun h0_ => absurd ((hoff 12 (by kernel_rfl)).symm.trans h0_) (by decide), fun h0_ => absurd ((hoff 9 (by kernel_rfl)).symm.trans h0_) (by decide)⟩
    refine steps_cons ?_ ?_
    ·rintro b a w' ⟨v889, adz_v889, m9_, ha, Q_HI881, Q_HB, Q_HI881_e1, Q_HI881_e3, Q_HI881_e5, Q_HO890, Q_HA_HO890, Q_HI881_e8, Q_HI881_e12, Q_X9_⟩ hb_ hon hoff
     refine ⟨_, rfl, fun K hK => ?_⟩
     have e12 : a.tmps[12]? = some (.pointer (some ⟨g881, 0, none⟩)) := by rw [ha]; exact (putSel_off rfl).trans rfl
     replace ha := Aside0.mk ha
     have HB := Aside0.mk Q_HB
     have HI881 := Aside0.mk (Q_HI881_e3 (hon 3 (by kernel_rfl)) hb_)
     refine goes_ Tryd.func39 (by kernel_rfl) rfl #[.pointer (some ⟨g881, 0, none⟩), .int .i64 80] (by rfl) rfl rfl (by first | (simp only [List.map_toArray, List.map_cons, List.map_nil, Act.eval, Array.getD_eq_getD_getElem?, Option.getD_some, e12]; done)) ?_
     with_reducible refine (spec_l6Rd_pick.calls k g881 t879 t885 80 t886 t887 w _ ?side1 ?side2 A5.out).mono ?_
     (case side1 => repeat ((with_reducible exact HI881.out)))
     (case side2 => repeat ((with_reducible exact HB.out)))
     rintro e w15 ⟨rfl, hi, hb, hk⟩
     refine ⟨_, rfl, ?_⟩
     replace HB := Aside0.mk hb
     replace HI881 := Aside0.mk hi
     (try clear hb)
     (try clear hk)
     (try clear hi)
     refine hK.out _ _ ⟨v889, adz_v889, m9_, (by rw [ha.out]; exact putSel_upk 2 hb_ rfl rfl rfl), fun h0_ => absurd ((hon 1 (by kernel_rfl)).symm.trans h0_) (by decide), HB.out, fun _ h1_ => absurd ((hon 3 (by kernel_rfl)).symm.trans h1_) (by decide), fun _ h1_ => absurd ((up_self b 5).symm.trans h1_) (by decide), fun _ _ => HI881.out, fun h0_ => absurd ((hoff 6 (by kernel_rfl)).symm.trans h0_) (by decide), fun h0_ => absurd ((hoff 6 (by kernel_rfl)).symm.trans h0_) (by decide), fun h0_ _ => absurd ((hoff 8 (by kernel_rfl)).symm.trans h0_) (by decide), fun h0_ => absurd ((hoff 12 (by kernel_rfl)).symm.trans h0_) (by decide), fun h0_ => absurd ((hoff 9 (by kernel_rfl)).symm.trans h0_) (by decide)⟩
    refine steps_cons ?_ ?_
    ·rintro b a w' ⟨v889, adz_v889, m9_, ha, Q_HI881, Q_HB, Q_HI881_e1, Q_HI881_e3, Q_HI881_e5, Q_HO890, Q_HA_HO890, Q_HI881_e8, Q_HI881_e12, Q_X9_⟩ hb_ hon hoff
     refine ⟨_, rfl, fun K hK => ?_⟩
     have e11 : a.tmps[11]? = some (.int .i64 t884) := by rw [ha]; exact putSel_on (e := (3, 11, .int .i64 t884)) 1 rfl rfl (hon 3 (by kernel_rfl)) rfl
     have e13 : a.tmps[13]? = some (.int .i64 t886) := by rw [ha]; exact putSel_on (e := (5, 13, .int .i64 t886)) 2 rfl rfl (hon 5 (by kernel_rfl)) rfl
     replace ha := Aside0.mk ha
     have HB := Aside0.mk Q_HB
     refine Kd.R_lit_step (Kd.int .i64) _ 3 ?hg (N := 14) ?hd (xs := ([t884, t886, 0, (-1), 99] : List Int)) (inner := [.int .i64 t884, .int .i64 t886, .int .i64 0, .int .i64 (-1), .int .i64 99]) (ok := fun _ => True) (okp := fun _ => True) ?hr ?hp (fun _ hk => hk) trivial (Below.refl _ _) (Nat.le_refl _) (by simp) ?_; (case hd => rfl); (case hg => rfl); (case hr => first | (go_simp; done)); (case hp => exact (Reps.one (show Kd.M (Kd.int .i64) _ _ _ t884 [.int .i64 t884] from rfl) (Reps.one (show Kd.M (Kd.int .i64) _ _ _ t886 [.int .i64 t886] from rfl) (Reps.one (show Kd.M (Kd.int .i64) _ _ _ 0 [.int .i64 0] from rfl) (Reps.one (show Kd.M (Kd.int .i64) _ _ _ (-1) [.int .i64 (-1)] from rfl) (Reps.one (show Kd.M (Kd.int .i64) _ _ _ 99 [.int .i64 99] from rfl) (Reps.none _ _)))))))
     intro v889 w16 ho17 hb hg_ hnew_
     clear hg_ hnew_
     (rw [← Ny888.out] at ho17)
     have n0_ := Aside0.mk (Kd.R_lower ho17 (below_size HB.out))
     have n2_ := Aside0.mk (below_step HB.out hb)
     have z_HI881_e5 := fun (h0_ : b 5 = true) (h1_ : b 8 = false) => (show IsS74 w w16 g881 t879 t887 from by exact (IsS74.below (by repeat ((with_reducible exact (Q_HI881_e5 h0_ h1_)))) hb))
     have z_HI881_e8 := fun (h0_ : b 8 = true) (h1_ : b 12 = false) => (show IsS74 w w16 g881 t879 t892 from by exact (IsS74.below (by repeat ((with_reducible exact (Q_HI881_e8 h0_ h1_)))) hb))
     have z_HI881_e12 := fun (h0_ : b 12 = true) => (show IsS74 w w16 g881 t879 t895 from by exact (IsS74.below (by repeat ((with_reducible exact (Q_HI881_e12 h0_)))) hb))
     clear HB
     have HO890 := n0_
     have HB := n2_
     clear n0_ n2_
     clear hb ho17
     obtain ⟨Ao18, co18, eo18⟩ := Kd.R_slice HO890.out
     subst eo18
     obtain ⟨ado18, fo18, _⟩ := Kd.at_int (Kd.R_reads' HO890.out).2.2 0 (by decide) (by rw [Ny888.out]; simp)
     cases fo18
     refine hK.out _ _ ⟨.slice (some ado18) y888.length co18, ado18, m9_, (by rw [ha.out]; exact putSel_upk 3 hb_ rfl rfl rfl), fun h0_ => absurd ((hon 1 (by kernel_rfl)).symm.trans h0_) (by decide), HB.out, fun _ h1_ => absurd ((hon 3 (by kernel_rfl)).symm.trans h1_) (by decide), fun _ h1_ => absurd ((hon 5 (by kernel_rfl)).symm.trans h1_) (by decide), z_HI881_e5, fun _ => HO890.out, fun _ => ⟨_, rfl⟩, z_HI881_e8, z_HI881_e12, fun h0_ => absurd ((hoff 9 (by kernel_rfl)).symm.trans h0_) (by decide)⟩
    refine steps_cons ?_ ?_
    ·rintro b a w' ⟨v889, adz_v889, m9_, ha, Q_HI881, Q_HB, Q_HI881_e1, Q_HI881_e3, Q_HI881_e5, Q_HO890, Q_HA_HO890, Q_HI881_e8, Q_HI881_e12, Q_X9_⟩ hb_ hon hoff
     refine ⟨_, rfl, fun K hK => ?_⟩
     have e15 : a.tmps[15]? = some (.pointer (some ⟨g881, 0, none⟩)) := by rw [ha]; exact (putSel_off rfl).trans rfl
     replace ha := Aside0.mk ha
     have HB := Aside0.mk Q_HB
     have HI881 := Aside0.mk (Q_HI881_e5 (hon 5 (by kernel_rfl)) hb_)
     refine goes_ Tryd.func39 (by kernel_rfl) rfl #[.pointer (some ⟨g881, 0, none⟩), .int .i64 5] (by rfl) rfl rfl (by first | (simp only [List.map_toArray, List.map_cons, List.map_nil, Act.eval, Array.getD_eq_getD_getElem?, Option.getD_some, e15]; done)) ?_
     with_reducible refine (spec_l6Rd_pick.calls k g881 t879 t887 5 t891 t892 w _ ?side1 ?side2 A6.out).mono ?_
     (case side1 => repeat ((with_reducible exact HI881.out)))
     (case side2 => repeat ((with_reducible exact HB.out)))
     rintro e w16 ⟨rfl, hi, hb, hk⟩
     refine ⟨_, rfl, ?_⟩
     have n0_ := Aside0.mk hb
     have n1_ := Aside0.mk hi
     have z_HO890 := fun (h0_ : b 6 = true) => (show Kd.R (Kd.int .i64) 3 w16 w.heap.size (fun _ => True) v889 y888 from by first | exact (Kd.R_mono (Kd.R_keep (IsS74.apart (show IsS74 w _ g881 t879 t887 from by repeat ((with_reducible exact HI881.out))) (by exact (Q_HO890 h0_)) (by decide)) hk (fun _ h => h.2)) (fun _ h => h.1)))
     clear HB
     clear HI881
     have HB := n0_
     have HI881 := n1_
     clear n0_ n1_
     (try clear hb)
     (try clear hk)
     (try clear hi)
     refine hK.out _ _ ⟨v889, adz_v889, m9_, (by rw [ha.out]; exact putSel_upk 4 hb_ rfl rfl rfl), fun h0_ => absurd ((hon 1 (by kernel_rfl)).symm.trans h0_) (by decide), HB.out, fun _ h1_ => absurd ((hon 3 (by kernel_rfl)).symm.trans h1_) (by decide), fun _ h1_ => absurd ((hon 5 (by kernel_rfl)).symm.trans h1_) (by decide), fun _ h1_ => absurd ((up_self b 8).symm.trans h1_) (by decide), z_HO890, Q_HA_HO890, fun _ _ => HI881.out, fun h0_ => absurd ((hoff 12 (by kernel_rfl)).symm.trans h0_) (by decide), fun h0_ => absurd ((hoff 9 (by kernel_rfl)).symm.trans h0_) (by decide)⟩
    refine steps_cons ?_ ?_
    ·rintro b a w' ⟨v889, adz_v889, m9_, ha, Q_HI881, Q_HB, Q_HI881_e1, Q_HI881_e3, Q_HI881_e5, Q_HO890, Q_HA_HO890, Q_HI881_e8, Q_HI881_e12, Q_X9_⟩ hb_ hon hoff
     refine ⟨_, rfl, fun K hK => ?_⟩
     have e14 : a.tmps[14]? = some (v889) := by rw [ha]; exact putSel_on (e := (6, 14, v889)) 3 rfl rfl (hon 6 (by kernel_rfl)) rfl
     have e16 : a.tmps[16]? = some (.int .i64 t891) := by rw [ha]; exact putSel_on (e := (8, 16, .int .i64 t891)) 4 rfl rfl (hon 8 (by kernel_rfl)) rfl
     replace ha := Aside0.mk ha
     have HB := Aside0.mk Q_HB
     have HO890 := Aside0.mk (Q_HO890 (hon 6 (by kernel_rfl)))
     have HA_HO890 := Aside0.mk (Q_HA_HO890 (hon 6 (by kernel_rfl)))
     obtain ⟨c_, hv_⟩ := HA_HO890.out
     rw [hv_] at e14
     refine value_ (w1 := w') (v := .pointer (some (adz_v889.add (t891).toNat))) (by rfl) rfl ?_ ?_
     ·go_simp
     refine hK.out _ _ ⟨v889, adz_v889, (.pointer (some (adz_v889.add (t891).toNat))), (by rw [ha.out]; exact putSel_upk 5 hb_ rfl rfl rfl), fun h0_ => absurd ((hon 1 (by kernel_rfl)).symm.trans h0_) (by decide), Q_HB, fun _ h1_ => absurd ((hon 3 (by kernel_rfl)).symm.trans h1_) (by decide), fun _ h1_ => absurd ((hon 5 (by kernel_rfl)).symm.trans h1_) (by decide), fun _ h1_ => absurd ((hon 8 (by kernel_rfl)).symm.trans h1_) (by decide), Q_HO890, Q_HA_HO890, Q_HI881_e8, Q_HI881_e12, fun _ => rfl⟩
    refine steps_cons ?_ ?_
    ·rintro b a w' ⟨v889, adz_v889, m9_, ha, Q_HI881, Q_HB, Q_HI881_e1, Q_HI881_e3, Q_HI881_e5, Q_HO890, Q_HA_HO890, Q_HI881_e8, Q_HI881_e12, Q_X9_⟩ hb_ hon hoff
     refine ⟨_, rfl, fun K hK => ?_⟩
     have e17 : a.tmps[17]? = some (m9_) := by rw [ha]; exact putSel_on (e := (9, 17, m9_)) 5 rfl rfl (hon 9 (by kernel_rfl)) rfl
     rw [Q_X9_ (hon 9 (by kernel_rfl))] at e17
     replace ha := Aside0.mk ha
     have HB := Aside0.mk Q_HB
     have HO890 := Aside0.mk (Q_HO890 (hon 6 (by kernel_rfl)))
     have HA_HO890 := Aside0.mk (Q_HA_HO890 (hon 6 (by kernel_rfl)))
     obtain ⟨c_, hv_⟩ := HA_HO890.out
     have hF_ := HO890.out
     rw [hv_] at hF_
     obtain ⟨ad_, ea_, hx_⟩ := Kd.at_int (Kd.R_reads' hF_).2.2 t891 (of_eq_true pi893) (of_eq_true qi893)
     cases ea_
     refine value_ (w1 := w') (v := .int .i64 (rd y888 t891)) (by rfl) rfl ?_ ?_
     ·go_simp
     refine hK.out _ _ ⟨v889, adz_v889, m9_, (by rw [ha.out]; exact putSel_upk 6 hb_ rfl rfl rfl), fun h0_ => absurd ((hon 1 (by kernel_rfl)).symm.trans h0_) (by decide), Q_HB, fun _ h1_ => absurd ((hon 3 (by kernel_rfl)).symm.trans h1_) (by decide), fun _ h1_ => absurd ((hon 5 (by kernel_rfl)).symm.trans h1_) (by decide), fun _ h1_ => absurd ((hon 8 (by kernel_rfl)).symm.trans h1_) (by decide), Q_HO890, Q_HA_HO890, Q_HI881_e8, Q_HI881_e12, Q_X9_⟩
    refine steps_cons ?_ ?_
    ·rintro b a w' ⟨v889, adz_v889, m9_, ha, Q_HI881, Q_HB, Q_HI881_e1, Q_HI881_e3, Q_HI881_e5, Q_HO890, Q_HA_HO890, Q_HI881_e8, Q_HI881_e12, Q_X9_⟩ hb_ hon hoff
     refine ⟨_, rfl, fun K hK => ?_⟩
     have e19 : a.tmps[19]? = some (.pointer (some ⟨g881, 0, none⟩)) := by rw [ha]; exact (putSel_off rfl).trans rfl
     replace ha := Aside0.mk ha
     have HB := Aside0.mk Q_HB
     have HI881 := Aside0.mk (Q_HI881_e8 (hon 8 (by kernel_rfl)) hb_)
     refine goes_ Tryd.func53 (by kernel_rfl) rfl #[.pointer (some ⟨g881, 0, none⟩)] (by rfl) rfl rfl (by first | (simp only [List.map_toArray, List.map_cons, List.map_nil, Act.eval, Array.getD_eq_getD_getElem?, Option.getD_some, e19]; done)) ?_
     with_reducible refine (spec_l91Proof.calls k g881 t879 t892 t894 t895 w _ ?side1 ?side2 A9.out).mono ?_
     (case side1 => repeat ((with_reducible exact HI881.out)))
     (case side2 => repeat ((with_reducible exact HB.out)))
     rintro e w17 ⟨rfl, hi, hb, hk⟩
     refine ⟨_, rfl, ?_⟩
     have n0_ := Aside0.mk hb
     have n1_ := Aside0.mk hi
     have z_HO890 := fun (h0_ : b 6 = true) => (show Kd.R (Kd.int .i64) 3 w17 w.heap.size (fun _ => True) v889 y888 from by first | exact (Kd.R_mono (Kd.R_keep (IsS74.apart (show IsS74 w _ g881 t879 t892 from by repeat ((with_reducible exact HI881.out))) (by exact (Q_HO890 h0_)) (by decide)) hk (fun _ h => h.2)) (fun _ h => h.1)))
     clear HB
     clear HI881
     have HB := n0_
     have HI881 := n1_
     clear n0_ n1_
     (try clear hb)
     (try clear hk)
     (try clear hi)
     refine hK.out _ _ ⟨v889, adz_v889, m9_, (by rw [ha.out]; exact putSel_upk 7 hb_ rfl rfl rfl), fun h0_ => absurd ((hon 1 (by kernel_rfl)).symm.trans h0_) (by decide), HB.out, fun _ h1_ => absurd ((hon 3 (by kernel_rfl)).symm.trans h1_) (by decide), fun _ h1_ => absurd ((hon 5 (by kernel_rfl)).symm.trans h1_) (by decide), fun _ h1_ => absurd ((hon 8 (by kernel_rfl)).symm.trans h1_) (by decide), z_HO890, Q_HA_HO890, fun _ h1_ => absurd ((up_self b 12).symm.trans h1_) (by decide), fun _ => HI881.out, Q_X9_⟩
    refine steps_cons ?_ ?_
    ·rintro b a w' ⟨v889, adz_v889, m9_, ha, Q_HI881, Q_HB, Q_HI881_e1, Q_HI881_e3, Q_HI881_e5, Q_HO890, Q_HA_HO890, Q_HI881_e8, Q_HI881_e12, Q_X9_⟩ hb_ hon hoff
     refine ⟨_, rfl, fun K hK => ?_⟩
     have e9 : a.tmps[9]? = some (.string t882) := by rw [ha]; exact putSel_on (e := (1, 9, .string t882)) 0 rfl rfl (hon 1 (by kernel_rfl)) rfl
     replace ha := Aside0.mk ha
     have HB := Aside0.mk Q_HB
     have HI881 := Aside0.mk (Q_HI881_e12 (hon 12 (by kernel_rfl)))
     refine value_ (w1 := w') (v := .string t882) (by rfl) rfl ?_ ?_
     ·go_simp
     refine hK.out _ _ ⟨v889, adz_v889, m9_, (by rw [ha.out]; exact putSel_upk 8 hb_ rfl rfl rfl), fun h0_ => absurd ((hon 1 (by kernel_rfl)).symm.trans h0_) (by decide), Q_HB, fun _ h1_ => absurd ((hon 3 (by kernel_rfl)).symm.trans h1_) (by decide), fun _ h1_ => absurd ((hon 5 (by kernel_rfl)).symm.trans h1_) (by decide), fun _ h1_ => absurd ((hon 8 (by kernel_rfl)).symm.trans h1_) (by decide), Q_HO890, Q_HA_HO890, fun _ h1_ => absurd ((hon 12 (by kernel_rfl)).symm.trans h1_) (by decide), Q_HI881_e12, Q_X9_⟩
    refine steps_cons ?_ ?_
    ·rintro b a w' ⟨v889, adz_v889, m9_, ha, Q_HI881, Q_HB, Q_HI881_e1, Q_HI881_e3, Q_HI881_e5, Q_HO890, Q_HA_HO890, Q_HI881_e8, Q_HI881_e12, Q_X9_⟩ hb_ hon hoff
     refine ⟨_, rfl, fun K hK => ?_⟩
     have e18 : a.tmps[18]? = some (.int .i64 (rd y888 t891)) := by rw [ha]; exact putSel_on (e := (10, 18, .int .i64 (rd y888 t891))) 6 rfl rfl (hon 10 (by kernel_rfl)) rfl
     replace ha := Aside0.mk ha
     have HB := Aside0.mk Q_HB
     have HO890 := Aside0.mk (Q_HO890 (hon 6 (by kernel_rfl)))
     have HA_HO890 := Aside0.mk (Q_HA_HO890 (hon 6 (by kernel_rfl)))
     have HI881 := Aside0.mk (Q_HI881_e12 (hon 12 (by kernel_rfl)))
     refine value_ (w1 := w') (v := .int .i64 (rd y888 t891)) (by rfl) rfl ?_ ?_
     ·go_simp
     refine hK.out _ _ ⟨v889, adz_v889, m9_, (by rw [ha.out]; exact putSel_upk 9 hb_ rfl rfl rfl), fun h0_ => absurd ((hon 1 (by kernel_rfl)).symm.trans h0_) (by decide), Q_HB, fun _ h1_ => absurd ((hon 3 (by kernel_rfl)).symm.trans h1_) (by decide), fun _ h1_ => absurd ((hon 5 (by kernel_rfl)).symm.trans h1_) (by decide), fun _ h1_ => absurd ((hon 8 (by kernel_rfl)).symm.trans h1_) (by decide), Q_HO890, Q_HA_HO890, fun _ h1_ => absurd ((hon 12 (by kernel_rfl)).symm.trans h1_) (by decide), Q_HI881_e12, Q_X9_⟩
    refine steps_cons ?_ ?_
    ·rintro b a w' ⟨v889, adz_v889, m9_, ha, Q_HI881, Q_HB, Q_HI881_e1, Q_HI881_e3, Q_HI881_e5, Q_HO890, Q_HA_HO890, Q_HI881_e8, Q_HI881_e12, Q_X9_⟩ hb_ hon hoff
     refine ⟨_, rfl, fun K hK => ?_⟩
     have e20 : a.tmps[20]? = some (.string t894) := by rw [ha]; exact putSel_on (e := (12, 20, .string t894)) 7 rfl rfl (hon 12 (by kernel_rfl)) rfl
     replace ha := Aside0.mk ha
     have HB := Aside0.mk Q_HB
     have HO890 := Aside0.mk (Q_HO890 (hon 6 (by kernel_rfl)))
     have HA_HO890 := Aside0.mk (Q_HA_HO890 (hon 6 (by kernel_rfl)))
     have HI881 := Aside0.mk (Q_HI881_e12 (hon 12 (by kernel_rfl)))
     refine value_ (w1 := w') (v := .string t894) (by rfl) rfl ?_ ?_
     ·go_simp
     refine hK.out _ _ ⟨v889, adz_v889, m9_, (by rw [ha.out]; exact putSel_upk 10 hb_ rfl rfl rfl), fun h0_ => absurd ((hon 1 (by kernel_rfl)).symm.trans h0_) (by decide), Q_HB, fun _ h1_ => absurd ((hon 3 (by kernel_rfl)).symm.trans h1_) (by decide), fun _ h1_ => absurd ((hon 5 (by kernel_rfl)).symm.trans h1_) (by decide), fun _ h1_ => absurd ((hon 8 (by kernel_rfl)).symm.trans h1_) (by decide), Q_HO890, Q_HA_HO890, fun _ h1_ => absurd ((hon 12 (by kernel_rfl)).symm.trans h1_) (by decide), Q_HI881_e12, Q_X9_⟩
    exact steps_nil
   rintro b a w20 hall ⟨v889, adz_v889, m9_, ha, Q_HI881, Q_HB, Q_HI881_e1, Q_HI881_e3, Q_HI881_e5, Q_HO890, Q_HA_HO890, Q_HI881_e8, Q_HI881_e12, Q_X9_⟩
   clear HB HI881
   have hb1_ := hall 1 (by kernel_rfl)
   have hb3_ := hall 3 (by kernel_rfl)
   have hb5_ := hall 5 (by kernel_rfl)
   have hb6_ := hall 6 (by kernel_rfl)
   have hb8_ := hall 8 (by kernel_rfl)
   have hb9_ := hall 9 (by kernel_rfl)
   have hb10_ := hall 10 (by kernel_rfl)
   have hb12_ := hall 12 (by kernel_rfl)
   have hb13_ := hall 13 (by kernel_rfl)
   have hb14_ := hall 14 (by kernel_rfl)
   have hb15_ := hall 15 (by kernel_rfl)
   subst ha
   obtain rfl := Q_X9_ hb9_
   simp only [putSel, hb1_, hb3_, hb5_, hb6_, hb8_, hb9_, hb10_, hb12_, hb13_, hb14_, hb15_, if_true, Act.put, List.setIfInBounds_toArray, List.set_cons_zero, List.set_cons_succ]
   clear Q_HI881
   have HB := Aside0.mk Q_HB
   clear Q_HB
   clear Q_HI881_e1
   clear Q_HI881_e3
   clear Q_HI881_e5
   have HO890 := Aside0.mk (Q_HO890 hb6_)
   clear Q_HO890
   have HA_HO890 := Aside0.mk (Q_HA_HO890 hb6_)
   clear Q_HA_HO890
   clear Q_HI881_e8
   have HI881 := Aside0.mk (Q_HI881_e12 hb12_)
   clear Q_HI881_e12
   clear hall hb1_ hb3_ hb5_ hb6_ hb8_ hb9_ hb10_ hb12_ hb13_ hb14_ hb15_
   obtain ⟨co21, eo21⟩ := HA_HO890.out
   clear HA_HO890
   subst eo21
   try go_wp2
   go_ret3
   exact ⟨by first | rfl | (simp [*, errW_none, errW_some] <;> rfl), HB.out⟩
  ·rw [if_neg c8] at H
   exact absurd H (by simp)
 ·rw [if_neg c7] at H
  exact absurd H (by simp)

end Go.Proofs.YtinjblbfaijhdaaDoor.Q

namespace Go.Proofs.YtinjblbfaijhdaaDoor.Q
open Go.RowKit Go.Proofs.YtinjblbfaijhdaaDoorW.PrintWords Go.Proofs.YtinjblbfaijhdaaDoorW.PrintLast Go.Proofs.YtinjblbfaijhdaaDoorW.PrintMore
attribute [local go_sem] max2_int min2_int max_two min_two max_three min_three max_four min_four   -- for this text's walks alone
set_option linter.unusedVariables false
set_option linter.unusedSimpArgs false

end Go.Proofs.YtinjblbfaijhdaaDoor.Q

namespace Go.Proofs.YtinjblbfaijhdaaDoor.Q
open Go.RowKit Go.Proofs.YtinjblbfaijhdaaDoorW.PrintWords Go.Proofs.YtinjblbfaijhdaaDoorW.PrintLast Go.Proofs.YtinjblbfaijhdaaDoorW.PrintMore
attribute [local go_sem] max2_int min2_int max_two min_two max_three min_three max_four min_four   -- for this text's walks alone
set_option linter.unusedVariables false
set_option linter.unusedSimpArgs false

end Go.Proofs.YtinjblbfaijhdaaDoor.Q

namespace Go.Proofs.YtinjblbfaijhdaaDoor.Q
open Go.RowKit Go.Proofs.YtinjblbfaijhdaaDoorW.PrintWords Go.Proofs.YtinjblbfaijhdaaDoorW.PrintLast Go.Proofs.YtinjblbfaijhdaaDoorW.PrintMore
attribute [local go_sem] max2_int min2_int max_two min_two max_three min_three max_four min_four   -- for this text's walks alone
set_option linter.unusedVariables false
set_option linter.unusedSimpArgs false

end Go.Proofs.YtinjblbfaijhdaaDoor.Q

namespace Go.Proofs.YtinjblbfaijhdaaDoor.Q
open Go.RowKit Go.Proofs.YtinjblbfaijhdaaDoorW.PrintWords Go.Proofs.YtinjblbfaijhdaaDoorW.PrintLast Go.Proofs.YtinjblbfaijhdaaDoorW.PrintMore
attribute [local go_sem] max2_int min2_int max_two min_two max_three min_three max_four min_four   -- for this text's walks alone
set_option linter.unusedVariables false
set_option linter.unusedSimpArgs false
def spec_l6In.f (a0 : Int) (a1 : Int) (a2 : Int) : Option (Bool) := if a0 ≥ a1 then (some (decide (a0 ≤ a2))) else (some false)

def spec_l1Divisor.l0 : Nat → Int → Int → Option (Int)
 | 0, _, _ => none
 | k + 1, x0, x1 => if x1 > 0 then (if x1 = 0 then (none) else (spec_l1Divisor.l0 k x1 (Int.tmod x0 x1))) else (some x0)
def spec_l1Divisor.f (k : Nat) (a0 : Int) (a1 : Int) : Option (Int) := spec_l1Divisor.l0 k a0 a1

def spec_l11Common.l0 : Nat → Int → Int → List Bool → List Bool → Option (Int)
 | 0, _, _, _, _ => none
 | k + 1, x3, x4, x356000, x356001 => if x4 < 40 then ((spec_l1Has.f x356000 x356001 x4).bind fun t356 => (if t356 = true then ((spec_l1Divisor.f k x4 x3).bind fun t357 => (spec_l11Common.l0 k t357 (wrap64 (x4 + 1)) x356000 x356001)) else (spec_l11Common.l0 k x3 (wrap64 (x4 + 1)) x356000 x356001))) else (some x3)
def spec_l11Common.f (k : Nat) (l0_0 : List Bool) (l0_1 : List Bool) : Option (Int) := spec_l11Common.l0 k 0 1 l0_0 l0_1

def spec_ProofRestIs.f (k : Nat) (a0 : ByteArray) (a1 : Int) (a2 : ByteArray) : Option (Bool) := (spec_l4Small.f k a0).bind fun bt512 => ((spec_l11Read.f k a2 (⟨#[114, 101, 115, 116]⟩ : ByteArray)).bind fun bt520 => (if bt512.2.2 = true then (if bt520.2 = true then (if (bt520.1.length : Int) = 1 then (if 0 < (bt520.1.length : Int) then (if (rd bt520.1 0) < 2 then (some false) else ((spec_l6In.f a1 1 1000).bind fun t525 => (if t525 = true then ((spec_l11Common.f k bt512.1 bt512.2.1).bind fun t526 => (if (rd bt520.1 0) = 0 then (none) else (if (Int.tmod t526 (rd bt520.1 0)) = 0 then (some ((Int.tmod a1 (rd bt520.1 0)) != 0)) else (some false)))) else (some false)))) else (none)) else (some false)) else (some false)) else (some false)))
end Go.Proofs.YtinjblbfaijhdaaDoor.Q

namespace Go.Proofs.YtinjblbfaijhdaaDoor.Q
open Go.RowKit Go.Proofs.YtinjblbfaijhdaaDoorW.PrintWords Go.Proofs.YtinjblbfaijhdaaDoorW.PrintLast Go.Proofs.YtinjblbfaijhdaaDoorW.PrintMore
attribute [local go_sem] max2_int min2_int max_two min_two max_three min_three max_four min_four   -- for this text's walks alone
set_option linter.unusedVariables false
set_option linter.unusedSimpArgs false

end Go.Proofs.YtinjblbfaijhdaaDoor.Q

namespace Go.Proofs.YtinjblbfaijhdaaDoor.Q
open Go.RowKit Go.Proofs.YtinjblbfaijhdaaDoorW.PrintWords Go.Proofs.YtinjblbfaijhdaaDoorW.PrintLast Go.Proofs.YtinjblbfaijhdaaDoorW.PrintMore
open Go.Proofs.YtinjblbfaijhdaaDoor.Pl (hasB)
set_option linter.unusedVariables false
set_option linter.unusedSimpArgs false
theorem wr {x : Int} (h0 : -9223372036854775808 ≤ x) (h1 : x ≤ 9223372036854775807) : wrap64 x = x := by unfold wrap64; omega
theorem Ev.eq {α : Type} {g f : Nat → Option α} {r : α} (h : g = f) (k : Ev f r) : Ev g r := h ▸ k
theorem Ev.end {α : Type} {g : Nat → Option α} {r : α} (h : ∀ k, g (k + 1) = some r) : Ev g r := ⟨1, fun k hk => by obtain ⟨m, rfl⟩ : ∃ m, k = m + 1 := ⟨k - 1, by omega⟩; exact h m⟩
theorem Ev.const {α : Type} {g : Nat → Option α} {r : α} (h : ∀ k, g k = some r) : Ev g r := ⟨0, fun k _ => h k⟩
theorem Ev.unique {α : Type} {g : Nat → Option α} {r q : α} (h : Ev g r) (k : Ev g q) : r = q := by
  obtain ⟨a, ha⟩ := h
  obtain ⟨b, hb⟩ := k
  have h1 := ha (max a b) (Nat.le_max_left _ _)
  rw [hb (max a b) (Nat.le_max_right _ _)] at h1
  exact (Option.some.inj h1).symm

theorem bt_list (s : ByteArray) (i : Nat) (h : i < s.size) : bt s (i : Int) = ((s.data.toList.getD i 0).toNat : Int) := by
  unfold bt
  rw [dif_pos (by simpa using h)]
  have : s.data.toList.length = s.size := Array.length_toList
  simp [List.getD, h, this]
  rfl
theorem bt_is (s : ByteArray) (i : Nat) (h : i < s.size) (c : UInt8) (n : Int) (hn : n = (c.toNat : Int)) : bt s (i : Int) = n ↔ s.data.toList.getD i 0 = c := by
  rw [bt_list s i h, hn]
  constructor
  · intro h
    exact UInt8.toNat_inj.1 (by exact_mod_cast h)
  · intro h
    rw [h]
theorem drop_getD {α : Type} (l : List α) (i : Nat) (z : α) (h : i < l.length) : l.drop i = l.getD i z :: l.drop (i + 1) := by
  rw [List.drop_eq_getElem_cons h]; simp [List.getD, h]

def okL (l : List UInt8) : Bool := l.all fun c => c == 48 || c == 49
theorem signs_l0 (s : ByteArray) (hs : s.size ≤ 1073741824) (d : Nat) : ∀ (i : Nat) (acc : List Bool), i + d = s.size → acc.length = i →
    Ev (fun k => spec_l1Signs.l0 k s acc i) (if okL (s.data.toList.drop i) then (acc ++ (s.data.toList.drop i).map (· == 49), true) else ([], false)) := by
  have hl : s.data.toList.length = s.size := Array.length_toList
  induction d with
  | zero =>
    intro i acc h1 h2
    refine Ev.end fun k => ?_
    simp only [spec_l1Signs.l0]
    rw [if_neg (by omega), List.drop_of_length_le (by omega)]
    simp [okL]
  | succ d ih =>
    intro i acc h1 h2
    rw [drop_getD _ i 0 (by omega)]
    have hb48 := bt_is s i (by omega) 48 48 rfl
    have hb49 := bt_is s i (by omega) 49 49 rfl
    have hw : wrap64 ((i : Int) + 1) = ((i + 1 : Nat) : Int) := by rw [wr (by omega) (by omega)]; omega
    by_cases c48 : s.data.toList.getD i 0 = 48
    · refine Ev.step (f := fun k => spec_l1Signs.l0 k s (acc ++ [false]) ((i + 1 : Nat) : Int)) (fun k => ?_) ?_
      · simp only [spec_l1Signs.l0]
        have e : bt s (i : Int) = 48 := hb48.2 c48
        rw [if_pos (by omega), if_pos (by omega), if_pos e, if_pos (by omega), hw, e]
        rfl
      · have := ih (i + 1) (acc ++ [false]) (by omega) (by simp [h2])
        rw [c48]
        simpa [okL] using this
    · by_cases c49 : s.data.toList.getD i 0 = 49
      · refine Ev.step (f := fun k => spec_l1Signs.l0 k s (acc ++ [true]) ((i + 1 : Nat) : Int)) (fun k => ?_) ?_
        · simp only [spec_l1Signs.l0]
          have e : bt s (i : Int) = 49 := hb49.2 c49
          rw [if_pos (by omega), if_pos (by omega), if_neg (fun h => c48 (hb48.1 h)), if_pos e, if_pos (by omega), hw]
        · have := ih (i + 1) (acc ++ [true]) (by omega) (by simp [h2])
          rw [c49]
          simpa [okL] using this
      · refine Ev.end fun k => ?_
        simp only [spec_l1Signs.l0]
        rw [if_pos (by omega), if_pos (by omega), if_neg (fun h => c48 (hb48.1 h)), if_neg (fun h => c49 (hb49.1 h))]
        rw [if_neg]
        simp only [okL, List.all_cons, Bool.and_eq_true, Bool.or_eq_true, beq_iff_eq, not_and]
        intro h
        exact absurd h (by simp only [not_or]; exact ⟨c48, c49⟩)
theorem l1Signs_ev (s : ByteArray) (hs : s.size ≤ 1073741824) : Ev (fun k => spec_l1Signs.f k s) (if okL s.data.toList then (s.data.toList.map (· == 49), true) else ([], false)) := by
  have := signs_l0 s hs s.size 0 [] (by omega) rfl
  simpa [spec_l1Signs.f] using this
theorem signs_ev (s : ByteArray) (hs : s.size ≤ 1073741824) : impl_signs.f s = some (if okL s.data.toList then (s.data.toList.map (· == 49), decide ((s.size : Int) ≤ 60)) else ([], false)) := by
  unfold impl_signs.f
  rw [if_pos (by omega)]
  unfold okL impl_signs.ok
  split <;> rfl

theorem index_cases (l : List UInt8) (c : UInt8) : (Lib.indexByte l c = -1 ∧ ∀ i, i < l.length → l.getD i 0 ≠ c) ∨ ∃ i : Nat, i < l.length ∧ Lib.indexByte l c = i ∧ l.getD i 0 = c ∧ ∀ j, j < i → l.getD j 0 ≠ c := by
  induction l with
  | nil => left; exact ⟨rfl, fun i h => absurd h (Nat.not_lt_zero i)⟩
  | cons b l ih =>
    unfold Lib.indexByte
    by_cases hb : b = c
    · right
      exact ⟨0, by simp, by simp [hb], by simp [hb], fun j h => absurd h (Nat.not_lt_zero j)⟩
    · rw [if_neg (by simpa using hb)]
      rcases ih with ⟨h1, h2⟩ | ⟨i, h1, h2, h3, h4⟩
      · left
        refine ⟨by rw [h1]; rfl, fun i hi => ?_⟩
        cases i with
        | zero => simpa using hb
        | succ i => simpa using h2 i (by simpa using hi)
      · right
        refine ⟨i + 1, by simpa using h1, ?_, by simpa using h3, fun j hj => ?_⟩
        · rw [h2, if_neg (by simp only [beq_iff_eq]; omega)]; omega
        · cases j with
          | zero => simpa using hb
          | succ j => simpa using h4 j (by omega)

structure Good (t r : List Bool) : Prop where
  pos : 0 < r.length
  tl : t.length ≤ 60
  rl : r.length ≤ 60
structure IsSet (s : ByteArray) (t r : List Bool) : Prop where
  good : Good t r
  impl : impl_setOf.f s = some (t, r, true)
  spec : Ev (fun k => spec_l1Read.f k s) (t, r, true)
structure NoSet (s : ByteArray) : Prop where
  impl : ∃ a b, impl_setOf.f s = some (a, b, false)
  spec : ∃ a b, Ev (fun k => spec_l1Read.f k s) (a, b, false)

/-- The reader comes to the first bracket, or to the end. -/
theorem read_l0 (s : ByteArray) (hs : s.size ≤ 1073741824) (a b : List Bool) {r : List Bool × List Bool × Bool} (j : Nat) (hj : j ≤ s.size) (hn : ∀ i, i < j → s.data.toList.getD i 0 ≠ 40) (hend : j < s.size → s.data.toList.getD j 0 = 40)
    (h : Ev (fun k => spec_l1Read.j1 k s j a b) r) (d : Nat) : ∀ i, i + d = j → Ev (fun k => spec_l1Read.l0 k s (i : Nat) a b) r := by
  induction d with
  | zero =>
    intro i hi
    obtain rfl : i = j := by omega
    refine Ev.step (fun k => ?_) h
    simp only [spec_l1Read.l0]
    by_cases c : i < s.size
    · rw [if_pos (by omega), if_pos (by omega), if_pos ((bt_is s i c 40 40 rfl).2 (hend c))]
    · rw [if_neg (by omega)]
  | succ d ih =>
    intro i hi
    refine Ev.step (fun k => ?_) (ih (i + 1) (by omega))
    simp only [spec_l1Read.l0]
    have hw : wrap64 ((i : Int) + 1) = ((i + 1 : Nat) : Int) := by rw [wr (by omega) (by omega)]; omega
    rw [if_pos (by omega), if_pos (by omega), if_neg (fun h => hn i (by omega) ((bt_is s i (by omega) 40 40 rfl).1 h)), hw]

theorem size_data (s : ByteArray) : s.data.toList.length = s.size := Array.length_toList
theorem ext_size (s : ByteArray) (a b : Nat) (hb : b ≤ s.size) : (s.extract a b).size = b - a := by simp; omega
theorem ext_list (s : ByteArray) (a b : Nat) : (s.extract a b).data.toList = (s.data.toList.take b).drop a := by
  simp [List.extract_eq_take_drop, List.drop_take]
theorem toList_eq (s : ByteArray) : s.toList = s.data.toList := (Lib.toList_data s).symm ▸ rfl

theorem last_eq {s : ByteArray} {i : Nat} (h : i + 1 < s.size) : ((s.extract (i + 1) s.size).extract ((s.extract (i + 1) s.size).size - 1) (s.extract (i + 1) s.size).size).toList = [s.data.toList.getD (s.size - 1) 0] := by
  rw [toList_eq, ext_list, ext_list, ext_size _ _ _ (Nat.le_refl _)]
  have hl := size_data s
  rw [List.take_of_length_le (l := s.data.toList) (by omega), List.take_of_length_le (by rw [List.length_drop]; omega), List.drop_drop, drop_getD _ _ 0 (by omega), List.drop_of_length_le (by omega)]
  congr 2
  omega
theorem ring_eq {s : ByteArray} {i : Nat} (h : i + 1 < s.size) : (s.extract (i + 1) s.size).extract 0 ((s.extract (i + 1) s.size).size - 1) = s.extract (i + 1) (s.size - 1) := by
  have : ∀ a b : ByteArray, a.data.toList = b.data.toList → a = b := fun a b h => by
    obtain ⟨⟨a⟩⟩ := a; obtain ⟨⟨b⟩⟩ := b; simp at h; simp [h]
  refine this _ _ ?_
  have hl := size_data s
  rw [ext_list, ext_list, ext_list, ext_size _ _ _ (Nat.le_refl _), List.drop_zero, List.take_of_length_le (l := s.data.toList) (by omega), List.drop_take]
  congr 1
  omega

/-- Each text is a set text for both readers, with the same tail and ring, or for none. -/
theorem read_cases (s : ByteArray) (hs : s.size ≤ 1073741824) : NoSet s ∨ ∃ t r, IsSet s t r := by
  have hl := size_data s
  have hsg := fun (x : ByteArray) (hx : x.size ≤ 1073741824) => signs_ev x hx
  rcases index_cases s.data.toList 40 with ⟨h1, h2⟩ | ⟨i, h1, h2, h3, h4⟩
  · left
    refine ⟨?_, ?_⟩
    · have hc : strings_Cut.f s ⟨#[40]⟩ = some (s, ⟨#[]⟩, false) := by
        unfold strings_Cut.f stringslite_Cut.f stringslite_Index.f
        rw [dif_pos (by rfl)]
        show ((some (Lib.indexByte s.data.toList 40)).bind _).bind _ = _
        rw [h1]
        rfl
      have hd : strings_CutSuffix.f ⟨#[]⟩ ⟨#[41]⟩ = some (⟨#[]⟩, false) := by rfl
      refine ⟨(if okL s.data.toList then (s.data.toList.map (· == 49), decide ((s.size : Int) ≤ 60)) else ([], false)).1, [], ?_⟩
      unfold impl_setOf.f
      rw [hc]; simp only [Option.bind_some]
      rw [hd]; simp only [Option.bind_some]
      rw [hsg s hs, hsg ⟨#[]⟩ (by decide)]
      simp only [Option.bind_some]
      rw [if_neg (by simp)]
      rfl
    · refine ⟨[], [false], ?_⟩
      refine read_l0 s hs [] [false] s.size (Nat.le_refl _) (fun i hi => h2 i (by omega)) (fun h => by omega) ?_ s.size 0 (by omega)
      refine Ev.step (f := fun k => spec_l1Read.j2 k s (s.size : Nat) true [] [false]) (fun k => ?_) (Ev.end fun k => ?_)
      · simp only [spec_l1Read.j1]
        rw [if_pos (by rw [wr (by omega) (by omega)]; omega)]
      · simp only [spec_l1Read.j2, if_true]
  · have hi : i < s.size := by omega
    have hc : strings_Cut.f s ⟨#[40]⟩ = some (s.extract 0 i, s.extract (i + 1) s.size, true) := by
      unfold strings_Cut.f stringslite_Cut.f stringslite_Index.f
      rw [dif_pos (by rfl)]
      show ((some (Lib.indexByte s.data.toList 40)).bind _).bind _ = _
      rw [h2]
      simp only [Option.bind_some]
      have hz : ((⟨#[40]⟩ : ByteArray).size : Int) = 1 := rfl
      rw [if_pos (by omega), if_pos (by omega), if_pos (by omega), hz, wr (by omega) (by omega), if_pos (by omega), if_pos (by omega)]
      simp only [Option.bind_some, Int.toNat_natCast]
      rw [show ((i : Int) + 1).toNat = i + 1 from by omega]
    have hz1 : (s.extract (i + 1) s.size).size = s.size - (i + 1) := ext_size _ _ _ (Nat.le_refl _)
    have h41 : ((⟨#[41]⟩ : ByteArray).size : Int) = 1 := rfl
    have hsuf : strings_CutSuffix.f (s.extract (i + 1) s.size) ⟨#[41]⟩ = some (if i + 1 < s.size ∧ s.data.toList.getD (s.size - 1) 0 = 41 then (s.extract (i + 1) (s.size - 1), true) else (s.extract (i + 1) s.size, false)) := by
      unfold strings_CutSuffix.f stringslite_CutSuffix.f stringslite_HasSuffix.f
      rw [h41]
      by_cases c : i + 1 < s.size
      · rw [if_pos (by omega), wr (by omega) (by omega), if_pos (by omega), if_pos (by omega), show (((s.extract (i + 1) s.size).size : Int) - 1).toNat = (s.extract (i + 1) s.size).size - 1 from by omega, last_eq c, ring_eq c]
        simp only [Option.bind_some]
        have hb : ([s.data.toList.getD (s.size - 1) 0] == (⟨#[41]⟩ : ByteArray).toList) = decide (s.data.toList.getD (s.size - 1) 0 = 41) := by
          rw [toList_eq, Bool.eq_iff_iff]; simp
        rw [hb]
        by_cases e : s.data.toList.getD (s.size - 1) 0 = 41
        · rw [decide_eq_true e, if_pos rfl, if_pos (by omega), if_pos (by omega), if_pos ⟨c, e⟩]; rfl
        · rw [decide_eq_false e, if_neg (by simp), if_neg (by intro h; exact e h.2)]; rfl
      · rw [if_neg (by omega)]
        simp only [Option.bind_some, Bool.false_eq_true, if_false]
        rw [if_neg (fun h => c h.1)]
    have hspec : ∀ (r : List Bool × List Bool × Bool), Ev (fun k => spec_l1Read.j1 k s i [] [false]) r → Ev (fun k => spec_l1Read.f k s) r := by
      intro r hr
      exact read_l0 s hs [] [false] i (by omega) (fun j hj => h4 j hj) (fun _ => h3) hr i 0 (by omega)
    have hnull : ∀ x : Bool, x = true → Ev (fun k => spec_l1Read.j2 k s (i : Nat) x [] [false]) (([] : List Bool), [false], false) := by
      intro x hx
      refine Ev.end fun k => ?_
      simp only [spec_l1Read.j2]
      rw [if_pos hx]
    -- for the reader's bracket at the end
    have hj1 : ∀ r, Ev (fun k => spec_l1Read.j2 k s (i : Nat) (decide (s.size ≤ i + 2) || s.data.toList.getD (s.size - 1) 0 != 41) [] [false]) r → Ev (fun k => spec_l1Read.j1 k s i [] [false]) r := by
      intro r hr
      refine Ev.step (fun k => ?_) hr
      simp only [spec_l1Read.j1]
      rw [wr (x := (i : Int) + 2) (by omega) (by omega), wr (x := (s.size : Int) - 1) (by omega) (by omega)]
      by_cases c : s.size ≤ i + 2
      · rw [if_pos (by omega)]; simp [c]
      · rw [if_neg (by omega), if_pos (by omega), if_pos (by omega)]
        rw [show (s.size : Int) - 1 = ((s.size - 1 : Nat) : Int) from by omega]
        congr 1
        simp only [c, decide_false, Bool.false_or]
        have := bt_is s (s.size - 1) (by omega) 41 41 rfl
        rw [Bool.eq_iff_iff]; simp only [bne_iff_ne, ne_eq, this]
    by_cases c : (i + 2 < s.size) ∧ s.data.toList.getD (s.size - 1) 0 = 41
    · obtain ⟨c1, c2⟩ := c
      rw [if_pos ⟨by omega, c2⟩] at hsuf
      have e1 := hsg (s.extract 0 i) (by rw [ext_size _ _ _ (by omega)]; omega)
      have e2 := hsg (s.extract (i + 1) (s.size - 1)) (by rw [ext_size _ _ _ (by omega)]; omega)
      have g1 := l1Signs_ev (s.extract 0 i) (by rw [ext_size _ _ _ (by omega)]; omega)
      have g2 := l1Signs_ev (s.extract (i + 1) (s.size - 1)) (by rw [ext_size _ _ _ (by omega)]; omega)
      have z1 : (s.extract 0 i).size = i := by rw [ext_size _ _ _ (by omega)]; omega
      have z2 : (s.extract (i + 1) (s.size - 1)).size = s.size - i - 2 := by rw [ext_size _ _ _ (by omega)]; omega
      have y1 := size_data (s.extract 0 i)
      have y2 := size_data (s.extract (i + 1) (s.size - 1))
      rw [z1] at e1 y1
      rw [z2] at e2 y2
      have himpl : impl_setOf.f s = (impl_signs.f (s.extract 0 i)).bind fun x => (impl_signs.f (s.extract (i + 1) (s.size - 1))).bind fun y => some (x.1, y.1, x.2 && y.2 && decide ((y.1.length : Int) > 0)) := by
        unfold impl_setOf.f
        rw [hc]; simp only [Option.bind_some]
        rw [hsuf]; simp only [Option.bind_some]
        congr 1; funext x; congr 1; funext y
        cases x.2 <;> cases y.2 <;> simp
      have hj2 : ∀ (x y : List Bool × Bool), Ev (fun k => spec_l1Signs.f k (s.extract 0 i)) x → Ev (fun k => spec_l1Signs.f k (s.extract (i + 1) (s.size - 1))) y →
          Ev (fun k => spec_l1Read.f k s) (if x.2 && y.2 && decide (x.1.length ≤ 60) && decide (y.1.length ≤ 60) then (x.1, y.1, true) else ([], [false], false)) := by
        intro x y hx hy
        refine hspec _ (hj1 _ ?_)
        have : (decide (s.size ≤ i + 2) || s.data.toList.getD (s.size - 1) 0 != 41) = false := by rw [c2]; simp; omega
        rw [this]
        refine Ev.step (f := fun k => (spec_l1Signs.f k (s.extract 0 i)).bind fun bt121 => (spec_l1Signs.f k (s.extract (i + 1) (s.size - 1))).bind fun bt125 => (if bt121.2 = true then (if bt125.2 = true then (if (bt121.1.length : Int) > 60 then (some (([] : List Bool), [false], false)) else (if (bt125.1.length : Int) > 60 then (some ([], [false], false)) else (some (bt121.1, bt125.1, true)))) else (some ([], [false], false))) else (some ([], [false], false)))) (fun k => ?_) ?_
        · simp only [spec_l1Read.j2]
          rw [if_neg (by simp), if_pos (by omega), if_pos (by omega), wr (x := (i : Int) + 1) (by omega) (by omega), wr (x := (s.size : Int) - 1) (by omega) (by omega)]
          simp only [if_pos (show (0 : Int) ≤ (i : Int) + 1 from by omega), if_pos (show (i : Int) + 1 ≤ (s.size : Int) - 1 from by omega), if_pos (show (s.size : Int) - 1 ≤ (s.size : Int) from by omega)]
          rw [Int.toNat_natCast, show ((i : Int) + 1).toNat = i + 1 from by omega, show ((s.size : Int) - 1).toNat = s.size - 1 from by omega]
        · refine Ev.bind hx (Ev.bind hy (Ev.const fun k => ?_))
          obtain ⟨x1, x2⟩ := x
          obtain ⟨y1, y2⟩ := y
          cases x2 <;> cases y2 <;> simp
          by_cases q1 : x1.length ≤ 60
          · by_cases q2 : y1.length ≤ 60
            · rw [if_neg (by omega), if_neg (by omega), if_pos ⟨q1, q2⟩]
            · rw [if_neg (by omega), if_pos (by omega), if_neg (by omega)]
          · rw [if_pos (by omega), if_neg (by omega)]
      have hfin := hj2 _ _ g1 g2
      rw [e1, e2] at himpl
      simp only [Option.bind_some] at himpl
      cases o1 : okL (s.extract 0 i).data.toList with
      | false => left; rw [o1] at himpl hfin; exact ⟨⟨_, _, by rw [himpl]; simp; exact ⟨rfl, rfl⟩⟩, ⟨_, _, by simpa using hfin⟩⟩
      | true =>
        cases o2 : okL (s.extract (i + 1) (s.size - 1)).data.toList with
        | false => left; rw [o1, o2] at himpl hfin; exact ⟨⟨_, _, by rw [himpl]; simp; exact ⟨rfl, rfl⟩⟩, ⟨_, _, by simpa using hfin⟩⟩
        | true =>
          rw [o1, o2] at himpl hfin
          simp only [if_true, List.length_map, Bool.and_self, Bool.true_and] at himpl hfin
          rw [y1, y2] at hfin
          rw [y2] at himpl
          by_cases q : i ≤ 60 ∧ s.size - i - 2 ≤ 60
          · right
            refine ⟨(s.extract 0 i).data.toList.map (· == 49), (s.extract (i + 1) (s.size - 1)).data.toList.map (· == 49), ⟨?_, by rw [List.length_map]; omega, by rw [List.length_map]; omega⟩, himpl.trans ?_, ?_⟩
            · rw [List.length_map]; omega
            · rw [decide_eq_true (show ((i : Nat) : Int) ≤ 60 from by omega), decide_eq_true (show (((s.size - i - 2 : Nat) : Int) ≤ 60) from by omega), decide_eq_true (show (((s.size - i - 2 : Nat) : Int) > 0) from by omega)]
              rfl
            · rw [decide_eq_true q.1, decide_eq_true q.2] at hfin
              exact hfin
          · left
            refine ⟨⟨(s.extract 0 i).data.toList.map (· == 49), (s.extract (i + 1) (s.size - 1)).data.toList.map (· == 49), himpl.trans ?_⟩, ⟨[], [false], ?_⟩⟩
            · congr 3
              by_cases q1 : i ≤ 60
              · rw [decide_eq_false (show ¬ (((s.size - i - 2 : Nat) : Int) ≤ 60) from by omega)]; simp
              · rw [decide_eq_false (show ¬ ((i : Nat) : Int) ≤ 60 from by omega)]; simp
            · by_cases q1 : i ≤ 60
              · rw [decide_eq_false (show ¬ (s.size - i - 2 ≤ 60) from by omega)] at hfin; simpa using hfin
              · rw [decide_eq_false q1] at hfin; simpa using hfin
    · left
      have hcond : (decide (s.size ≤ i + 2) || s.data.toList.getD (s.size - 1) 0 != 41) = true := by
        by_cases q : i + 2 < s.size
        · have : ¬ s.data.toList.getD (s.size - 1) 0 = 41 := fun h => c ⟨q, h⟩
          simp only [Bool.or_eq_true, bne_iff_ne, ne_eq]; exact .inr this
        · simp only [Bool.or_eq_true, decide_eq_true_eq]; exact .inl (by omega)
      refine ⟨?_, ⟨[], [false], hspec _ (hj1 _ (hnull _ hcond))⟩⟩
      have e1 := hsg (s.extract 0 i) (by rw [ext_size _ _ _ (by omega)]; omega)
      unfold impl_setOf.f
      rw [hc]; simp only [Option.bind_some]
      rw [hsuf]; simp only [Option.bind_some]
      by_cases q : i + 1 < s.size ∧ s.data.toList.getD (s.size - 1) 0 = 41
      · rw [if_pos q]
        have hem : (s.extract (i + 1) (s.size - 1)).size = 0 := by
          rw [ext_size _ _ _ (by omega)]
          by_cases q2 : i + 2 < s.size
          · exact absurd ⟨q2, q.2⟩ c
          · omega
        have e2 := hsg (s.extract (i + 1) (s.size - 1)) (by omega)
        have y2 := size_data (s.extract (i + 1) (s.size - 1))
        have hn : (s.extract (i + 1) (s.size - 1)).data.toList = [] := List.length_eq_zero_iff.1 (by omega)
        obtain ⟨p, hp⟩ : ∃ p, impl_signs.f (s.extract 0 i) = some p := ⟨_, e1⟩
        rw [hp, e2, hn]
        simp only [Option.bind_some, okL, List.all_nil, if_true, List.map_nil, List.length_nil]
        refine ⟨p.1, [], ?_⟩
        cases p.2 <;> simp
      · rw [if_neg q, e1]
        simp only [Option.bind_some]
        rw [hsg (s.extract (i + 1) s.size) (by omega)]
        simp only [Option.bind_some]
        exact ⟨_, _, rfl⟩

end Go.Proofs.YtinjblbfaijhdaaDoor.Q

namespace Go.Proofs.YtinjblbfaijhdaaDoor.Q
open Go.RowKit Go.Proofs.YtinjblbfaijhdaaDoorW.PrintWords Go.Proofs.YtinjblbfaijhdaaDoorW.PrintLast Go.Proofs.YtinjblbfaijhdaaDoorW.PrintMore
open Go.Proofs.YtinjblbfaijhdaaDoor.Pl
set_option linter.unusedVariables false
set_option linter.unusedSimpArgs false
theorem rdOf_nat (l : List Bool) (n : Nat) : rdOf false l (n : Int) = l.getD n false := by simp [rdOf]
theorem tmod_nat (a b : Nat) : Int.tmod (a : Int) (b : Int) = ((a % b : Nat) : Int) := by
  rw [Int.tmod_eq_emod_of_nonneg (Int.natCast_nonneg a)]; exact (Int.natCast_emod a b).symm
theorem tdiv_nat (a b : Nat) : Int.tdiv (a : Int) (b : Int) = ((a / b : Nat) : Int) := by
  rw [Int.tdiv_eq_ediv_of_nonneg (Int.natCast_nonneg a)]; exact (Int.natCast_ediv a b).symm
theorem wr1 {n : Nat} (h : n ≤ 4611686018427387904) : wrap64 ((n : Int) + 1) = ((n + 1 : Nat) : Int) := by rw [wr (by omega) (by omega)]; omega

theorem set_has {t r : List Bool} (h : Good t r) (n : Nat) (hn : n ≤ 4611686018427387904) : impl_set_has.f t r n = some (hasB t r n) := by
  have h1 := h.pos
  have h2 := h.tl
  have h3 := h.rl
  unfold impl_set_has.f
  rw [if_neg (by omega)]
  by_cases c : n < t.length
  · rw [if_pos (by omega), if_pos (by omega), rdOf_nat, hasB_lt c]
  · have e : wrap64 ((n : Int) - (t.length : Int)) = ((n - t.length : Nat) : Int) := by rw [wr (by omega) (by omega)]; omega
    have hm := Nat.mod_lt (n - t.length) h1
    rw [if_neg (by omega), if_neg (by omega), e, tmod_nat, if_pos (by omega), if_pos (by omega), rdOf_nat, hasB_ge (by omega)]
theorem l1_has {t r : List Bool} (h : Good t r) (n : Nat) (hn : n ≤ 4611686018427387904) : spec_l1Has.f t r n = some (hasB t r n) := by
  have h1 := h.pos
  have h2 := h.tl
  have h3 := h.rl
  unfold spec_l1Has.f
  by_cases c : n < t.length
  · rw [if_pos (by omega), if_pos (by omega), rdOf_nat, hasB_lt c]
  · have e : wrap64 ((n : Int) - (t.length : Int)) = ((n - t.length : Nat) : Int) := by rw [wr (by omega) (by omega)]; omega
    have hm := Nat.mod_lt (n - t.length) h1
    rw [if_neg (by omega), if_neg (by omega), e, tmod_nat, if_pos (by omega), if_pos (by omega), rdOf_nat, hasB_ge (by omega)]

/-- The numbers less than n of a set. -/
def listM (f : Nat → Bool) (n : Nat) : List Int := ((List.range n).filter f).map fun (x : Nat) => (x : Int)
theorem listM_zero (f : Nat → Bool) : listM f 0 = [] := rfl
theorem listM_succ (f : Nat → Bool) (n : Nat) : listM f (n + 1) = if f n = true then listM f n ++ [(n : Int)] else listM f n := by
  unfold listM
  rw [List.range_succ, List.filter_append, List.map_append]
  by_cases c : f n = true <;> simp [c]
theorem listM_length_le (f : Nat → Bool) (n : Nat) : (listM f n).length ≤ n := by
  unfold listM
  rw [List.length_map]
  exact Nat.le_trans (List.length_filter_le _ _) (by simp)


theorem wrm1 {n : Nat} (h0 : 1 ≤ n) (h : n ≤ 4611686018427387904) : wrap64 ((n : Int) - 1) = ((n - 1 : Nat) : Int) := by rw [wr (by omega) (by omega)]; omega

theorem turns_l0 (r : List Bool) (hr : r.length ≤ 1073741824) (d : Nat) (hd : 1 ≤ d) (hdl : d ≤ r.length) (m : Nat) : ∀ i, i + m = r.length → (∀ j, j < i → r.getD j false = r.getD (j % d) false) →
    ∃ b : Bool, Ev (fun k => impl_turns.l0 k r d (r.length : Int) (i : Nat)) b ∧ (b = true ↔ per r d) := by
  induction m with
  | zero =>
    intro i hi hall
    refine ⟨decide (r.length % d = 0), Ev.end fun k => ?_, ?_⟩
    · simp only [impl_turns.l0]
      rw [if_neg (by omega), if_neg (by omega), ← Int.natCast_emod]
      congr 1
      rw [Bool.eq_iff_iff]
      simp only [beq_iff_eq, decide_eq_true_eq]
      omega
    · rw [decide_eq_true_eq]
      exact ⟨fun h => ⟨h, fun j hj => hall j (by omega)⟩, fun h => h.1⟩
  | succ m ih =>
    intro i hi hall
    have hm := Nat.mod_lt i (show d > 0 by omega)
    by_cases c : r.getD i false = r.getD (i % d) false
    · obtain ⟨b, h1, h2⟩ := ih (i + 1) (by omega) (fun j hj => by
        rcases Nat.lt_or_ge j i with h | h
        · exact hall j h
        · obtain rfl : j = i := by omega
          exact c)
      refine ⟨b, Ev.step (fun k => ?_) h1, h2⟩
      simp only [impl_turns.l0]
      rw [if_pos (by omega), if_pos (by omega), if_pos (by omega), if_neg (by omega), tmod_nat, if_pos (by omega), if_pos (by omega), rdOf_nat, rdOf_nat, wr1 (by omega), if_neg (by rw [c]; simp)]
    · refine ⟨false, Ev.end fun k => ?_, ?_⟩
      · simp only [impl_turns.l0]
        rw [if_pos (by omega), if_pos (by omega), if_pos (by omega), if_neg (by omega), tmod_nat, if_pos (by omega), if_pos (by omega), rdOf_nat, rdOf_nat, if_pos (by simpa using c)]
      · exact ⟨fun h => absurd h (by simp), fun h => absurd (h.2 i (by omega)) c⟩
theorem turns_ev (r : List Bool) (hr : r.length ≤ 1073741824) (d : Nat) (hd : 1 ≤ d) (hdl : d ≤ r.length) : ∃ b : Bool, Ev (fun k => impl_turns.f k r d) b ∧ (b = true ↔ per r d) :=
  turns_l0 r hr d hd hdl r.length 0 (by omega) (fun j hj => absurd hj (Nat.not_lt_zero j))

theorem rot_append {r : List Bool} : ([r.getD (r.length - 1) false] : List Bool) ++ r.take (r.length - 1) = rot r := by
  simp [rot, List.dropLast_eq_take]

/-- The tail made short. -/
theorem tidy_l1 (n : Nat) : ∀ (t r : List Bool), t.length = n → t.length ≤ 1073741824 → 0 < r.length → r.length ≤ 1073741824 → (∀ d, 1 ≤ d → d < r.length → ¬ per r d) →
    ∃ t' r', Ev (fun k => impl_set_tidy.l1 k (r.length : Int) t r) (t', r') ∧ Canon t' r' ∧ (∀ m, hasB t' r' m = hasB t r m) ∧ t'.length ≤ t.length ∧ r'.length ≤ r.length := by
  induction n with
  | zero =>
    intro t r ht _ h1 h2 h3
    refine ⟨t, r, Ev.end fun k => ?_, ⟨h1, h3, fun m hm => by omega⟩, fun m => rfl, Nat.le_refl _, Nat.le_refl _⟩
    simp only [impl_set_tidy.l1]
    rw [if_neg (by omega)]
  | succ n ih =>
    intro t r ht htl h1 h2 h3
    have e1 : wrap64 ((t.length : Int) - 1) = (n : Nat) := by rw [wrm1 (by omega) (by omega)]; omega
    by_cases c : t.getD n false = r.getD (r.length - 1) false
    · have hl : (t.take n).length = n := by rw [List.length_take]; omega
      obtain ⟨t', r', g1, g2, g3, g4, g5⟩ := ih (t.take n) (rot r) hl (by omega) (by rw [rot_length h1]; exact h1) (by rw [rot_length h1]; exact h2) (fun d hd1 hd2 hp => by rw [rot_length h1] at hd2; exact h3 d hd1 hd2 (per_rot h1 hd1 hp))
      rw [rot_length h1] at g1 g5
      refine ⟨t', r', Ev.step (fun k => ?_) g1, g2, fun m => by rw [g3, has_rot ht h1 c], by omega, g5⟩
      simp only [impl_set_tidy.l1]
      rw [if_pos (by omega), e1, if_pos (by omega), if_pos (by omega), wrm1 h1 (by omega), if_pos (by omega), if_pos (by omega), rdOf_nat, rdOf_nat, if_pos (by rw [c]; simp), if_pos (by omega)]
      simp only [Option.bind_some]
      rw [if_pos (by omega)]
      rw [if_pos (by simp; omega), Int.toNat_natCast, Int.toNat_natCast, rot_append]
    · refine ⟨t, r, Ev.end fun k => ?_, ⟨h1, h3, fun m hm => (show n = m by omega) ▸ c⟩, fun m => rfl, Nat.le_refl _, Nat.le_refl _⟩
      simp only [impl_set_tidy.l1]
      rw [if_pos (by omega), e1, if_pos (by omega), if_pos (by omega), wrm1 h1 (by omega), if_pos (by omega), if_pos (by omega), rdOf_nat, rdOf_nat, if_neg (by simpa using c)]

theorem tidy_l0 (t r : List Bool) (ht : t.length ≤ 1073741824) (h1 : 0 < r.length) (h2 : r.length ≤ 1073741824) (m : Nat) : ∀ d, d + m = r.length → 1 ≤ d → (∀ e, 1 ≤ e → e < d → ¬ per r e) →
    ∃ t' r', Ev (fun k => impl_set_tidy.l0 k (d : Nat) t r) (t', r') ∧ Canon t' r' ∧ (∀ m, hasB t' r' m = hasB t r m) ∧ t'.length ≤ t.length ∧ r'.length ≤ r.length := by
  induction m with
  | zero =>
    intro d hd hd1 hno
    obtain ⟨b, hb, hb2⟩ := turns_ev r h2 d hd1 (by omega)
    have hp : per r d := ⟨by rw [show r.length = d from by omega]; exact Nat.mod_self d, fun i hi => by rw [Nat.mod_eq_of_lt (by omega)]⟩
    have hl : (r.take d).length = d := by rw [List.length_take]; omega
    obtain ⟨t', r', g1, g2, g3, g4, g5⟩ := tidy_l1 t.length t (r.take d) rfl ht (by omega) (by omega) (fun e he1 he2 hpe => hno e he1 (by omega) (per_take hd1 he1 (by omega) hp hpe))
    rw [hl] at g1 g5
    refine ⟨t', r', ?_, g2, fun m => by rw [g3, has_take hd1 h1 hp (by omega)], g4, by omega⟩
    refine Ev.step (f := fun k => (impl_turns.f k r d).bind fun x => if x = true then impl_set_tidy.l1 k d t (r.take d) else impl_set_tidy.l0 k (wrap64 (d + 1)) t r) (fun k => ?_) ?_
    · simp only [impl_set_tidy.l0, slices_Clone_bool_bool.f]
      rw [if_pos (by omega)]
      simp only [Option.bind_some]
      rw [if_pos (by omega), if_pos (by omega), Int.toNat_natCast, if_pos (by omega)]
      simp only [Option.bind_some]
    · exact Ev.bind hb (by simp only [if_pos (hb2.2 hp)]; exact g1)
  | succ m ih =>
    intro d hd hd1 hno
    obtain ⟨b, hb, hb2⟩ := turns_ev r h2 d hd1 (by omega)
    have hl : (r.take d).length = d := by rw [List.length_take]; omega
    have key : ∃ t' r', Ev (fun k => if b = true then impl_set_tidy.l1 k d t (r.take d) else impl_set_tidy.l0 k (wrap64 ((d : Nat) + 1)) t r) (t', r') ∧ Canon t' r' ∧ (∀ m, hasB t' r' m = hasB t r m) ∧ t'.length ≤ t.length ∧ r'.length ≤ r.length := by
      by_cases c : b = true
      · have hp := hb2.1 c
        obtain ⟨t', r', g1, g2, g3, g4, g5⟩ := tidy_l1 t.length t (r.take d) rfl ht (by omega) (by omega) (fun e he1 he2 hpe => hno e he1 (by omega) (per_take hd1 he1 (by omega) hp hpe))
        rw [hl] at g1 g5
        refine ⟨t', r', ?_, g2, fun m => by rw [g3, has_take hd1 h1 hp (by omega)], g4, by omega⟩
        simp only [if_pos c]
        exact g1
      · obtain ⟨t', r', g1, g2, g3, g4, g5⟩ := ih (d + 1) (by omega) (by omega) (fun e he1 he2 hpe => by
          rcases Nat.lt_or_ge e d with h | h
          · exact hno e he1 h hpe
          · obtain rfl : e = d := by omega
            exact c (hb2.2 hpe))
        refine ⟨t', r', ?_, g2, g3, g4, g5⟩
        simp only [if_neg c]
        rw [wr1 (by omega)]
        exact g1
    obtain ⟨t', r', g1, g2⟩ := key
    refine ⟨t', r', ?_, g2⟩
    refine Ev.step (f := fun k => (impl_turns.f k r d).bind fun x => if x = true then impl_set_tidy.l1 k d t (r.take d) else impl_set_tidy.l0 k (wrap64 (d + 1)) t r) (fun k => ?_) (Ev.bind hb g1)
    simp only [impl_set_tidy.l0, slices_Clone_bool_bool.f]
    rw [if_pos (by omega)]
    simp only [Option.bind_some]
    rw [if_pos (by omega), if_pos (by omega), Int.toNat_natCast, if_pos (by omega)]
    simp only [Option.bind_some]

theorem tidy_ev {t r : List Bool} (h : Good t r) : ∃ t' r', Ev (fun k => impl_set_tidy.f k t r) (t', r') ∧ Canon t' r' ∧ (∀ m, hasB t' r' m = hasB t r m) ∧ t'.length ≤ t.length ∧ r'.length ≤ r.length := by
  have h1 := h.pos
  have h2 := h.tl
  have h3 := h.rl
  exact tidy_l0 t r (by omega) h1 (by omega) (r.length - 1) 1 (by omega) (by omega) (fun e he1 he2 => by omega)

/-- 'comes again behind d' in the reference's words. -/
theorem per_steps (r : List Bool) (d : Nat) (hd : 1 ≤ d) : (∀ i, d ≤ i → i < r.length → r.getD i false = r.getD (i - d) false) ↔ ∀ i, i < r.length → r.getD i false = r.getD (i % d) false := by
  constructor
  · intro h i
    induction i using Nat.strongRecOn with
    | _ i ih =>
      intro hi
      rcases Nat.lt_or_ge i d with c | c
      · rw [Nat.mod_eq_of_lt c]
      · rw [h i c hi, ih (i - d) (by omega) (by omega), ← Nat.mod_eq_sub_mod c]
  · intro h i h1 h2
    rw [h i h2, h (i - d) (by omega), ← Nat.mod_eq_sub_mod h1]

/-- The reference's inner loop. -/
theorem less_l1 (t r : List Bool) (hr : r.length ≤ 1073741824) (d : Nat) (hd : 1 ≤ d) (hdl : d < r.length) (g : Bool → Nat → Option (List Bool × List Bool))
    (hgt : ∀ k, g true k = (spec_l1Less.f k t (r.take d)).bind fun x => some (x.1, x.2)) (hgf : ∀ k, g false k = spec_l1Less.l0 k (r.length : Int) ((d + 1 : Nat) : Int) t r) (res : List Bool × List Bool) (m : Nat) :
    ∀ i (b : Bool), i + m = r.length → d ≤ i → (b = true ↔ r.length % d = 0 ∧ ∀ j, d ≤ j → j < i → r.getD j false = r.getD (j - d) false) →
      (∀ c : Bool, (c = true ↔ r.length % d = 0 ∧ ∀ j, d ≤ j → j < r.length → r.getD j false = r.getD (j - d) false) → Ev (g c) res) → Ev (fun k => spec_l1Less.l1 k (r.length : Int) (d : Nat) b (i : Nat) t r) res := by
  induction m with
  | zero =>
    intro i b hi hdi hb hres
    obtain rfl : i = r.length := by omega
    refine Ev.step (fun k => ?_) (hres b hb)
    simp only [spec_l1Less.l1]
    rw [if_neg (by omega)]
    cases b with
    | true => rw [if_pos rfl, if_pos (by omega), if_pos (by omega), Int.toNat_natCast, hgt]
    | false => rw [if_neg (by simp), wr1 (by omega), hgf]
  | succ m ih =>
    intro i b hi hdi hb hres
    cases b with
    | true =>
      have h1 := hb.1 rfl
      have e : wrap64 ((i : Int) - (d : Int)) = ((i - d : Nat) : Int) := by rw [wr (by omega) (by omega)]; omega
      refine Ev.step (fun k => ?_) (ih (i + 1) (r.getD i false == r.getD (i - d) false) (by omega) (by omega) ?_ hres)
      · simp only [spec_l1Less.l1, if_true]
        rw [if_pos (by omega), if_pos (by omega), if_pos (by omega), e, if_pos (by omega), if_pos (by omega), rdOf_nat, rdOf_nat, wr1 (by omega)]
      · rw [beq_iff_eq]
        constructor
        · intro c
          refine ⟨h1.1, fun j hj1 hj2 => ?_⟩
          rcases Nat.lt_or_ge j i with h | h
          · exact h1.2 j hj1 h
          · obtain rfl : j = i := by omega
            exact c
        · intro c
          exact c.2 i hdi (by omega)
    | false =>
      refine Ev.step (fun k => ?_) (hres false ⟨fun h => (by cases h), fun h => (hb.2 ⟨h.1, fun j hj1 hj2 => h.2 j hj1 (by omega)⟩)⟩)
      simp only [spec_l1Less.l1]
      rw [if_pos (by omega), if_neg (by simp), wr1 (by omega), hgf]

theorem less_ev (n : Nat) : ∀ t r : List Bool, t.length + r.length = n → t.length ≤ 1073741824 → 0 < r.length → r.length ≤ 1073741824 →
    ∃ t' r', Ev (fun k => spec_l1Less.f k t r) (t', r') ∧ Canon t' r' ∧ (∀ m, hasB t' r' m = hasB t r m) ∧ t'.length ≤ t.length ∧ r'.length ≤ r.length := by
  induction n using Nat.strongRecOn with
  | _ n ih =>
    intro t r hn ht h1 h2
    have loop : ∀ m d, d + m = r.length → 1 ≤ d → (∀ e, 1 ≤ e → e < d → ¬ per r e) → ∃ t' r', Ev (fun k => spec_l1Less.l0 k (r.length : Int) (d : Nat) t r) (t', r') ∧ Canon t' r' ∧ (∀ m, hasB t' r' m = hasB t r m) ∧ t'.length ≤ t.length ∧ r'.length ≤ r.length := by
      intro m
      induction m with
      | zero =>
        intro d hd hd1 hno
        obtain rfl : d = r.length := by omega
        by_cases ct : t.length = 0
        · refine ⟨t, r, Ev.end fun k => ?_, ⟨h1, hno, fun m hm => by omega⟩, fun m => rfl, Nat.le_refl _, Nat.le_refl _⟩
          simp only [spec_l1Less.l0]
          rw [if_neg (by omega), if_neg (by omega)]
        · obtain ⟨q, hq⟩ : ∃ q, t.length = q + 1 := ⟨t.length - 1, by omega⟩
          have e1 : wrap64 ((t.length : Int) - 1) = (q : Nat) := by rw [wrm1 (by omega) (by omega)]; omega
          by_cases c : t.getD q false = r.getD (r.length - 1) false
          · have hl : (t.take q).length = q := by rw [List.length_take]; omega
            obtain ⟨t', r', g1, g2, g3, g4, g5⟩ := ih (q + r.length) (by omega) (t.take q) (rot r) (by rw [rot_length h1, hl]) (by omega) (by rw [rot_length h1]; exact h1) (by rw [rot_length h1]; exact h2)
            rw [rot_length h1] at g5
            refine ⟨t', r', Ev.step (f := fun k => (spec_l1Less.f k (t.take q) (rot r)).bind fun x => some (x.1, x.2)) (fun k => ?_) (Ev.bind g1 (Ev.now _)), g2, fun m => by rw [g3, has_rot hq h1 c], by omega, g5⟩
            simp only [spec_l1Less.l0]
            rw [if_neg (by omega), if_pos (by omega), e1, if_pos (by omega), if_pos (by omega), wrm1 h1 (by omega), if_pos (by omega), if_pos (by omega), rdOf_nat, rdOf_nat, if_pos (by rw [c]; simp)]
            simp only [Option.bind_some]
            rw [if_pos (by omega)]
            rw [if_pos (by simp; omega), if_pos (by omega), Int.toNat_natCast, Int.toNat_natCast, rot_append]
          · refine ⟨t, r, Ev.end fun k => ?_, ⟨h1, hno, fun m hm => (show q = m by omega) ▸ c⟩, fun m => rfl, Nat.le_refl _, Nat.le_refl _⟩
            simp only [spec_l1Less.l0]
            rw [if_neg (by omega), if_pos (by omega), e1, if_pos (by omega), if_pos (by omega), wrm1 h1 (by omega), if_pos (by omega), if_pos (by omega), rdOf_nat, rdOf_nat, if_neg (by simpa using c)]
      | succ m ihm =>
        intro d hd hd1 hno
        have hl : (r.take d).length = d := by rw [List.length_take]; omega
        have hstep : ∀ res, Ev (fun k => spec_l1Less.l1 k (r.length : Int) (d : Nat) (decide (r.length % d = 0)) (d : Nat) t r) res → Ev (fun k => spec_l1Less.l0 k (r.length : Int) (d : Nat) t r) res := by
          intro res hres
          refine Ev.step (fun k => ?_) hres
          simp only [spec_l1Less.l0]
          rw [if_pos (by omega), if_neg (by omega), tmod_nat]
          congr 1
          rw [Bool.eq_iff_iff]
          simp only [beq_iff_eq, decide_eq_true_eq]
          omega
        by_cases hp : per r d
        · obtain ⟨t', r', g1, g2, g3, g4, g5⟩ := ih (t.length + d) (by omega) t (r.take d) (by rw [hl]) ht (by omega) (by omega)
          refine ⟨t', r', hstep _ ?_, g2, fun m => by rw [g3, has_take hd1 h1 hp (by omega)], g4, by omega⟩
          refine less_l1 t r h2 d hd1 (by omega) (fun b k => if b = true then (spec_l1Less.f k t (r.take d)).bind fun x => some (x.1, x.2) else spec_l1Less.l0 k (r.length : Int) ((d + 1 : Nat) : Int) t r) (fun k => if_pos rfl) (fun k => if_neg (by simp)) (t', r') m.succ d (decide (r.length % d = 0)) (by omega) (Nat.le_refl _) ?_ ?_
          · rw [decide_eq_true_eq]
            exact ⟨fun h => ⟨h, fun j a b => by omega⟩, fun h => h.1⟩
          · intro c hc
            have : c = true := hc.2 ⟨hp.1, (per_steps r d hd1).2 hp.2⟩
            subst this
            simp only [if_true]
            exact Ev.bind g1 (Ev.now _)
        · obtain ⟨t', r', g1, g2, g3, g4, g5⟩ := ihm (d + 1) (by omega) (by omega) (fun e he1 he2 hpe => by
            rcases Nat.lt_or_ge e d with h | h
            · exact hno e he1 h hpe
            · obtain rfl : e = d := by omega
              exact hp hpe)
          refine ⟨t', r', hstep _ ?_, g2, g3, g4, g5⟩
          refine less_l1 t r h2 d hd1 (by omega) (fun b k => if b = true then (spec_l1Less.f k t (r.take d)).bind fun x => some (x.1, x.2) else spec_l1Less.l0 k (r.length : Int) ((d + 1 : Nat) : Int) t r) (fun k => if_pos rfl) (fun k => if_neg (by simp)) (t', r') m.succ d (decide (r.length % d = 0)) (by omega) (Nat.le_refl _) ?_ ?_
          · rw [decide_eq_true_eq]
            exact ⟨fun h => ⟨h, fun j a b => by omega⟩, fun h => h.1⟩
          · intro c hc
            have : ¬ c = true := fun h => hp ⟨(hc.1 h).1, (per_steps r d hd1).1 (hc.1 h).2⟩
            simp only [if_neg this]
            exact g1
    obtain ⟨t', r', g1, g2⟩ := loop (r.length - 1) 1 (by omega) (by omega) (fun e he1 he2 => by omega)
    exact ⟨t', r', Ev.step (fun k => by simp only [spec_l1Less.f]; rfl) g1, g2⟩

/-- The tidy form of a set, for both. -/
structure Tidied (t r t' r' : List Bool) : Prop where
  impl : Ev (fun k => impl_set_tidy.f k t r) (t', r')
  spec : Ev (fun k => spec_l1Less.f k t r) (t', r')
  canon : Canon t' r'
  same : ∀ n, hasB t' r' n = hasB t r n
  good : Good t' r'
  tle : t'.length ≤ t.length
  rle : r'.length ≤ r.length
theorem tidied {t r : List Bool} (h : Good t r) : ∃ t' r', Tidied t r t' r' := by
  have h1 := h.pos
  have h2 := h.tl
  have h3 := h.rl
  obtain ⟨t', r', g1, g2, g3, g4, g5⟩ := tidy_ev h
  obtain ⟨t2, r2, k1, k2, k3, k4, k5⟩ := less_ev (t.length + r.length) t r rfl (by omega) h1 (by omega)
  obtain ⟨rfl, rfl⟩ := canon_unique g2 k2 (fun n => by rw [g3, k3])
  exact ⟨t', r', g1, k1, g2, g3, ⟨g2.pos, by omega, by omega⟩, g4, g5⟩


structure IsSmall (s : ByteArray) (t r : List Bool) : Prop where
  orig : ∃ t0 r0, IsSet s t0 r0 ∧ Tidied t0 r0 t r
  good : Good t r
  tl : t.length ≤ 8
  rl : r.length ≤ 8
  impl : Ev (fun k => impl_small.f k s) (t, r, true)
  spec : Ev (fun k => spec_l4Small.f k s) (t, r, true)
structure NoSmall (s : ByteArray) : Prop where
  impl : ∃ a b, Ev (fun k => impl_small.f k s) (a, b, false)
  spec : ∃ a b, Ev (fun k => spec_l4Small.f k s) (a, b, false)
theorem small_cases (s : ByteArray) (hs : s.size ≤ 1073741824) : NoSmall s ∨ ∃ t r, IsSmall s t r := by
  rcases read_cases s hs with h | ⟨t0, r0, h⟩
  · left
    obtain ⟨⟨a, b, ha⟩, ⟨a', b', hb⟩⟩ := h
    refine ⟨⟨[], [], ?_⟩, ⟨a', b', ?_⟩⟩
    · unfold impl_small.f impl_tidied.f
      rw [ha]; simp only [Option.bind_some, Bool.false_eq_true, if_false]
      exact Ev.now _
    · unfold spec_l4Small.f
      refine Ev.bind hb ?_
      simp only [Bool.false_eq_true, if_false]
      exact Ev.now _
  · obtain ⟨t, r, hT⟩ := tidied h.good
    have hi : Ev (fun k => impl_small.f k s) (t, r, decide ((t.length : Int) ≤ 8) && decide ((r.length : Int) ≤ 8)) := by
      unfold impl_small.f impl_tidied.f
      rw [h.impl]; simp only [Option.bind_some, if_true]
      refine Ev.bind (a := (t, r, true)) (Ev.bind hT.impl (Ev.now _)) (Ev.const fun k => ?_)
      rw [if_pos rfl]
      by_cases c : (t.length : Int) ≤ 8
      · rw [if_pos c, decide_eq_true c]; rfl
      · rw [if_neg c, decide_eq_false c]; rfl
    have hs : Ev (fun k => spec_l4Small.f k s) (t, r, decide ((t.length : Int) ≤ 8) && decide ((r.length : Int) ≤ 8)) := by
      unfold spec_l4Small.f
      refine Ev.bind h.spec ?_
      simp only [if_true]
      refine Ev.bind hT.spec (Ev.const fun k => ?_)
      by_cases c : (t.length : Int) ≤ 8
      · rw [if_pos c, decide_eq_true c]; rfl
      · rw [if_neg c, decide_eq_false c]; rfl
    by_cases c : t.length ≤ 8 ∧ r.length ≤ 8
    · right
      rw [decide_eq_true (by omega), decide_eq_true (by omega)] at hi hs
      exact ⟨t, r, ⟨t0, r0, h, hT⟩, hT.good, c.1, c.2, hi, hs⟩
    · left
      have : (decide ((t.length : Int) ≤ 8) && decide ((r.length : Int) ≤ 8)) = false := by
        by_cases c1 : t.length ≤ 8
        · rw [decide_eq_false (show ¬ (r.length : Int) ≤ 8 by omega), Bool.and_false]
        · rw [decide_eq_false (show ¬ (t.length : Int) ≤ 8 by omega), Bool.false_and]
      rw [this] at hi hs
      exact ⟨⟨t, r, hi⟩, ⟨t, r, hs⟩⟩
theorem getD_set_self (l : List Bool) (i : Nat) (v : Bool) (h : i < l.length) : (l.set i v).getD i false = v := by simp [List.getD, h]
theorem getD_set_ne (l : List Bool) {i j : Nat} (v : Bool) (h : i ≠ j) : (l.set i v).getD j false = l.getD j false := by simp [List.getD, h]
theorem in_eq' (a b c : Int) : impl_in.f a b c = some (decide (b ≤ a ∧ a ≤ c)) := by
  unfold impl_in.f
  by_cases h : b ≤ a
  · rw [if_pos h]; simp [h]
  · rw [if_neg (by omega), decide_eq_false (by omega)]
theorem l6In_eq' (a b c : Int) : spec_l6In.f a b c = some (decide (b ≤ a ∧ a ≤ c)) := by
  unfold spec_l6In.f
  by_cases h : b ≤ a
  · rw [if_pos h]; simp [h]
  · rw [if_neg (by omega), decide_eq_false (by omega)]

end Go.Proofs.YtinjblbfaijhdaaDoor.Q

namespace Go.Proofs.YtinjblbfaijhdaaDoor.Q
open Go.RowKit Go.Proofs.YtinjblbfaijhdaaDoorW.PrintWords Go.Proofs.YtinjblbfaijhdaaDoorW.PrintLast Go.Proofs.YtinjblbfaijhdaaDoorW.PrintMore
attribute [local go_sem] max2_int min2_int max_two min_two max_three min_three max_four min_four   -- for this text's walks alone
set_option linter.unusedVariables false
set_option linter.unusedSimpArgs false

end Go.Proofs.YtinjblbfaijhdaaDoor.Q

namespace Go.Proofs.YtinjblbfaijhdaaDoor.Q
open Go.RowKit Go.Proofs.YtinjblbfaijhdaaDoorW.PrintWords Go.Proofs.YtinjblbfaijhdaaDoorW.PrintLast Go.Proofs.YtinjblbfaijhdaaDoorW.PrintMore
attribute [local go_sem] max2_int min2_int max_two min_two max_three min_three max_four min_four   -- for this text's walks alone
set_option linter.unusedVariables false
set_option linter.unusedSimpArgs false

end Go.Proofs.YtinjblbfaijhdaaDoor.Q

namespace Go.Proofs.YtinjblbfaijhdaaDoor.Q
open Go.RowKit Go.Proofs.YtinjblbfaijhdaaDoorW.PrintWords Go.Proofs.YtinjblbfaijhdaaDoorW.PrintLast Go.Proofs.YtinjblbfaijhdaaDoorW.PrintMore
attribute [local go_sem] max2_int min2_int max_two min_two max_three min_three max_four min_four   -- for this text's walks alone
set_option linter.unusedVariables false
set_option linter.unusedSimpArgs false

end Go.Proofs.YtinjblbfaijhdaaDoor.Q

namespace Go.Proofs.YtinjblbfaijhdaaDoor.Q
open Go.RowKit Go.Proofs.YtinjblbfaijhdaaDoorW.PrintWords Go.Proofs.YtinjblbfaijhdaaDoorW.PrintLast Go.Proofs.YtinjblbfaijhdaaDoorW.PrintMore
open Go.Proofs.YtinjblbfaijhdaaDoor.Pl
set_option linter.unusedVariables false
set_option linter.unusedSimpArgs false
theorem wrs {a b : Nat} (h : b ≤ a) (ha : a ≤ 4611686018427387904) : wrap64 ((a : Int) - (b : Int)) = ((a - b : Nat) : Int) := by rw [wr (by omega) (by omega)]; omega

theorem star_l1 {t r : List Bool} (h : Good t r) (m : Nat) (hm : m ≤ 1000000) (i : Nat) (hi : i < m) (P : List Bool → Prop)
    (hend : ∀ l, l.length = m → (∀ j, j < i + 1 → l.getD j false = star (hasB t r) j) → ∃ l', Ev (fun k => impl_star.l0 k l m ((i + 1 : Nat) : Int) t r) l' ∧ P l') (d : Nat) :
    ∀ (q : Nat) (l : List Bool), q + d = i + 1 → 1 ≤ q → l.length = m → (∀ j, j < i → l.getD j false = star (hasB t r) j) → (l.getD i false = true → star (hasB t r) i = true) → (l.getD i false = false → 1 ≤ i ∧ ∀ y, 1 ≤ y → y < q → ¬ (hasB t r y = true ∧ star (hasB t r) (i - y) = true)) →
      ∃ l', Ev (fun k => impl_star.l1 k l (i : Nat) (q : Nat) m (i : Nat) t r) l' ∧ P l' := by
  have fin : ∀ l : List Bool, l.length = m → (∀ j, j < i → l.getD j false = star (hasB t r) j) → l.getD i false = star (hasB t r) i → ∃ l', Ev (fun k => impl_star.l0 k l m ((i + 1 : Nat) : Int) t r) l' ∧ P l' := by
    intro l hl ha hb
    refine hend l hl fun j hj => ?_
    rcases Nat.lt_or_ge j i with c | c
    · exact ha j c
    · obtain rfl : j = i := by omega
      exact hb
  induction d with
  | zero =>
    intro q l hq h1 hl ha hb hc
    have hb' : l.getD i false = star (hasB t r) i := by
      cases e : l.getD i false with
      | true => exact (hb e).symm
      | false =>
        obtain ⟨g1, g2⟩ := hc e
        cases es : star (hasB t r) i with
        | false => rfl
        | true =>
          obtain ⟨y, p1, p2, p3, p4⟩ := (star_iff _ g1).1 es
          exact absurd ⟨p3, p4⟩ (g2 y p1 (by omega))
    obtain ⟨l', k1, k2⟩ := fin l hl ha hb'
    refine ⟨l', Ev.step (fun k => ?_) k1, k2⟩
    simp only [impl_star.l1]
    rw [if_neg (by omega), wr1 (by omega)]
  | succ d ih =>
    intro q l hq h1 hl ha hb hc
    cases e : l.getD i false with
    | true =>
      obtain ⟨l', k1, k2⟩ := fin l hl ha (by rw [e, hb e])
      refine ⟨l', Ev.step (fun k => ?_) k1, k2⟩
      simp only [impl_star.l1]
      rw [if_pos (by omega), if_pos (by omega), if_pos (by omega), rdOf_nat, if_pos e, wr1 (by omega)]
    | false =>
      obtain ⟨g1, g2⟩ := hc e
      have nx : ∀ v : Bool, (v = true ↔ hasB t r q = true ∧ star (hasB t r) (i - q) = true) → ∃ l', Ev (fun k => impl_star.l1 k (l.set i v) (i : Nat) ((q + 1 : Nat) : Int) m (i : Nat) t r) l' ∧ P l' := by
        intro v hv
        refine ih (q + 1) (l.set i v) (by omega) (by omega) (by rw [List.length_set, hl]) (fun j hj => by rw [getD_set_ne _ _ (by omega)]; exact ha j hj) ?_ ?_
        · rw [getD_set_self _ _ _ (by omega)]
          intro hv1
          obtain ⟨p1, p2⟩ := hv.1 hv1
          exact (star_iff _ g1).2 ⟨q, h1, by omega, p1, p2⟩
        · rw [getD_set_self _ _ _ (by omega)]
          intro hv1
          refine ⟨g1, fun y a b => ?_⟩
          rcases Nat.lt_or_ge y q with c | c
          · exact g2 y a c
          · obtain rfl : y = q := by omega
            intro hx
            rw [hv.2 hx] at hv1
            cases hv1
      by_cases c : hasB t r q = true
      · obtain ⟨l', k1, k2⟩ := nx (l.getD (i - q) false) (by rw [ha (i - q) (by omega)]; exact ⟨fun h => ⟨c, h⟩, fun h => h.2⟩)
        refine ⟨l', Ev.step (fun k => ?_) k1, k2⟩
        simp only [impl_star.l1]
        rw [if_pos (by omega), if_pos (by omega), if_pos (by omega), rdOf_nat, if_neg (by rw [e]; simp), set_has h q (by omega)]
        simp only [Option.bind_some]
        rw [if_pos c, wrs (by omega) (by omega), if_pos (by omega), if_pos (by omega), rdOf_nat, wr1 (by omega), Int.toNat_natCast]
      · obtain ⟨l', k1, k2⟩ := nx false (by simp [c])
        refine ⟨l', Ev.step (fun k => ?_) k1, k2⟩
        simp only [impl_star.l1]
        rw [if_pos (by omega), if_pos (by omega), if_pos (by omega), rdOf_nat, if_neg (by rw [e]; simp), set_has h q (by omega)]
        simp only [Option.bind_some]
        rw [if_neg c, wr1 (by omega), Int.toNat_natCast]
/-- A list that tells f up to its length. -/
structure Tells (l : List Bool) (f : Nat → Bool) (m : Nat) : Prop where
  len : l.length = m
  get : ∀ j, j < m → l.getD j false = f j
theorem star_l0 {t r : List Bool} (h : Good t r) (m : Nat) (hm : m ≤ 1000000) (d : Nat) : ∀ (i : Nat) (l : List Bool), i + d = m → l.length = m → (∀ j, j < i → l.getD j false = star (hasB t r) j) → ∃ l', Ev (fun k => impl_star.l0 k l m (i : Nat) t r) l' ∧ Tells l' (star (hasB t r)) m := by
  induction d with
  | zero =>
    intro i l hi hl ha
    obtain rfl : i = m := by omega
    refine ⟨l, Ev.end fun k => ?_, hl, ha⟩
    simp only [impl_star.l0]
    rw [if_neg (by omega)]
  | succ d ih =>
    intro i l hi hl ha
    obtain ⟨l', k1, k2⟩ := star_l1 h m hm i (by omega) (fun l' => Tells l' (star (hasB t r)) m) (fun l hl ha => ih (i + 1) l (by omega) hl ha) i 1 (l.set i (decide (i = 0))) (by omega) (by omega) (by rw [List.length_set, hl]) (fun j hj => by rw [getD_set_ne _ _ (by omega)]; exact ha j hj)
      (by rw [getD_set_self _ _ _ (by omega)]; intro h0; have := of_decide_eq_true h0; subst this; exact star_zero _)
      (by rw [getD_set_self _ _ _ (by omega)]; intro h0; have := of_decide_eq_false h0; exact ⟨by omega, fun y a b => by omega⟩)
    refine ⟨l', Ev.step (fun k => ?_) k1, k2⟩
    simp only [impl_star.l0]
    rw [if_pos (by omega), if_pos (by omega), if_pos (by omega), Int.toNat_natCast]
    congr 2
    rw [Bool.eq_iff_iff, beq_iff_eq, decide_eq_true_eq]; omega
theorem star_ev {t r : List Bool} (h : Good t r) (m : Nat) (hm : m ≤ 1000000) : ∃ l, Ev (fun k => impl_star.f k t r m) l ∧ Tells l (star (hasB t r)) m := by
  obtain ⟨l, k1, k2⟩ := star_l0 h m hm m 0 (List.replicate m false) (by omega) (List.length_replicate ..) (fun j hj => absurd hj (Nat.not_lt_zero j))
  refine ⟨l, ?_, k2⟩
  unfold impl_star.f
  simp only [if_pos (show (0 : Int) ≤ (m : Int) by omega), Int.toNat_natCast, if_pos (show m ≤ 281474976710656 by omega), Option.bind_some, List.length_replicate]
  exact k1


theorem below_l0 {t r : List Bool} (h : Good t r) (n : Nat) (hn : n ≤ 1073741824) (d : Nat) : ∀ i, i + d = n → Ev (fun k => impl_set_below.l0 k (listM (hasB t r) i) n (i : Nat) t r) (listM (hasB t r) n) := by
  induction d with
  | zero =>
    intro i hi
    obtain rfl : i = n := by omega
    refine Ev.end fun k => ?_
    simp only [impl_set_below.l0]
    rw [if_neg (by omega)]
  | succ d ih =>
    intro i hi
    have hle := listM_length_le (hasB t r) i
    have h1 := ih (i + 1) (by omega)
    rw [listM_succ] at h1
    refine Ev.step (fun k => ?_) h1
    simp only [impl_set_below.l0]
    rw [if_pos (by omega), set_has h i (by omega)]
    simp only [Option.bind_some]
    rw [wr1 (by omega)]
    by_cases c : hasB t r i = true
    · rw [if_pos c, if_pos (by omega), if_pos c]
    · rw [if_neg c, if_neg c]
theorem below_ev {t r : List Bool} (h : Good t r) (n : Nat) (hn : n ≤ 1073741824) : Ev (fun k => impl_set_below.f k t r n) (listM (hasB t r) n) := by
  have := below_l0 h n hn n 0 (by omega)
  exact this


end Go.Proofs.YtinjblbfaijhdaaDoor.Q

namespace Go.Proofs.YtinjblbfaijhdaaDoor.Q
open Go.RowKit Go.Proofs.YtinjblbfaijhdaaDoorW.PrintWords Go.Proofs.YtinjblbfaijhdaaDoorW.PrintLast Go.Proofs.YtinjblbfaijhdaaDoorW.PrintMore
attribute [local go_sem] max2_int min2_int max_two min_two max_three min_three max_four min_four   -- for this text's walks alone
set_option linter.unusedVariables false
set_option linter.unusedSimpArgs false

end Go.Proofs.YtinjblbfaijhdaaDoor.Q

namespace Go.Proofs.YtinjblbfaijhdaaDoor.Q
open Go.RowKit Go.Proofs.YtinjblbfaijhdaaDoorW.PrintWords Go.Proofs.YtinjblbfaijhdaaDoorW.PrintLast Go.Proofs.YtinjblbfaijhdaaDoorW.PrintMore
attribute [local go_sem] max2_int min2_int max_two min_two max_three min_three max_four min_four   -- for this text's walks alone
set_option linter.unusedVariables false
set_option linter.unusedSimpArgs false

end Go.Proofs.YtinjblbfaijhdaaDoor.Q

namespace Go.Proofs.YtinjblbfaijhdaaDoor.Q
open Go.RowKit Go.Proofs.YtinjblbfaijhdaaDoorW.PrintWords Go.Proofs.YtinjblbfaijhdaaDoorW.PrintLast Go.Proofs.YtinjblbfaijhdaaDoorW.PrintMore
attribute [local go_sem] max2_int min2_int max_two min_two max_three min_three max_four min_four   -- for this text's walks alone
set_option linter.unusedVariables false
set_option linter.unusedSimpArgs false

end Go.Proofs.YtinjblbfaijhdaaDoor.Q
