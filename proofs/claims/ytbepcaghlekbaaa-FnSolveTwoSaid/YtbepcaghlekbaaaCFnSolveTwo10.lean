/- The law FnSolveTwo holds for all that it draws. -/
import Derived.Test.YtbepcaghlekbaaaCFnSolveTwo7
import Derived.Test.YtbepcaghlekbaaaCFnSolveTwo9
namespace Go.Proofs.Ytbepcaghlekbaaa.Q
open Go.RowKit Go.Proofs.YtbepcaghlekbaaaW.PrintWords Go.Proofs.YtbepcaghlekbaaaW.PrintLast Go.Proofs.YtbepcaghlekbaaaW.PrintMore
attribute [local go_sem] max2_int min2_int max_two min_two max_three min_three max_four min_four   -- for this text's walks alone
set_option linter.unusedVariables false
set_option linter.unusedSimpArgs false
mutual
def impl_SolveTwo.j0 : Nat → Int → Bool → List Bool → List Bool → List Bool → List Bool → Option (Int × Bool)
 | 0, _, _, _, _, _, _ => none
 | k + 1, x2, x28, x462000, x462001, x463000, x463001 => if x28 = true then (some (0, false)) else ((some (([false] : List Bool) : List Bool)).bind fun y464 => (if y464.length + x462000.length < 140737488355328 then ((impl_solved.f k (y464 ++ x462000) x462001 x463000 x463001 x2).bind fun t471 => (impl_SolveTwo.l0 k 0 t471 (t471.length : Int) 0)) else (none)))
def impl_SolveTwo.l0 : Nat → Int → List Bool → Int → Int → Option (Int × Bool)
 | 0, _, _, _, _ => none
 | k + 1, x12, x39, x40, x41 => if x41 < x40 then (if 0 ≤ x41 then (if x41 < (x39.length : Int) then (if rdOf false x39 x41 = true then (impl_SolveTwo.l0 k (wrap64 (x12 + 1)) x39 x40 (wrap64 (x41 + 1))) else (impl_SolveTwo.l0 k x12 x39 x40 (wrap64 (x41 + 1)))) else (none)) else (none)) else (some (x12, true))
end
def impl_SolveTwo.f (k : Nat) (a0 : ByteArray) (a1 : ByteArray) (a2 : Int) : Option (Int × Bool) := (impl_two.f k a0 a1).bind fun bt448 => (if bt448.2.2.2.2 = true then ((impl_in.f a2 0 500).bind fun t463 => (impl_SolveTwo.j0 k a2 (!t463) bt448.1 bt448.2.1 bt448.2.2.1 bt448.2.2.2.1)) else (impl_SolveTwo.j0 k a2 true bt448.1 bt448.2.1 bt448.2.2.1 bt448.2.2.2.1))
theorem impl_SolveTwo.mono_l : ∀ k, (∀ y0 y1 y2 y3 y4 y5, LeO (impl_SolveTwo.j0 k y0 y1 y2 y3 y4 y5) (impl_SolveTwo.j0 (k + 1) y0 y1 y2 y3 y4 y5)) ∧ (∀ y0 y1 y2 y3, LeO (impl_SolveTwo.l0 k y0 y1 y2 y3) (impl_SolveTwo.l0 (k + 1) y0 y1 y2 y3))
 | 0 => ⟨fun _ _ _ _ _ _ r h => by simp [impl_SolveTwo.j0] at h, fun _ _ _ _ r h => by simp [impl_SolveTwo.l0] at h⟩
 | k + 1 => by
  obtain ⟨ih0, ih1⟩ := impl_SolveTwo.mono_l k
  refine ⟨?_, ?_⟩
  ·intro y0 y1 y2 y3 y4 y5
   unfold impl_SolveTwo.j0
   repeat' first
   | (with_reducible exact ih0 _ _ _ _ _ _)
   | (with_reducible exact ih1 _ _ _ _)
   | (with_reducible exact impl_solved.mono _ _ _ _ _ _)
   | (with_reducible exact impl_two.mono _ _ _)
   | (with_reducible exact LeO.refl _)
   | (with_reducible exact LeO.none _)
   | (with_reducible refine LeO.ite ?_ ?_)
   | (with_reducible refine LeO.bind ?_ (fun _ => ?_))
   | exact ih0 _ _ _ _ _ _
   | exact ih1 _ _ _ _
   | exact impl_solved.mono _ _ _ _ _ _
   | exact impl_two.mono _ _ _
   | exact LeO.none _
   | refine LeO.ite ?_ ?_
   | refine LeO.bind ?_ (fun _ => ?_)
  ·intro y0 y1 y2 y3
   unfold impl_SolveTwo.l0
   repeat' first
   | (with_reducible exact ih0 _ _ _ _ _ _)
   | (with_reducible exact ih1 _ _ _ _)
   | (with_reducible exact impl_solved.mono _ _ _ _ _ _)
   | (with_reducible exact impl_two.mono _ _ _)
   | (with_reducible exact LeO.refl _)
   | (with_reducible exact LeO.none _)
   | (with_reducible refine LeO.ite ?_ ?_)
   | (with_reducible refine LeO.bind ?_ (fun _ => ?_))
   | exact ih0 _ _ _ _ _ _
   | exact ih1 _ _ _ _
   | exact impl_solved.mono _ _ _ _ _ _
   | exact impl_two.mono _ _ _
   | exact LeO.none _
   | refine LeO.ite ?_ ?_
   | refine LeO.bind ?_ (fun _ => ?_)
theorem impl_SolveTwo.mono : ∀ a0 a1 a2 k, LeO (impl_SolveTwo.f k a0 a1 a2) (impl_SolveTwo.f (k + 1) a0 a1 a2) := by
 intro a0 a1 a2 k
 obtain ⟨ih0, ih1⟩ := impl_SolveTwo.mono_l k
 unfold impl_SolveTwo.f
 repeat' first
   | (with_reducible exact ih0 _ _ _ _ _ _)
   | (with_reducible exact ih1 _ _ _ _)
   | (with_reducible exact impl_solved.mono _ _ _ _ _ _)
   | (with_reducible exact impl_two.mono _ _ _)
   | (with_reducible exact LeO.refl _)
   | (with_reducible exact LeO.none _)
   | (with_reducible refine LeO.ite ?_ ?_)
   | (with_reducible refine LeO.bind ?_ (fun _ => ?_))
   | exact ih0 _ _ _ _ _ _
   | exact ih1 _ _ _ _
   | exact impl_solved.mono _ _ _ _ _ _
   | exact impl_two.mono _ _ _
   | exact LeO.none _
   | refine LeO.ite ?_ ?_
   | refine LeO.bind ?_ (fun _ => ?_)
def impl_SolveTwo.T4 : Bool × List (List Nat × List Nat) := (true, [([], []), ([], []), ([1], [1]), ([0, 2], [0, 2]), ([], []), ([4], [4]), ([3, 5], [3, 5]), ([], []), ([7, 6, 3, 0, 1, 2, 3, 4, 5, 6, 7], [6, 7])])
def impl_SolveTwo.B4 : List Nat := [0, 0, 2, 7, 0, 16, 63, 0, 255]
theorem impl_SolveTwo.tab4 : rtab .any (opsOf Try.f17 4) = impl_SolveTwo.T4 := by kernel_rfl
theorem impl_SolveTwo.bits4 : waitsOk impl_SolveTwo.T4.2 impl_SolveTwo.B4 = true := by kernel_rfl
set_option maxHeartbeats 8000000 in
set_option maxRecDepth 100000 in
theorem impl_SolveTwo.calls (k : Nat) (a0 : ByteArray) (a1 : ByteArray) (a2 : Int) (r1 : Int) (r2 : Bool) (w : World) (h : impl_SolveTwo.f k a0 a1 a2 = some (r1, r2)) :
  Calls Try.prog 17 #[.string a0, .string a1, .int .i64 a2] w fun e w' => e = .returned (.tuple #[.int .i64 r1, .bool r2]) ∧ Below w.heap.size w w' := by
 have hu52 := Try.underlying52
 have HB := aM (Below.refl w.heap.size w)
 have H : ((impl_two.f k a0 a1).bind fun bt448 => (if bt448.2.2.2.2 = true then ((impl_in.f a2 0 500).bind fun t463 => (impl_SolveTwo.j0 k a2 (!t463) bt448.1 bt448.2.1 bt448.2.2.1 bt448.2.2.2.1)) else (impl_SolveTwo.j0 k a2 true bt448.1 bt448.2.1 bt448.2.2.1 bt448.2.2.2.1))) = some (r1, r2) := h
 clear h
 replace H := Option.bind_eq_some_iff.mp H
 obtain ⟨⟨t448, t451, t454, t457, t460⟩, A40, H⟩ := H
 replace H : (if t460 = true then ((impl_in.f a2 0 500).bind fun t463 => (impl_SolveTwo.j0 k a2 (!t463) t448 t451 t454 t457)) else (impl_SolveTwo.j0 k a2 true t448 t451 t454 t457)) = some (r1, r2) := H
 have A4 := aM A40
 clear A40
 have HC5 := aM H
 clear H
 go_enter Try.func17, Try.ntmps17
 go_upto_region 2 with (first | ((with_reducible refine gate_callee (f := 49) rfl ?_); refine goesL_ (some 18) rfl rfl Try.func49 (by kernel_rfl) rfl #[.string a0, .string a1] rfl (by (try simp only [List.map_toArray, List.map_cons, List.map_nil]); first | done | rfl | (simp only [List.length_drop, List.length_take]; rfl)) ?_; (with_reducible refine (impl_two.calls k a0 a1 t448 t451 t454 t457 t460 _ A4.out).mono ?_); rintro e w6 ⟨v449, v452, v455, v458, rfl, ho0, ho1, ho2, ho3, hb⟩; refine ⟨_, rfl, ?_⟩; have n0_ := aM (Kd.R_lower ho0 (below_size (by repeat (first | (with_reducible first | exact HB.out | apply bA | apply bN | apply b1) | exact HB.out)))); have n1_ := aM (Kd.R_lower ho1 (below_size (by repeat (first | (with_reducible first | exact HB.out | apply bA | apply bN | apply b1) | exact HB.out)))); have n2_ := aM (Kd.R_lower ho2 (below_size (by repeat (first | (with_reducible first | exact HB.out | apply bA | apply bN | apply b1) | exact HB.out)))); have n3_ := aM (Kd.R_lower ho3 (below_size (by repeat (first | (with_reducible first | exact HB.out | apply bA | apply bN | apply b1) | exact HB.out)))); have n4_ := aM (below_step (by repeat (first | (with_reducible first | exact HB.out | apply bA | apply bN | apply b1) | exact HB.out)) hb); clear HB; have HO450 := n0_; have HO453 := n1_; have HO456 := n2_; have HO459 := n3_; have HB := n4_; clear n0_ n1_ n2_ n3_ n4_; (try clear hb); (try clear hb2); (try clear hk); (try clear hi); (try clear ho0); (try clear ho1); (try clear ho2); (try clear ho3)) | ((with_reducible refine gate_dst (N := 8) rfl ?_); refine box_event ?hg (N := 8) ?hd (cs := #[.slice none 0 0, .slice none 0 0]) (t := 52) ?hr ?_; (case hd => rfl); (case hg => rfl); (case hr => first | (go_simp; done) | (go_simp; rfl)); intro gb461 hg w7 hbox hb; have n0_ := aM (Kd.R_below (by (with_reducible repeat (first | apply rA | apply rN | apply rD)); exact HO450.out) hb); have n1_ := aM (Kd.R_below (by (with_reducible repeat (first | apply rA | apply rN | apply rD)); exact HO453.out) hb); have n2_ := aM (Kd.R_below (by (with_reducible repeat (first | apply rA | apply rN | apply rD)); exact HO456.out) hb); have n3_ := aM (Kd.R_below (by (with_reducible repeat (first | apply rA | apply rN | apply rD)); exact HO459.out) hb); have n4_ := aM (below_step (by repeat (first | (with_reducible first | exact HB.out | apply bA | apply bN | apply b1) | exact HB.out)) hb); have n5_ := aM (hbox); have n6_ := aM ((by rw [hg]; exact (below_size (by repeat (first | (with_reducible first | exact HB.out | apply bA | apply bN | apply b1) | exact HB.out))) : w.heap.size ≤ gb461)); have n7_ := aM ((by rw [hg]; exact (below_size (by repeat (first | (with_reducible first | exact HB.out | apply bA | apply bN | apply b1) | exact HB.out))) : w.heap.size ≤ gb461)); clear HO450; clear HO453; clear HO456; clear HO459; clear HB; have HO450 := n0_; have HO453 := n1_; have HO456 := n2_; have HO459 := n3_; have HB := n4_; have BK461 := n5_; have GW461 := n6_; have GE461 := n7_; clear n0_ n1_ n2_ n3_ n4_ n5_ n6_ n7_; clear hb hbox hg) | ((with_reducible refine gate_dst (N := 9) rfl ?_); refine box_event ?hg (N := 9) ?hd (cs := #[.slice none 0 0, .slice none 0 0]) (t := 52) ?hr ?_; (case hd => rfl); (case hg => rfl); (case hr => first | (go_simp; done) | (go_simp; rfl)); intro gb462 hg w8 hbox hb; have n0_ := aM (Kd.R_below (by (with_reducible repeat (first | apply rA | apply rN | apply rD)); exact HO450.out) hb); have n1_ := aM (Kd.R_below (by (with_reducible repeat (first | apply rA | apply rN | apply rD)); exact HO453.out) hb); have n2_ := aM (Kd.R_below (by (with_reducible repeat (first | apply rA | apply rN | apply rD)); exact HO456.out) hb); have n3_ := aM (Kd.R_below (by (with_reducible repeat (first | apply rA | apply rN | apply rD)); exact HO459.out) hb); have n4_ := aM (blk_below (g := gb461) (o := .cells #[.slice none 0 0, .slice none 0 0] 52 (0, 0)) (by (with_reducible repeat (first | refine kN ?_ _ | refine kD ?_ | refine kA ?_ _)); exact BK461.out) hb); have n5_ := aM (below_step (by repeat (first | (with_reducible first | exact HB.out | apply bA | apply bN | apply b1 | refine bS ?_ GE461.out) | exact HB.out)) hb); have n6_ := aM (hbox); have n7_ := aM ((by rw [hg]; exact (below_size (by repeat (first | (with_reducible first | exact HB.out | apply bA | apply bN | apply b1 | refine bS ?_ GE461.out) | exact HB.out))) : w.heap.size ≤ gb462)); have n8_ := aM ((by rw [hg]; exact (below_size (by repeat (first | (with_reducible first | exact HB.out | apply bA | apply bN | apply b1 | refine bS ?_ GE461.out) | exact HB.out))) : w.heap.size ≤ gb462)); have n9_ := aM ((by rw [hg]; exact Nat.ne_of_lt (blk_lt (g := gb461) (o := .cells #[.slice none 0 0, .slice none 0 0] 52 (0, 0)) (by (with_reducible repeat (first | refine kN ?_ _ | refine kD ?_ | refine kA ?_ _)); exact BK461.out)) : gb461 ≠ gb462)); have n10_ := aM ((by rw [hg]; exact Nat.ne_of_gt (blk_lt (g := gb461) (o := .cells #[.slice none 0 0, .slice none 0 0] 52 (0, 0)) (by (with_reducible repeat (first | refine kN ?_ _ | refine kD ?_ | refine kA ?_ _)); exact BK461.out)) : gb462 ≠ gb461)); clear HO450; clear HO453; clear HO456; clear HO459; clear BK461; clear HB; have HO450 := n0_; have HO453 := n1_; have HO456 := n2_; have HO459 := n3_; have BK461 := n4_; have HB := n5_; have BK462 := n6_; have GW462 := n7_; have GE462 := n8_; have NB461_462 := n9_; have NB462_461 := n10_; clear n0_ n1_ n2_ n3_ n4_ n5_ n6_ n7_ n8_ n9_ n10_; clear hb hbox hg; obtain ⟨Ao9, co9, eo9⟩ := Kd.R_slice HO450.out; subst eo9; have hnb10 := NB461_462.out; have hnc10 := NB462_461.out; have hcz11_0 : w8.cell? ⟨gb461, 0, none⟩ = some (.slice none 0 0) := (blk_cell BK461.out 0).trans rfl; have hcz11_1 : w8.cell? ⟨gb461, 1, none⟩ = some (.slice none 0 0) := (blk_cell BK461.out 1).trans rfl; have hfz11_0 := blk_frozen BK461.out 0; have hfz11_1 := blk_frozen BK461.out 1; obtain ⟨Ao12, co12, eo12⟩ := Kd.R_slice HO453.out; subst eo12; obtain ⟨Ao13, co13, eo13⟩ := Kd.R_slice HO456.out; subst eo13; have hcz14_0 : w8.cell? ⟨gb462, 0, none⟩ = some (.slice none 0 0) := (blk_cell BK462.out 0).trans rfl; have hcz14_1 : w8.cell? ⟨gb462, 1, none⟩ = some (.slice none 0 0) := (blk_cell BK462.out 1).trans rfl; have hfz14_0 := blk_frozen BK462.out 0; have hfz14_1 := blk_frozen BK462.out 1; obtain ⟨Ao15, co15, eo15⟩ := Kd.R_slice HO459.out; subst eo15))
 (try simp only [Act.put, sA, sZ, sS])
 go_cut [28] (fun v28 wc => ∃ (kq : Nat) (x28_4 : Bool), v28 = .bool x28_4 ∧ Aside0 (impl_SolveTwo.j0 kq a2 x28_4 t448 t451 t454 t457 = some (r1, r2)) ∧ Aside0 (kq ≤ k) ∧ Aside0 (Kd.R Kd.bool 4 wc w.heap.size (fun k_ => some k_ ≠ ((.slice Ao12 t451.length co12) : Value).ownBlock ∧ some k_ ≠ ((.slice Ao13 t454.length co13) : Value).ownBlock ∧ some k_ ≠ ((.slice Ao15 t457.length co15) : Value).ownBlock) (.slice Ao9 t448.length co9) t448) ∧ Aside0 (Kd.R Kd.bool 4 wc w.heap.size (fun k_ => some k_ ≠ ((.slice Ao9 t448.length co9) : Value).ownBlock ∧ some k_ ≠ ((.slice Ao13 t454.length co13) : Value).ownBlock ∧ some k_ ≠ ((.slice Ao15 t457.length co15) : Value).ownBlock) (.slice Ao12 t451.length co12) t451) ∧ Aside0 (Kd.R Kd.bool 4 wc w.heap.size (fun k_ => some k_ ≠ ((.slice Ao9 t448.length co9) : Value).ownBlock ∧ some k_ ≠ ((.slice Ao12 t451.length co12) : Value).ownBlock ∧ some k_ ≠ ((.slice Ao15 t457.length co15) : Value).ownBlock) (.slice Ao13 t454.length co13) t454) ∧ Aside0 (Kd.R Kd.bool 4 wc w.heap.size (fun k_ => some k_ ≠ ((.slice Ao9 t448.length co9) : Value).ownBlock ∧ some k_ ≠ ((.slice Ao12 t451.length co12) : Value).ownBlock ∧ some k_ ≠ ((.slice Ao13 t454.length co13) : Value).ownBlock) (.slice Ao15 t457.length co15) t457) ∧ Aside0 (wc.heap[gb461]? = some (.cells #[(.slice Ao9 t448.length co9), (.slice Ao12 t451.length co12)] 52 (0, 0))) ∧ Aside0 (wc.heap[gb462]? = some (.cells #[(.slice Ao13 t454.length co13), (.slice Ao15 t457.length co15)] 52 (0, 0))) ∧ Aside0 (Below w.heap.size w wc))
 case first =>
  have H := HC5.out
  clear HC5
  by_cases c16 : t460 = true
  ·subst c16
   have H1 : ((impl_in.f a2 0 500).bind fun t463 => (impl_SolveTwo.j0 k a2 (!t463) t448 t451 t454 t457)) = some (r1, r2) := by rw [if_pos rfl] at H; exact H
   clear H
   have H := H1
   clear H1
   replace H := Option.bind_eq_some_iff.mp H
   obtain ⟨t463, A170, H⟩ := H
   replace H : (impl_SolveTwo.j0 k a2 (!t463) t448 t451 t454 t457) = some (r1, r2) := H
   have A17 := aM A170
   clear A170
   have H' := aM H
   clear H
   go_wp2_with (first | (go_at_call 50; (with_reducible refine (impl_in.calls a2 0 500 t463 _ A17.out).mono ?_); rintro e w' ⟨rfl, ⟨nd, rfl⟩⟩))
   go_meet
   case rel => exact ⟨_, (!t463), (by first | rfl | (simp; done) | (simp [*]; done) | (simp [Int.tmod_eq_emod_of_nonneg]; done)), H', ⟨by first | omega | exact Nat.le_refl _⟩, ⟨by (with_reducible repeat (first | apply rA | apply rN | apply rD)); exact Kd.R_mono (Kd.R_far (p := ⟨gb462, 1, none⟩) (Kd.R_far (p := ⟨gb462, 0, none⟩) (Kd.R_far (p := ⟨gb461, 1, none⟩) (Kd.R_far (p := ⟨gb461, 0, none⟩) (Kd.R_types (Kd.R_types HO450.out BK461.out (by decide)) BK462.out (by decide)) (fun _ hk => hk.1.2) (.slice Ao9 t448.length co9)) (fun _ hk => hk.1.2) (.slice Ao12 t451.length co12)) (fun _ hk => hk.2) (.slice Ao13 t454.length co13)) (fun _ hk => hk.2) (.slice Ao15 t457.length co15)) (fun _ hk => ⟨hk.1.1.1, ⟨hk.1.1.2.1, hk.1.1.2.2⟩⟩)⟩, ⟨by (with_reducible repeat (first | apply rA | apply rN | apply rD)); exact Kd.R_mono (Kd.R_far (p := ⟨gb462, 1, none⟩) (Kd.R_far (p := ⟨gb462, 0, none⟩) (Kd.R_far (p := ⟨gb461, 1, none⟩) (Kd.R_far (p := ⟨gb461, 0, none⟩) (Kd.R_types (Kd.R_types HO453.out BK461.out (by decide)) BK462.out (by decide)) (fun _ hk => hk.1.2) (.slice Ao9 t448.length co9)) (fun _ hk => hk.1.2) (.slice Ao12 t451.length co12)) (fun _ hk => hk.2) (.slice Ao13 t454.length co13)) (fun _ hk => hk.2) (.slice Ao15 t457.length co15)) (fun _ hk => ⟨hk.1.1.1, ⟨hk.1.1.2.1, hk.1.1.2.2⟩⟩)⟩, ⟨by (with_reducible repeat (first | apply rA | apply rN | apply rD)); exact Kd.R_mono (Kd.R_far (p := ⟨gb462, 1, none⟩) (Kd.R_far (p := ⟨gb462, 0, none⟩) (Kd.R_far (p := ⟨gb461, 1, none⟩) (Kd.R_far (p := ⟨gb461, 0, none⟩) (Kd.R_types (Kd.R_types HO456.out BK461.out (by decide)) BK462.out (by decide)) (fun _ hk => hk.1.2) (.slice Ao9 t448.length co9)) (fun _ hk => hk.1.2) (.slice Ao12 t451.length co12)) (fun _ hk => hk.2) (.slice Ao13 t454.length co13)) (fun _ hk => hk.2) (.slice Ao15 t457.length co15)) (fun _ hk => ⟨hk.1.1.1, ⟨hk.1.1.2.1, hk.1.1.2.2⟩⟩)⟩, ⟨by (with_reducible repeat (first | apply rA | apply rN | apply rD)); exact Kd.R_mono (Kd.R_far (p := ⟨gb462, 1, none⟩) (Kd.R_far (p := ⟨gb462, 0, none⟩) (Kd.R_far (p := ⟨gb461, 1, none⟩) (Kd.R_far (p := ⟨gb461, 0, none⟩) (Kd.R_types (Kd.R_types HO459.out BK461.out (by decide)) BK462.out (by decide)) (fun _ hk => hk.1.2) (.slice Ao9 t448.length co9)) (fun _ hk => hk.1.2) (.slice Ao12 t451.length co12)) (fun _ hk => hk.2) (.slice Ao13 t454.length co13)) (fun _ hk => hk.2) (.slice Ao15 t457.length co15)) (fun _ hk => ⟨hk.1.1.1, ⟨hk.1.1.2.1, hk.1.1.2.2⟩⟩)⟩, ⟨by (with_reducible repeat (first | refine kN ?_ _ | refine kD ?_ | refine kA ?_ _)); refine blk_far ?_ NB461_462.out _; (with_reducible repeat (first | refine kN ?_ _ | refine kD ?_ | refine kA ?_ _)); refine blk_far ?_ NB461_462.out _; (with_reducible repeat (first | refine kN ?_ _ | refine kD ?_ | refine kA ?_ _)); refine blk_put (cs := #[.slice Ao9 t448.length co9, .slice none 0 0]) ?_ 1 _ rfl; (with_reducible repeat (first | refine kN ?_ _ | refine kD ?_ | refine kA ?_ _)); refine blk_put (cs := #[.slice none 0 0, .slice none 0 0]) ?_ 0 _ rfl; (with_reducible repeat (first | refine kN ?_ _ | refine kD ?_ | refine kA ?_ _)); exact BK461.out⟩, ⟨by (with_reducible repeat (first | refine kN ?_ _ | refine kD ?_ | refine kA ?_ _)); refine blk_put (cs := #[.slice Ao13 t454.length co13, .slice none 0 0]) ?_ 1 _ rfl; (with_reducible repeat (first | refine kN ?_ _ | refine kD ?_ | refine kA ?_ _)); refine blk_put (cs := #[.slice none 0 0, .slice none 0 0]) ?_ 0 _ rfl; (with_reducible repeat (first | refine kN ?_ _ | refine kD ?_ | refine kA ?_ _)); refine blk_far ?_ NB462_461.out _; (with_reducible repeat (first | refine kN ?_ _ | refine kD ?_ | refine kA ?_ _)); refine blk_far ?_ NB462_461.out _; (with_reducible repeat (first | refine kN ?_ _ | refine kD ?_ | refine kA ?_ _)); exact BK462.out⟩, ⟨by repeat (first | (with_reducible first | exact HB.out | apply bA | apply bN | apply b1 | refine bS ?_ GE461.out | refine bS ?_ GE462.out) | exact HB.out)⟩⟩
  ·replace c16 := Bool.eq_false_iff.mpr c16
   subst c16
   have H1 : (impl_SolveTwo.j0 k a2 true t448 t451 t454 t457) = some (r1, r2) := by rw [if_neg (show ¬ (false = true) by decide)] at H; exact H
   clear H
   have H := H1
   clear H1
   have H' := aM H
   clear H
   go_wp2
   go_meet
   case rel => exact ⟨_, (true), (by first | rfl | (simp; done) | (simp [*]; done) | (simp [Int.tmod_eq_emod_of_nonneg]; done)), H', ⟨by first | omega | exact Nat.le_refl _⟩, ⟨by (with_reducible repeat (first | apply rA | apply rN | apply rD)); exact Kd.R_mono (Kd.R_far (p := ⟨gb462, 1, none⟩) (Kd.R_far (p := ⟨gb462, 0, none⟩) (Kd.R_far (p := ⟨gb461, 1, none⟩) (Kd.R_far (p := ⟨gb461, 0, none⟩) (Kd.R_types (Kd.R_types HO450.out BK461.out (by decide)) BK462.out (by decide)) (fun _ hk => hk.1.2) (.slice Ao9 t448.length co9)) (fun _ hk => hk.1.2) (.slice Ao12 t451.length co12)) (fun _ hk => hk.2) (.slice Ao13 t454.length co13)) (fun _ hk => hk.2) (.slice Ao15 t457.length co15)) (fun _ hk => ⟨hk.1.1.1, ⟨hk.1.1.2.1, hk.1.1.2.2⟩⟩)⟩, ⟨by (with_reducible repeat (first | apply rA | apply rN | apply rD)); exact Kd.R_mono (Kd.R_far (p := ⟨gb462, 1, none⟩) (Kd.R_far (p := ⟨gb462, 0, none⟩) (Kd.R_far (p := ⟨gb461, 1, none⟩) (Kd.R_far (p := ⟨gb461, 0, none⟩) (Kd.R_types (Kd.R_types HO453.out BK461.out (by decide)) BK462.out (by decide)) (fun _ hk => hk.1.2) (.slice Ao9 t448.length co9)) (fun _ hk => hk.1.2) (.slice Ao12 t451.length co12)) (fun _ hk => hk.2) (.slice Ao13 t454.length co13)) (fun _ hk => hk.2) (.slice Ao15 t457.length co15)) (fun _ hk => ⟨hk.1.1.1, ⟨hk.1.1.2.1, hk.1.1.2.2⟩⟩)⟩, ⟨by (with_reducible repeat (first | apply rA | apply rN | apply rD)); exact Kd.R_mono (Kd.R_far (p := ⟨gb462, 1, none⟩) (Kd.R_far (p := ⟨gb462, 0, none⟩) (Kd.R_far (p := ⟨gb461, 1, none⟩) (Kd.R_far (p := ⟨gb461, 0, none⟩) (Kd.R_types (Kd.R_types HO456.out BK461.out (by decide)) BK462.out (by decide)) (fun _ hk => hk.1.2) (.slice Ao9 t448.length co9)) (fun _ hk => hk.1.2) (.slice Ao12 t451.length co12)) (fun _ hk => hk.2) (.slice Ao13 t454.length co13)) (fun _ hk => hk.2) (.slice Ao15 t457.length co15)) (fun _ hk => ⟨hk.1.1.1, ⟨hk.1.1.2.1, hk.1.1.2.2⟩⟩)⟩, ⟨by (with_reducible repeat (first | apply rA | apply rN | apply rD)); exact Kd.R_mono (Kd.R_far (p := ⟨gb462, 1, none⟩) (Kd.R_far (p := ⟨gb462, 0, none⟩) (Kd.R_far (p := ⟨gb461, 1, none⟩) (Kd.R_far (p := ⟨gb461, 0, none⟩) (Kd.R_types (Kd.R_types HO459.out BK461.out (by decide)) BK462.out (by decide)) (fun _ hk => hk.1.2) (.slice Ao9 t448.length co9)) (fun _ hk => hk.1.2) (.slice Ao12 t451.length co12)) (fun _ hk => hk.2) (.slice Ao13 t454.length co13)) (fun _ hk => hk.2) (.slice Ao15 t457.length co15)) (fun _ hk => ⟨hk.1.1.1, ⟨hk.1.1.2.1, hk.1.1.2.2⟩⟩)⟩, ⟨by (with_reducible repeat (first | refine kN ?_ _ | refine kD ?_ | refine kA ?_ _)); refine blk_far ?_ NB461_462.out _; (with_reducible repeat (first | refine kN ?_ _ | refine kD ?_ | refine kA ?_ _)); refine blk_far ?_ NB461_462.out _; (with_reducible repeat (first | refine kN ?_ _ | refine kD ?_ | refine kA ?_ _)); refine blk_put (cs := #[.slice Ao9 t448.length co9, .slice none 0 0]) ?_ 1 _ rfl; (with_reducible repeat (first | refine kN ?_ _ | refine kD ?_ | refine kA ?_ _)); refine blk_put (cs := #[.slice none 0 0, .slice none 0 0]) ?_ 0 _ rfl; (with_reducible repeat (first | refine kN ?_ _ | refine kD ?_ | refine kA ?_ _)); exact BK461.out⟩, ⟨by (with_reducible repeat (first | refine kN ?_ _ | refine kD ?_ | refine kA ?_ _)); refine blk_put (cs := #[.slice Ao13 t454.length co13, .slice none 0 0]) ?_ 1 _ rfl; (with_reducible repeat (first | refine kN ?_ _ | refine kD ?_ | refine kA ?_ _)); refine blk_put (cs := #[.slice none 0 0, .slice none 0 0]) ?_ 0 _ rfl; (with_reducible repeat (first | refine kN ?_ _ | refine kD ?_ | refine kA ?_ _)); refine blk_far ?_ NB462_461.out _; (with_reducible repeat (first | refine kN ?_ _ | refine kD ?_ | refine kA ?_ _)); refine blk_far ?_ NB462_461.out _; (with_reducible repeat (first | refine kN ?_ _ | refine kD ?_ | refine kA ?_ _)); exact BK462.out⟩, ⟨by repeat (first | (with_reducible first | exact HB.out | apply bA | apply bN | apply b1 | refine bS ?_ GE461.out | refine bS ?_ GE462.out) | exact HB.out)⟩⟩
 case rest =>
  clear HC5
  try clear c1
  try clear p2
  try clear c4
  try clear c10
  try clear c16
  try clear c17
  try clear hcz11_0
  try clear hcz11_1
  try clear hcz14_0
  try clear hcz14_1
  try clear hfz11_0
  try clear hfz11_1
  try clear hfz14_0
  try clear hfz14_1
  obtain ⟨kq, x28_4, rfl, HA, HJ4, HO_462000, HO_462001, HO_463000, HO_463001, BK461, BK462, HB⟩ := hcut
  cases kq with
  | zero => exact absurd HA.out (by simp [impl_SolveTwo.j0])
  | succ kj4 =>
   have H := HA.out
   clear HA
   simp only [impl_SolveTwo.j0] at H
   by_cases c18 : x28_4 = true
   ·subst c18
    have H1 : (some (0, false)) = some (r1, r2) := by rw [if_pos rfl] at H; exact H
    clear H
    have H := H1
    clear H1
    simp only [Option.some.injEq, Prod.mk.injEq] at H
    obtain ⟨rfl, rfl⟩ := H
    go_wp2
    go_ret2
    exact ⟨by first | rfl | (simp [errW_none, errW_some] <;> rfl) | (simp [errW_none, errW_some]; exact ⟨rfl, rfl⟩) | (simp [errW_none, errW_some]; exact ⟨rfl, rfl, rfl⟩) | (simp [*, errW_none, errW_some] <;> rfl), by repeat (first | (with_reducible first | exact HB.out | apply bA | apply bN | apply b1 | refine bS ?_ GE461.out | refine bS ?_ GE462.out) | exact HB.out)⟩
   ·replace c18 := Bool.eq_false_iff.mpr c18
    subst c18
    have H1 : ((some (([false] : List Bool) : List Bool)).bind fun y464 => (if y464.length + t448.length < 140737488355328 then ((impl_solved.f kj4 (y464 ++ t448) t451 t454 t457 a2).bind fun t471 => (impl_SolveTwo.l0 kj4 0 t471 (t471.length : Int) 0)) else (none))) = some (r1, r2) := by rw [if_neg (show ¬ (false = true) by decide)] at H; exact H
    clear H
    have H := H1
    clear H1
    obtain ⟨y464, hy464⟩ : ∃ y_ : List Bool, y_ = (([false] : List Bool)) := ⟨_, rfl⟩
    replace H : (if y464.length + t448.length < 140737488355328 then ((impl_solved.f kj4 (y464 ++ t448) t451 t454 t457 a2).bind fun t471 => (impl_SolveTwo.l0 kj4 0 t471 (t471.length : Int) 0)) else (none)) = some (r1, r2) := by first | (rw [hy464]; with_reducible exact H) | (have H2_ := (Option.bind_some _ _).symm.trans H; rw [hy464]; with_reducible exact H2_) | (have H2_ := (Option.bind_some _ _).symm.trans H; with_reducible exact H2_) | with_reducible exact H | (rw [hy464]; exact H) | exact H
    have Ny464 := aM hy464
    clear hy464
    by_cases c19 : y464.length + t448.length < 140737488355328
    ·rw [if_pos c19] at H
     have LMc19 := aM c19
     clear c19
     obtain ⟨y467, hy467⟩ : ∃ y_ : List Bool, y_ = (y464 ++ t448) := ⟨_, rfl⟩
     replace H : ((impl_solved.f kj4 y467 t451 t454 t457 a2).bind fun t471 => (impl_SolveTwo.l0 kj4 0 t471 (t471.length : Int) 0)) = some (r1, r2) := by first | (rw [hy467]; with_reducible exact H) | (have H2_ := (Option.bind_some _ _).symm.trans H; rw [hy467]; with_reducible exact H2_) | (have H2_ := (Option.bind_some _ _).symm.trans H; with_reducible exact H2_) | with_reducible exact H | (rw [hy467]; exact H) | exact H
     have Ny467 := aM hy467
     clear hy467
     replace H := Option.bind_eq_some_iff.mp H
     obtain ⟨t471, A200, H⟩ := H
     replace H : (impl_SolveTwo.l0 kj4 0 t471 (t471.length : Int) 0) = some (r1, r2) := H
     have A20 := aM A200
     clear A200
     have H' := aM H
     clear H
     try go_wp2
     have n0_ := aM (rD HO_462000.out)
     have n1_ := aM (rD HO_462001.out)
     have n2_ := aM (rD HO_463000.out)
     have n3_ := aM (rD HO_463001.out)
     have n4_ := aM (kD BK461.out)
     have n5_ := aM (kD BK462.out)
     have n6_ := aM (b1 HB.out)
     clear HO_462000
     clear HO_462001
     clear HO_463000
     clear HO_463001
     clear BK461
     clear BK462
     clear HB
     have HO_462000 := n0_
     have HO_462001 := n1_
     have HO_463000 := n2_
     have HO_463001 := n3_
     have BK461 := n4_
     have BK462 := n5_
     have HB := n6_
     clear n0_ n1_ n2_ n3_ n4_ n5_ n6_
     refine start_ (n := 9) (S := fun w' => w'.cell? ⟨gb461, 0, none⟩ = some (.slice Ao9 t448.length co9) ∧ w'.cell? ⟨gb461, 1, none⟩ = some (.slice Ao12 t451.length co12)) (ds := []) #[false, false, false, false, false, false, false, false, false] (by kernel_rfl) rfl rfl ⟨(blk_cell BK461.out 0).trans rfl, (blk_cell BK461.out 1).trans rfl⟩ (fun hHeld => ?_); refine with_tabW impl_SolveTwo.tab4 impl_SolveTwo.bits4 (fun HT_ HW_ => ?_)
     generalize wc.drew = w21 at HO_462000 HO_462001 HO_463000 HO_463001 BK461 BK462 HB hHeld ⊢
     refine pure_ (i := 1) (N := some 30) (v := ?_) (a' := ?_) #[false, true, false, false, false, false, false, false, false] rfl rfl (any_of HT_.out (by kernel_rfl)) (fun _ _ _ h => h) (Or.inl ⟨by rfl, ?_⟩) ?_ ?_
     rotate_left
     ·intro w'
      go_simp
      with_reducible rfl
     rotate_left
     ·simp only [Act.put, sA, sZ, sS, i64_w, i32_w]
      rfl
     refine pure_ (i := 4) (N := some 33) (v := ?_) (a' := ?_) #[false, true, false, false, true, false, false, false, false] rfl rfl (any_of HT_.out (by kernel_rfl)) (fun _ _ _ h => h) (Or.inl ⟨by rfl, ?_⟩) ?_ ?_
     rotate_left
     ·intro w'
      go_simp
      with_reducible rfl
     rotate_left
     ·simp only [Act.put, sA, sZ, sS, i64_w, i32_w]
      rfl
     refine take_ (i := 2) (N := some 31) (v := ?_) (a' := ?_) #[false, true, true, false, true, false, false, false, false] rfl rfl (take_ofW HT_.out HW_.out (by kernel_rfl)) (fun _ _ _ h => h) (Or.inl ⟨by rfl, ?_⟩) hHeld ?_ ?_
     rotate_left
     ·rintro w' ⟨s0, s1⟩
      go_simp
      with_reducible rfl
     rotate_left
     ·simp only [Act.put, sA, sZ, sS, i64_w, i32_w]
      rfl
     refine take_ (i := 5) (N := some 34) (v := ?_) (a' := ?_) #[false, true, true, false, true, true, false, false, false] rfl rfl (take_ofW HT_.out HW_.out (by kernel_rfl)) (fun _ _ _ h => h) (Or.inl ⟨by rfl, ?_⟩) hHeld ?_ ?_
     rotate_left
     ·rintro w' ⟨s0, s1⟩
      go_simp
      with_reducible rfl
     rotate_left
     ·simp only [Act.put, sA, sZ, sS, i64_w, i32_w]
      rfl
     refine join_ (σ := Value × Value × Nat) 1 #[true, true, true, true, true, true, true, true, false] (fun s_ => [(29, s_.1), (32, s_.2.1), (11, .pointer (some ⟨s_.2.2, 0, none⟩)), (35, .agg #[s_.2.1, .slice Ao12 t451.length co12])]) (fun s_ w' => (w'.cell? ⟨gb461, 0, none⟩ = some (.slice Ao9 t448.length co9) ∧ w'.cell? ⟨gb461, 1, none⟩ = some (.slice Ao12 t451.length co12)) ∧ (Kd.R Kd.bool 4 w' w.heap.size (fun k_ => some k_ ≠ (.slice Ao9 t448.length co9 : Value).ownBlock ∧ some k_ ≠ (.slice Ao12 t451.length co12 : Value).ownBlock ∧ some k_ ≠ (.slice Ao13 t454.length co13 : Value).ownBlock ∧ some k_ ≠ (.slice Ao15 t457.length co15 : Value).ownBlock) s_.2.1 y467) ∧ (Kd.R Kd.bool 4 w' w.heap.size (fun k_ => some k_ ≠ (s_.2.1 : Value).ownBlock ∧ some k_ ≠ (.slice Ao12 t451.length co12 : Value).ownBlock ∧ some k_ ≠ (.slice Ao13 t454.length co13 : Value).ownBlock ∧ some k_ ≠ (.slice Ao15 t457.length co15 : Value).ownBlock) (.slice Ao9 t448.length co9) t448) ∧ (Kd.R Kd.bool 4 w' w.heap.size (fun k_ => some k_ ≠ (s_.2.1 : Value).ownBlock ∧ some k_ ≠ (.slice Ao9 t448.length co9 : Value).ownBlock ∧ some k_ ≠ (.slice Ao13 t454.length co13 : Value).ownBlock ∧ some k_ ≠ (.slice Ao15 t457.length co15 : Value).ownBlock) (.slice Ao12 t451.length co12) t451) ∧ (Kd.R Kd.bool 4 w' w.heap.size (fun k_ => some k_ ≠ (s_.2.1 : Value).ownBlock ∧ some k_ ≠ (.slice Ao9 t448.length co9 : Value).ownBlock ∧ some k_ ≠ (.slice Ao12 t451.length co12 : Value).ownBlock ∧ some k_ ≠ (.slice Ao15 t457.length co15 : Value).ownBlock) (.slice Ao13 t454.length co13) t454) ∧ (Kd.R Kd.bool 4 w' w.heap.size (fun k_ => some k_ ≠ (s_.2.1 : Value).ownBlock ∧ some k_ ≠ (.slice Ao9 t448.length co9 : Value).ownBlock ∧ some k_ ≠ (.slice Ao12 t451.length co12 : Value).ownBlock ∧ some k_ ≠ (.slice Ao13 t454.length co13 : Value).ownBlock) (.slice Ao15 t457.length co15) t457) ∧ (w'.heap[gb461]? = some (.cells #[.slice Ao9 t448.length co9, .slice Ao12 t451.length co12] 52 (0, 0))) ∧ (w'.heap[gb462]? = some (.cells #[.slice Ao13 t454.length co13, .slice Ao15 t457.length co15] 52 (0, 0))) ∧ (w'.heap[s_.2.2]? = some (.cells #[.slice none 0 0, .slice none 0 0] 52 (0, 0))) ∧ (w.heap.size ≤ s_.2.2) ∧ (w.heap.size ≤ s_.2.2) ∧ (gb461 ≠ s_.2.2) ∧ (s_.2.2 ≠ gb461) ∧ (gb462 ≠ s_.2.2) ∧ (s_.2.2 ≠ gb462) ∧ (Below w.heap.size w w')) ?_ ?_
     rotate_left
     ·intro hCont
      refine two_ (i := 0) (j := 7) (Ni := some 29) (Nj := some 11) #[true, true, true, false, true, true, false, false, false] #[false, true, true, false, true, true, false, true, false] rfl rfl rfl rfl (two_of HT_.out (by kernel_rfl)) (by decide) (by decide) (fun K hK => ?_) (fun K hK => ?_)
      ·skip
       refine Kd.R_lit_step Kd.bool _ 4 ?hg (N := 29) ?hd (xs := ([false] : List Bool)) (inner := [.bool false]) (ok := fun _ => True) (okp := fun _ => True) ?hr ?hp (fun _ hk => hk) trivial (Below.refl _ _) (Nat.le_refl _) (by simp) ?_; (case hd => rfl); (case hg => rfl); (case hr => first | (go_simp; done) | (go_simp; rfl)); (case hp => exact (Reps.one (show Kd.M Kd.bool _ _ _ false [.bool false] from rfl) (Reps.none _ _)))
       intro v465 w22 ho23 hb hg_ hnew_
       clear hg_ hnew_
       (first | rw [← Ny464.out] at ho23 | (simp only [Int.reduceToNat] at ho23; rw [← Ny464.out] at ho23))
       have n0_ := aM (Kd.R_elder' (by (with_reducible repeat (first | apply rA | apply rN | apply rD)); exact HO_462000.out) (Kd.R_base ho23) hb)
       have n1_ := aM (Kd.R_elder' (by (with_reducible repeat (first | apply rA | apply rN | apply rD)); exact HO_462001.out) (Kd.R_base ho23) hb)
       have n2_ := aM (Kd.R_elder' (by (with_reducible repeat (first | apply rA | apply rN | apply rD)); exact HO_463000.out) (Kd.R_base ho23) hb)
       have n3_ := aM (Kd.R_elder' (by (with_reducible repeat (first | apply rA | apply rN | apply rD)); exact HO_463001.out) (Kd.R_base ho23) hb)
       have n4_ := aM (Kd.R_lower (Kd.R_new' (Kd.R_new' (Kd.R_new' (Kd.R_new' ho23 (Kd.R_lt (by (with_reducible repeat (first | apply rA | apply rN | apply rD)); exact HO_462000.out))) (Kd.R_lt (by (with_reducible repeat (first | apply rA | apply rN | apply rD)); exact HO_462001.out))) (Kd.R_lt (by (with_reducible repeat (first | apply rA | apply rN | apply rD)); exact HO_463000.out))) (Kd.R_lt (by (with_reducible repeat (first | apply rA | apply rN | apply rD)); exact HO_463001.out))) (below_size (by repeat (first | (with_reducible first | exact HB.out | apply bA | apply bN | apply b1 | refine bS ?_ GE461.out | refine bS ?_ GE462.out) | exact HB.out))))
       have n5_ := aM (blk_below (g := gb461) (o := .cells #[.slice Ao9 t448.length co9, .slice Ao12 t451.length co12] 52 (0, 0)) (by (with_reducible repeat (first | refine kN ?_ _ | refine kD ?_ | refine kA ?_ _)); exact BK461.out) hb)
       have n6_ := aM (blk_below (g := gb462) (o := .cells #[.slice Ao13 t454.length co13, .slice Ao15 t457.length co15] 52 (0, 0)) (by (with_reducible repeat (first | refine kN ?_ _ | refine kD ?_ | refine kA ?_ _)); exact BK462.out) hb)
       have n7_ := aM (below_step (by repeat (first | (with_reducible first | exact HB.out | apply bA | apply bN | apply b1 | refine bS ?_ GE461.out | refine bS ?_ GE462.out) | exact HB.out)) hb)
       clear HO_462000
       clear HO_462001
       clear HO_463000
       clear HO_463001
       clear BK461
       clear BK462
       clear HB
       have HO_462000 := n0_
       have HO_462001 := n1_
       have HO_463000 := n2_
       have HO_463001 := n3_
       have HO466 := n4_
       have BK461 := n5_
       have BK462 := n6_
       have HB := n7_
       clear n0_ n1_ n2_ n3_ n4_ n5_ n6_ n7_
       clear hb ho23
       refine hK.out _ _ ⟨(blk_cell BK461.out 0).trans rfl, (blk_cell BK461.out 1).trans rfl⟩ (fun hHeld => ?_)
       clear hK K
       refine norm_ (a' := ?_) ?_ ?_
       rotate_left
       ·show Act.put _ (some 29) _ = _
        simp only [Act.put, sA, sZ, sS, i64_w, i32_w]
        rfl
       refine two_ (i := 3) (j := 7) (Ni := some 32) (Nj := some 11) #[true, true, true, true, true, true, false, false, false] #[true, true, true, false, true, true, false, true, false] rfl rfl rfl rfl (two_of HT_.out (by kernel_rfl)) (by decide) (by decide) (fun K hK => ?_) (fun K hK => ?_)
       ·skip
        refine Kd.R_append_rows_step Kd.bool (w0 := w) w.heap.size (by rfl) (.tmp 29) (.tmp 31) 45 4 (.bool false) 1 rfl Try.underlying45 info4 rfl (by decide) (by omega) v465 y464 t448 _ _ _ (fun k_ => some k_ ≠ (.slice Ao9 t448.length co9 : Value).ownBlock ∧ some k_ ≠ (.slice Ao12 t451.length co12 : Value).ownBlock ∧ some k_ ≠ (.slice Ao13 t454.length co13 : Value).ownBlock ∧ some k_ ≠ (.slice Ao15 t457.length co15 : Value).ownBlock) (fun _ => False) rfl rfl ?aO ?aR (fun _ _ h => h) (fun _ h => h.elim) ?aF ?aB ?aS ?aL ?_
        (case aR => repeat (first | exact (Kd.R_reads' HO_462000.out).2.2 | (with_reducible refine Kd.C_alloc ?_ _) | (with_reducible refine Kd.C_drewN ?_ _) | (with_reducible refine Kd.C_drew ?_)))
        (case aB => exact (by repeat (first | (with_reducible first | exact HB.out | apply bA | apply bN | apply b1 | refine bS ?_ GE461.out | refine bS ?_ GE462.out) | exact HB.out)))
        (case aF => exact (fun k_ hk => ⟨Kd.fresh' (Kd.R_lt (by (with_reducible repeat (first | apply rA | apply rN | apply rD)); exact HO_462000.out)) k_ hk, Kd.fresh' (Kd.R_lt (by (with_reducible repeat (first | apply rA | apply rN | apply rD)); exact HO_462001.out)) k_ hk, Kd.fresh' (Kd.R_lt (by (with_reducible repeat (first | apply rA | apply rN | apply rD)); exact HO_463000.out)) k_ hk, Kd.fresh' (Kd.R_lt (by (with_reducible repeat (first | apply rA | apply rN | apply rD)); exact HO_463001.out)) k_ hk⟩))
        (case aO => exact (by (with_reducible repeat (first | apply rA | apply rN | apply rD)); exact Kd.R_mono HO466.out (fun _ hk => ⟨hk.1.1.1.2, ⟨hk.1.1.2, ⟨hk.1.2, hk.2⟩⟩⟩)))
        (case aS => exact (below_size (by repeat (first | (with_reducible first | exact HB.out | apply bA | apply bN | apply b1 | refine bS ?_ GE461.out | refine bS ?_ GE462.out) | exact HB.out))))
        (case aL => have := LMc19.out; omega)
        intro v468 w24 ho hb hg hat
        rw [← Ny467.out] at ho
        have n0_ := aM (Kd.R_after (ok := (fun k_ => some k_ ≠ (.slice Ao12 t451.length co12 : Value).ownBlock ∧ some k_ ≠ (.slice Ao13 t454.length co13 : Value).ownBlock ∧ some k_ ≠ (.slice Ao15 t457.length co15 : Value).ownBlock)) (by (with_reducible repeat (first | apply rA | apply rN | apply rD)); exact HO_462000.out) hg hat)
        have n1_ := aM (Kd.R_after (ok := (fun k_ => some k_ ≠ (.slice Ao9 t448.length co9 : Value).ownBlock ∧ some k_ ≠ (.slice Ao13 t454.length co13 : Value).ownBlock ∧ some k_ ≠ (.slice Ao15 t457.length co15 : Value).ownBlock)) (by (with_reducible repeat (first | apply rA | apply rN | apply rD)); exact HO_462001.out) hg hat)
        have n2_ := aM (Kd.R_after (ok := (fun k_ => some k_ ≠ (.slice Ao9 t448.length co9 : Value).ownBlock ∧ some k_ ≠ (.slice Ao12 t451.length co12 : Value).ownBlock ∧ some k_ ≠ (.slice Ao15 t457.length co15 : Value).ownBlock)) (by (with_reducible repeat (first | apply rA | apply rN | apply rD)); exact HO_463000.out) hg hat)
        have n3_ := aM (Kd.R_after (ok := (fun k_ => some k_ ≠ (.slice Ao9 t448.length co9 : Value).ownBlock ∧ some k_ ≠ (.slice Ao12 t451.length co12 : Value).ownBlock ∧ some k_ ≠ (.slice Ao13 t454.length co13 : Value).ownBlock)) (by (with_reducible repeat (first | apply rA | apply rN | apply rD)); exact HO_463001.out) hg hat)
        have n4_ := aM (blk_grown (g := gb461) (o := .cells #[.slice Ao9 t448.length co9, .slice Ao12 t451.length co12] 52 (0, 0)) (by (with_reducible repeat (first | refine kN ?_ _ | refine kD ?_ | refine kA ?_ _)); exact BK461.out) hg (Kd.R_ne HO466.out BK461.out (by decide)))
        have n5_ := aM (blk_grown (g := gb462) (o := .cells #[.slice Ao13 t454.length co13, .slice Ao15 t457.length co15] 52 (0, 0)) (by (with_reducible repeat (first | refine kN ?_ _ | refine kD ?_ | refine kA ?_ _)); exact BK462.out) hg (Kd.R_ne HO466.out BK462.out (by decide)))
        have n6_ := aM (hb)
        have n7_ := aM (ho)
        clear HO_462000
        clear HO_462001
        clear HO_463000
        clear HO_463001
        clear BK461
        clear BK462
        clear HB
        clear HO466
        have HO_462000 := n0_
        have HO_462001 := n1_
        have HO_463000 := n2_
        have HO_463001 := n3_
        have BK461 := n4_
        have BK462 := n5_
        have HB := n6_
        have HO469 := n7_
        clear n0_ n1_ n2_ n3_ n4_ n5_ n6_ n7_
        clear ho hb hg hat
        obtain ⟨Ao25, co25, eo25⟩ := Kd.R_slice HO469.out
        (first | subst eo25 | (injection eo25 with f1_ f2_ f3_; have f4_ := f1_.symm; have f5_ := f3_.symm; clear f1_ f2_ f3_; subst f4_; subst f5_))
        refine hK.out _ _ ⟨(blk_cell BK461.out 0).trans rfl, (blk_cell BK461.out 1).trans rfl⟩ (fun hHeld => ?_)
        clear hK K
        refine norm_ (a' := ?_) ?_ ?_
        rotate_left
        ·show Act.put _ (some 32) _ = _
         simp only [Act.put, sA, sZ, sS, i64_w, i32_w]
         rfl
        refine pure_ (i := 6) (N := some 35) (v := ?_) (a' := ?_) #[true, true, true, true, true, true, true, false, false] rfl rfl (any_of HT_.out (by kernel_rfl)) (fun _ _ _ h => h) (Or.inl ⟨by rfl, ?_⟩) ?_ ?_
        rotate_left
        ·intro w'
         go_simp
         with_reducible rfl
        rotate_left
        ·simp only [Act.put, sA, sZ, sS, i64_w, i32_w]
         rfl
        refine one_ (i := 7) (N := some 11) #[true, true, true, true, true, true, true, true, false] rfl rfl (one_of HT_.out (by kernel_rfl)) (by decide) (fun K hK => ?_)
        refine box_step ?hg (N := 11) ?hd (cs := #[.slice none 0 0, .slice none 0 0]) (t := 52) ?hr ?_; (case hd => rfl); (case hg => rfl); (case hr => first | (go_simp; done) | (go_simp; rfl))
        intro gb470 hg w26 hbox hb
        have n0_ := aM (Kd.R_below (by (with_reducible repeat (first | apply rA | apply rN | apply rD)); exact HO_462000.out) hb)
        have n1_ := aM (Kd.R_below (by (with_reducible repeat (first | apply rA | apply rN | apply rD)); exact HO_462001.out) hb)
        have n2_ := aM (Kd.R_below (by (with_reducible repeat (first | apply rA | apply rN | apply rD)); exact HO_463000.out) hb)
        have n3_ := aM (Kd.R_below (by (with_reducible repeat (first | apply rA | apply rN | apply rD)); exact HO_463001.out) hb)
        have n4_ := aM (Kd.R_below (by (with_reducible repeat (first | apply rA | apply rN | apply rD)); exact HO469.out) hb)
        have n5_ := aM (blk_below (g := gb461) (o := .cells #[.slice Ao9 t448.length co9, .slice Ao12 t451.length co12] 52 (0, 0)) (by (with_reducible repeat (first | refine kN ?_ _ | refine kD ?_ | refine kA ?_ _)); exact BK461.out) hb)
        have n6_ := aM (blk_below (g := gb462) (o := .cells #[.slice Ao13 t454.length co13, .slice Ao15 t457.length co15] 52 (0, 0)) (by (with_reducible repeat (first | refine kN ?_ _ | refine kD ?_ | refine kA ?_ _)); exact BK462.out) hb)
        have n7_ := aM (below_step (by repeat (first | (with_reducible first | exact HB.out | apply bA | apply bN | apply b1 | refine bS ?_ GE461.out | refine bS ?_ GE462.out) | exact HB.out)) hb)
        have n8_ := aM (hbox)
        have n9_ := aM ((by rw [hg]; exact (below_size (by repeat (first | (with_reducible first | exact HB.out | apply bA | apply bN | apply b1 | refine bS ?_ GE461.out | refine bS ?_ GE462.out) | exact HB.out))) : w.heap.size ≤ gb470))
        have n10_ := aM ((by rw [hg]; exact (below_size (by repeat (first | (with_reducible first | exact HB.out | apply bA | apply bN | apply b1 | refine bS ?_ GE461.out | refine bS ?_ GE462.out) | exact HB.out))) : w.heap.size ≤ gb470))
        have n11_ := aM ((by rw [hg]; exact Nat.ne_of_lt (blk_lt (g := gb461) (o := .cells #[.slice Ao9 t448.length co9, .slice Ao12 t451.length co12] 52 (0, 0)) (by (with_reducible repeat (first | refine kN ?_ _ | refine kD ?_ | refine kA ?_ _)); exact BK461.out)) : gb461 ≠ gb470))
        have n12_ := aM ((by rw [hg]; exact Nat.ne_of_gt (blk_lt (g := gb461) (o := .cells #[.slice Ao9 t448.length co9, .slice Ao12 t451.length co12] 52 (0, 0)) (by (with_reducible repeat (first | refine kN ?_ _ | refine kD ?_ | refine kA ?_ _)); exact BK461.out)) : gb470 ≠ gb461))
        have n13_ := aM ((by rw [hg]; exact Nat.ne_of_lt (blk_lt (g := gb462) (o := .cells #[.slice Ao13 t454.length co13, .slice Ao15 t457.length co15] 52 (0, 0)) (by (with_reducible repeat (first | refine kN ?_ _ | refine kD ?_ | refine kA ?_ _)); exact BK462.out)) : gb462 ≠ gb470))
        have n14_ := aM ((by rw [hg]; exact Nat.ne_of_gt (blk_lt (g := gb462) (o := .cells #[.slice Ao13 t454.length co13, .slice Ao15 t457.length co15] 52 (0, 0)) (by (with_reducible repeat (first | refine kN ?_ _ | refine kD ?_ | refine kA ?_ _)); exact BK462.out)) : gb470 ≠ gb462))
        clear HO_462000
        clear HO_462001
        clear HO_463000
        clear HO_463001
        clear HO469
        clear BK461
        clear BK462
        clear HB
        have HO_462000 := n0_
        have HO_462001 := n1_
        have HO_463000 := n2_
        have HO_463001 := n3_
        have HO469 := n4_
        have BK461 := n5_
        have BK462 := n6_
        have HB := n7_
        have BK470 := n8_
        have GW470 := n9_
        have GE470 := n10_
        have NB461_470 := n11_
        have NB470_461 := n12_
        have NB462_470 := n13_
        have NB470_462 := n14_
        clear n0_ n1_ n2_ n3_ n4_ n5_ n6_ n7_ n8_ n9_ n10_ n11_ n12_ n13_ n14_
        clear hb hbox hg
        refine hK.out _ _ ⟨(blk_cell BK461.out 0).trans rfl, (blk_cell BK461.out 1).trans rfl⟩ (fun hHeld => ?_)
        clear hK K
        refine norm_ (a' := ?_) ?_ ?_
        rotate_left
        ·show Act.put _ (some 11) _ = _
         simp only [Act.put, sA, sZ, sS, i64_w, i32_w]
         rfl
        exact norm_ (by simp only [putAll, Act.put, sA, sZ, sS]) (hCont (v465, .slice Ao25 y467.length co25, gb470) _ ⟨hHeld, (by (with_reducible repeat (first | apply rA | apply rN | apply rD)); exact HO469.out), (by (with_reducible repeat (first | apply rA | apply rN | apply rD)); exact Kd.R_mono HO_462000.out (fun _ hk => ⟨hk.2, ⟨hk.1.1, ⟨hk.1.2.1, hk.1.2.2⟩⟩⟩)), (by (with_reducible repeat (first | apply rA | apply rN | apply rD)); exact Kd.R_mono HO_462001.out (fun _ hk => ⟨hk.2, ⟨hk.1.1, ⟨hk.1.2.1, hk.1.2.2⟩⟩⟩)), (by (with_reducible repeat (first | apply rA | apply rN | apply rD)); exact Kd.R_mono HO_463000.out (fun _ hk => ⟨hk.2, ⟨hk.1.1, ⟨hk.1.2.1, hk.1.2.2⟩⟩⟩)), (by (with_reducible repeat (first | apply rA | apply rN | apply rD)); exact Kd.R_mono HO_463001.out (fun _ hk => ⟨hk.2, ⟨hk.1.1, ⟨hk.1.2.1, hk.1.2.2⟩⟩⟩)), (by (with_reducible repeat (first | refine kN ?_ _ | refine kD ?_ | refine kA ?_ _)); exact BK461.out), (by (with_reducible repeat (first | refine kN ?_ _ | refine kD ?_ | refine kA ?_ _)); exact BK462.out), (by (with_reducible repeat (first | refine kN ?_ _ | refine kD ?_ | refine kA ?_ _)); exact BK470.out), GW470.out, GE470.out, NB461_470.out, NB470_461.out, NB462_470.out, NB470_462.out, (by repeat (first | (with_reducible first | exact HB.out | apply bA | apply bN | apply b1 | refine bS ?_ GE461.out | refine bS ?_ GE462.out | refine bS ?_ GE470.out) | exact HB.out))⟩)
       ·skip
        refine box_step ?hg (N := 11) ?hd (cs := #[.slice none 0 0, .slice none 0 0]) (t := 52) ?hr ?_; (case hd => rfl); (case hg => rfl); (case hr => first | (go_simp; done) | (go_simp; rfl))
        intro gb470 hg w24 hbox hb
        have n0_ := aM (Kd.R_below (by (with_reducible repeat (first | apply rA | apply rN | apply rD)); exact HO_462000.out) hb)
        have n1_ := aM (Kd.R_below (by (with_reducible repeat (first | apply rA | apply rN | apply rD)); exact HO_462001.out) hb)
        have n2_ := aM (Kd.R_below (by (with_reducible repeat (first | apply rA | apply rN | apply rD)); exact HO_463000.out) hb)
        have n3_ := aM (Kd.R_below (by (with_reducible repeat (first | apply rA | apply rN | apply rD)); exact HO_463001.out) hb)
        have n4_ := aM (Kd.R_below (by (with_reducible repeat (first | apply rA | apply rN | apply rD)); exact HO466.out) hb)
        have n5_ := aM (blk_below (g := gb461) (o := .cells #[.slice Ao9 t448.length co9, .slice Ao12 t451.length co12] 52 (0, 0)) (by (with_reducible repeat (first | refine kN ?_ _ | refine kD ?_ | refine kA ?_ _)); exact BK461.out) hb)
        have n6_ := aM (blk_below (g := gb462) (o := .cells #[.slice Ao13 t454.length co13, .slice Ao15 t457.length co15] 52 (0, 0)) (by (with_reducible repeat (first | refine kN ?_ _ | refine kD ?_ | refine kA ?_ _)); exact BK462.out) hb)
        have n7_ := aM (below_step (by repeat (first | (with_reducible first | exact HB.out | apply bA | apply bN | apply b1 | refine bS ?_ GE461.out | refine bS ?_ GE462.out) | exact HB.out)) hb)
        have n8_ := aM (hbox)
        have n9_ := aM ((by rw [hg]; exact (below_size (by repeat (first | (with_reducible first | exact HB.out | apply bA | apply bN | apply b1 | refine bS ?_ GE461.out | refine bS ?_ GE462.out) | exact HB.out))) : w.heap.size ≤ gb470))
        have n10_ := aM ((by rw [hg]; exact (below_size (by repeat (first | (with_reducible first | exact HB.out | apply bA | apply bN | apply b1 | refine bS ?_ GE461.out | refine bS ?_ GE462.out) | exact HB.out))) : w.heap.size ≤ gb470))
        have n11_ := aM ((by rw [hg]; exact Nat.ne_of_lt (blk_lt (g := gb461) (o := .cells #[.slice Ao9 t448.length co9, .slice Ao12 t451.length co12] 52 (0, 0)) (by (with_reducible repeat (first | refine kN ?_ _ | refine kD ?_ | refine kA ?_ _)); exact BK461.out)) : gb461 ≠ gb470))
        have n12_ := aM ((by rw [hg]; exact Nat.ne_of_gt (blk_lt (g := gb461) (o := .cells #[.slice Ao9 t448.length co9, .slice Ao12 t451.length co12] 52 (0, 0)) (by (with_reducible repeat (first | refine kN ?_ _ | refine kD ?_ | refine kA ?_ _)); exact BK461.out)) : gb470 ≠ gb461))
        have n13_ := aM ((by rw [hg]; exact Nat.ne_of_lt (blk_lt (g := gb462) (o := .cells #[.slice Ao13 t454.length co13, .slice Ao15 t457.length co15] 52 (0, 0)) (by (with_reducible repeat (first | refine kN ?_ _ | refine kD ?_ | refine kA ?_ _)); exact BK462.out)) : gb462 ≠ gb470))
        have n14_ := aM ((by rw [hg]; exact Nat.ne_of_gt (blk_lt (g := gb462) (o := .cells #[.slice Ao13 t454.length co13, .slice Ao15 t457.length co15] 52 (0, 0)) (by (with_reducible repeat (first | refine kN ?_ _ | refine kD ?_ | refine kA ?_ _)); exact BK462.out)) : gb470 ≠ gb462))
        clear HO_462000
        clear HO_462001
        clear HO_463000
        clear HO_463001
        clear HO466
        clear BK461
        clear BK462
        clear HB
        have HO_462000 := n0_
        have HO_462001 := n1_
        have HO_463000 := n2_
        have HO_463001 := n3_
        have HO466 := n4_
        have BK461 := n5_
        have BK462 := n6_
        have HB := n7_
        have BK470 := n8_
        have GW470 := n9_
        have GE470 := n10_
        have NB461_470 := n11_
        have NB470_461 := n12_
        have NB462_470 := n13_
        have NB470_462 := n14_
        clear n0_ n1_ n2_ n3_ n4_ n5_ n6_ n7_ n8_ n9_ n10_ n11_ n12_ n13_ n14_
        clear hb hbox hg
        refine hK.out _ _ ⟨(blk_cell BK461.out 0).trans rfl, (blk_cell BK461.out 1).trans rfl⟩ (fun hHeld => ?_)
        clear hK K
        refine norm_ (a' := ?_) ?_ ?_
        rotate_left
        ·show Act.put _ (some 11) _ = _
         simp only [Act.put, sA, sZ, sS, i64_w, i32_w]
         rfl
        refine one_ (i := 3) (N := some 32) #[true, true, true, true, true, true, false, true, false] rfl rfl (one_of HT_.out (by kernel_rfl)) (by decide) (fun K hK => ?_)
        refine Kd.R_append_rows_step Kd.bool (w0 := w) w.heap.size (by rfl) (.tmp 29) (.tmp 31) 45 4 (.bool false) 1 rfl Try.underlying45 info4 rfl (by decide) (by omega) v465 y464 t448 _ _ _ (fun k_ => some k_ ≠ (.slice Ao9 t448.length co9 : Value).ownBlock ∧ some k_ ≠ (.slice Ao12 t451.length co12 : Value).ownBlock ∧ some k_ ≠ (.slice Ao13 t454.length co13 : Value).ownBlock ∧ some k_ ≠ (.slice Ao15 t457.length co15 : Value).ownBlock) (fun _ => False) rfl rfl ?aO ?aR (fun _ _ h => h) (fun _ h => h.elim) ?aF ?aB ?aS ?aL ?_
        (case aR => repeat (first | exact (Kd.R_reads' HO_462000.out).2.2 | (with_reducible refine Kd.C_alloc ?_ _) | (with_reducible refine Kd.C_drewN ?_ _) | (with_reducible refine Kd.C_drew ?_)))
        (case aB => exact (by repeat (first | (with_reducible first | exact HB.out | apply bA | apply bN | apply b1 | refine bS ?_ GE461.out | refine bS ?_ GE462.out | refine bS ?_ GE470.out) | exact HB.out)))
        (case aF => exact (fun k_ hk => ⟨Kd.fresh' (Kd.R_lt (by (with_reducible repeat (first | apply rA | apply rN | apply rD)); exact HO_462000.out)) k_ hk, Kd.fresh' (Kd.R_lt (by (with_reducible repeat (first | apply rA | apply rN | apply rD)); exact HO_462001.out)) k_ hk, Kd.fresh' (Kd.R_lt (by (with_reducible repeat (first | apply rA | apply rN | apply rD)); exact HO_463000.out)) k_ hk, Kd.fresh' (Kd.R_lt (by (with_reducible repeat (first | apply rA | apply rN | apply rD)); exact HO_463001.out)) k_ hk⟩))
        (case aO => exact (by (with_reducible repeat (first | apply rA | apply rN | apply rD)); exact Kd.R_mono HO466.out (fun _ hk => ⟨hk.1.1.1.2, ⟨hk.1.1.2, ⟨hk.1.2, hk.2⟩⟩⟩)))
        (case aS => exact (below_size (by repeat (first | (with_reducible first | exact HB.out | apply bA | apply bN | apply b1 | refine bS ?_ GE461.out | refine bS ?_ GE462.out | refine bS ?_ GE470.out) | exact HB.out))))
        (case aL => have := LMc19.out; omega)
        intro v468 w25 ho hb hg hat
        rw [← Ny467.out] at ho
        have n0_ := aM (Kd.R_after (ok := (fun k_ => some k_ ≠ (.slice Ao12 t451.length co12 : Value).ownBlock ∧ some k_ ≠ (.slice Ao13 t454.length co13 : Value).ownBlock ∧ some k_ ≠ (.slice Ao15 t457.length co15 : Value).ownBlock)) (by (with_reducible repeat (first | apply rA | apply rN | apply rD)); exact HO_462000.out) hg hat)
        have n1_ := aM (Kd.R_after (ok := (fun k_ => some k_ ≠ (.slice Ao9 t448.length co9 : Value).ownBlock ∧ some k_ ≠ (.slice Ao13 t454.length co13 : Value).ownBlock ∧ some k_ ≠ (.slice Ao15 t457.length co15 : Value).ownBlock)) (by (with_reducible repeat (first | apply rA | apply rN | apply rD)); exact HO_462001.out) hg hat)
        have n2_ := aM (Kd.R_after (ok := (fun k_ => some k_ ≠ (.slice Ao9 t448.length co9 : Value).ownBlock ∧ some k_ ≠ (.slice Ao12 t451.length co12 : Value).ownBlock ∧ some k_ ≠ (.slice Ao15 t457.length co15 : Value).ownBlock)) (by (with_reducible repeat (first | apply rA | apply rN | apply rD)); exact HO_463000.out) hg hat)
        have n3_ := aM (Kd.R_after (ok := (fun k_ => some k_ ≠ (.slice Ao9 t448.length co9 : Value).ownBlock ∧ some k_ ≠ (.slice Ao12 t451.length co12 : Value).ownBlock ∧ some k_ ≠ (.slice Ao13 t454.length co13 : Value).ownBlock)) (by (with_reducible repeat (first | apply rA | apply rN | apply rD)); exact HO_463001.out) hg hat)
        have n4_ := aM (blk_grown (g := gb461) (o := .cells #[.slice Ao9 t448.length co9, .slice Ao12 t451.length co12] 52 (0, 0)) (by (with_reducible repeat (first | refine kN ?_ _ | refine kD ?_ | refine kA ?_ _)); exact BK461.out) hg (Kd.R_ne HO466.out BK461.out (by decide)))
        have n5_ := aM (blk_grown (g := gb462) (o := .cells #[.slice Ao13 t454.length co13, .slice Ao15 t457.length co15] 52 (0, 0)) (by (with_reducible repeat (first | refine kN ?_ _ | refine kD ?_ | refine kA ?_ _)); exact BK462.out) hg (Kd.R_ne HO466.out BK462.out (by decide)))
        have n6_ := aM (blk_grown (g := gb470) (o := .cells #[.slice none 0 0, .slice none 0 0] 52 (0, 0)) (by (with_reducible repeat (first | refine kN ?_ _ | refine kD ?_ | refine kA ?_ _)); exact BK470.out) hg (Kd.R_ne HO466.out BK470.out (by decide)))
        have n7_ := aM (hb)
        have n8_ := aM (ho)
        clear HO_462000
        clear HO_462001
        clear HO_463000
        clear HO_463001
        clear BK461
        clear BK462
        clear BK470
        clear HB
        clear HO466
        have HO_462000 := n0_
        have HO_462001 := n1_
        have HO_463000 := n2_
        have HO_463001 := n3_
        have BK461 := n4_
        have BK462 := n5_
        have BK470 := n6_
        have HB := n7_
        have HO469 := n8_
        clear n0_ n1_ n2_ n3_ n4_ n5_ n6_ n7_ n8_
        clear ho hb hg hat
        obtain ⟨Ao26, co26, eo26⟩ := Kd.R_slice HO469.out
        (first | subst eo26 | (injection eo26 with f1_ f2_ f3_; have f4_ := f1_.symm; have f5_ := f3_.symm; clear f1_ f2_ f3_; subst f4_; subst f5_))
        refine hK.out _ _ ⟨(blk_cell BK461.out 0).trans rfl, (blk_cell BK461.out 1).trans rfl⟩ (fun hHeld => ?_)
        clear hK K
        refine norm_ (a' := ?_) ?_ ?_
        rotate_left
        ·show Act.put _ (some 32) _ = _
         simp only [Act.put, sA, sZ, sS, i64_w, i32_w]
         rfl
        refine pure_ (i := 6) (N := some 35) (v := ?_) (a' := ?_) #[true, true, true, true, true, true, true, true, false] rfl rfl (any_of HT_.out (by kernel_rfl)) (fun _ _ _ h => h) (Or.inl ⟨by rfl, ?_⟩) ?_ ?_
        rotate_left
        ·intro w'
         go_simp
         with_reducible rfl
        rotate_left
        ·simp only [Act.put, sA, sZ, sS, i64_w, i32_w]
         rfl
        exact norm_ (by simp only [putAll, Act.put, sA, sZ, sS]) (hCont (v465, .slice Ao26 y467.length co26, gb470) _ ⟨hHeld, (by (with_reducible repeat (first | apply rA | apply rN | apply rD)); exact HO469.out), (by (with_reducible repeat (first | apply rA | apply rN | apply rD)); exact Kd.R_mono HO_462000.out (fun _ hk => ⟨hk.2, ⟨hk.1.1, ⟨hk.1.2.1, hk.1.2.2⟩⟩⟩)), (by (with_reducible repeat (first | apply rA | apply rN | apply rD)); exact Kd.R_mono HO_462001.out (fun _ hk => ⟨hk.2, ⟨hk.1.1, ⟨hk.1.2.1, hk.1.2.2⟩⟩⟩)), (by (with_reducible repeat (first | apply rA | apply rN | apply rD)); exact Kd.R_mono HO_463000.out (fun _ hk => ⟨hk.2, ⟨hk.1.1, ⟨hk.1.2.1, hk.1.2.2⟩⟩⟩)), (by (with_reducible repeat (first | apply rA | apply rN | apply rD)); exact Kd.R_mono HO_463001.out (fun _ hk => ⟨hk.2, ⟨hk.1.1, ⟨hk.1.2.1, hk.1.2.2⟩⟩⟩)), (by (with_reducible repeat (first | refine kN ?_ _ | refine kD ?_ | refine kA ?_ _)); exact BK461.out), (by (with_reducible repeat (first | refine kN ?_ _ | refine kD ?_ | refine kA ?_ _)); exact BK462.out), (by (with_reducible repeat (first | refine kN ?_ _ | refine kD ?_ | refine kA ?_ _)); exact BK470.out), GW470.out, GE470.out, NB461_470.out, NB470_461.out, NB462_470.out, NB470_462.out, (by repeat (first | (with_reducible first | exact HB.out | apply bA | apply bN | apply b1 | refine bS ?_ GE461.out | refine bS ?_ GE462.out | refine bS ?_ GE470.out) | exact HB.out))⟩)
      ·skip
       refine box_step ?hg (N := 11) ?hd (cs := #[.slice none 0 0, .slice none 0 0]) (t := 52) ?hr ?_; (case hd => rfl); (case hg => rfl); (case hr => first | (go_simp; done) | (go_simp; rfl))
       intro gb470 hg w22 hbox hb
       have n0_ := aM (Kd.R_below (by (with_reducible repeat (first | apply rA | apply rN | apply rD)); exact HO_462000.out) hb)
       have n1_ := aM (Kd.R_below (by (with_reducible repeat (first | apply rA | apply rN | apply rD)); exact HO_462001.out) hb)
       have n2_ := aM (Kd.R_below (by (with_reducible repeat (first | apply rA | apply rN | apply rD)); exact HO_463000.out) hb)
       have n3_ := aM (Kd.R_below (by (with_reducible repeat (first | apply rA | apply rN | apply rD)); exact HO_463001.out) hb)
       have n4_ := aM (blk_below (g := gb461) (o := .cells #[.slice Ao9 t448.length co9, .slice Ao12 t451.length co12] 52 (0, 0)) (by (with_reducible repeat (first | refine kN ?_ _ | refine kD ?_ | refine kA ?_ _)); exact BK461.out) hb)
       have n5_ := aM (blk_below (g := gb462) (o := .cells #[.slice Ao13 t454.length co13, .slice Ao15 t457.length co15] 52 (0, 0)) (by (with_reducible repeat (first | refine kN ?_ _ | refine kD ?_ | refine kA ?_ _)); exact BK462.out) hb)
       have n6_ := aM (below_step (by repeat (first | (with_reducible first | exact HB.out | apply bA | apply bN | apply b1 | refine bS ?_ GE461.out | refine bS ?_ GE462.out) | exact HB.out)) hb)
       have n7_ := aM (hbox)
       have n8_ := aM ((by rw [hg]; exact (below_size (by repeat (first | (with_reducible first | exact HB.out | apply bA | apply bN | apply b1 | refine bS ?_ GE461.out | refine bS ?_ GE462.out) | exact HB.out))) : w.heap.size ≤ gb470))
       have n9_ := aM ((by rw [hg]; exact (below_size (by repeat (first | (with_reducible first | exact HB.out | apply bA | apply bN | apply b1 | refine bS ?_ GE461.out | refine bS ?_ GE462.out) | exact HB.out))) : w.heap.size ≤ gb470))
       have n10_ := aM ((by rw [hg]; exact Nat.ne_of_lt (blk_lt (g := gb461) (o := .cells #[.slice Ao9 t448.length co9, .slice Ao12 t451.length co12] 52 (0, 0)) (by (with_reducible repeat (first | refine kN ?_ _ | refine kD ?_ | refine kA ?_ _)); exact BK461.out)) : gb461 ≠ gb470))
       have n11_ := aM ((by rw [hg]; exact Nat.ne_of_gt (blk_lt (g := gb461) (o := .cells #[.slice Ao9 t448.length co9, .slice Ao12 t451.length co12] 52 (0, 0)) (by (with_reducible repeat (first | refine kN ?_ _ | refine kD ?_ | refine kA ?_ _)); exact BK461.out)) : gb470 ≠ gb461))
       have n12_ := aM ((by rw [hg]; exact Nat.ne_of_lt (blk_lt (g := gb462) (o := .cells #[.slice Ao13 t454.length co13, .slice Ao15 t457.length co15] 52 (0, 0)) (by (with_reducible repeat (first | refine kN ?_ _ | refine kD ?_ | refine kA ?_ _)); exact BK462.out)) : gb462 ≠ gb470))
       have n13_ := aM ((by rw [hg]; exact Nat.ne_of_gt (blk_lt (g := gb462) (o := .cells #[.slice Ao13 t454.length co13, .slice Ao15 t457.length co15] 52 (0, 0)) (by (with_reducible repeat (first | refine kN ?_ _ | refine kD ?_ | refine kA ?_ _)); exact BK462.out)) : gb470 ≠ gb462))
       clear HO_462000
       clear HO_462001
       clear HO_463000
       clear HO_463001
       clear BK461
       clear BK462
       clear HB
       have HO_462000 := n0_
       have HO_462001 := n1_
       have HO_463000 := n2_
       have HO_463001 := n3_
       have BK461 := n4_
       have BK462 := n5_
       have HB := n6_
       have BK470 := n7_
       have GW470 := n8_
       have GE470 := n9_
       have NB461_470 := n10_
       have NB470_461 := n11_
       have NB462_470 := n12_
       have NB470_462 := n13_
       clear n0_ n1_ n2_ n3_ n4_ n5_ n6_ n7_ n8_ n9_ n10_ n11_ n12_ n13_
       clear hb hbox hg
       refine hK.out _ _ ⟨(blk_cell BK461.out 0).trans rfl, (blk_cell BK461.out 1).trans rfl⟩ (fun hHeld => ?_)
       clear hK K
       refine norm_ (a' := ?_) ?_ ?_
       rotate_left
       ·show Act.put _ (some 11) _ = _
        simp only [Act.put, sA, sZ, sS, i64_w, i32_w]
        rfl
       refine one_ (i := 0) (N := some 29) #[true, true, true, false, true, true, false, true, false] rfl rfl (one_of HT_.out (by kernel_rfl)) (by decide) (fun K hK => ?_)
       refine Kd.R_lit_step Kd.bool _ 4 ?hg (N := 29) ?hd (xs := ([false] : List Bool)) (inner := [.bool false]) (ok := fun _ => True) (okp := fun _ => True) ?hr ?hp (fun _ hk => hk) trivial (Below.refl _ _) (Nat.le_refl _) (by simp) ?_; (case hd => rfl); (case hg => rfl); (case hr => first | (go_simp; done) | (go_simp; rfl)); (case hp => exact (Reps.one (show Kd.M Kd.bool _ _ _ false [.bool false] from rfl) (Reps.none _ _)))
       intro v465 w23 ho24 hb hg_ hnew_
       clear hg_ hnew_
       (first | rw [← Ny464.out] at ho24 | (simp only [Int.reduceToNat] at ho24; rw [← Ny464.out] at ho24))
       have n0_ := aM (Kd.R_elder' (by (with_reducible repeat (first | apply rA | apply rN | apply rD)); exact HO_462000.out) (Kd.R_base ho24) hb)
       have n1_ := aM (Kd.R_elder' (by (with_reducible repeat (first | apply rA | apply rN | apply rD)); exact HO_462001.out) (Kd.R_base ho24) hb)
       have n2_ := aM (Kd.R_elder' (by (with_reducible repeat (first | apply rA | apply rN | apply rD)); exact HO_463000.out) (Kd.R_base ho24) hb)
       have n3_ := aM (Kd.R_elder' (by (with_reducible repeat (first | apply rA | apply rN | apply rD)); exact HO_463001.out) (Kd.R_base ho24) hb)
       have n4_ := aM (Kd.R_lower (Kd.R_new' (Kd.R_new' (Kd.R_new' (Kd.R_new' ho24 (Kd.R_lt (by (with_reducible repeat (first | apply rA | apply rN | apply rD)); exact HO_462000.out))) (Kd.R_lt (by (with_reducible repeat (first | apply rA | apply rN | apply rD)); exact HO_462001.out))) (Kd.R_lt (by (with_reducible repeat (first | apply rA | apply rN | apply rD)); exact HO_463000.out))) (Kd.R_lt (by (with_reducible repeat (first | apply rA | apply rN | apply rD)); exact HO_463001.out))) (below_size (by repeat (first | (with_reducible first | exact HB.out | apply bA | apply bN | apply b1 | refine bS ?_ GE461.out | refine bS ?_ GE462.out | refine bS ?_ GE470.out) | exact HB.out))))
       have n5_ := aM (blk_below (g := gb461) (o := .cells #[.slice Ao9 t448.length co9, .slice Ao12 t451.length co12] 52 (0, 0)) (by (with_reducible repeat (first | refine kN ?_ _ | refine kD ?_ | refine kA ?_ _)); exact BK461.out) hb)
       have n6_ := aM (blk_below (g := gb462) (o := .cells #[.slice Ao13 t454.length co13, .slice Ao15 t457.length co15] 52 (0, 0)) (by (with_reducible repeat (first | refine kN ?_ _ | refine kD ?_ | refine kA ?_ _)); exact BK462.out) hb)
       have n7_ := aM (blk_below (g := gb470) (o := .cells #[.slice none 0 0, .slice none 0 0] 52 (0, 0)) (by (with_reducible repeat (first | refine kN ?_ _ | refine kD ?_ | refine kA ?_ _)); exact BK470.out) hb)
       have n8_ := aM (below_step (by repeat (first | (with_reducible first | exact HB.out | apply bA | apply bN | apply b1 | refine bS ?_ GE461.out | refine bS ?_ GE462.out | refine bS ?_ GE470.out) | exact HB.out)) hb)
       clear HO_462000
       clear HO_462001
       clear HO_463000
       clear HO_463001
       clear BK461
       clear BK462
       clear BK470
       clear HB
       have HO_462000 := n0_
       have HO_462001 := n1_
       have HO_463000 := n2_
       have HO_463001 := n3_
       have HO466 := n4_
       have BK461 := n5_
       have BK462 := n6_
       have BK470 := n7_
       have HB := n8_
       clear n0_ n1_ n2_ n3_ n4_ n5_ n6_ n7_ n8_
       clear hb ho24
       refine hK.out _ _ ⟨(blk_cell BK461.out 0).trans rfl, (blk_cell BK461.out 1).trans rfl⟩ (fun hHeld => ?_)
       clear hK K
       refine norm_ (a' := ?_) ?_ ?_
       rotate_left
       ·show Act.put _ (some 29) _ = _
        simp only [Act.put, sA, sZ, sS, i64_w, i32_w]
        rfl
       refine one_ (i := 3) (N := some 32) #[true, true, true, true, true, true, false, true, false] rfl rfl (one_of HT_.out (by kernel_rfl)) (by decide) (fun K hK => ?_)
       refine Kd.R_append_rows_step Kd.bool (w0 := w) w.heap.size (by rfl) (.tmp 29) (.tmp 31) 45 4 (.bool false) 1 rfl Try.underlying45 info4 rfl (by decide) (by omega) v465 y464 t448 _ _ _ (fun k_ => some k_ ≠ (.slice Ao9 t448.length co9 : Value).ownBlock ∧ some k_ ≠ (.slice Ao12 t451.length co12 : Value).ownBlock ∧ some k_ ≠ (.slice Ao13 t454.length co13 : Value).ownBlock ∧ some k_ ≠ (.slice Ao15 t457.length co15 : Value).ownBlock) (fun _ => False) rfl rfl ?aO ?aR (fun _ _ h => h) (fun _ h => h.elim) ?aF ?aB ?aS ?aL ?_
       (case aR => repeat (first | exact (Kd.R_reads' HO_462000.out).2.2 | (with_reducible refine Kd.C_alloc ?_ _) | (with_reducible refine Kd.C_drewN ?_ _) | (with_reducible refine Kd.C_drew ?_)))
       (case aB => exact (by repeat (first | (with_reducible first | exact HB.out | apply bA | apply bN | apply b1 | refine bS ?_ GE461.out | refine bS ?_ GE462.out | refine bS ?_ GE470.out) | exact HB.out)))
       (case aF => exact (fun k_ hk => ⟨Kd.fresh' (Kd.R_lt (by (with_reducible repeat (first | apply rA | apply rN | apply rD)); exact HO_462000.out)) k_ hk, Kd.fresh' (Kd.R_lt (by (with_reducible repeat (first | apply rA | apply rN | apply rD)); exact HO_462001.out)) k_ hk, Kd.fresh' (Kd.R_lt (by (with_reducible repeat (first | apply rA | apply rN | apply rD)); exact HO_463000.out)) k_ hk, Kd.fresh' (Kd.R_lt (by (with_reducible repeat (first | apply rA | apply rN | apply rD)); exact HO_463001.out)) k_ hk⟩))
       (case aO => exact (by (with_reducible repeat (first | apply rA | apply rN | apply rD)); exact Kd.R_mono HO466.out (fun _ hk => ⟨hk.1.1.1.2, ⟨hk.1.1.2, ⟨hk.1.2, hk.2⟩⟩⟩)))
       (case aS => exact (below_size (by repeat (first | (with_reducible first | exact HB.out | apply bA | apply bN | apply b1 | refine bS ?_ GE461.out | refine bS ?_ GE462.out | refine bS ?_ GE470.out) | exact HB.out))))
       (case aL => have := LMc19.out; omega)
       intro v468 w25 ho hb hg hat
       rw [← Ny467.out] at ho
       have n0_ := aM (Kd.R_after (ok := (fun k_ => some k_ ≠ (.slice Ao12 t451.length co12 : Value).ownBlock ∧ some k_ ≠ (.slice Ao13 t454.length co13 : Value).ownBlock ∧ some k_ ≠ (.slice Ao15 t457.length co15 : Value).ownBlock)) (by (with_reducible repeat (first | apply rA | apply rN | apply rD)); exact HO_462000.out) hg hat)
       have n1_ := aM (Kd.R_after (ok := (fun k_ => some k_ ≠ (.slice Ao9 t448.length co9 : Value).ownBlock ∧ some k_ ≠ (.slice Ao13 t454.length co13 : Value).ownBlock ∧ some k_ ≠ (.slice Ao15 t457.length co15 : Value).ownBlock)) (by (with_reducible repeat (first | apply rA | apply rN | apply rD)); exact HO_462001.out) hg hat)
       have n2_ := aM (Kd.R_after (ok := (fun k_ => some k_ ≠ (.slice Ao9 t448.length co9 : Value).ownBlock ∧ some k_ ≠ (.slice Ao12 t451.length co12 : Value).ownBlock ∧ some k_ ≠ (.slice Ao15 t457.length co15 : Value).ownBlock)) (by (with_reducible repeat (first | apply rA | apply rN | apply rD)); exact HO_463000.out) hg hat)
       have n3_ := aM (Kd.R_after (ok := (fun k_ => some k_ ≠ (.slice Ao9 t448.length co9 : Value).ownBlock ∧ some k_ ≠ (.slice Ao12 t451.length co12 : Value).ownBlock ∧ some k_ ≠ (.slice Ao13 t454.length co13 : Value).ownBlock)) (by (with_reducible repeat (first | apply rA | apply rN | apply rD)); exact HO_463001.out) hg hat)
       have n4_ := aM (blk_grown (g := gb461) (o := .cells #[.slice Ao9 t448.length co9, .slice Ao12 t451.length co12] 52 (0, 0)) (by (with_reducible repeat (first | refine kN ?_ _ | refine kD ?_ | refine kA ?_ _)); exact BK461.out) hg (Kd.R_ne HO466.out BK461.out (by decide)))
       have n5_ := aM (blk_grown (g := gb462) (o := .cells #[.slice Ao13 t454.length co13, .slice Ao15 t457.length co15] 52 (0, 0)) (by (with_reducible repeat (first | refine kN ?_ _ | refine kD ?_ | refine kA ?_ _)); exact BK462.out) hg (Kd.R_ne HO466.out BK462.out (by decide)))
       have n6_ := aM (blk_grown (g := gb470) (o := .cells #[.slice none 0 0, .slice none 0 0] 52 (0, 0)) (by (with_reducible repeat (first | refine kN ?_ _ | refine kD ?_ | refine kA ?_ _)); exact BK470.out) hg (Kd.R_ne HO466.out BK470.out (by decide)))
       have n7_ := aM (hb)
       have n8_ := aM (ho)
       clear HO_462000
       clear HO_462001
       clear HO_463000
       clear HO_463001
       clear BK461
       clear BK462
       clear BK470
       clear HB
       clear HO466
       have HO_462000 := n0_
       have HO_462001 := n1_
       have HO_463000 := n2_
       have HO_463001 := n3_
       have BK461 := n4_
       have BK462 := n5_
       have BK470 := n6_
       have HB := n7_
       have HO469 := n8_
       clear n0_ n1_ n2_ n3_ n4_ n5_ n6_ n7_ n8_
       clear ho hb hg hat
       obtain ⟨Ao26, co26, eo26⟩ := Kd.R_slice HO469.out
       (first | subst eo26 | (injection eo26 with f1_ f2_ f3_; have f4_ := f1_.symm; have f5_ := f3_.symm; clear f1_ f2_ f3_; subst f4_; subst f5_))
       refine hK.out _ _ ⟨(blk_cell BK461.out 0).trans rfl, (blk_cell BK461.out 1).trans rfl⟩ (fun hHeld => ?_)
       clear hK K
       refine norm_ (a' := ?_) ?_ ?_
       rotate_left
       ·show Act.put _ (some 32) _ = _
        simp only [Act.put, sA, sZ, sS, i64_w, i32_w]
        rfl
       refine pure_ (i := 6) (N := some 35) (v := ?_) (a' := ?_) #[true, true, true, true, true, true, true, true, false] rfl rfl (any_of HT_.out (by kernel_rfl)) (fun _ _ _ h => h) (Or.inl ⟨by rfl, ?_⟩) ?_ ?_
       rotate_left
       ·intro w'
        go_simp
        with_reducible rfl
       rotate_left
       ·simp only [Act.put, sA, sZ, sS, i64_w, i32_w]
        rfl
       exact norm_ (by simp only [putAll, Act.put, sA, sZ, sS]) (hCont (v465, .slice Ao26 y467.length co26, gb470) _ ⟨hHeld, (by (with_reducible repeat (first | apply rA | apply rN | apply rD)); exact HO469.out), (by (with_reducible repeat (first | apply rA | apply rN | apply rD)); exact Kd.R_mono HO_462000.out (fun _ hk => ⟨hk.2, ⟨hk.1.1, ⟨hk.1.2.1, hk.1.2.2⟩⟩⟩)), (by (with_reducible repeat (first | apply rA | apply rN | apply rD)); exact Kd.R_mono HO_462001.out (fun _ hk => ⟨hk.2, ⟨hk.1.1, ⟨hk.1.2.1, hk.1.2.2⟩⟩⟩)), (by (with_reducible repeat (first | apply rA | apply rN | apply rD)); exact Kd.R_mono HO_463000.out (fun _ hk => ⟨hk.2, ⟨hk.1.1, ⟨hk.1.2.1, hk.1.2.2⟩⟩⟩)), (by (with_reducible repeat (first | apply rA | apply rN | apply rD)); exact Kd.R_mono HO_463001.out (fun _ hk => ⟨hk.2, ⟨hk.1.1, ⟨hk.1.2.1, hk.1.2.2⟩⟩⟩)), (by (with_reducible repeat (first | refine kN ?_ _ | refine kD ?_ | refine kA ?_ _)); exact BK461.out), (by (with_reducible repeat (first | refine kN ?_ _ | refine kD ?_ | refine kA ?_ _)); exact BK462.out), (by (with_reducible repeat (first | refine kN ?_ _ | refine kD ?_ | refine kA ?_ _)); exact BK470.out), GW470.out, GE470.out, NB461_470.out, NB470_461.out, NB462_470.out, NB470_462.out, (by repeat (first | (with_reducible first | exact HB.out | apply bA | apply bN | apply b1 | refine bS ?_ GE461.out | refine bS ?_ GE462.out | refine bS ?_ GE470.out) | exact HB.out))⟩)
     rintro ⟨v465, v468, gb470⟩ w27 ⟨hS_, h0_, h1_, h2_, h3_, h4_, h5_, h6_, h7_, h8_, h9_, h10_, h11_, h12_, h13_, h14_⟩
     have n0_ : Aside0 (Kd.R Kd.bool 4 w27 w.heap.size (fun k_ => some k_ ≠ (.slice Ao9 t448.length co9 : Value).ownBlock ∧ some k_ ≠ (.slice Ao12 t451.length co12 : Value).ownBlock ∧ some k_ ≠ (.slice Ao13 t454.length co13 : Value).ownBlock ∧ some k_ ≠ (.slice Ao15 t457.length co15 : Value).ownBlock) v468 y467) := ⟨h0_⟩
     have n1_ : Aside0 (Kd.R Kd.bool 4 w27 w.heap.size (fun k_ => some k_ ≠ (v468 : Value).ownBlock ∧ some k_ ≠ (.slice Ao12 t451.length co12 : Value).ownBlock ∧ some k_ ≠ (.slice Ao13 t454.length co13 : Value).ownBlock ∧ some k_ ≠ (.slice Ao15 t457.length co15 : Value).ownBlock) (.slice Ao9 t448.length co9) t448) := ⟨h1_⟩
     have n2_ : Aside0 (Kd.R Kd.bool 4 w27 w.heap.size (fun k_ => some k_ ≠ (v468 : Value).ownBlock ∧ some k_ ≠ (.slice Ao9 t448.length co9 : Value).ownBlock ∧ some k_ ≠ (.slice Ao13 t454.length co13 : Value).ownBlock ∧ some k_ ≠ (.slice Ao15 t457.length co15 : Value).ownBlock) (.slice Ao12 t451.length co12) t451) := ⟨h2_⟩
     have n3_ : Aside0 (Kd.R Kd.bool 4 w27 w.heap.size (fun k_ => some k_ ≠ (v468 : Value).ownBlock ∧ some k_ ≠ (.slice Ao9 t448.length co9 : Value).ownBlock ∧ some k_ ≠ (.slice Ao12 t451.length co12 : Value).ownBlock ∧ some k_ ≠ (.slice Ao15 t457.length co15 : Value).ownBlock) (.slice Ao13 t454.length co13) t454) := ⟨h3_⟩
     have n4_ : Aside0 (Kd.R Kd.bool 4 w27 w.heap.size (fun k_ => some k_ ≠ (v468 : Value).ownBlock ∧ some k_ ≠ (.slice Ao9 t448.length co9 : Value).ownBlock ∧ some k_ ≠ (.slice Ao12 t451.length co12 : Value).ownBlock ∧ some k_ ≠ (.slice Ao13 t454.length co13 : Value).ownBlock) (.slice Ao15 t457.length co15) t457) := ⟨h4_⟩
     have n5_ : Aside0 (w27.heap[gb461]? = some (.cells #[.slice Ao9 t448.length co9, .slice Ao12 t451.length co12] 52 (0, 0))) := ⟨h5_⟩
     have n6_ : Aside0 (w27.heap[gb462]? = some (.cells #[.slice Ao13 t454.length co13, .slice Ao15 t457.length co15] 52 (0, 0))) := ⟨h6_⟩
     have n7_ : Aside0 (w27.heap[gb470]? = some (.cells #[.slice none 0 0, .slice none 0 0] 52 (0, 0))) := ⟨h7_⟩
     have n8_ : Aside0 (w.heap.size ≤ gb470) := ⟨h8_⟩
     have n9_ : Aside0 (w.heap.size ≤ gb470) := ⟨h9_⟩
     have n10_ : Aside0 (gb461 ≠ gb470) := ⟨h10_⟩
     have n11_ : Aside0 (gb470 ≠ gb461) := ⟨h11_⟩
     have n12_ : Aside0 (gb462 ≠ gb470) := ⟨h12_⟩
     have n13_ : Aside0 (gb470 ≠ gb462) := ⟨h13_⟩
     have n14_ : Aside0 (Below w.heap.size w w27) := ⟨h14_⟩
     clear HO_462000
     clear HO_462001
     clear HO_463000
     clear HO_463001
     clear BK461
     clear BK462
     clear HB
     clear h0_ h1_ h2_ h3_ h4_ h5_ h6_ h7_ h8_ h9_ h10_ h11_ h12_ h13_ h14_
     have HO469 := n0_
     have HO_462000 := n1_
     have HO_462001 := n2_
     have HO_463000 := n3_
     have HO_463001 := n4_
     have BK461 := n5_
     have BK462 := n6_
     have BK470 := n7_
     have GW470 := n8_
     have GE470 := n9_
     have NB461_470 := n10_
     have NB470_461 := n11_
     have NB462_470 := n12_
     have NB470_462 := n13_
     have HB := n14_
     clear n0_ n1_ n2_ n3_ n4_ n5_ n6_ n7_ n8_ n9_ n10_ n11_ n12_ n13_ n14_
     have hHeld : w27.cell? ⟨gb461, 0, none⟩ = some (.slice Ao9 t448.length co9) ∧ w27.cell? ⟨gb461, 1, none⟩ = some (.slice Ao12 t451.length co12) := hS_
     obtain ⟨Ao28, co28, eo28⟩ := Kd.R_slice HO469.out
     (first | subst eo28 | (injection eo28 with f1_ f2_ f3_; have f4_ := f1_.symm; have f5_ := f3_.symm; clear f1_ f2_ f3_; subst f4_; subst f5_))
     refine norm_ (a' := ?_) ?_ ?_
     rotate_left
     ·simp only [putAll, Act.put, sA, sZ, sS]
      rfl
     refine one_ (i := 8) (N := none) #[true, true, true, true, true, true, true, true, true] rfl rfl (one_of HT_.out (by kernel_rfl)) (by decide) (fun K hK => ?_)
     have hs29 : w27.cell? ⟨gb470, 0, none⟩ = some (.slice none 0 0) := (blk_cell BK470.out 0).trans rfl
     have hfs29 := blk_frozen BK470.out 0
     have hns29_0 := NB461_470.out
     have hns29_1 := NB462_470.out
     have hms29_0 := NB470_461.out
     have hms29_1 := NB470_462.out
     have hs30 : w27.cell? ⟨gb470, 1, none⟩ = some (.slice none 0 0) := (blk_cell BK470.out 1).trans rfl
     have hfs30 := blk_frozen BK470.out 1
     have hns30_0 := NB461_470.out
     have hns30_1 := NB462_470.out
     have hms30_0 := NB470_461.out
     have hms30_1 := NB470_462.out
     refine skip_ (w1 := ?_) (by rfl) rfl ?_ ?_
     rotate_left
     ·go_simp
      rfl
     refine hK.out _ _ ⟨((cell_far (p := ⟨gb470, _, none⟩) NB461_470.out _).trans (((cell_far (p := ⟨gb470, _, none⟩) NB461_470.out _).trans (hHeld.1)))), ((cell_far (p := ⟨gb470, _, none⟩) NB461_470.out _).trans (((cell_far (p := ⟨gb470, _, none⟩) NB461_470.out _).trans (hHeld.2))))⟩ (fun hHeld => ?_)
     clear hK K
     refine done_ (done_of HT_.out (by kernel_rfl)) ?_
     have hnb31 := NB470_461.out
     have hnc31 := NB461_470.out
     have hnb32 := NB470_462.out
     have hnc32 := NB462_470.out
     have hcz33_0 : w27.cell? ⟨gb470, 0, none⟩ = some (.slice none 0 0) := (blk_cell BK470.out 0).trans rfl
     have hcz33_1 : w27.cell? ⟨gb470, 1, none⟩ = some (.slice none 0 0) := (blk_cell BK470.out 1).trans rfl
     have hfz33_0 := blk_frozen BK470.out 0
     have hfz33_1 := blk_frozen BK470.out 1
     have hnb34 := NB462_461.out
     have hnc34 := NB461_462.out
     have hcz35_0 : w27.cell? ⟨gb462, 0, none⟩ = some (.slice Ao13 t454.length co13) := (blk_cell BK462.out 0).trans rfl
     have hcz35_1 : w27.cell? ⟨gb462, 1, none⟩ = some (.slice Ao15 t457.length co15) := (blk_cell BK462.out 1).trans rfl
     have hfz35_0 := blk_frozen BK462.out 0
     have hfz35_1 := blk_frozen BK462.out 1
     try go_wp2_with (first | ((with_reducible refine gate_callee (f := 51) rfl ?_); refine goesL_ (some 39) rfl rfl Try.func51 (by kernel_rfl) rfl #[.agg #[.slice Ao28 y467.length co28, .slice Ao12 t451.length co12], .agg #[.slice Ao13 t454.length co13, .slice Ao15 t457.length co15], .int .i64 a2] rfl (by (try simp only [List.map_toArray, List.map_cons, List.map_nil]); first | done | rfl | (simp only [List.length_drop, List.length_take]; rfl)) ?_; (with_reducible refine (impl_solved.calls kj4 _ _ y467 _ _ t451 _ _ t454 _ _ t457 a2 t471 _ ?side1 ?side2 ?side3 ?side4 ?side5 ?side6 ?side7 ?side8 A20.out).mono ?_); (case side1 => refine (Kd.R_reads' (e := 4) (base := w.heap.size) (ok := fun k_ => (some k_ ≠ (.slice Ao9 t448.length co9 : Value).ownBlock ∧ (some k_ ≠ (.slice Ao12 t451.length co12 : Value).ownBlock ∧ (some k_ ≠ (.slice Ao13 t454.length co13 : Value).ownBlock ∧ some k_ ≠ (.slice Ao15 t457.length co15 : Value).ownBlock)))) (n := y467.length) (c := co28) ?_).2.2; exact (by (with_reducible repeat (first | apply rA | apply rN | apply rD)); exact (Kd.R_mono (Kd.R_far (p := ⟨gb470, 1, none⟩) (Kd.R_far (p := ⟨gb470, 0, none⟩) (Kd.R_types HO469.out BK470.out (by decide)) (fun _ hk => hk.2) (.slice Ao28 y467.length co28)) (fun _ hk => hk.2) (.slice Ao12 t451.length co12)) (fun _ h_ => h_.1)))); (case side2 => exact (Kd.R_reads' HO469.out).2.1); (case side3 => refine (Kd.R_reads' (e := 4) (base := w.heap.size) (ok := fun k_ => (some k_ ≠ (.slice Ao28 y467.length co28 : Value).ownBlock ∧ (some k_ ≠ (.slice Ao9 t448.length co9 : Value).ownBlock ∧ (some k_ ≠ (.slice Ao13 t454.length co13 : Value).ownBlock ∧ some k_ ≠ (.slice Ao15 t457.length co15 : Value).ownBlock)))) (n := t451.length) (c := co12) ?_).2.2; exact (by (with_reducible repeat (first | apply rA | apply rN | apply rD)); exact (Kd.R_mono (Kd.R_far (p := ⟨gb470, 1, none⟩) (Kd.R_far (p := ⟨gb470, 0, none⟩) (Kd.R_types HO_462001.out BK470.out (by decide)) (fun _ hk => hk.2) (.slice Ao28 y467.length co28)) (fun _ hk => hk.2) (.slice Ao12 t451.length co12)) (fun _ h_ => h_.1)))); (case side4 => exact (Kd.R_reads' HO_462001.out).2.1); (case side5 => refine (Kd.R_reads' (e := 4) (base := w.heap.size) (ok := fun k_ => (some k_ ≠ (.slice Ao28 y467.length co28 : Value).ownBlock ∧ (some k_ ≠ (.slice Ao9 t448.length co9 : Value).ownBlock ∧ (some k_ ≠ (.slice Ao12 t451.length co12 : Value).ownBlock ∧ some k_ ≠ (.slice Ao15 t457.length co15 : Value).ownBlock)))) (n := t454.length) (c := co13) ?_).2.2; exact (by (with_reducible repeat (first | apply rA | apply rN | apply rD)); exact (Kd.R_mono (Kd.R_far (p := ⟨gb470, 1, none⟩) (Kd.R_far (p := ⟨gb470, 0, none⟩) (Kd.R_types HO_463000.out BK470.out (by decide)) (fun _ hk => hk.2) (.slice Ao28 y467.length co28)) (fun _ hk => hk.2) (.slice Ao12 t451.length co12)) (fun _ h_ => h_.1)))); (case side6 => exact (Kd.R_reads' HO_463000.out).2.1); (case side7 => refine (Kd.R_reads' (e := 4) (base := w.heap.size) (ok := fun k_ => (some k_ ≠ (.slice Ao28 y467.length co28 : Value).ownBlock ∧ (some k_ ≠ (.slice Ao9 t448.length co9 : Value).ownBlock ∧ (some k_ ≠ (.slice Ao12 t451.length co12 : Value).ownBlock ∧ some k_ ≠ (.slice Ao13 t454.length co13 : Value).ownBlock)))) (n := t457.length) (c := co15) ?_).2.2; exact (by (with_reducible repeat (first | apply rA | apply rN | apply rD)); exact (Kd.R_mono (Kd.R_far (p := ⟨gb470, 1, none⟩) (Kd.R_far (p := ⟨gb470, 0, none⟩) (Kd.R_types HO_463001.out BK470.out (by decide)) (fun _ hk => hk.2) (.slice Ao28 y467.length co28)) (fun _ hk => hk.2) (.slice Ao12 t451.length co12)) (fun _ h_ => h_.1)))); (case side8 => exact (Kd.R_reads' HO_463001.out).2.1); rintro e w36 ⟨v472, rfl, ho0, hb⟩; refine ⟨_, rfl, ?_⟩; have n0_ := aM (Kd.R_elder' (by (with_reducible repeat (first | apply rA | apply rN | apply rD)); exact (Kd.R_mono (Kd.R_far (p := ⟨gb470, 1, none⟩) (Kd.R_far (p := ⟨gb470, 0, none⟩) (Kd.R_types HO_462000.out BK470.out (by decide)) (fun _ hk => hk.2) (.slice Ao28 y467.length co28)) (fun _ hk => hk.2) (.slice Ao12 t451.length co12)) (fun _ h_ => h_.1))) (Kd.R_base ho0) hb); have n1_ := aM (Kd.R_elder' (by (with_reducible repeat (first | apply rA | apply rN | apply rD)); exact (Kd.R_mono (Kd.R_far (p := ⟨gb470, 1, none⟩) (Kd.R_far (p := ⟨gb470, 0, none⟩) (Kd.R_types HO_462001.out BK470.out (by decide)) (fun _ hk => hk.2) (.slice Ao28 y467.length co28)) (fun _ hk => hk.2) (.slice Ao12 t451.length co12)) (fun _ h_ => h_.1))) (Kd.R_base ho0) hb); have n2_ := aM (Kd.R_elder' (by (with_reducible repeat (first | apply rA | apply rN | apply rD)); exact (Kd.R_mono (Kd.R_far (p := ⟨gb470, 1, none⟩) (Kd.R_far (p := ⟨gb470, 0, none⟩) (Kd.R_types HO_463000.out BK470.out (by decide)) (fun _ hk => hk.2) (.slice Ao28 y467.length co28)) (fun _ hk => hk.2) (.slice Ao12 t451.length co12)) (fun _ h_ => h_.1))) (Kd.R_base ho0) hb); have n3_ := aM (Kd.R_elder' (by (with_reducible repeat (first | apply rA | apply rN | apply rD)); exact (Kd.R_mono (Kd.R_far (p := ⟨gb470, 1, none⟩) (Kd.R_far (p := ⟨gb470, 0, none⟩) (Kd.R_types HO_463001.out BK470.out (by decide)) (fun _ hk => hk.2) (.slice Ao28 y467.length co28)) (fun _ hk => hk.2) (.slice Ao12 t451.length co12)) (fun _ h_ => h_.1))) (Kd.R_base ho0) hb); have n4_ := aM (Kd.R_elder' (by (with_reducible repeat (first | apply rA | apply rN | apply rD)); exact (Kd.R_mono (Kd.R_far (p := ⟨gb470, 1, none⟩) (Kd.R_far (p := ⟨gb470, 0, none⟩) (Kd.R_types HO469.out BK470.out (by decide)) (fun _ hk => hk.2) (.slice Ao28 y467.length co28)) (fun _ hk => hk.2) (.slice Ao12 t451.length co12)) (fun _ h_ => h_.1))) (Kd.R_base ho0) hb); have n5_ := aM (Kd.R_lower (Kd.R_new' (Kd.R_new' (Kd.R_new' (Kd.R_new' (Kd.R_new' ho0 (Kd.R_lt (by (with_reducible repeat (first | apply rA | apply rN | apply rD)); exact (Kd.R_mono (Kd.R_far (p := ⟨gb470, 1, none⟩) (Kd.R_far (p := ⟨gb470, 0, none⟩) (Kd.R_types HO_462000.out BK470.out (by decide)) (fun _ hk => hk.2) (.slice Ao28 y467.length co28)) (fun _ hk => hk.2) (.slice Ao12 t451.length co12)) (fun _ h_ => h_.1))))) (Kd.R_lt (by (with_reducible repeat (first | apply rA | apply rN | apply rD)); exact (Kd.R_mono (Kd.R_far (p := ⟨gb470, 1, none⟩) (Kd.R_far (p := ⟨gb470, 0, none⟩) (Kd.R_types HO_462001.out BK470.out (by decide)) (fun _ hk => hk.2) (.slice Ao28 y467.length co28)) (fun _ hk => hk.2) (.slice Ao12 t451.length co12)) (fun _ h_ => h_.1))))) (Kd.R_lt (by (with_reducible repeat (first | apply rA | apply rN | apply rD)); exact (Kd.R_mono (Kd.R_far (p := ⟨gb470, 1, none⟩) (Kd.R_far (p := ⟨gb470, 0, none⟩) (Kd.R_types HO_463000.out BK470.out (by decide)) (fun _ hk => hk.2) (.slice Ao28 y467.length co28)) (fun _ hk => hk.2) (.slice Ao12 t451.length co12)) (fun _ h_ => h_.1))))) (Kd.R_lt (by (with_reducible repeat (first | apply rA | apply rN | apply rD)); exact (Kd.R_mono (Kd.R_far (p := ⟨gb470, 1, none⟩) (Kd.R_far (p := ⟨gb470, 0, none⟩) (Kd.R_types HO_463001.out BK470.out (by decide)) (fun _ hk => hk.2) (.slice Ao28 y467.length co28)) (fun _ hk => hk.2) (.slice Ao12 t451.length co12)) (fun _ h_ => h_.1))))) (Kd.R_lt (by (with_reducible repeat (first | apply rA | apply rN | apply rD)); exact (Kd.R_mono (Kd.R_far (p := ⟨gb470, 1, none⟩) (Kd.R_far (p := ⟨gb470, 0, none⟩) (Kd.R_types HO469.out BK470.out (by decide)) (fun _ hk => hk.2) (.slice Ao28 y467.length co28)) (fun _ hk => hk.2) (.slice Ao12 t451.length co12)) (fun _ h_ => h_.1))))) (below_size (by repeat (first | (with_reducible first | exact HB.out | apply bA | apply bN | apply b1 | refine bS ?_ GE461.out | refine bS ?_ GE462.out | refine bS ?_ GE470.out) | exact HB.out)))); have n6_ := aM (blk_below (g := gb461) (o := .cells #[.slice Ao9 t448.length co9, .slice Ao12 t451.length co12] 52 (0, 0)) (by (with_reducible repeat (first | refine kN ?_ _ | refine kD ?_ | refine kA ?_ _)); refine blk_far ?_ NB461_470.out _; (with_reducible repeat (first | refine kN ?_ _ | refine kD ?_ | refine kA ?_ _)); refine blk_far ?_ NB461_470.out _; (with_reducible repeat (first | refine kN ?_ _ | refine kD ?_ | refine kA ?_ _)); exact BK461.out) hb); have n7_ := aM (blk_below (g := gb462) (o := .cells #[.slice Ao13 t454.length co13, .slice Ao15 t457.length co15] 52 (0, 0)) (by (with_reducible repeat (first | refine kN ?_ _ | refine kD ?_ | refine kA ?_ _)); refine blk_far ?_ NB462_470.out _; (with_reducible repeat (first | refine kN ?_ _ | refine kD ?_ | refine kA ?_ _)); refine blk_far ?_ NB462_470.out _; (with_reducible repeat (first | refine kN ?_ _ | refine kD ?_ | refine kA ?_ _)); exact BK462.out) hb); have n8_ := aM (blk_below (g := gb470) (o := .cells #[.slice Ao28 y467.length co28, .slice Ao12 t451.length co12] 52 (0, 0)) (by (with_reducible repeat (first | refine kN ?_ _ | refine kD ?_ | refine kA ?_ _)); refine blk_put (cs := #[.slice Ao28 y467.length co28, .slice none 0 0]) ?_ 1 _ rfl; (with_reducible repeat (first | refine kN ?_ _ | refine kD ?_ | refine kA ?_ _)); refine blk_put (cs := #[.slice none 0 0, .slice none 0 0]) ?_ 0 _ rfl; (with_reducible repeat (first | refine kN ?_ _ | refine kD ?_ | refine kA ?_ _)); exact BK470.out) hb); have n9_ := aM (below_step (by repeat (first | (with_reducible first | exact HB.out | apply bA | apply bN | apply b1 | refine bS ?_ GE461.out | refine bS ?_ GE462.out | refine bS ?_ GE470.out) | exact HB.out)) hb); clear HO_462000; clear HO_462001; clear HO_463000; clear HO_463001; clear HO469; clear BK461; clear BK462; clear BK470; clear HB; have HO_462000 := n0_; have HO_462001 := n1_; have HO_463000 := n2_; have HO_463001 := n3_; have HO469 := n4_; have HO473 := n5_; have BK461 := n6_; have BK462 := n7_; have BK470 := n8_; have HB := n9_; clear n0_ n1_ n2_ n3_ n4_ n5_ n6_ n7_ n8_ n9_; (try clear hb); (try clear hb2); (try clear hk); (try clear hi); (try clear ho0); obtain ⟨Ao37, co37, eo37⟩ := Kd.R_slice HO473.out; subst eo37))
     go_loopg [12, 41] kj4 (fun kq v12 v41 w' => ∃ (x12_2 : Int) (x41_2 : Int), v12 = .int .i64 x12_2 ∧ v41 = .int .i64 x41_2 ∧ Aside0 (impl_SolveTwo.l0 kq x12_2 t471 (t471.length : Int) x41_2 = some (r1, r2)) ∧ Aside0 (kq ≤ kj4) ∧ Aside0 (Kd.R Kd.bool 4 w' w.heap.size (fun k_ => some k_ ≠ ((.slice Ao9 t448.length co9) : Value).ownBlock ∧ some k_ ≠ ((.slice Ao12 t451.length co12) : Value).ownBlock ∧ some k_ ≠ ((.slice Ao13 t454.length co13) : Value).ownBlock ∧ some k_ ≠ ((.slice Ao15 t457.length co15) : Value).ownBlock ∧ some k_ ≠ ((.slice Ao28 y467.length co28) : Value).ownBlock ∧ some k_ ≠ ((.slice Ao12 t451.length co12) : Value).ownBlock) (.slice Ao37 t471.length co37) t471) ∧ Aside0 (Kd.R Kd.bool 4 w' w.heap.size (fun k_ => some k_ ≠ ((.slice Ao37 t471.length co37) : Value).ownBlock ∧ some k_ ≠ ((.slice Ao12 t451.length co12) : Value).ownBlock ∧ some k_ ≠ ((.slice Ao13 t454.length co13) : Value).ownBlock ∧ some k_ ≠ ((.slice Ao15 t457.length co15) : Value).ownBlock ∧ some k_ ≠ ((.slice Ao28 y467.length co28) : Value).ownBlock ∧ some k_ ≠ ((.slice Ao12 t451.length co12) : Value).ownBlock) (.slice Ao9 t448.length co9) t448) ∧ Aside0 (Kd.R Kd.bool 4 w' w.heap.size (fun k_ => some k_ ≠ ((.slice Ao37 t471.length co37) : Value).ownBlock ∧ some k_ ≠ ((.slice Ao9 t448.length co9) : Value).ownBlock ∧ some k_ ≠ ((.slice Ao13 t454.length co13) : Value).ownBlock ∧ some k_ ≠ ((.slice Ao15 t457.length co15) : Value).ownBlock ∧ some k_ ≠ ((.slice Ao28 y467.length co28) : Value).ownBlock) (.slice Ao12 t451.length co12) t451) ∧ Aside0 (Kd.R Kd.bool 4 w' w.heap.size (fun k_ => some k_ ≠ ((.slice Ao37 t471.length co37) : Value).ownBlock ∧ some k_ ≠ ((.slice Ao9 t448.length co9) : Value).ownBlock ∧ some k_ ≠ ((.slice Ao12 t451.length co12) : Value).ownBlock ∧ some k_ ≠ ((.slice Ao15 t457.length co15) : Value).ownBlock ∧ some k_ ≠ ((.slice Ao28 y467.length co28) : Value).ownBlock ∧ some k_ ≠ ((.slice Ao12 t451.length co12) : Value).ownBlock) (.slice Ao13 t454.length co13) t454) ∧ Aside0 (Kd.R Kd.bool 4 w' w.heap.size (fun k_ => some k_ ≠ ((.slice Ao37 t471.length co37) : Value).ownBlock ∧ some k_ ≠ ((.slice Ao9 t448.length co9) : Value).ownBlock ∧ some k_ ≠ ((.slice Ao12 t451.length co12) : Value).ownBlock ∧ some k_ ≠ ((.slice Ao13 t454.length co13) : Value).ownBlock ∧ some k_ ≠ ((.slice Ao28 y467.length co28) : Value).ownBlock ∧ some k_ ≠ ((.slice Ao12 t451.length co12) : Value).ownBlock) (.slice Ao15 t457.length co15) t457) ∧ Aside0 (Kd.R Kd.bool 4 w' w.heap.size (fun k_ => some k_ ≠ ((.slice Ao37 t471.length co37) : Value).ownBlock ∧ some k_ ≠ ((.slice Ao9 t448.length co9) : Value).ownBlock ∧ some k_ ≠ ((.slice Ao12 t451.length co12) : Value).ownBlock ∧ some k_ ≠ ((.slice Ao13 t454.length co13) : Value).ownBlock ∧ some k_ ≠ ((.slice Ao15 t457.length co15) : Value).ownBlock ∧ some k_ ≠ ((.slice Ao12 t451.length co12) : Value).ownBlock) (.slice Ao28 y467.length co28) y467) ∧ Aside0 (Kd.R Kd.bool 4 w' w.heap.size (fun k_ => some k_ ≠ ((.slice Ao37 t471.length co37) : Value).ownBlock ∧ some k_ ≠ ((.slice Ao9 t448.length co9) : Value).ownBlock ∧ some k_ ≠ ((.slice Ao13 t454.length co13) : Value).ownBlock ∧ some k_ ≠ ((.slice Ao15 t457.length co15) : Value).ownBlock ∧ some k_ ≠ ((.slice Ao28 y467.length co28) : Value).ownBlock) (.slice Ao12 t451.length co12) t451) ∧ Aside0 (w'.heap[gb461]? = some (.cells #[(.slice Ao9 t448.length co9), (.slice Ao12 t451.length co12)] 52 (0, 0))) ∧ Aside0 (w'.heap[gb462]? = some (.cells #[(.slice Ao13 t454.length co13), (.slice Ao15 t457.length co15)] 52 (0, 0))) ∧ Aside0 (w'.heap[gb470]? = some (.cells #[(.slice Ao28 y467.length co28), (.slice Ao12 t451.length co12)] 52 (0, 0))) ∧ Aside0 (Below w.heap.size w w'))
     case atStart => exact ⟨(0), (0), (by first | rfl | (simp; done) | (simp [*]; done) | (simp [Int.tmod_eq_emod_of_nonneg]; done)), (by first | rfl | (simp; done) | (simp [*]; done) | (simp [Int.tmod_eq_emod_of_nonneg]; done)), H', ⟨Nat.le_refl _⟩, ⟨by (with_reducible repeat (first | apply rA | apply rN | apply rD)); exact Kd.R_mono HO473.out (fun _ hk => ⟨hk.1.1.1.1.2, ⟨hk.1.1.1.2, ⟨hk.1.1.2, ⟨hk.1.2, ⟨hk.2, hk.1.1.1.2⟩⟩⟩⟩⟩)⟩, ⟨by (with_reducible repeat (first | apply rA | apply rN | apply rD)); exact Kd.R_mono HO_462000.out (fun _ hk => ⟨hk.2, ⟨hk.1.2.1, ⟨hk.1.2.2.1, ⟨hk.1.2.2.2, ⟨hk.1.1, hk.1.2.1⟩⟩⟩⟩⟩)⟩, ⟨by (with_reducible repeat (first | apply rA | apply rN | apply rD)); exact Kd.R_mono HO_462001.out (fun _ hk => ⟨hk.2, ⟨hk.1.2.1, ⟨hk.1.2.2.1, ⟨hk.1.2.2.2, hk.1.1⟩⟩⟩⟩)⟩, ⟨by (with_reducible repeat (first | apply rA | apply rN | apply rD)); exact Kd.R_mono HO_463000.out (fun _ hk => ⟨hk.2, ⟨hk.1.2.1, ⟨hk.1.2.2.1, ⟨hk.1.2.2.2, ⟨hk.1.1, hk.1.2.2.1⟩⟩⟩⟩⟩)⟩, ⟨by (with_reducible repeat (first | apply rA | apply rN | apply rD)); exact Kd.R_mono HO_463001.out (fun _ hk => ⟨hk.2, ⟨hk.1.2.1, ⟨hk.1.2.2.1, ⟨hk.1.2.2.2, ⟨hk.1.1, hk.1.2.2.1⟩⟩⟩⟩⟩)⟩, ⟨by (with_reducible repeat (first | apply rA | apply rN | apply rD)); exact Kd.R_mono HO469.out (fun _ hk => ⟨hk.2, ⟨hk.1.1, ⟨hk.1.2.1, ⟨hk.1.2.2.1, ⟨hk.1.2.2.2, hk.1.2.1⟩⟩⟩⟩⟩)⟩, ⟨by (with_reducible repeat (first | apply rA | apply rN | apply rD)); exact Kd.R_mono HO_462001.out (fun _ hk => ⟨hk.2, ⟨hk.1.2.1, ⟨hk.1.2.2.1, ⟨hk.1.2.2.2, hk.1.1⟩⟩⟩⟩)⟩, ⟨by (with_reducible repeat (first | refine kN ?_ _ | refine kD ?_ | refine kA ?_ _)); exact BK461.out⟩, ⟨by (with_reducible repeat (first | refine kN ?_ _ | refine kD ?_ | refine kA ?_ _)); exact BK462.out⟩, ⟨by (with_reducible repeat (first | refine kN ?_ _ | refine kD ?_ | refine kA ?_ _)); exact BK470.out⟩, ⟨by repeat (first | (with_reducible first | exact HB.out | apply bA | apply bN | apply b1 | refine bS ?_ GE461.out | refine bS ?_ GE462.out | refine bS ?_ GE470.out) | exact HB.out)⟩⟩
     case round =>
      clear H'
      try clear c1
      try clear p2
      try clear c3
      try clear c4
      try clear c5
      try clear c10
      try clear c16
      try clear c17
      try clear c18
      try clear c19
      try clear c31
      try clear c32
      try clear c34
      try clear hcz11_0
      try clear hcz11_1
      try clear hcz14_0
      try clear hcz14_1
      try clear hcz33_0
      try clear hcz33_1
      try clear hcz35_0
      try clear hcz35_1
      try clear hfz11_0
      try clear hfz11_1
      try clear hfz14_0
      try clear hfz14_1
      try clear hfz33_0
      try clear hfz33_1
      try clear hfz35_0
      try clear hfz35_1
      try clear p2
      obtain ⟨x12_2, x41_2, rfl, rfl, HA, HK2, HO_39, HO_462000, HO_462001, HO_463000, HO_463001, HO_471000, HO_471001, BK461, BK462, BK470, HB⟩ := hrel
      cases gk with
      | zero => exact absurd HA.out (by simp [impl_SolveTwo.l0])
      | succ k2 =>
       have H := HA.out
       clear HA
       simp only [impl_SolveTwo.l0] at H
       by_cases c38 : x41_2 < (t471.length : Int)
       ·rw [if_pos c38] at H
        have c38b0 : decide (x41_2 < (t471.length : Int)) = true := decide_eq_true c38
        clear c38
        by_cases c39 : 0 ≤ x41_2
        ·rw [if_pos c39] at H
         have c39b0 : decide (0 ≤ x41_2) = true := decide_eq_true c39
         clear c39
         by_cases c40 : x41_2 < (t471.length : Int)
         ·rw [if_pos c40] at H
          have c40b0 : decide (x41_2 < (t471.length : Int)) = true := decide_eq_true c40
          clear c40
          obtain ⟨bq41, hbq41⟩ : ∃ b_ : Bool, b_ = (rdOf false t471 x41_2) := ⟨_, rfl⟩
          replace H : (if bq41 = true then (impl_SolveTwo.l0 k2 (wrap64 (x12_2 + 1)) t471 (t471.length : Int) (wrap64 (x41_2 + 1))) else (impl_SolveTwo.l0 k2 x12_2 t471 (t471.length : Int) (wrap64 (x41_2 + 1)))) = some (r1, r2) := by rw [← hbq41] at H; exact H
          have Nbq41 := aM hbq41
          clear hbq41
          by_cases c42 : bq41 = true
          ·subst c42
           have H1 : (impl_SolveTwo.l0 k2 (wrap64 (x12_2 + 1)) t471 (t471.length : Int) (wrap64 (x41_2 + 1))) = some (r1, r2) := by rw [if_pos rfl] at H; exact H
           clear H
           have H := H1
           clear H1
           have H' := aM H
           clear H
           have p474 : 0 ≤ (x41_2 : Int) := of_decide_eq_true (by first | (with_reducible assumption) | assumption)
           have q474 : x41_2 < (t471.length : Int) := of_decide_eq_true (by first | (with_reducible assumption) | assumption)
           obtain ⟨ad474, e474, hx474_0⟩ := Kd.at_bool (Kd.R_reads' HO_39.out).2.2 x41_2 p474 q474
           (try rw [← Nbq41.out] at hx474_0)
           cases e474
           replace p474 := eq_true p474
           replace q474 := eq_true q474
           go_wp2
           go_roundg k2
           case measure => have := HJ4.out; have := HK2.out; omega
           case rel => exact ⟨(wrap64 (x12_2 + 1)), (wrap64 (x41_2 + 1)), (by first | rfl | (simp; done) | (simp [*]; done) | (simp [Int.tmod_eq_emod_of_nonneg]; done)), (by first | rfl | (simp; done) | (simp [*]; done) | (simp [Int.tmod_eq_emod_of_nonneg]; done)), H', ⟨by have := HJ4.out; have := HK2.out; omega⟩, ⟨by (with_reducible repeat (first | apply rA | apply rN | apply rD)); exact HO_39.out⟩, ⟨by (with_reducible repeat (first | apply rA | apply rN | apply rD)); exact HO_462000.out⟩, ⟨by (with_reducible repeat (first | apply rA | apply rN | apply rD)); exact HO_462001.out⟩, ⟨by (with_reducible repeat (first | apply rA | apply rN | apply rD)); exact HO_463000.out⟩, ⟨by (with_reducible repeat (first | apply rA | apply rN | apply rD)); exact HO_463001.out⟩, ⟨by (with_reducible repeat (first | apply rA | apply rN | apply rD)); exact HO_471000.out⟩, ⟨by (with_reducible repeat (first | apply rA | apply rN | apply rD)); exact HO_471001.out⟩, ⟨by (with_reducible repeat (first | refine kN ?_ _ | refine kD ?_ | refine kA ?_ _)); exact BK461.out⟩, ⟨by (with_reducible repeat (first | refine kN ?_ _ | refine kD ?_ | refine kA ?_ _)); exact BK462.out⟩, ⟨by (with_reducible repeat (first | refine kN ?_ _ | refine kD ?_ | refine kA ?_ _)); exact BK470.out⟩, ⟨by repeat (first | (with_reducible first | exact HB.out | apply bA | apply bN | apply b1 | refine bS ?_ GE461.out | refine bS ?_ GE462.out | refine bS ?_ GE470.out) | exact HB.out)⟩⟩
          ·replace c42 := Bool.eq_false_iff.mpr c42
           subst c42
           have H1 : (impl_SolveTwo.l0 k2 x12_2 t471 (t471.length : Int) (wrap64 (x41_2 + 1))) = some (r1, r2) := by rw [if_neg (show ¬ (false = true) by decide)] at H; exact H
           clear H
           have H := H1
           clear H1
           have H' := aM H
           clear H
           have p474 : 0 ≤ (x41_2 : Int) := of_decide_eq_true (by first | (with_reducible assumption) | assumption)
           have q474 : x41_2 < (t471.length : Int) := of_decide_eq_true (by first | (with_reducible assumption) | assumption)
           obtain ⟨ad474, e474, hx474_0⟩ := Kd.at_bool (Kd.R_reads' HO_39.out).2.2 x41_2 p474 q474
           (try rw [← Nbq41.out] at hx474_0)
           cases e474
           replace p474 := eq_true p474
           replace q474 := eq_true q474
           go_wp2
           go_roundg k2
           case measure => have := HJ4.out; have := HK2.out; omega
           case rel => exact ⟨(x12_2), (wrap64 (x41_2 + 1)), (by first | rfl | (simp; done) | (simp [*]; done) | (simp [Int.tmod_eq_emod_of_nonneg]; done)), (by first | rfl | (simp; done) | (simp [*]; done) | (simp [Int.tmod_eq_emod_of_nonneg]; done)), H', ⟨by have := HJ4.out; have := HK2.out; omega⟩, ⟨by (with_reducible repeat (first | apply rA | apply rN | apply rD)); exact HO_39.out⟩, ⟨by (with_reducible repeat (first | apply rA | apply rN | apply rD)); exact HO_462000.out⟩, ⟨by (with_reducible repeat (first | apply rA | apply rN | apply rD)); exact HO_462001.out⟩, ⟨by (with_reducible repeat (first | apply rA | apply rN | apply rD)); exact HO_463000.out⟩, ⟨by (with_reducible repeat (first | apply rA | apply rN | apply rD)); exact HO_463001.out⟩, ⟨by (with_reducible repeat (first | apply rA | apply rN | apply rD)); exact HO_471000.out⟩, ⟨by (with_reducible repeat (first | apply rA | apply rN | apply rD)); exact HO_471001.out⟩, ⟨by (with_reducible repeat (first | refine kN ?_ _ | refine kD ?_ | refine kA ?_ _)); exact BK461.out⟩, ⟨by (with_reducible repeat (first | refine kN ?_ _ | refine kD ?_ | refine kA ?_ _)); exact BK462.out⟩, ⟨by (with_reducible repeat (first | refine kN ?_ _ | refine kD ?_ | refine kA ?_ _)); exact BK470.out⟩, ⟨by repeat (first | (with_reducible first | exact HB.out | apply bA | apply bN | apply b1 | refine bS ?_ GE461.out | refine bS ?_ GE462.out | refine bS ?_ GE470.out) | exact HB.out)⟩⟩
         ·rw [if_neg c40] at H
          exact absurd H (by simp)
        ·rw [if_neg c39] at H
         exact absurd H (by simp)
       ·rw [if_neg c38] at H
        have c38b0 : decide (x41_2 < (t471.length : Int)) = false := decide_eq_false c38
        clear c38
        simp only [Option.some.injEq, Prod.mk.injEq] at H
        obtain ⟨rfl, rfl⟩ := H
        go_wp2
        go_ret2
        exact ⟨by first | rfl | (simp [errW_none, errW_some] <;> rfl) | (simp [errW_none, errW_some]; exact ⟨rfl, rfl⟩) | (simp [errW_none, errW_some]; exact ⟨rfl, rfl, rfl⟩) | (simp [*, errW_none, errW_some] <;> rfl), by repeat (first | (with_reducible first | exact HB.out | apply bA | apply bN | apply b1 | refine bS ?_ GE461.out | refine bS ?_ GE462.out | refine bS ?_ GE470.out) | exact HB.out)⟩
    ·rw [if_neg c19] at H
     exact absurd H (by simp)


def spec_l1Signs.l0 : Nat → ByteArray → List Bool → Int → Option (List Bool × Bool)
 | 0, _, _, _ => none
 | k + 1, x0, x4, x5 => if x5 < (x0.size : Int) then (if 0 ≤ x5 then (if (bt x0 x5) = 48 then (if x4.length < 140737488355328 then (spec_l1Signs.l0 k x0 (x4 ++ [((bt x0 x5) == 49)]) (wrap64 (x5 + 1))) else (none)) else (if (bt x0 x5) = 49 then (if x4.length < 140737488355328 then (spec_l1Signs.l0 k x0 (x4 ++ [true]) (wrap64 (x5 + 1))) else (none)) else (some ((([] : List Bool)), false)))) else (none)) else (some (x4, true))
def spec_l1Signs.f (k : Nat) (a0 : ByteArray) : Option (List Bool × Bool) := spec_l1Signs.l0 k a0 (([] : List Bool)) 0
theorem spec_l1Signs.mono_l : ∀ k, (∀ y0 y1 y2, LeO (spec_l1Signs.l0 k y0 y1 y2) (spec_l1Signs.l0 (k + 1) y0 y1 y2))
 | 0 => fun _ _ _ r h => by simp [spec_l1Signs.l0] at h
 | k + 1 => by
  have ih0 := spec_l1Signs.mono_l k
  ·intro y0 y1 y2
   unfold spec_l1Signs.l0
   repeat' first
   | (with_reducible exact ih0 _ _ _)
   | (with_reducible exact LeO.refl _)
   | (with_reducible exact LeO.none _)
   | (with_reducible refine LeO.ite ?_ ?_)
   | (with_reducible refine LeO.bind ?_ (fun _ => ?_))
   | exact ih0 _ _ _
   | exact LeO.none _
   | refine LeO.ite ?_ ?_
   | refine LeO.bind ?_ (fun _ => ?_)
theorem spec_l1Signs.mono : ∀ a0 k, LeO (spec_l1Signs.f k a0) (spec_l1Signs.f (k + 1) a0) := by
 intro a0 k
 have ih0 := spec_l1Signs.mono_l k
 unfold spec_l1Signs.f
 repeat' first
   | (with_reducible exact ih0 _ _ _)
   | (with_reducible exact LeO.refl _)
   | (with_reducible exact LeO.none _)
   | (with_reducible refine LeO.ite ?_ ?_)
   | (with_reducible refine LeO.bind ?_ (fun _ => ?_))
   | exact ih0 _ _ _
   | exact LeO.none _
   | refine LeO.ite ?_ ?_
   | refine LeO.bind ?_ (fun _ => ?_)
set_option maxHeartbeats 8000000 in
set_option maxRecDepth 100000 in
theorem spec_l1Signs.calls (k : Nat) (a0 : ByteArray) (r1 : List Bool) (r2 : Bool) (w : World) (h : spec_l1Signs.f k a0 = some (r1, r2)) :
  Calls Try.prog 72 #[.string a0] w fun e w' => ∃ v0_ : Value, e = .returned (.tuple #[v0_, .bool r2]) ∧ Kd.R Kd.bool 4 w' w.heap.size (fun _ => True) v0_ r1 ∧ Below w.heap.size w w' := by
 have HB := aM (Below.refl w.heap.size w)
 have H : (spec_l1Signs.l0 k a0 (([] : List Bool)) 0) = some (r1, r2) := h
 clear h
 obtain ⟨y253, hy253⟩ : ∃ y_ : List Bool, y_ = (([] : List Bool)) := ⟨_, rfl⟩
 replace H : (spec_l1Signs.l0 k a0 y253 0) = some (r1, r2) := by first | (rw [hy253]; with_reducible exact H) | (have H2_ := (Option.bind_some _ _).symm.trans H; rw [hy253]; with_reducible exact H2_) | (have H2_ := (Option.bind_some _ _).symm.trans H; with_reducible exact H2_) | with_reducible exact H | (rw [hy253]; exact H) | exact H
 have Ny253 := aM hy253
 clear hy253
 have H' := aM H
 clear H
 go_enter Try.func72, Try.ntmps72
 go_wp2_with (first | ((with_reducible refine gate_dst (N := 6) rfl ?_); refine Kd.R_lit Kd.bool _ 4 ?hg (N := 6) ?hd (xs := ([] : List Bool)) (inner := []) (ok := fun _ => True) (okp := fun _ => True) ?hr ?hp (fun _ hk => hk) trivial (Below.refl _ _) (Nat.le_refl _) (by simp) ?_; (case hd => rfl); (case hg => rfl); (case hr => first | (go_simp; done) | (go_simp; rfl)); (case hp => exact (Reps.none _ _)); intro v254 w2 ho3 hb hg_ hnew_; clear hg_ hnew_; (first | rw [← Ny253.out] at ho3 | (simp only [Int.reduceToNat] at ho3; rw [← Ny253.out] at ho3)); have n0_ := aM (Kd.R_lower ho3 (below_size (by repeat (first | (with_reducible first | exact HB.out | apply bA | apply bN | apply b1) | exact HB.out)))); have n1_ := aM (below_step (by repeat (first | (with_reducible first | exact HB.out | apply bA | apply bN | apply b1) | exact HB.out)) hb); clear HB; have HO255 := n0_; have HB := n1_; clear n0_ n1_; clear hb ho3))
 go_loopg [4, 5] k (fun kq v4 v5 w' => ∃ (x4_1 : List Bool) (x5_1 : Int), v5 = .int .i64 x5_1 ∧ Aside0 (spec_l1Signs.l0 kq a0 x4_1 x5_1 = some (r1, r2)) ∧ Aside0 (kq ≤ k) ∧ Aside0 (Kd.R Kd.bool 4 w' w.heap.size (fun _ => True) v4 x4_1) ∧ Aside0 (Below w.heap.size w w'))
 case atStart => exact ⟨(y253), (0), (by first | rfl | (simp; done) | (simp [*]; done) | (simp [Int.tmod_eq_emod_of_nonneg]; done)), H', ⟨Nat.le_refl _⟩, ⟨by (with_reducible repeat (first | apply rA | apply rN | apply rD)); exact HO255.out⟩, ⟨by repeat (first | (with_reducible first | exact HB.out | apply bA | apply bN | apply b1) | exact HB.out)⟩⟩
 case round =>
  clear H'
  try clear p2
  obtain ⟨x4_1, x5_1, rfl, HA, HK1, HO_4, HB⟩ := hrel
  cases gk with
  | zero => exact absurd HA.out (by simp [spec_l1Signs.l0])
  | succ k1 =>
   have H := HA.out
   clear HA
   simp only [spec_l1Signs.l0] at H
   by_cases c4 : x5_1 < (a0.size : Int)
   ·rw [if_pos c4] at H
    have c4b0 : decide (x5_1 < (a0.size : Int)) = true := decide_eq_true c4
    clear c4
    by_cases c5 : 0 ≤ x5_1
    ·rw [if_pos c5] at H
     have c5b0 : decide (0 ≤ x5_1) = true := decide_eq_true c5
     clear c5
     by_cases c7 : (bt a0 x5_1) = 48
     ·rw [if_pos c7] at H
      have c7b0 : ((bt a0 x5_1) == 48) = true := beq_iff_eq.mpr c7
      have c7b1 : ((bt a0 x5_1) != 48) = false := bne_eq_false_iff_eq.mpr c7
      clear c7
      by_cases c9 : x4_1.length < 140737488355328
      ·rw [if_pos c9] at H
       have LMc9 := aM c9
       clear c9
       obtain ⟨y256, hy256⟩ : ∃ y_ : List Bool, y_ = (x4_1 ++ [((bt a0 x5_1) == 49)]) := ⟨_, rfl⟩
       replace H : (spec_l1Signs.l0 k1 a0 y256 (wrap64 (x5_1 + 1))) = some (r1, r2) := by first | (rw [hy256]; with_reducible exact H) | (have H2_ := (Option.bind_some _ _).symm.trans H; rw [hy256]; with_reducible exact H2_) | (have H2_ := (Option.bind_some _ _).symm.trans H; with_reducible exact H2_) | with_reducible exact H | (rw [hy256]; exact H) | exact H
       have Ny256 := aM hy256
       clear hy256
       have H' := aM H
       clear H
       have p6 : 0 ≤ (x5_1 : Int) := of_decide_eq_true (by first | (with_reducible assumption) | assumption)
       have q6 : x5_1 < (a0.size : Int) := of_decide_eq_true (by first | (with_reducible assumption) | assumption)
       have hx6 := bt_at a0 x5_1
       replace p6 := eq_true p6
       replace q6 := eq_true q6
       have p8 : 0 ≤ (x5_1 : Int) := of_decide_eq_true (by first | (with_reducible assumption) | assumption)
       have q8 : x5_1 < (a0.size : Int) := of_decide_eq_true (by first | (with_reducible assumption) | assumption)
       have hx8 := bt_at a0 x5_1
       replace p8 := eq_true p8
       replace q8 := eq_true q8
       go_wp2_with (first | ((with_reducible refine gate_builtin (b := .append) (xs := #[.tmp 24, .tmp 29]) rfl ?_); at_builtin; refine Kd.R_append Kd.bool (w0 := w) w.heap.size rfl (.tmp 24) (.tmp 29) 45 4 (.bool false) 1 rfl Try.underlying45 info4 rfl (by decide) (by omega) u4 x4_1 ((bt a0 x5_1) == 49) [.bool ((bt a0 x5_1) == 49)] (fun _ => True) (fun _ => False) rfl rfl ?aP (fun _ hk => hk.elim) ?aF ?aO ?aB ?aS ?aL ?_; (case aP => exact rfl); (case aB => exact (by repeat (first | (with_reducible first | exact HB.out | apply bA | apply bN | apply b1) | exact HB.out))); (case aF => exact (fun _ _ => trivial)); (case aO => exact (by (with_reducible repeat (first | apply rA | apply rN | apply rD)); exact HO_4.out)); (case aS => exact (below_size (by repeat (first | (with_reducible first | exact HB.out | apply bA | apply bN | apply b1) | exact HB.out)))); (case aL => have := LMc9.out; omega); intro v257 w10 ho hb hg hat; rw [← Ny256.out] at ho; have n0_ := aM (hb); have n1_ := aM (ho); clear HB; clear HO_4; have HB := n0_; have HO258 := n1_; clear n0_ n1_; clear ho hb hg hat))
       go_roundg k1
       case measure => have := HK1.out; omega
       case rel => exact ⟨(y256), (wrap64 (x5_1 + 1)), (by first | rfl | (simp; done) | (simp [*]; done) | (simp [Int.tmod_eq_emod_of_nonneg]; done)), H', ⟨by have := HK1.out; omega⟩, ⟨by (with_reducible repeat (first | apply rA | apply rN | apply rD)); exact HO258.out⟩, ⟨by repeat (first | (with_reducible first | exact HB.out | apply bA | apply bN | apply b1) | exact HB.out)⟩⟩
      ·rw [if_neg c9] at H
       exact absurd H (by simp)
     ·rw [if_neg c7] at H
      have c7b0 : ((bt a0 x5_1) == 48) = false := beq_eq_false_iff_ne.mpr c7
      have c7b1 : ((bt a0 x5_1) != 48) = true := bne_iff_ne.mpr c7
      by_cases c12 : (bt a0 x5_1) = 49
      ·rw [if_pos c12] at H
       have c12b0 : ((bt a0 x5_1) == 49) = true := beq_iff_eq.mpr c12
       have c12b1 : ((bt a0 x5_1) != 49) = false := bne_eq_false_iff_eq.mpr c12
       clear c12
       by_cases c14 : x4_1.length < 140737488355328
       ·rw [if_pos c14] at H
        have LMc14 := aM c14
        clear c14
        obtain ⟨y259, hy259⟩ : ∃ y_ : List Bool, y_ = (x4_1 ++ [true]) := ⟨_, rfl⟩
        replace H : (spec_l1Signs.l0 k1 a0 y259 (wrap64 (x5_1 + 1))) = some (r1, r2) := by first | (rw [hy259]; with_reducible exact H) | (have H2_ := (Option.bind_some _ _).symm.trans H; rw [hy259]; with_reducible exact H2_) | (have H2_ := (Option.bind_some _ _).symm.trans H; with_reducible exact H2_) | with_reducible exact H | (rw [hy259]; exact H) | exact H
        have Ny259 := aM hy259
        clear hy259
        have H' := aM H
        clear H
        have p6 : 0 ≤ (x5_1 : Int) := of_decide_eq_true (by first | (with_reducible assumption) | assumption)
        have q6 : x5_1 < (a0.size : Int) := of_decide_eq_true (by first | (with_reducible assumption) | assumption)
        have hx6 := bt_at a0 x5_1
        replace p6 := eq_true p6
        replace q6 := eq_true q6
        have p11 : 0 ≤ (x5_1 : Int) := of_decide_eq_true (by first | (with_reducible assumption) | assumption)
        have q11 : x5_1 < (a0.size : Int) := of_decide_eq_true (by first | (with_reducible assumption) | assumption)
        have hx11 := bt_at a0 x5_1
        replace p11 := eq_true p11
        replace q11 := eq_true q11
        have p13 : 0 ≤ (x5_1 : Int) := of_decide_eq_true (by first | (with_reducible assumption) | assumption)
        have q13 : x5_1 < (a0.size : Int) := of_decide_eq_true (by first | (with_reducible assumption) | assumption)
        have hx13 := bt_at a0 x5_1
        replace p13 := eq_true p13
        replace q13 := eq_true q13
        go_wp2_with (first | ((with_reducible refine gate_builtin (b := .append) (xs := #[.tmp 24, .tmp 29]) rfl ?_); at_builtin; refine Kd.R_append Kd.bool (w0 := w) w.heap.size rfl (.tmp 24) (.tmp 29) 45 4 (.bool false) 1 rfl Try.underlying45 info4 rfl (by decide) (by omega) u4 x4_1 true [.bool true] (fun _ => True) (fun _ => False) rfl rfl ?aP (fun _ hk => hk.elim) ?aF ?aO ?aB ?aS ?aL ?_; (case aP => exact rfl); (case aB => exact (by repeat (first | (with_reducible first | exact HB.out | apply bA | apply bN | apply b1) | exact HB.out))); (case aF => exact (fun _ _ => trivial)); (case aO => exact (by (with_reducible repeat (first | apply rA | apply rN | apply rD)); exact HO_4.out)); (case aS => exact (below_size (by repeat (first | (with_reducible first | exact HB.out | apply bA | apply bN | apply b1) | exact HB.out)))); (case aL => have := LMc14.out; omega); intro v260 w15 ho hb hg hat; rw [← Ny259.out] at ho; have n0_ := aM (hb); have n1_ := aM (ho); clear HB; clear HO_4; have HB := n0_; have HO261 := n1_; clear n0_ n1_; clear ho hb hg hat))
        go_roundg k1
        case measure => have := HK1.out; omega
        case rel => exact ⟨(y259), (wrap64 (x5_1 + 1)), (by first | rfl | (simp; done) | (simp [*]; done) | (simp [Int.tmod_eq_emod_of_nonneg]; done)), H', ⟨by have := HK1.out; omega⟩, ⟨by (with_reducible repeat (first | apply rA | apply rN | apply rD)); exact HO261.out⟩, ⟨by repeat (first | (with_reducible first | exact HB.out | apply bA | apply bN | apply b1) | exact HB.out)⟩⟩
       ·rw [if_neg c14] at H
        exact absurd H (by simp)
      ·rw [if_neg c12] at H
       have c12b0 : ((bt a0 x5_1) == 49) = false := beq_eq_false_iff_ne.mpr c12
       have c12b1 : ((bt a0 x5_1) != 49) = true := bne_iff_ne.mpr c12
       obtain ⟨y262, hy262⟩ : ∃ y_ : List Bool, y_ = (([] : List Bool)) := ⟨_, rfl⟩
       replace H : (some (y262, false)) = some (r1, r2) := by first | (rw [hy262]; with_reducible exact H) | (have H2_ := (Option.bind_some _ _).symm.trans H; rw [hy262]; with_reducible exact H2_) | (have H2_ := (Option.bind_some _ _).symm.trans H; with_reducible exact H2_) | with_reducible exact H | (rw [hy262]; exact H) | exact H
       have Ny262 := aM hy262
       clear hy262
       simp only [Option.some.injEq, Prod.mk.injEq] at H
       obtain ⟨rfl, rfl⟩ := H
       have p6 : 0 ≤ (x5_1 : Int) := of_decide_eq_true (by first | (with_reducible assumption) | assumption)
       have q6 : x5_1 < (a0.size : Int) := of_decide_eq_true (by first | (with_reducible assumption) | assumption)
       have hx6 := bt_at a0 x5_1
       replace p6 := eq_true p6
       replace q6 := eq_true q6
       have p11 : 0 ≤ (x5_1 : Int) := of_decide_eq_true (by first | (with_reducible assumption) | assumption)
       have q11 : x5_1 < (a0.size : Int) := of_decide_eq_true (by first | (with_reducible assumption) | assumption)
       have hx11 := bt_at a0 x5_1
       replace p11 := eq_true p11
       replace q11 := eq_true q11
       go_wp2_with (first | ((with_reducible refine gate_dst (N := 23) rfl ?_); refine Kd.R_lit Kd.bool _ 4 ?hg (N := 23) ?hd (xs := ([] : List Bool)) (inner := []) (ok := fun _ => True) (okp := fun _ => True) ?hr ?hp (fun _ hk => hk) trivial (Below.refl _ _) (Nat.le_refl _) (by simp) ?_; (case hd => rfl); (case hg => rfl); (case hr => first | (go_simp; done) | (go_simp; rfl)); (case hp => exact (Reps.none _ _)); intro v263 w16 ho17 hb hg_ hnew_; clear hg_ hnew_; (first | rw [← Ny262.out] at ho17 | (simp only [Int.reduceToNat] at ho17; rw [← Ny262.out] at ho17)); have n0_ := aM (Kd.R_elder' (by (with_reducible repeat (first | apply rA | apply rN | apply rD)); exact HO_4.out) (Kd.R_base ho17) hb); have n1_ := aM (Kd.R_lower (Kd.R_new' ho17 (Kd.R_lt (by (with_reducible repeat (first | apply rA | apply rN | apply rD)); exact HO_4.out))) (below_size (by repeat (first | (with_reducible first | exact HB.out | apply bA | apply bN | apply b1) | exact HB.out)))); have n2_ := aM (below_step (by repeat (first | (with_reducible first | exact HB.out | apply bA | apply bN | apply b1) | exact HB.out)) hb); clear HO_4; clear HB; have HO_4 := n0_; have HO264 := n1_; have HB := n2_; clear n0_ n1_ n2_; clear hb ho17))
       go_ret2
       exact ⟨_, by first | rfl | (simp [errW_none, errW_some] <;> rfl) | (simp [errW_none, errW_some]; exact ⟨rfl, rfl⟩) | (simp [errW_none, errW_some]; exact ⟨rfl, rfl, rfl⟩) | (simp [*, errW_none, errW_some] <;> rfl), by (with_reducible repeat (first | apply rA | apply rN | apply rD)); exact Kd.R_mono HO264.out (fun _ hk => trivial), by repeat (first | (with_reducible first | exact HB.out | apply bA | apply bN | apply b1) | exact HB.out)⟩
    ·rw [if_neg c5] at H
     exact absurd H (by simp)
   ·rw [if_neg c4] at H
    have c4b0 : decide (x5_1 < (a0.size : Int)) = false := decide_eq_false c4
    clear c4
    simp only [Option.some.injEq, Prod.mk.injEq] at H
    obtain ⟨rfl, rfl⟩ := H
    go_wp2
    go_ret2
    exact ⟨_, by first | rfl | (simp [errW_none, errW_some] <;> rfl) | (simp [errW_none, errW_some]; exact ⟨rfl, rfl⟩) | (simp [errW_none, errW_some]; exact ⟨rfl, rfl, rfl⟩) | (simp [*, errW_none, errW_some] <;> rfl), by (with_reducible repeat (first | apply rA | apply rN | apply rD)); exact HO_4.out, by repeat (first | (with_reducible first | exact HB.out | apply bA | apply bN | apply b1) | exact HB.out)⟩


mutual
def spec_l1Read.j1 : Nat → ByteArray → Int → List Bool → List Bool → Option (List Bool × List Bool × Bool)
 | 0, _, _, _, _ => none
 | k + 1, x0, x5, x273000, x273001 => if (wrap64 (x5 + 2)) ≥ (x0.size : Int) then (spec_l1Read.j2 k x0 x5 true x273000 x273001) else (if 0 ≤ (wrap64 ((x0.size : Int) - 1)) then (if (wrap64 ((x0.size : Int) - 1)) < (x0.size : Int) then (spec_l1Read.j2 k x0 x5 ((bt x0 (wrap64 ((x0.size : Int) - 1))) != 41) x273000 x273001) else (none)) else (none))
def spec_l1Read.j2 : Nat → ByteArray → Int → Bool → List Bool → List Bool → Option (List Bool × List Bool × Bool)
 | 0, _, _, _, _, _ => none
 | k + 1, x0, x5, x37, x273000, x273001 => if x37 = true then (some (x273000, x273001, false)) else (if 0 ≤ x5 then (if x5 ≤ (x0.size : Int) then ((spec_l1Signs.f k (x0.extract 0 (x5 : Int).toNat)).bind fun bt273 => (if 0 ≤ (wrap64 (x5 + 1)) then (if (wrap64 (x5 + 1)) ≤ (wrap64 ((x0.size : Int) - 1)) then (if (wrap64 ((x0.size : Int) - 1)) ≤ (x0.size : Int) then ((spec_l1Signs.f k (x0.extract ((wrap64 (x5 + 1)) : Int).toNat ((wrap64 ((x0.size : Int) - 1)) : Int).toNat)).bind fun bt277 => (if bt273.2 = true then (if bt277.2 = true then (if (bt273.1.length : Int) > 60 then (some (x273000, x273001, false)) else (if (bt277.1.length : Int) > 60 then (some (x273000, x273001, false)) else (some (bt273.1, bt277.1, true)))) else (some (x273000, x273001, false))) else (some (x273000, x273001, false)))) else (none)) else (none)) else (none))) else (none)) else (none))
def spec_l1Read.l0 : Nat → ByteArray → Int → List Bool → List Bool → Option (List Bool × List Bool × Bool)
 | 0, _, _, _, _ => none
 | k + 1, x0, x5, x273000, x273001 => if x5 < (x0.size : Int) then (if 0 ≤ x5 then (if (bt x0 x5) = 40 then (spec_l1Read.j1 k x0 x5 x273000 x273001) else (spec_l1Read.l0 k x0 (wrap64 (x5 + 1)) x273000 x273001)) else (none)) else (spec_l1Read.j1 k x0 x5 x273000 x273001)
end
def spec_l1Read.f (k : Nat) (a0 : ByteArray) : Option (List Bool × List Bool × Bool) := spec_l1Read.l0 k a0 0 (([] : List Bool)) (([false] : List Bool))
theorem spec_l1Read.mono_l : ∀ k, (∀ y0 y1 y2 y3, LeO (spec_l1Read.j1 k y0 y1 y2 y3) (spec_l1Read.j1 (k + 1) y0 y1 y2 y3)) ∧ (∀ y0 y1 y2 y3 y4, LeO (spec_l1Read.j2 k y0 y1 y2 y3 y4) (spec_l1Read.j2 (k + 1) y0 y1 y2 y3 y4)) ∧ (∀ y0 y1 y2 y3, LeO (spec_l1Read.l0 k y0 y1 y2 y3) (spec_l1Read.l0 (k + 1) y0 y1 y2 y3))
 | 0 => ⟨fun _ _ _ _ r h => by simp [spec_l1Read.j1] at h, fun _ _ _ _ _ r h => by simp [spec_l1Read.j2] at h, fun _ _ _ _ r h => by simp [spec_l1Read.l0] at h⟩
 | k + 1 => by
  obtain ⟨ih0, ih1, ih2⟩ := spec_l1Read.mono_l k
  refine ⟨?_, ?_, ?_⟩
  ·intro y0 y1 y2 y3
   unfold spec_l1Read.j1
   repeat' first
   | (with_reducible exact ih0 _ _ _ _)
   | (with_reducible exact ih1 _ _ _ _ _)
   | (with_reducible exact ih2 _ _ _ _)
   | (with_reducible exact spec_l1Signs.mono _ _)
   | (with_reducible exact LeO.refl _)
   | (with_reducible exact LeO.none _)
   | (with_reducible refine LeO.ite ?_ ?_)
   | (with_reducible refine LeO.bind ?_ (fun _ => ?_))
   | exact ih0 _ _ _ _
   | exact ih1 _ _ _ _ _
   | exact ih2 _ _ _ _
   | exact spec_l1Signs.mono _ _
   | exact LeO.none _
   | refine LeO.ite ?_ ?_
   | refine LeO.bind ?_ (fun _ => ?_)
  ·intro y0 y1 y2 y3 y4
   unfold spec_l1Read.j2
   repeat' first
   | (with_reducible exact ih0 _ _ _ _)
   | (with_reducible exact ih1 _ _ _ _ _)
   | (with_reducible exact ih2 _ _ _ _)
   | (with_reducible exact spec_l1Signs.mono _ _)
   | (with_reducible exact LeO.refl _)
   | (with_reducible exact LeO.none _)
   | (with_reducible refine LeO.ite ?_ ?_)
   | (with_reducible refine LeO.bind ?_ (fun _ => ?_))
   | exact ih0 _ _ _ _
   | exact ih1 _ _ _ _ _
   | exact ih2 _ _ _ _
   | exact spec_l1Signs.mono _ _
   | exact LeO.none _
   | refine LeO.ite ?_ ?_
   | refine LeO.bind ?_ (fun _ => ?_)
  ·intro y0 y1 y2 y3
   unfold spec_l1Read.l0
   repeat' first
   | (with_reducible exact ih0 _ _ _ _)
   | (with_reducible exact ih1 _ _ _ _ _)
   | (with_reducible exact ih2 _ _ _ _)
   | (with_reducible exact spec_l1Signs.mono _ _)
   | (with_reducible exact LeO.refl _)
   | (with_reducible exact LeO.none _)
   | (with_reducible refine LeO.ite ?_ ?_)
   | (with_reducible refine LeO.bind ?_ (fun _ => ?_))
   | exact ih0 _ _ _ _
   | exact ih1 _ _ _ _ _
   | exact ih2 _ _ _ _
   | exact spec_l1Signs.mono _ _
   | exact LeO.none _
   | refine LeO.ite ?_ ?_
   | refine LeO.bind ?_ (fun _ => ?_)
theorem spec_l1Read.mono : ∀ a0 k, LeO (spec_l1Read.f k a0) (spec_l1Read.f (k + 1) a0) := by
 intro a0 k
 obtain ⟨ih0, ih1, ih2⟩ := spec_l1Read.mono_l k
 unfold spec_l1Read.f
 repeat' first
   | (with_reducible exact ih0 _ _ _ _)
   | (with_reducible exact ih1 _ _ _ _ _)
   | (with_reducible exact ih2 _ _ _ _)
   | (with_reducible exact spec_l1Signs.mono _ _)
   | (with_reducible exact LeO.refl _)
   | (with_reducible exact LeO.none _)
   | (with_reducible refine LeO.ite ?_ ?_)
   | (with_reducible refine LeO.bind ?_ (fun _ => ?_))
   | exact ih0 _ _ _ _
   | exact ih1 _ _ _ _ _
   | exact ih2 _ _ _ _
   | exact spec_l1Signs.mono _ _
   | exact LeO.none _
   | refine LeO.ite ?_ ?_
   | refine LeO.bind ?_ (fun _ => ?_)
set_option maxHeartbeats 8000000 in
set_option maxRecDepth 100000 in
theorem spec_l1Read.calls (k : Nat) (a0 : ByteArray) (r1 : List Bool) (r2 : List Bool) (r3 : Bool) (w : World) (h : spec_l1Read.f k a0 = some (r1, r2, r3)) :
  Calls Try.prog 66 #[.string a0] w fun e w' => ∃ v0_ v1_ : Value, e = .returned (.tuple #[.agg #[v0_, v1_], .bool r3]) ∧ Kd.R Kd.bool 4 w' w.heap.size (fun k_ => some k_ ≠ (v1_ : Value).ownBlock) v0_ r1 ∧ Kd.R Kd.bool 4 w' w.heap.size (fun k_ => some k_ ≠ (v0_ : Value).ownBlock) v1_ r2 ∧ Below w.heap.size w w' := by
 have hu47 := Try.underlying47
 have HB := aM (Below.refl w.heap.size w)
 have H : (spec_l1Read.l0 k a0 0 (([] : List Bool)) (([false] : List Bool))) = some (r1, r2, r3) := h
 clear h
 obtain ⟨y266, hy266⟩ : ∃ y_ : List Bool, y_ = (([] : List Bool)) := ⟨_, rfl⟩
 replace H : (spec_l1Read.l0 k a0 0 y266 (([false] : List Bool))) = some (r1, r2, r3) := by first | (rw [hy266]; with_reducible exact H) | (have H2_ := (Option.bind_some _ _).symm.trans H; rw [hy266]; with_reducible exact H2_) | (have H2_ := (Option.bind_some _ _).symm.trans H; with_reducible exact H2_) | with_reducible exact H | (rw [hy266]; exact H) | exact H
 have Ny266 := aM hy266
 clear hy266
 obtain ⟨y269, hy269⟩ : ∃ y_ : List Bool, y_ = (([false] : List Bool)) := ⟨_, rfl⟩
 replace H : (spec_l1Read.l0 k a0 0 y266 y269) = some (r1, r2, r3) := by first | (rw [hy269]; with_reducible exact H) | (have H2_ := (Option.bind_some _ _).symm.trans H; rw [hy269]; with_reducible exact H2_) | (have H2_ := (Option.bind_some _ _).symm.trans H; with_reducible exact H2_) | with_reducible exact H | (rw [hy269]; exact H) | exact H
 have Ny269 := aM hy269
 clear hy269
 have HC2 := aM H
 clear H
 go_enter Try.func66, Try.ntmps66
 go_upto_block 0 with (first | ((with_reducible refine gate_dst (N := 2) rfl ?_); (try (refine gate_guard (by rfl) ?_; dsimp only)); refine box_event ?hg (N := 2) ?hd (cs := #[.slice none 0 0, .slice none 0 0]) (t := 47) ?hr ?_; (case hd => rfl); (case hg => rfl); (case hr => first | (go_simp; done) | (go_simp; rfl)); intro gb265 hg w3 hbox hb; have n0_ := aM (below_step (by repeat (first | (with_reducible first | exact HB.out | apply bA | apply bN | apply b1) | exact HB.out)) hb); have n1_ := aM (hbox); have n2_ := aM ((by rw [hg]; exact (below_size (by repeat (first | (with_reducible first | exact HB.out | apply bA | apply bN | apply b1) | exact HB.out))) : w.heap.size ≤ gb265)); have n3_ := aM ((by rw [hg]; exact (below_size (by repeat (first | (with_reducible first | exact HB.out | apply bA | apply bN | apply b1) | exact HB.out))) : w.heap.size ≤ gb265)); clear HB; have HB := n0_; have BK265 := n1_; have GW265 := n2_; have GE265 := n3_; clear n0_ n1_ n2_ n3_; clear hb hbox hg) | ((with_reducible refine gate_dst (N := 10) rfl ?_); (try (refine gate_guard (by rfl) ?_; dsimp only)); refine Kd.R_lit Kd.bool _ 4 ?hg (N := 10) ?hd (xs := ([] : List Bool)) (inner := []) (ok := fun _ => True) (okp := fun _ => True) ?hr ?hp (fun _ hk => hk) trivial (Below.refl _ _) (Nat.le_refl _) (by simp) ?_; (case hd => rfl); (case hg => rfl); (case hr => first | (go_simp; done) | (go_simp; rfl)); (case hp => exact (Reps.none _ _)); intro v267 w4 ho5 hb hg_ hnew_; clear hg_ hnew_; (first | rw [← Ny266.out] at ho5 | (simp only [Int.reduceToNat] at ho5; rw [← Ny266.out] at ho5)); have n0_ := aM (Kd.R_lower ho5 (below_size (by repeat (first | (with_reducible first | exact HB.out | apply bA | apply bN | apply b1 | refine bS ?_ GE265.out) | exact HB.out)))); have n1_ := aM (blk_below (g := gb265) (o := .cells #[.slice none 0 0, .slice none 0 0] 47 (0, 0)) (by (with_reducible repeat (first | refine kN ?_ _ | refine kD ?_ | refine kA ?_ _)); exact BK265.out) hb); have n2_ := aM (below_step (by repeat (first | (with_reducible first | exact HB.out | apply bA | apply bN | apply b1 | refine bS ?_ GE265.out) | exact HB.out)) hb); clear BK265; clear HB; have HO268 := n0_; have BK265 := n1_; have HB := n2_; clear n0_ n1_ n2_; clear hb ho5) | ((with_reducible refine gate_dst (N := 11) rfl ?_); (try (refine gate_guard (by rfl) ?_; dsimp only)); refine Kd.R_lit Kd.bool _ 4 ?hg (N := 11) ?hd (xs := ([false] : List Bool)) (inner := [.bool false]) (ok := fun _ => True) (okp := fun _ => True) ?hr ?hp (fun _ hk => hk) trivial (Below.refl _ _) (Nat.le_refl _) (by simp) ?_; (case hd => rfl); (case hg => rfl); (case hr => first | (go_simp; done) | (go_simp; rfl)); (case hp => exact (Reps.one (show Kd.M Kd.bool _ _ _ false [.bool false] from rfl) (Reps.none _ _))); intro v270 w6 ho7 hb hg_ hnew_; clear hg_ hnew_; (first | rw [← Ny269.out] at ho7 | (simp only [Int.reduceToNat] at ho7; rw [← Ny269.out] at ho7)); have n0_ := aM (Kd.R_elder' (by (with_reducible repeat (first | apply rA | apply rN | apply rD)); exact HO268.out) (Kd.R_base ho7) hb); have n1_ := aM (Kd.R_lower (Kd.R_new' ho7 (Kd.R_lt (by (with_reducible repeat (first | apply rA | apply rN | apply rD)); exact HO268.out))) (below_size (by repeat (first | (with_reducible first | exact HB.out | apply bA | apply bN | apply b1 | refine bS ?_ GE265.out) | exact HB.out)))); have n2_ := aM (blk_below (g := gb265) (o := .cells #[.slice none 0 0, .slice none 0 0] 47 (0, 0)) (by (with_reducible repeat (first | refine kN ?_ _ | refine kD ?_ | refine kA ?_ _)); exact BK265.out) hb); have n3_ := aM (below_step (by repeat (first | (with_reducible first | exact HB.out | apply bA | apply bN | apply b1 | refine bS ?_ GE265.out) | exact HB.out)) hb); clear HO268; clear BK265; clear HB; have HO268 := n0_; have HO271 := n1_; have BK265 := n2_; have HB := n3_; clear n0_ n1_ n2_ n3_; clear hb ho7; obtain ⟨Ao8, co8, eo8⟩ := Kd.R_slice HO271.out; subst eo8; obtain ⟨Ao9, co9, eo9⟩ := Kd.R_slice HO268.out; subst eo9) | ((with_reducible refine gate_dst (N := 4) rfl ?_); (try (refine gate_guard (by rfl) ?_; dsimp only)); refine box_event ?hg (N := 4) ?hd (cs := #[.slice none 0 0, .slice none 0 0]) (t := 47) ?hr ?_; (case hd => rfl); (case hg => rfl); (case hr => first | (go_simp; done) | (go_simp; rfl)); intro gb272 hg w10 hbox hb; have n0_ := aM (Kd.R_below (by (with_reducible repeat (first | apply rA | apply rN | apply rD)); exact HO268.out) hb); have n1_ := aM (Kd.R_below (by (with_reducible repeat (first | apply rA | apply rN | apply rD)); exact HO271.out) hb); have n2_ := aM (blk_below (g := gb265) (o := .cells #[.slice none 0 0, .slice none 0 0] 47 (0, 0)) (by (with_reducible repeat (first | refine kN ?_ _ | refine kD ?_ | refine kA ?_ _)); exact BK265.out) hb); have n3_ := aM (below_step (by repeat (first | (with_reducible first | exact HB.out | apply bA | apply bN | apply b1 | refine bS ?_ GE265.out) | exact HB.out)) hb); have n4_ := aM (hbox); have n5_ := aM ((by rw [hg]; exact (below_size (by repeat (first | (with_reducible first | exact HB.out | apply bA | apply bN | apply b1 | refine bS ?_ GE265.out) | exact HB.out))) : w.heap.size ≤ gb272)); have n6_ := aM ((by rw [hg]; exact (below_size (by repeat (first | (with_reducible first | exact HB.out | apply bA | apply bN | apply b1 | refine bS ?_ GE265.out) | exact HB.out))) : w.heap.size ≤ gb272)); have n7_ := aM ((by rw [hg]; exact Nat.ne_of_lt (blk_lt (g := gb265) (o := .cells #[.slice none 0 0, .slice none 0 0] 47 (0, 0)) (by (with_reducible repeat (first | refine kN ?_ _ | refine kD ?_ | refine kA ?_ _)); exact BK265.out)) : gb265 ≠ gb272)); have n8_ := aM ((by rw [hg]; exact Nat.ne_of_gt (blk_lt (g := gb265) (o := .cells #[.slice none 0 0, .slice none 0 0] 47 (0, 0)) (by (with_reducible repeat (first | refine kN ?_ _ | refine kD ?_ | refine kA ?_ _)); exact BK265.out)) : gb272 ≠ gb265)); clear HO268; clear HO271; clear BK265; clear HB; have HO268 := n0_; have HO271 := n1_; have BK265 := n2_; have HB := n3_; have BK272 := n4_; have GW272 := n5_; have GE272 := n6_; have NB265_272 := n7_; have NB272_265 := n8_; clear n0_ n1_ n2_ n3_ n4_ n5_ n6_ n7_ n8_; clear hb hbox hg; have hnb11 := NB272_265.out; have hnc11 := NB265_272.out; have hcz12_0 : w10.cell? ⟨gb272, 0, none⟩ = some (.slice none 0 0) := (blk_cell BK272.out 0).trans rfl; have hcz12_1 : w10.cell? ⟨gb272, 1, none⟩ = some (.slice none 0 0) := (blk_cell BK272.out 1).trans rfl; have hfz12_0 := blk_frozen BK272.out 0; have hfz12_1 := blk_frozen BK272.out 1))
 (try simp only [Act.put, sA, sZ, sS])
 go_cut [5] (fun v5 wc => ∃ (kq : Nat) (x5_1 : Int), v5 = .int .i64 x5_1 ∧ Aside0 (spec_l1Read.j1 kq a0 x5_1 y266 y269 = some (r1, r2, r3)) ∧ Aside0 (kq ≤ k) ∧ Aside0 (Kd.R Kd.bool 4 wc w.heap.size (fun k_ => some k_ ≠ ((.slice Ao8 y269.length co8) : Value).ownBlock) (.slice Ao9 y266.length co9) y266) ∧ Aside0 (Kd.R Kd.bool 4 wc w.heap.size (fun k_ => some k_ ≠ ((.slice Ao9 y266.length co9) : Value).ownBlock) (.slice Ao8 y269.length co8) y269) ∧ Aside0 (wc.heap[gb265]? = some (.cells #[(.slice none 0 0), (.slice none 0 0)] 47 (0, 0))) ∧ Aside0 (wc.heap[gb272]? = some (.cells #[(.slice Ao9 y266.length co9), (.slice Ao8 y269.length co8)] 47 (0, 0))) ∧ Aside0 (Below w.heap.size w wc))
 case first =>
  have H := HC2.out
  clear HC2
  have H' := aM H
  clear H
  go_wp2
  go_loopg [5] k (fun kq v5 w' => ∃ (x5_1 : Int), v5 = .int .i64 x5_1 ∧ Aside0 (spec_l1Read.l0 kq a0 x5_1 y266 y269 = some (r1, r2, r3)) ∧ Aside0 (kq ≤ k) ∧ Aside0 (Kd.R Kd.bool 4 w' w.heap.size (fun k_ => some k_ ≠ ((.slice Ao8 y269.length co8) : Value).ownBlock) (.slice Ao9 y266.length co9) y266) ∧ Aside0 (Kd.R Kd.bool 4 w' w.heap.size (fun k_ => some k_ ≠ ((.slice Ao9 y266.length co9) : Value).ownBlock) (.slice Ao8 y269.length co8) y269) ∧ Aside0 (w'.heap[gb265]? = some (.cells #[(.slice none 0 0), (.slice none 0 0)] 47 (0, 0))) ∧ Aside0 (w'.heap[gb272]? = some (.cells #[(.slice Ao9 y266.length co9), (.slice Ao8 y269.length co8)] 47 (0, 0))) ∧ Aside0 (Below w.heap.size w w'))
  case atStart => exact ⟨(0), (by first | rfl | (simp; done) | (simp [*]; done) | (simp [Int.tmod_eq_emod_of_nonneg]; done)), H', ⟨Nat.le_refl _⟩, ⟨by (with_reducible repeat (first | apply rA | apply rN | apply rD)); exact Kd.R_mono (Kd.R_far (p := ⟨gb272, 1, none⟩) (Kd.R_far (p := ⟨gb272, 0, none⟩) (Kd.R_types HO268.out BK272.out (by decide)) (fun _ hk => hk.2) (.slice Ao9 y266.length co9)) (fun _ hk => hk.2) (.slice Ao8 y269.length co8)) (fun _ hk => hk.1.2)⟩, ⟨by (with_reducible repeat (first | apply rA | apply rN | apply rD)); exact Kd.R_mono (Kd.R_far (p := ⟨gb272, 1, none⟩) (Kd.R_far (p := ⟨gb272, 0, none⟩) (Kd.R_types HO271.out BK272.out (by decide)) (fun _ hk => hk.2) (.slice Ao9 y266.length co9)) (fun _ hk => hk.2) (.slice Ao8 y269.length co8)) (fun _ hk => hk.1.2)⟩, ⟨by (with_reducible repeat (first | refine kN ?_ _ | refine kD ?_ | refine kA ?_ _)); refine blk_far ?_ NB265_272.out _; (with_reducible repeat (first | refine kN ?_ _ | refine kD ?_ | refine kA ?_ _)); refine blk_far ?_ NB265_272.out _; (with_reducible repeat (first | refine kN ?_ _ | refine kD ?_ | refine kA ?_ _)); exact BK265.out⟩, ⟨by (with_reducible repeat (first | refine kN ?_ _ | refine kD ?_ | refine kA ?_ _)); refine blk_put (cs := #[.slice Ao9 y266.length co9, .slice none 0 0]) ?_ 1 _ rfl; (with_reducible repeat (first | refine kN ?_ _ | refine kD ?_ | refine kA ?_ _)); refine blk_put (cs := #[.slice none 0 0, .slice none 0 0]) ?_ 0 _ rfl; (with_reducible repeat (first | refine kN ?_ _ | refine kD ?_ | refine kA ?_ _)); exact BK272.out⟩, ⟨by repeat (first | (with_reducible first | exact HB.out | apply bA | apply bN | apply b1 | refine bS ?_ GE265.out | refine bS ?_ GE272.out) | exact HB.out)⟩⟩
  case round =>
   clear H'
   try clear c1
   try clear p2
   try clear c6
   try clear c11
   try clear hcz12_0
   try clear hcz12_1
   try clear hfz12_0
   try clear hfz12_1
   obtain ⟨x5_1, rfl, HA, HK1, HO_273000, HO_273001, BK265, BK272, HB⟩ := hrel
   cases gk with
   | zero => exact absurd HA.out (by simp [spec_l1Read.l0])
   | succ k1 =>
    have H := HA.out
    clear HA
    simp only [spec_l1Read.l0] at H
    by_cases c13 : x5_1 < (a0.size : Int)
    ·rw [if_pos c13] at H
     have c13b0 : decide (x5_1 < (a0.size : Int)) = true := decide_eq_true c13
     clear c13
     (first | rw [c13b0] | (simp only [i64_w, i32_w]; rw [c13b0]) | skip)
     by_cases c14 : 0 ≤ x5_1
     ·rw [if_pos c14] at H
      have c14b0 : decide (0 ≤ x5_1) = true := decide_eq_true c14
      clear c14
      by_cases c16 : (bt a0 x5_1) = 40
      ·rw [if_pos c16] at H
       have c16b0 : ((bt a0 x5_1) == 40) = true := beq_iff_eq.mpr c16
       have c16b1 : ((bt a0 x5_1) != 40) = false := bne_eq_false_iff_eq.mpr c16
       clear c16
       have H' := aM H
       clear H
       have p15 : 0 ≤ (x5_1 : Int) := of_decide_eq_true (by first | (with_reducible assumption) | assumption)
       have q15 : x5_1 < (a0.size : Int) := of_decide_eq_true (by first | (with_reducible assumption) | assumption)
       have hx15 := bt_at a0 x5_1
       replace p15 := eq_true p15
       replace q15 := eq_true q15
       go_wp2
       go_meet
       case rel => exact ⟨_, (x5_1), (by first | rfl | (simp; done) | (simp [*]; done) | (simp [Int.tmod_eq_emod_of_nonneg]; done)), H', ⟨by have := HK1.out; first | omega | exact Nat.le_refl _⟩, ⟨by (with_reducible repeat (first | apply rA | apply rN | apply rD)); exact HO_273000.out⟩, ⟨by (with_reducible repeat (first | apply rA | apply rN | apply rD)); exact HO_273001.out⟩, ⟨by (with_reducible repeat (first | refine kN ?_ _ | refine kD ?_ | refine kA ?_ _)); exact BK265.out⟩, ⟨by (with_reducible repeat (first | refine kN ?_ _ | refine kD ?_ | refine kA ?_ _)); exact BK272.out⟩, ⟨by repeat (first | (with_reducible first | exact HB.out | apply bA | apply bN | apply b1 | refine bS ?_ GE265.out | refine bS ?_ GE272.out) | exact HB.out)⟩⟩
      ·rw [if_neg c16] at H
       have c16b0 : ((bt a0 x5_1) == 40) = false := beq_eq_false_iff_ne.mpr c16
       have c16b1 : ((bt a0 x5_1) != 40) = true := bne_iff_ne.mpr c16
       have H' := aM H
       clear H
       have p15 : 0 ≤ (x5_1 : Int) := of_decide_eq_true (by first | (with_reducible assumption) | assumption)
       have q15 : x5_1 < (a0.size : Int) := of_decide_eq_true (by first | (with_reducible assumption) | assumption)
       have hx15 := bt_at a0 x5_1
       replace p15 := eq_true p15
       replace q15 := eq_true q15
       go_wp2
       go_roundg k1
       case measure => have := HK1.out; omega
       case rel => exact ⟨(wrap64 (x5_1 + 1)), (by first | rfl | (simp; done) | (simp [*]; done) | (simp [Int.tmod_eq_emod_of_nonneg]; done)), H', ⟨by have := HK1.out; omega⟩, ⟨by (with_reducible repeat (first | apply rA | apply rN | apply rD)); exact HO_273000.out⟩, ⟨by (with_reducible repeat (first | apply rA | apply rN | apply rD)); exact HO_273001.out⟩, ⟨by (with_reducible repeat (first | refine kN ?_ _ | refine kD ?_ | refine kA ?_ _)); exact BK265.out⟩, ⟨by (with_reducible repeat (first | refine kN ?_ _ | refine kD ?_ | refine kA ?_ _)); exact BK272.out⟩, ⟨by repeat (first | (with_reducible first | exact HB.out | apply bA | apply bN | apply b1 | refine bS ?_ GE265.out | refine bS ?_ GE272.out) | exact HB.out)⟩⟩
     ·rw [if_neg c14] at H
      exact absurd H (by simp)
    ·rw [if_neg c13] at H
     have c13b0 : decide (x5_1 < (a0.size : Int)) = false := decide_eq_false c13
     clear c13
     (first | rw [c13b0] | (simp only [i64_w, i32_w]; rw [c13b0]) | skip)
     have H' := aM H
     clear H
     go_wp2
     go_meet
     case rel => exact ⟨_, (x5_1), (by first | rfl | (simp; done) | (simp [*]; done) | (simp [Int.tmod_eq_emod_of_nonneg]; done)), H', ⟨by have := HK1.out; first | omega | exact Nat.le_refl _⟩, ⟨by (with_reducible repeat (first | apply rA | apply rN | apply rD)); exact HO_273000.out⟩, ⟨by (with_reducible repeat (first | apply rA | apply rN | apply rD)); exact HO_273001.out⟩, ⟨by (with_reducible repeat (first | refine kN ?_ _ | refine kD ?_ | refine kA ?_ _)); exact BK265.out⟩, ⟨by (with_reducible repeat (first | refine kN ?_ _ | refine kD ?_ | refine kA ?_ _)); exact BK272.out⟩, ⟨by repeat (first | (with_reducible first | exact HB.out | apply bA | apply bN | apply b1 | refine bS ?_ GE265.out | refine bS ?_ GE272.out) | exact HB.out)⟩⟩
 case rest =>
  clear HC2
  try clear c1
  try clear p1
  try clear q1
  try clear hx1
  try clear p2
  try clear c6
  try clear p6
  try clear c11
  try clear c13
  try clear c13b0
  try clear c14
  try clear c14b0
  try clear p15
  try clear q15
  try clear hx15
  try clear c16
  try clear c16b0
  try clear c16b1
  try clear hcz12_0
  try clear hcz12_1
  try clear hfz12_0
  try clear hfz12_1
  try clear p15
  try clear p2
  try clear q15
  obtain ⟨kq, x5_1, rfl, HA, HJ1, HO_273000, HO_273001, BK265, BK272, HB⟩ := hcut
  cases kq with
  | zero => exact absurd HA.out (by simp [spec_l1Read.j1])
  | succ kj1 =>
   have H := HA.out
   clear HA
   simp only [spec_l1Read.j1] at H
   have HC17 := aM H
   clear H
   go_upto_region 5 with (fail)
   go_cut [37] (fun v37 wc => ∃ (kq : Nat) (x37_16 : Bool), v37 = .bool x37_16 ∧ Aside0 (spec_l1Read.j2 kq a0 x5_1 x37_16 y266 y269 = some (r1, r2, r3)) ∧ Aside0 (kq ≤ kj1) ∧ Aside0 (Kd.R Kd.bool 4 wc w.heap.size (fun k_ => some k_ ≠ ((.slice Ao8 y269.length co8) : Value).ownBlock) (.slice Ao9 y266.length co9) y266) ∧ Aside0 (Kd.R Kd.bool 4 wc w.heap.size (fun k_ => some k_ ≠ ((.slice Ao9 y266.length co9) : Value).ownBlock) (.slice Ao8 y269.length co8) y269) ∧ Aside0 (wc.heap[gb265]? = some (.cells #[(.slice none 0 0), (.slice none 0 0)] 47 (0, 0))) ∧ Aside0 (wc.heap[gb272]? = some (.cells #[(.slice Ao9 y266.length co9), (.slice Ao8 y269.length co8)] 47 (0, 0))) ∧ Aside0 (Below w.heap.size w wc))
   case first =>
    have H := HC17.out
    clear HC17
    by_cases c18 : (wrap64 (x5_1 + 2)) ≥ (a0.size : Int)
    ·rw [if_pos c18] at H
     have c18b0 : decide ((a0.size : Int) ≤ (wrap64 (x5_1 + 2))) = true := decide_eq_true c18
     clear c18
     (first | rw [c18b0] | (simp only [i64_w, i32_w]; rw [c18b0]) | skip)
     have H' := aM H
     clear H
     go_wp2
     go_meet
     case rel => exact ⟨_, (true), (by first | rfl | (simp; done) | (simp [*]; done) | (simp [Int.tmod_eq_emod_of_nonneg]; done)), H', ⟨by have := HJ1.out; first | omega | exact Nat.le_refl _⟩, ⟨by (with_reducible repeat (first | apply rA | apply rN | apply rD)); exact HO_273000.out⟩, ⟨by (with_reducible repeat (first | apply rA | apply rN | apply rD)); exact HO_273001.out⟩, ⟨by (with_reducible repeat (first | refine kN ?_ _ | refine kD ?_ | refine kA ?_ _)); exact BK265.out⟩, ⟨by (with_reducible repeat (first | refine kN ?_ _ | refine kD ?_ | refine kA ?_ _)); exact BK272.out⟩, ⟨by repeat (first | (with_reducible first | exact HB.out | apply bA | apply bN | apply b1 | refine bS ?_ GE265.out | refine bS ?_ GE272.out) | exact HB.out)⟩⟩
    ·rw [if_neg c18] at H
     have c18b0 : decide ((a0.size : Int) ≤ (wrap64 (x5_1 + 2))) = false := decide_eq_false c18
     clear c18
     (first | rw [c18b0] | (simp only [i64_w, i32_w]; rw [c18b0]) | skip)
     obtain ⟨ji19, hji19⟩ : ∃ j_ : Int, (wrap64 ((a0.size : Int) - 1)) = j_ := ⟨_, rfl⟩
     replace H : (if 0 ≤ (ji19) then (if (ji19) < (a0.size : Int) then (spec_l1Read.j2 kj1 a0 x5_1 ((bt a0 (ji19)) != 41) y266 y269) else (none)) else (none)) = some (r1, r2, r3) := by first | (rw [hji19] at H; exact H) | (simp only [hji19] at H ⊢; exact H)
     have hji19w : (IntKind.i64.wrap ((a0.size : Int) - 1)) = ji19 := (i64_w _).trans hji19
     by_cases c20 : 0 ≤ (ji19)
     ·rw [if_pos c20] at H
      have c20b0 : decide (0 ≤ (ji19)) = true := decide_eq_true c20
      clear c20
      by_cases c21 : (ji19) < (a0.size : Int)
      ·rw [if_pos c21] at H
       have c21b0 : decide ((ji19) < (a0.size : Int)) = true := decide_eq_true c21
       clear c21
       have H' := aM H
       clear H
       have p22 : 0 ≤ ((ji19) : Int) := of_decide_eq_true (by first | (with_reducible assumption) | assumption)
       have q22 : (ji19) < (a0.size : Int) := of_decide_eq_true (by first | (with_reducible assumption) | assumption)
       have hx22 := bt_at a0 (ji19)
       replace p22 := eq_true p22
       replace q22 := eq_true q22
       go_wp2
       go_meet
       case rel => exact ⟨_, (((bt a0 (ji19)) != 41)), (by first | rfl | (simp; done) | (simp only [← hji19] <;> (first | rfl | simp)) | (simp [*]; done) | (simp [Int.tmod_eq_emod_of_nonneg]; done)), H', ⟨by have := HJ1.out; first | omega | exact Nat.le_refl _⟩, ⟨by (with_reducible repeat (first | apply rA | apply rN | apply rD)); exact HO_273000.out⟩, ⟨by (with_reducible repeat (first | apply rA | apply rN | apply rD)); exact HO_273001.out⟩, ⟨by (with_reducible repeat (first | refine kN ?_ _ | refine kD ?_ | refine kA ?_ _)); exact BK265.out⟩, ⟨by (with_reducible repeat (first | refine kN ?_ _ | refine kD ?_ | refine kA ?_ _)); exact BK272.out⟩, ⟨by repeat (first | (with_reducible first | exact HB.out | apply bA | apply bN | apply b1 | refine bS ?_ GE265.out | refine bS ?_ GE272.out) | exact HB.out)⟩⟩
      ·rw [if_neg c21] at H
       exact absurd H (by simp)
     ·rw [if_neg c20] at H
      exact absurd H (by simp)
   case rest =>
    clear HC17
    try clear c1
    try clear p1
    try clear q1
    try clear hx1
    try clear c2
    try clear p2
    try clear q2
    try clear hx2
    try clear c6
    try clear p6
    try clear c11
    try clear c13
    try clear c13b0
    try clear c14
    try clear c14b0
    try clear p15
    try clear q15
    try clear hx15
    try clear c16
    try clear c16b0
    try clear c16b1
    try clear c18
    try clear c18b0
    try clear c20
    try clear c20b0
    try clear c21
    try clear c21b0
    try clear p22
    try clear q22
    try clear hx22
    try clear hcz12_0
    try clear hcz12_1
    try clear hfz12_0
    try clear hfz12_1
    try clear p1
    try clear p15
    try clear p2
    try clear p22
    try clear p6
    try clear q1
    try clear q15
    try clear q22
    obtain ⟨kq, x37_16, rfl, HA, HJ16, HO_273000, HO_273001, BK265, BK272, HB⟩ := hcut
    cases kq with
    | zero => exact absurd HA.out (by simp [spec_l1Read.j2])
    | succ kj16 =>
     have H := HA.out
     clear HA
     simp only [spec_l1Read.j2] at H
     by_cases c23 : x37_16 = true
     ·subst c23
      have H1 : (some (y266, y269, false)) = some (r1, r2, r3) := by rw [if_pos rfl] at H; exact H
      clear H
      have H := H1
      clear H1
      simp only [Option.some.injEq, Prod.mk.injEq] at H
      obtain ⟨rfl, rfl, rfl⟩ := H
      have hnb24 := NB272_265.out
      have hnc24 := NB265_272.out
      have hcz25_0 : wc.cell? ⟨gb272, 0, none⟩ = some (.slice Ao9 y266.length co9) := (blk_cell BK272.out 0).trans rfl
      have hcz25_1 : wc.cell? ⟨gb272, 1, none⟩ = some (.slice Ao8 y269.length co8) := (blk_cell BK272.out 1).trans rfl
      have hfz25_0 := blk_frozen BK272.out 0
      have hfz25_1 := blk_frozen BK272.out 1
      have hcz26_0 : wc.cell? ⟨gb265, 0, none⟩ = some (.slice none 0 0) := (blk_cell BK265.out 0).trans rfl
      have hcz26_1 : wc.cell? ⟨gb265, 1, none⟩ = some (.slice none 0 0) := (blk_cell BK265.out 1).trans rfl
      have hfz26_0 := blk_frozen BK265.out 0
      have hfz26_1 := blk_frozen BK265.out 1
      go_wp2
      refine bodyPost_ret (results_ct rfl _ _ gb265 47 #[.slice Ao9 y266.length co9, .slice Ao8 y269.length co8] (0, 0) _ rfl (by (with_reducible repeat (first | refine kN ?_ _ | refine kD ?_ | refine kA ?_ _)); refine blk_put (cs := #[.slice Ao9 y266.length co9, .slice none 0 0]) ?_ 1 _ rfl; (with_reducible repeat (first | refine kN ?_ _ | refine kD ?_ | refine kA ?_ _)); refine blk_put (cs := #[.slice none 0 0, .slice none 0 0]) ?_ 0 _ rfl; (with_reducible repeat (first | refine kN ?_ _ | refine kD ?_ | refine kA ?_ _)); exact BK265.out) Try.underlying47 rfl (by kernel_rfl)) rfl ?_
      exact ⟨_, _, by first | rfl | (simp [errW_none, errW_some] <;> rfl) | (simp [errW_none, errW_some]; exact ⟨rfl, rfl⟩) | (simp [errW_none, errW_some]; exact ⟨rfl, rfl, rfl⟩) | (simp [*, errW_none, errW_some] <;> rfl), by (with_reducible repeat (first | apply rA | apply rN | apply rD)); exact Kd.R_mono (Kd.R_far (p := ⟨gb265, 1, none⟩) (Kd.R_far (p := ⟨gb265, 0, none⟩) (Kd.R_types HO_273000.out BK265.out (by decide)) (fun _ hk => hk.2) (.slice Ao9 y266.length co9)) (fun _ hk => hk.2) (.slice Ao8 y269.length co8)) (fun _ hk => hk.1), by (with_reducible repeat (first | apply rA | apply rN | apply rD)); exact Kd.R_mono (Kd.R_far (p := ⟨gb265, 1, none⟩) (Kd.R_far (p := ⟨gb265, 0, none⟩) (Kd.R_types HO_273001.out BK265.out (by decide)) (fun _ hk => hk.2) (.slice Ao9 y266.length co9)) (fun _ hk => hk.2) (.slice Ao8 y269.length co8)) (fun _ hk => hk.1), by repeat (first | (with_reducible first | exact HB.out | apply bA | apply bN | apply b1 | refine bS ?_ GE265.out | refine bS ?_ GE272.out) | exact HB.out)⟩
     ·replace c23 := Bool.eq_false_iff.mpr c23
      subst c23
      have H1 : (if 0 ≤ x5_1 then (if x5_1 ≤ (a0.size : Int) then ((spec_l1Signs.f kj16 (a0.extract 0 (x5_1 : Int).toNat)).bind fun bt273 => (if 0 ≤ (wrap64 (x5_1 + 1)) then (if (wrap64 (x5_1 + 1)) ≤ (wrap64 ((a0.size : Int) - 1)) then (if (wrap64 ((a0.size : Int) - 1)) ≤ (a0.size : Int) then ((spec_l1Signs.f kj16 (a0.extract ((wrap64 (x5_1 + 1)) : Int).toNat ((wrap64 ((a0.size : Int) - 1)) : Int).toNat)).bind fun bt277 => (if bt273.2 = true then (if bt277.2 = true then (if (bt273.1.length : Int) > 60 then (some (y266, y269, false)) else (if (bt277.1.length : Int) > 60 then (some (y266, y269, false)) else (some (bt273.1, bt277.1, true)))) else (some (y266, y269, false))) else (some (y266, y269, false)))) else (none)) else (none)) else (none))) else (none)) else (none)) = some (r1, r2, r3) := by rw [if_neg (show ¬ (false = true) by decide)] at H; exact H
      clear H
      have H := H1
      clear H1
      by_cases c27 : 0 ≤ x5_1
      ·rw [if_pos c27] at H
       have c27b0 := eq_true c27
       have c27b1 : decide (0 ≤ x5_1) = true := decide_eq_true c27
       clear c27
       by_cases c28 : x5_1 ≤ (a0.size : Int)
       ·rw [if_pos c28] at H
        have c28b0 := eq_true c28
        have c28b1 : decide (x5_1 ≤ (a0.size : Int)) = true := decide_eq_true c28
        clear c28
        replace H := Option.bind_eq_some_iff.mp H
        obtain ⟨⟨t273, t274⟩, A290, H⟩ := H
        replace H : (if 0 ≤ (wrap64 (x5_1 + 1)) then (if (wrap64 (x5_1 + 1)) ≤ (wrap64 ((a0.size : Int) - 1)) then (if (wrap64 ((a0.size : Int) - 1)) ≤ (a0.size : Int) then ((spec_l1Signs.f kj16 (a0.extract ((wrap64 (x5_1 + 1)) : Int).toNat ((wrap64 ((a0.size : Int) - 1)) : Int).toNat)).bind fun bt277 => (if t274 = true then (if bt277.2 = true then (if (t273.length : Int) > 60 then (some (y266, y269, false)) else (if (bt277.1.length : Int) > 60 then (some (y266, y269, false)) else (some (t273, bt277.1, true)))) else (some (y266, y269, false))) else (some (y266, y269, false)))) else (none)) else (none)) else (none)) = some (r1, r2, r3) := H
        have A29 := aM A290
        clear A290
        obtain ⟨ji30, hji30⟩ : ∃ j_ : Int, (wrap64 (x5_1 + 1)) = j_ := ⟨_, rfl⟩
        replace H : (if 0 ≤ (ji30) then (if (ji30) ≤ (wrap64 ((a0.size : Int) - 1)) then (if (wrap64 ((a0.size : Int) - 1)) ≤ (a0.size : Int) then ((spec_l1Signs.f kj16 (a0.extract ((ji30) : Int).toNat ((wrap64 ((a0.size : Int) - 1)) : Int).toNat)).bind fun bt277 => (if t274 = true then (if bt277.2 = true then (if (t273.length : Int) > 60 then (some (y266, y269, false)) else (if (bt277.1.length : Int) > 60 then (some (y266, y269, false)) else (some (t273, bt277.1, true)))) else (some (y266, y269, false))) else (some (y266, y269, false)))) else (none)) else (none)) else (none)) = some (r1, r2, r3) := by first | (rw [hji30] at H; exact H) | (simp only [hji30] at H ⊢; exact H)
        (try rw [hji30] at A29)
        have hji30w : (IntKind.i64.wrap (x5_1 + 1)) = ji30 := (i64_w _).trans hji30
        by_cases c31 : 0 ≤ (ji30)
        ·rw [if_pos c31] at H
         have c31b0 := eq_true c31
         have c31b1 : decide (0 ≤ (ji30)) = true := decide_eq_true c31
         clear c31
         by_cases c32 : (ji30) ≤ (wrap64 ((a0.size : Int) - 1))
         ·rw [if_pos c32] at H
          have c32b0 := eq_true c32
          have c32b1 : decide ((ji30) ≤ (wrap64 ((a0.size : Int) - 1))) = true := decide_eq_true c32
          clear c32
          by_cases c33 : (wrap64 ((a0.size : Int) - 1)) ≤ (a0.size : Int)
          ·rw [if_pos c33] at H
           have c33b0 := eq_true c33
           have c33b1 : decide ((wrap64 ((a0.size : Int) - 1)) ≤ (a0.size : Int)) = true := decide_eq_true c33
           clear c33
           replace H := Option.bind_eq_some_iff.mp H
           obtain ⟨⟨t277, t278⟩, A340, H⟩ := H
           replace H : (if t274 = true then (if t278 = true then (if (t273.length : Int) > 60 then (some (y266, y269, false)) else (if (t277.length : Int) > 60 then (some (y266, y269, false)) else (some (t273, t277, true)))) else (some (y266, y269, false))) else (some (y266, y269, false))) = some (r1, r2, r3) := H
           have A34 := aM A340
           clear A340
           by_cases c35 : t274 = true
           ·subst c35
            have H1 : (if t278 = true then (if (t273.length : Int) > 60 then (some (y266, y269, false)) else (if (t277.length : Int) > 60 then (some (y266, y269, false)) else (some (t273, t277, true)))) else (some (y266, y269, false))) = some (r1, r2, r3) := by rw [if_pos rfl] at H; exact H
            clear H
            have H := H1
            clear H1
            by_cases c36 : t278 = true
            ·subst c36
             have H1 : (if (t273.length : Int) > 60 then (some (y266, y269, false)) else (if (t277.length : Int) > 60 then (some (y266, y269, false)) else (some (t273, t277, true)))) = some (r1, r2, r3) := by rw [if_pos rfl] at H; exact H
             clear H
             have H := H1
             clear H1
             by_cases c37 : (t273.length : Int) > 60
             ·rw [if_pos c37] at H
              have c37b0 : decide (60 < (t273.length : Int)) = true := decide_eq_true c37
              have c37b1 : decide (60 < t273.length) = true := decide_eq_true (by omega)
              clear c37
              simp only [Option.some.injEq, Prod.mk.injEq] at H
              obtain ⟨rfl, rfl, rfl⟩ := H
              go_wp2_with (first | ((with_reducible refine gate_callee (f := 72) rfl ?_); refine goesL_ (some 43) rfl rfl Try.func72 (by kernel_rfl) rfl #[.string (a0.extract 0 (x5_1 : Int).toNat)] rfl (by (try simp only [List.map_toArray, List.map_cons, List.map_nil]); first | done | rfl | (simp only [List.length_drop, List.length_take]; rfl)) ?_; (with_reducible refine (spec_l1Signs.calls kj16 (a0.extract 0 (x5_1 : Int).toNat) t273 true _ A29.out).mono ?_); rintro e w38 ⟨v275, rfl, ho0, hb⟩; refine ⟨_, rfl, ?_⟩; have n0_ := aM (Kd.R_elder' (by (with_reducible repeat (first | apply rA | apply rN | apply rD)); exact HO_273000.out) (Kd.R_base ho0) hb); have n1_ := aM (Kd.R_elder' (by (with_reducible repeat (first | apply rA | apply rN | apply rD)); exact HO_273001.out) (Kd.R_base ho0) hb); have n2_ := aM (Kd.R_lower (Kd.R_new' (Kd.R_new' ho0 (Kd.R_lt (by (with_reducible repeat (first | apply rA | apply rN | apply rD)); exact HO_273000.out))) (Kd.R_lt (by (with_reducible repeat (first | apply rA | apply rN | apply rD)); exact HO_273001.out))) (below_size (by repeat (first | (with_reducible first | exact HB.out | apply bA | apply bN | apply b1 | refine bS ?_ GE265.out | refine bS ?_ GE272.out) | exact HB.out)))); have n3_ := aM (blk_below (g := gb265) (o := .cells #[.slice none 0 0, .slice none 0 0] 47 (0, 0)) (by (with_reducible repeat (first | refine kN ?_ _ | refine kD ?_ | refine kA ?_ _)); exact BK265.out) hb); have n4_ := aM (blk_below (g := gb272) (o := .cells #[.slice Ao9 y266.length co9, .slice Ao8 y269.length co8] 47 (0, 0)) (by (with_reducible repeat (first | refine kN ?_ _ | refine kD ?_ | refine kA ?_ _)); exact BK272.out) hb); have n5_ := aM (below_step (by repeat (first | (with_reducible first | exact HB.out | apply bA | apply bN | apply b1 | refine bS ?_ GE265.out | refine bS ?_ GE272.out) | exact HB.out)) hb); clear HO_273000; clear HO_273001; clear BK265; clear BK272; clear HB; have HO_273000 := n0_; have HO_273001 := n1_; have HO276 := n2_; have BK265 := n3_; have BK272 := n4_; have HB := n5_; clear n0_ n1_ n2_ n3_ n4_ n5_; (try clear hb); (try clear hb2); (try clear hk); (try clear hi); (try clear ho0)) | ((with_reducible refine gate_callee (f := 72) rfl ?_); refine goesL_ (some 54) rfl rfl Try.func72 (by kernel_rfl) rfl #[.string (a0.extract ((ji30) : Int).toNat ((wrap64 ((a0.size : Int) - 1)) : Int).toNat)] rfl (by (try simp only [List.map_toArray, List.map_cons, List.map_nil]); first | done | (simp only [hji30]; rfl) | rfl | (simp only [List.length_drop, List.length_take]; rfl)) ?_; (with_reducible refine (spec_l1Signs.calls kj16 (a0.extract ((ji30) : Int).toNat ((wrap64 ((a0.size : Int) - 1)) : Int).toNat) t277 true _ A34.out).mono ?_); rintro e w39 ⟨v279, rfl, ho0, hb⟩; refine ⟨_, rfl, ?_⟩; have n0_ := aM (Kd.R_elder' (by (with_reducible repeat (first | apply rA | apply rN | apply rD)); exact HO_273000.out) (Kd.R_base ho0) hb); have n1_ := aM (Kd.R_elder' (by (with_reducible repeat (first | apply rA | apply rN | apply rD)); exact HO_273001.out) (Kd.R_base ho0) hb); have n2_ := aM (Kd.R_elder' (by (with_reducible repeat (first | apply rA | apply rN | apply rD)); exact HO276.out) (Kd.R_base ho0) hb); have n3_ := aM (Kd.R_lower (Kd.R_new' (Kd.R_new' (Kd.R_new' ho0 (Kd.R_lt (by (with_reducible repeat (first | apply rA | apply rN | apply rD)); exact HO_273000.out))) (Kd.R_lt (by (with_reducible repeat (first | apply rA | apply rN | apply rD)); exact HO_273001.out))) (Kd.R_lt (by (with_reducible repeat (first | apply rA | apply rN | apply rD)); exact HO276.out))) (below_size (by repeat (first | (with_reducible first | exact HB.out | apply bA | apply bN | apply b1 | refine bS ?_ GE265.out | refine bS ?_ GE272.out) | exact HB.out)))); have n4_ := aM (blk_below (g := gb265) (o := .cells #[.slice none 0 0, .slice none 0 0] 47 (0, 0)) (by (with_reducible repeat (first | refine kN ?_ _ | refine kD ?_ | refine kA ?_ _)); exact BK265.out) hb); have n5_ := aM (blk_below (g := gb272) (o := .cells #[.slice Ao9 y266.length co9, .slice Ao8 y269.length co8] 47 (0, 0)) (by (with_reducible repeat (first | refine kN ?_ _ | refine kD ?_ | refine kA ?_ _)); exact BK272.out) hb); have n6_ := aM (below_step (by repeat (first | (with_reducible first | exact HB.out | apply bA | apply bN | apply b1 | refine bS ?_ GE265.out | refine bS ?_ GE272.out) | exact HB.out)) hb); clear HO_273000; clear HO_273001; clear HO276; clear BK265; clear BK272; clear HB; have HO_273000 := n0_; have HO_273001 := n1_; have HO276 := n2_; have HO280 := n3_; have BK265 := n4_; have BK272 := n5_; have HB := n6_; clear n0_ n1_ n2_ n3_ n4_ n5_ n6_; (try clear hb); (try clear hb2); (try clear hk); (try clear hi); (try clear ho0); obtain ⟨Ao40, co40, eo40⟩ := Kd.R_slice HO276.out; subst eo40; have hnb41 := NB272_265.out; have hnc41 := NB265_272.out; have hcz42_0 : w39.cell? ⟨gb272, 0, none⟩ = some (.slice Ao9 y266.length co9) := (blk_cell BK272.out 0).trans rfl; have hcz42_1 : w39.cell? ⟨gb272, 1, none⟩ = some (.slice Ao8 y269.length co8) := (blk_cell BK272.out 1).trans rfl; have hfz42_0 := blk_frozen BK272.out 0; have hfz42_1 := blk_frozen BK272.out 1; have hcz43_0 : w39.cell? ⟨gb265, 0, none⟩ = some (.slice none 0 0) := (blk_cell BK265.out 0).trans rfl; have hcz43_1 : w39.cell? ⟨gb265, 1, none⟩ = some (.slice none 0 0) := (blk_cell BK265.out 1).trans rfl; have hfz43_0 := blk_frozen BK265.out 0; have hfz43_1 := blk_frozen BK265.out 1))
              refine bodyPost_ret (results_ct rfl _ _ gb265 47 #[.slice Ao9 y266.length co9, .slice Ao8 y269.length co8] (0, 0) _ rfl (by (with_reducible repeat (first | refine kN ?_ _ | refine kD ?_ | refine kA ?_ _)); refine blk_put (cs := #[.slice Ao9 y266.length co9, .slice none 0 0]) ?_ 1 _ rfl; (with_reducible repeat (first | refine kN ?_ _ | refine kD ?_ | refine kA ?_ _)); refine blk_put (cs := #[.slice none 0 0, .slice none 0 0]) ?_ 0 _ rfl; (with_reducible repeat (first | refine kN ?_ _ | refine kD ?_ | refine kA ?_ _)); exact BK265.out) Try.underlying47 rfl (by kernel_rfl)) rfl ?_
              exact ⟨_, _, by first | rfl | (simp [errW_none, errW_some] <;> rfl) | (simp [errW_none, errW_some]; exact ⟨rfl, rfl⟩) | (simp [errW_none, errW_some]; exact ⟨rfl, rfl, rfl⟩) | (simp only [← hji30]; first | rfl | (simp [errW_none, errW_some] <;> rfl) | (simp [errW_none, errW_some]; exact ⟨rfl, rfl⟩) | (simp [errW_none, errW_some]; exact ⟨rfl, rfl, rfl⟩)) | (simp [*, errW_none, errW_some] <;> rfl), by (with_reducible repeat (first | apply rA | apply rN | apply rD)); exact Kd.R_mono (Kd.R_far (p := ⟨gb265, 1, none⟩) (Kd.R_far (p := ⟨gb265, 0, none⟩) (Kd.R_types HO_273000.out BK265.out (by decide)) (fun _ hk => hk.2) (.slice Ao9 y266.length co9)) (fun _ hk => hk.2) (.slice Ao8 y269.length co8)) (fun _ hk => hk.1.1.1), by (with_reducible repeat (first | apply rA | apply rN | apply rD)); exact Kd.R_mono (Kd.R_far (p := ⟨gb265, 1, none⟩) (Kd.R_far (p := ⟨gb265, 0, none⟩) (Kd.R_types HO_273001.out BK265.out (by decide)) (fun _ hk => hk.2) (.slice Ao9 y266.length co9)) (fun _ hk => hk.2) (.slice Ao8 y269.length co8)) (fun _ hk => hk.1.1.1), by repeat (first | (with_reducible first | exact HB.out | apply bA | apply bN | apply b1 | refine bS ?_ GE265.out | refine bS ?_ GE272.out) | exact HB.out)⟩
             ·rw [if_neg c37] at H
              have c37b0 : decide (60 < (t273.length : Int)) = false := decide_eq_false c37
              have c37b1 : decide (60 < t273.length) = false := decide_eq_false (by omega)
              clear c37
              by_cases c44 : (t277.length : Int) > 60
              ·rw [if_pos c44] at H
               have c44b0 : decide (60 < (t277.length : Int)) = true := decide_eq_true c44
               have c44b1 : decide (60 < t277.length) = true := decide_eq_true (by omega)
               clear c44
               simp only [Option.some.injEq, Prod.mk.injEq] at H
               obtain ⟨rfl, rfl, rfl⟩ := H
               go_wp2_with (first | ((with_reducible refine gate_callee (f := 72) rfl ?_); refine goesL_ (some 43) rfl rfl Try.func72 (by kernel_rfl) rfl #[.string (a0.extract 0 (x5_1 : Int).toNat)] rfl (by (try simp only [List.map_toArray, List.map_cons, List.map_nil]); first | done | rfl | (simp only [List.length_drop, List.length_take]; rfl)) ?_; (with_reducible refine (spec_l1Signs.calls kj16 (a0.extract 0 (x5_1 : Int).toNat) t273 true _ A29.out).mono ?_); rintro e w45 ⟨v275, rfl, ho0, hb⟩; refine ⟨_, rfl, ?_⟩; have n0_ := aM (Kd.R_elder' (by (with_reducible repeat (first | apply rA | apply rN | apply rD)); exact HO_273000.out) (Kd.R_base ho0) hb); have n1_ := aM (Kd.R_elder' (by (with_reducible repeat (first | apply rA | apply rN | apply rD)); exact HO_273001.out) (Kd.R_base ho0) hb); have n2_ := aM (Kd.R_lower (Kd.R_new' (Kd.R_new' ho0 (Kd.R_lt (by (with_reducible repeat (first | apply rA | apply rN | apply rD)); exact HO_273000.out))) (Kd.R_lt (by (with_reducible repeat (first | apply rA | apply rN | apply rD)); exact HO_273001.out))) (below_size (by repeat (first | (with_reducible first | exact HB.out | apply bA | apply bN | apply b1 | refine bS ?_ GE265.out | refine bS ?_ GE272.out) | exact HB.out)))); have n3_ := aM (blk_below (g := gb265) (o := .cells #[.slice none 0 0, .slice none 0 0] 47 (0, 0)) (by (with_reducible repeat (first | refine kN ?_ _ | refine kD ?_ | refine kA ?_ _)); exact BK265.out) hb); have n4_ := aM (blk_below (g := gb272) (o := .cells #[.slice Ao9 y266.length co9, .slice Ao8 y269.length co8] 47 (0, 0)) (by (with_reducible repeat (first | refine kN ?_ _ | refine kD ?_ | refine kA ?_ _)); exact BK272.out) hb); have n5_ := aM (below_step (by repeat (first | (with_reducible first | exact HB.out | apply bA | apply bN | apply b1 | refine bS ?_ GE265.out | refine bS ?_ GE272.out) | exact HB.out)) hb); clear HO_273000; clear HO_273001; clear BK265; clear BK272; clear HB; have HO_273000 := n0_; have HO_273001 := n1_; have HO276 := n2_; have BK265 := n3_; have BK272 := n4_; have HB := n5_; clear n0_ n1_ n2_ n3_ n4_ n5_; (try clear hb); (try clear hb2); (try clear hk); (try clear hi); (try clear ho0)) | ((with_reducible refine gate_callee (f := 72) rfl ?_); refine goesL_ (some 54) rfl rfl Try.func72 (by kernel_rfl) rfl #[.string (a0.extract ((ji30) : Int).toNat ((wrap64 ((a0.size : Int) - 1)) : Int).toNat)] rfl (by (try simp only [List.map_toArray, List.map_cons, List.map_nil]); first | done | (simp only [hji30]; rfl) | rfl | (simp only [List.length_drop, List.length_take]; rfl)) ?_; (with_reducible refine (spec_l1Signs.calls kj16 (a0.extract ((ji30) : Int).toNat ((wrap64 ((a0.size : Int) - 1)) : Int).toNat) t277 true _ A34.out).mono ?_); rintro e w46 ⟨v279, rfl, ho0, hb⟩; refine ⟨_, rfl, ?_⟩; have n0_ := aM (Kd.R_elder' (by (with_reducible repeat (first | apply rA | apply rN | apply rD)); exact HO_273000.out) (Kd.R_base ho0) hb); have n1_ := aM (Kd.R_elder' (by (with_reducible repeat (first | apply rA | apply rN | apply rD)); exact HO_273001.out) (Kd.R_base ho0) hb); have n2_ := aM (Kd.R_elder' (by (with_reducible repeat (first | apply rA | apply rN | apply rD)); exact HO276.out) (Kd.R_base ho0) hb); have n3_ := aM (Kd.R_lower (Kd.R_new' (Kd.R_new' (Kd.R_new' ho0 (Kd.R_lt (by (with_reducible repeat (first | apply rA | apply rN | apply rD)); exact HO_273000.out))) (Kd.R_lt (by (with_reducible repeat (first | apply rA | apply rN | apply rD)); exact HO_273001.out))) (Kd.R_lt (by (with_reducible repeat (first | apply rA | apply rN | apply rD)); exact HO276.out))) (below_size (by repeat (first | (with_reducible first | exact HB.out | apply bA | apply bN | apply b1 | refine bS ?_ GE265.out | refine bS ?_ GE272.out) | exact HB.out)))); have n4_ := aM (blk_below (g := gb265) (o := .cells #[.slice none 0 0, .slice none 0 0] 47 (0, 0)) (by (with_reducible repeat (first | refine kN ?_ _ | refine kD ?_ | refine kA ?_ _)); exact BK265.out) hb); have n5_ := aM (blk_below (g := gb272) (o := .cells #[.slice Ao9 y266.length co9, .slice Ao8 y269.length co8] 47 (0, 0)) (by (with_reducible repeat (first | refine kN ?_ _ | refine kD ?_ | refine kA ?_ _)); exact BK272.out) hb); have n6_ := aM (below_step (by repeat (first | (with_reducible first | exact HB.out | apply bA | apply bN | apply b1 | refine bS ?_ GE265.out | refine bS ?_ GE272.out) | exact HB.out)) hb); clear HO_273000; clear HO_273001; clear HO276; clear BK265; clear BK272; clear HB; have HO_273000 := n0_; have HO_273001 := n1_; have HO276 := n2_; have HO280 := n3_; have BK265 := n4_; have BK272 := n5_; have HB := n6_; clear n0_ n1_ n2_ n3_ n4_ n5_ n6_; (try clear hb); (try clear hb2); (try clear hk); (try clear hi); (try clear ho0); obtain ⟨Ao47, co47, eo47⟩ := Kd.R_slice HO276.out; subst eo47; obtain ⟨Ao48, co48, eo48⟩ := Kd.R_slice HO280.out; subst eo48; have hnb49 := NB272_265.out; have hnc49 := NB265_272.out; have hcz50_0 : w46.cell? ⟨gb272, 0, none⟩ = some (.slice Ao9 y266.length co9) := (blk_cell BK272.out 0).trans rfl; have hcz50_1 : w46.cell? ⟨gb272, 1, none⟩ = some (.slice Ao8 y269.length co8) := (blk_cell BK272.out 1).trans rfl; have hfz50_0 := blk_frozen BK272.out 0; have hfz50_1 := blk_frozen BK272.out 1; have hcz51_0 : w46.cell? ⟨gb265, 0, none⟩ = some (.slice none 0 0) := (blk_cell BK265.out 0).trans rfl; have hcz51_1 : w46.cell? ⟨gb265, 1, none⟩ = some (.slice none 0 0) := (blk_cell BK265.out 1).trans rfl; have hfz51_0 := blk_frozen BK265.out 0; have hfz51_1 := blk_frozen BK265.out 1))
               refine bodyPost_ret (results_ct rfl _ _ gb265 47 #[.slice Ao9 y266.length co9, .slice Ao8 y269.length co8] (0, 0) _ rfl (by (with_reducible repeat (first | refine kN ?_ _ | refine kD ?_ | refine kA ?_ _)); refine blk_put (cs := #[.slice Ao9 y266.length co9, .slice none 0 0]) ?_ 1 _ rfl; (with_reducible repeat (first | refine kN ?_ _ | refine kD ?_ | refine kA ?_ _)); refine blk_put (cs := #[.slice none 0 0, .slice none 0 0]) ?_ 0 _ rfl; (with_reducible repeat (first | refine kN ?_ _ | refine kD ?_ | refine kA ?_ _)); exact BK265.out) Try.underlying47 rfl (by kernel_rfl)) rfl ?_
               exact ⟨_, _, by first | rfl | (simp [errW_none, errW_some] <;> rfl) | (simp [errW_none, errW_some]; exact ⟨rfl, rfl⟩) | (simp [errW_none, errW_some]; exact ⟨rfl, rfl, rfl⟩) | (simp only [← hji30]; first | rfl | (simp [errW_none, errW_some] <;> rfl) | (simp [errW_none, errW_some]; exact ⟨rfl, rfl⟩) | (simp [errW_none, errW_some]; exact ⟨rfl, rfl, rfl⟩)) | (simp [*, errW_none, errW_some] <;> rfl), by (with_reducible repeat (first | apply rA | apply rN | apply rD)); exact Kd.R_mono (Kd.R_far (p := ⟨gb265, 1, none⟩) (Kd.R_far (p := ⟨gb265, 0, none⟩) (Kd.R_types HO_273000.out BK265.out (by decide)) (fun _ hk => hk.2) (.slice Ao9 y266.length co9)) (fun _ hk => hk.2) (.slice Ao8 y269.length co8)) (fun _ hk => hk.1.1.1), by (with_reducible repeat (first | apply rA | apply rN | apply rD)); exact Kd.R_mono (Kd.R_far (p := ⟨gb265, 1, none⟩) (Kd.R_far (p := ⟨gb265, 0, none⟩) (Kd.R_types HO_273001.out BK265.out (by decide)) (fun _ hk => hk.2) (.slice Ao9 y266.length co9)) (fun _ hk => hk.2) (.slice Ao8 y269.length co8)) (fun _ hk => hk.1.1.1), by repeat (first | (with_reducible first | exact HB.out | apply bA | apply bN | apply b1 | refine bS ?_ GE265.out | refine bS ?_ GE272.out) | exact HB.out)⟩
              ·rw [if_neg c44] at H
               have c44b0 : decide (60 < (t277.length : Int)) = false := decide_eq_false c44
               have c44b1 : decide (60 < t277.length) = false := decide_eq_false (by omega)
               clear c44
               simp only [Option.some.injEq, Prod.mk.injEq] at H
               obtain ⟨rfl, rfl, rfl⟩ := H
               go_wp2_with (first | ((with_reducible refine gate_callee (f := 72) rfl ?_); refine goesL_ (some 43) rfl rfl Try.func72 (by kernel_rfl) rfl #[.string (a0.extract 0 (x5_1 : Int).toNat)] rfl (by (try simp only [List.map_toArray, List.map_cons, List.map_nil]); first | done | rfl | (simp only [List.length_drop, List.length_take]; rfl)) ?_; (with_reducible refine (spec_l1Signs.calls kj16 (a0.extract 0 (x5_1 : Int).toNat) t273 true _ A29.out).mono ?_); rintro e w52 ⟨v275, rfl, ho0, hb⟩; refine ⟨_, rfl, ?_⟩; have n0_ := aM (Kd.R_elder' (by (with_reducible repeat (first | apply rA | apply rN | apply rD)); exact HO_273000.out) (Kd.R_base ho0) hb); have n1_ := aM (Kd.R_elder' (by (with_reducible repeat (first | apply rA | apply rN | apply rD)); exact HO_273001.out) (Kd.R_base ho0) hb); have n2_ := aM (Kd.R_lower (Kd.R_new' (Kd.R_new' ho0 (Kd.R_lt (by (with_reducible repeat (first | apply rA | apply rN | apply rD)); exact HO_273000.out))) (Kd.R_lt (by (with_reducible repeat (first | apply rA | apply rN | apply rD)); exact HO_273001.out))) (below_size (by repeat (first | (with_reducible first | exact HB.out | apply bA | apply bN | apply b1 | refine bS ?_ GE265.out | refine bS ?_ GE272.out) | exact HB.out)))); have n3_ := aM (blk_below (g := gb265) (o := .cells #[.slice none 0 0, .slice none 0 0] 47 (0, 0)) (by (with_reducible repeat (first | refine kN ?_ _ | refine kD ?_ | refine kA ?_ _)); exact BK265.out) hb); have n4_ := aM (blk_below (g := gb272) (o := .cells #[.slice Ao9 y266.length co9, .slice Ao8 y269.length co8] 47 (0, 0)) (by (with_reducible repeat (first | refine kN ?_ _ | refine kD ?_ | refine kA ?_ _)); exact BK272.out) hb); have n5_ := aM (below_step (by repeat (first | (with_reducible first | exact HB.out | apply bA | apply bN | apply b1 | refine bS ?_ GE265.out | refine bS ?_ GE272.out) | exact HB.out)) hb); clear HO_273000; clear HO_273001; clear BK265; clear BK272; clear HB; have HO_273000 := n0_; have HO_273001 := n1_; have HO276 := n2_; have BK265 := n3_; have BK272 := n4_; have HB := n5_; clear n0_ n1_ n2_ n3_ n4_ n5_; (try clear hb); (try clear hb2); (try clear hk); (try clear hi); (try clear ho0)) | ((with_reducible refine gate_callee (f := 72) rfl ?_); refine goesL_ (some 54) rfl rfl Try.func72 (by kernel_rfl) rfl #[.string (a0.extract ((ji30) : Int).toNat ((wrap64 ((a0.size : Int) - 1)) : Int).toNat)] rfl (by (try simp only [List.map_toArray, List.map_cons, List.map_nil]); first | done | (simp only [hji30]; rfl) | rfl | (simp only [List.length_drop, List.length_take]; rfl)) ?_; (with_reducible refine (spec_l1Signs.calls kj16 (a0.extract ((ji30) : Int).toNat ((wrap64 ((a0.size : Int) - 1)) : Int).toNat) t277 true _ A34.out).mono ?_); rintro e w53 ⟨v279, rfl, ho0, hb⟩; refine ⟨_, rfl, ?_⟩; have n0_ := aM (Kd.R_elder' (by (with_reducible repeat (first | apply rA | apply rN | apply rD)); exact HO_273000.out) (Kd.R_base ho0) hb); have n1_ := aM (Kd.R_elder' (by (with_reducible repeat (first | apply rA | apply rN | apply rD)); exact HO_273001.out) (Kd.R_base ho0) hb); have n2_ := aM (Kd.R_elder' (by (with_reducible repeat (first | apply rA | apply rN | apply rD)); exact HO276.out) (Kd.R_base ho0) hb); have n3_ := aM (Kd.R_lower (Kd.R_new' (Kd.R_new' (Kd.R_new' ho0 (Kd.R_lt (by (with_reducible repeat (first | apply rA | apply rN | apply rD)); exact HO_273000.out))) (Kd.R_lt (by (with_reducible repeat (first | apply rA | apply rN | apply rD)); exact HO_273001.out))) (Kd.R_lt (by (with_reducible repeat (first | apply rA | apply rN | apply rD)); exact HO276.out))) (below_size (by repeat (first | (with_reducible first | exact HB.out | apply bA | apply bN | apply b1 | refine bS ?_ GE265.out | refine bS ?_ GE272.out) | exact HB.out)))); have n4_ := aM (blk_below (g := gb265) (o := .cells #[.slice none 0 0, .slice none 0 0] 47 (0, 0)) (by (with_reducible repeat (first | refine kN ?_ _ | refine kD ?_ | refine kA ?_ _)); exact BK265.out) hb); have n5_ := aM (blk_below (g := gb272) (o := .cells #[.slice Ao9 y266.length co9, .slice Ao8 y269.length co8] 47 (0, 0)) (by (with_reducible repeat (first | refine kN ?_ _ | refine kD ?_ | refine kA ?_ _)); exact BK272.out) hb); have n6_ := aM (below_step (by repeat (first | (with_reducible first | exact HB.out | apply bA | apply bN | apply b1 | refine bS ?_ GE265.out | refine bS ?_ GE272.out) | exact HB.out)) hb); clear HO_273000; clear HO_273001; clear HO276; clear BK265; clear BK272; clear HB; have HO_273000 := n0_; have HO_273001 := n1_; have HO276 := n2_; have HO280 := n3_; have BK265 := n4_; have BK272 := n5_; have HB := n6_; clear n0_ n1_ n2_ n3_ n4_ n5_ n6_; (try clear hb); (try clear hb2); (try clear hk); (try clear hi); (try clear ho0); obtain ⟨Ao54, co54, eo54⟩ := Kd.R_slice HO276.out; subst eo54; obtain ⟨Ao55, co55, eo55⟩ := Kd.R_slice HO280.out; subst eo55; have hnb56 := NB265_272.out; have hnc56 := NB272_265.out; have hcz57_0 : w53.cell? ⟨gb265, 0, none⟩ = some (.slice none 0 0) := (blk_cell BK265.out 0).trans rfl; have hcz57_1 : w53.cell? ⟨gb265, 1, none⟩ = some (.slice none 0 0) := (blk_cell BK265.out 1).trans rfl; have hfz57_0 := blk_frozen BK265.out 0; have hfz57_1 := blk_frozen BK265.out 1))
               refine bodyPost_ret (results_ct rfl _ _ gb265 47 #[.slice Ao54 t273.length co54, .slice Ao55 t277.length co55] (0, 0) _ rfl (by (with_reducible repeat (first | refine kN ?_ _ | refine kD ?_ | refine kA ?_ _)); refine blk_put (cs := #[.slice Ao54 t273.length co54, .slice none 0 0]) ?_ 1 _ rfl; (with_reducible repeat (first | refine kN ?_ _ | refine kD ?_ | refine kA ?_ _)); refine blk_put (cs := #[.slice none 0 0, .slice none 0 0]) ?_ 0 _ rfl; (with_reducible repeat (first | refine kN ?_ _ | refine kD ?_ | refine kA ?_ _)); exact BK265.out) Try.underlying47 rfl (by kernel_rfl)) rfl ?_
               exact ⟨_, _, by first | rfl | (simp [errW_none, errW_some] <;> rfl) | (simp [errW_none, errW_some]; exact ⟨rfl, rfl⟩) | (simp [errW_none, errW_some]; exact ⟨rfl, rfl, rfl⟩) | (simp only [← hji30]; first | rfl | (simp [errW_none, errW_some] <;> rfl) | (simp [errW_none, errW_some]; exact ⟨rfl, rfl⟩) | (simp [errW_none, errW_some]; exact ⟨rfl, rfl, rfl⟩)) | (simp [*, errW_none, errW_some] <;> rfl), by (with_reducible repeat (first | apply rA | apply rN | apply rD)); exact Kd.R_mono (Kd.R_far (p := ⟨gb265, 1, none⟩) (Kd.R_far (p := ⟨gb265, 0, none⟩) (Kd.R_types HO276.out BK265.out (by decide)) (fun _ hk => hk.2) (.slice Ao54 t273.length co54)) (fun _ hk => hk.2) (.slice Ao55 t277.length co55)) (fun _ hk => hk.1.2), by (with_reducible repeat (first | apply rA | apply rN | apply rD)); exact Kd.R_mono (Kd.R_far (p := ⟨gb265, 1, none⟩) (Kd.R_far (p := ⟨gb265, 0, none⟩) (Kd.R_types HO280.out BK265.out (by decide)) (fun _ hk => hk.2) (.slice Ao54 t273.length co54)) (fun _ hk => hk.2) (.slice Ao55 t277.length co55)) (fun _ hk => hk.1.2), by repeat (first | (with_reducible first | exact HB.out | apply bA | apply bN | apply b1 | refine bS ?_ GE265.out | refine bS ?_ GE272.out) | exact HB.out)⟩
            ·replace c36 := Bool.eq_false_iff.mpr c36
             subst c36
             have H1 : (some (y266, y269, false)) = some (r1, r2, r3) := by rw [if_neg (show ¬ (false = true) by decide)] at H; exact H
             clear H
             have H := H1
             clear H1
             simp only [Option.some.injEq, Prod.mk.injEq] at H
             obtain ⟨rfl, rfl, rfl⟩ := H
             go_wp2_with (first | ((with_reducible refine gate_callee (f := 72) rfl ?_); refine goesL_ (some 43) rfl rfl Try.func72 (by kernel_rfl) rfl #[.string (a0.extract 0 (x5_1 : Int).toNat)] rfl (by (try simp only [List.map_toArray, List.map_cons, List.map_nil]); first | done | rfl | (simp only [List.length_drop, List.length_take]; rfl)) ?_; (with_reducible refine (spec_l1Signs.calls kj16 (a0.extract 0 (x5_1 : Int).toNat) t273 true _ A29.out).mono ?_); rintro e w58 ⟨v275, rfl, ho0, hb⟩; refine ⟨_, rfl, ?_⟩; have n0_ := aM (Kd.R_elder' (by (with_reducible repeat (first | apply rA | apply rN | apply rD)); exact HO_273000.out) (Kd.R_base ho0) hb); have n1_ := aM (Kd.R_elder' (by (with_reducible repeat (first | apply rA | apply rN | apply rD)); exact HO_273001.out) (Kd.R_base ho0) hb); have n2_ := aM (Kd.R_lower (Kd.R_new' (Kd.R_new' ho0 (Kd.R_lt (by (with_reducible repeat (first | apply rA | apply rN | apply rD)); exact HO_273000.out))) (Kd.R_lt (by (with_reducible repeat (first | apply rA | apply rN | apply rD)); exact HO_273001.out))) (below_size (by repeat (first | (with_reducible first | exact HB.out | apply bA | apply bN | apply b1 | refine bS ?_ GE265.out | refine bS ?_ GE272.out) | exact HB.out)))); have n3_ := aM (blk_below (g := gb265) (o := .cells #[.slice none 0 0, .slice none 0 0] 47 (0, 0)) (by (with_reducible repeat (first | refine kN ?_ _ | refine kD ?_ | refine kA ?_ _)); exact BK265.out) hb); have n4_ := aM (blk_below (g := gb272) (o := .cells #[.slice Ao9 y266.length co9, .slice Ao8 y269.length co8] 47 (0, 0)) (by (with_reducible repeat (first | refine kN ?_ _ | refine kD ?_ | refine kA ?_ _)); exact BK272.out) hb); have n5_ := aM (below_step (by repeat (first | (with_reducible first | exact HB.out | apply bA | apply bN | apply b1 | refine bS ?_ GE265.out | refine bS ?_ GE272.out) | exact HB.out)) hb); clear HO_273000; clear HO_273001; clear BK265; clear BK272; clear HB; have HO_273000 := n0_; have HO_273001 := n1_; have HO276 := n2_; have BK265 := n3_; have BK272 := n4_; have HB := n5_; clear n0_ n1_ n2_ n3_ n4_ n5_; (try clear hb); (try clear hb2); (try clear hk); (try clear hi); (try clear ho0)) | ((with_reducible refine gate_callee (f := 72) rfl ?_); refine goesL_ (some 54) rfl rfl Try.func72 (by kernel_rfl) rfl #[.string (a0.extract ((ji30) : Int).toNat ((wrap64 ((a0.size : Int) - 1)) : Int).toNat)] rfl (by (try simp only [List.map_toArray, List.map_cons, List.map_nil]); first | done | (simp only [hji30]; rfl) | rfl | (simp only [List.length_drop, List.length_take]; rfl)) ?_; (with_reducible refine (spec_l1Signs.calls kj16 (a0.extract ((ji30) : Int).toNat ((wrap64 ((a0.size : Int) - 1)) : Int).toNat) t277 false _ A34.out).mono ?_); rintro e w59 ⟨v279, rfl, ho0, hb⟩; refine ⟨_, rfl, ?_⟩; have n0_ := aM (Kd.R_elder' (by (with_reducible repeat (first | apply rA | apply rN | apply rD)); exact HO_273000.out) (Kd.R_base ho0) hb); have n1_ := aM (Kd.R_elder' (by (with_reducible repeat (first | apply rA | apply rN | apply rD)); exact HO_273001.out) (Kd.R_base ho0) hb); have n2_ := aM (Kd.R_elder' (by (with_reducible repeat (first | apply rA | apply rN | apply rD)); exact HO276.out) (Kd.R_base ho0) hb); have n3_ := aM (Kd.R_lower (Kd.R_new' (Kd.R_new' (Kd.R_new' ho0 (Kd.R_lt (by (with_reducible repeat (first | apply rA | apply rN | apply rD)); exact HO_273000.out))) (Kd.R_lt (by (with_reducible repeat (first | apply rA | apply rN | apply rD)); exact HO_273001.out))) (Kd.R_lt (by (with_reducible repeat (first | apply rA | apply rN | apply rD)); exact HO276.out))) (below_size (by repeat (first | (with_reducible first | exact HB.out | apply bA | apply bN | apply b1 | refine bS ?_ GE265.out | refine bS ?_ GE272.out) | exact HB.out)))); have n4_ := aM (blk_below (g := gb265) (o := .cells #[.slice none 0 0, .slice none 0 0] 47 (0, 0)) (by (with_reducible repeat (first | refine kN ?_ _ | refine kD ?_ | refine kA ?_ _)); exact BK265.out) hb); have n5_ := aM (blk_below (g := gb272) (o := .cells #[.slice Ao9 y266.length co9, .slice Ao8 y269.length co8] 47 (0, 0)) (by (with_reducible repeat (first | refine kN ?_ _ | refine kD ?_ | refine kA ?_ _)); exact BK272.out) hb); have n6_ := aM (below_step (by repeat (first | (with_reducible first | exact HB.out | apply bA | apply bN | apply b1 | refine bS ?_ GE265.out | refine bS ?_ GE272.out) | exact HB.out)) hb); clear HO_273000; clear HO_273001; clear HO276; clear BK265; clear BK272; clear HB; have HO_273000 := n0_; have HO_273001 := n1_; have HO276 := n2_; have HO280 := n3_; have BK265 := n4_; have BK272 := n5_; have HB := n6_; clear n0_ n1_ n2_ n3_ n4_ n5_ n6_; (try clear hb); (try clear hb2); (try clear hk); (try clear hi); (try clear ho0); have hnb60 := NB272_265.out; have hnc60 := NB265_272.out; have hcz61_0 : w59.cell? ⟨gb272, 0, none⟩ = some (.slice Ao9 y266.length co9) := (blk_cell BK272.out 0).trans rfl; have hcz61_1 : w59.cell? ⟨gb272, 1, none⟩ = some (.slice Ao8 y269.length co8) := (blk_cell BK272.out 1).trans rfl; have hfz61_0 := blk_frozen BK272.out 0; have hfz61_1 := blk_frozen BK272.out 1; have hcz62_0 : w59.cell? ⟨gb265, 0, none⟩ = some (.slice none 0 0) := (blk_cell BK265.out 0).trans rfl; have hcz62_1 : w59.cell? ⟨gb265, 1, none⟩ = some (.slice none 0 0) := (blk_cell BK265.out 1).trans rfl; have hfz62_0 := blk_frozen BK265.out 0; have hfz62_1 := blk_frozen BK265.out 1))
             refine bodyPost_ret (results_ct rfl _ _ gb265 47 #[.slice Ao9 y266.length co9, .slice Ao8 y269.length co8] (0, 0) _ rfl (by (with_reducible repeat (first | refine kN ?_ _ | refine kD ?_ | refine kA ?_ _)); refine blk_put (cs := #[.slice Ao9 y266.length co9, .slice none 0 0]) ?_ 1 _ rfl; (with_reducible repeat (first | refine kN ?_ _ | refine kD ?_ | refine kA ?_ _)); refine blk_put (cs := #[.slice none 0 0, .slice none 0 0]) ?_ 0 _ rfl; (with_reducible repeat (first | refine kN ?_ _ | refine kD ?_ | refine kA ?_ _)); exact BK265.out) Try.underlying47 rfl (by kernel_rfl)) rfl ?_
             exact ⟨_, _, by first | rfl | (simp [errW_none, errW_some] <;> rfl) | (simp [errW_none, errW_some]; exact ⟨rfl, rfl⟩) | (simp [errW_none, errW_some]; exact ⟨rfl, rfl, rfl⟩) | (simp only [← hji30]; first | rfl | (simp [errW_none, errW_some] <;> rfl) | (simp [errW_none, errW_some]; exact ⟨rfl, rfl⟩) | (simp [errW_none, errW_some]; exact ⟨rfl, rfl, rfl⟩)) | (simp [*, errW_none, errW_some] <;> rfl), by (with_reducible repeat (first | apply rA | apply rN | apply rD)); exact Kd.R_mono (Kd.R_far (p := ⟨gb265, 1, none⟩) (Kd.R_far (p := ⟨gb265, 0, none⟩) (Kd.R_types HO_273000.out BK265.out (by decide)) (fun _ hk => hk.2) (.slice Ao9 y266.length co9)) (fun _ hk => hk.2) (.slice Ao8 y269.length co8)) (fun _ hk => hk.1.1.1), by (with_reducible repeat (first | apply rA | apply rN | apply rD)); exact Kd.R_mono (Kd.R_far (p := ⟨gb265, 1, none⟩) (Kd.R_far (p := ⟨gb265, 0, none⟩) (Kd.R_types HO_273001.out BK265.out (by decide)) (fun _ hk => hk.2) (.slice Ao9 y266.length co9)) (fun _ hk => hk.2) (.slice Ao8 y269.length co8)) (fun _ hk => hk.1.1.1), by repeat (first | (with_reducible first | exact HB.out | apply bA | apply bN | apply b1 | refine bS ?_ GE265.out | refine bS ?_ GE272.out) | exact HB.out)⟩
           ·replace c35 := Bool.eq_false_iff.mpr c35
            subst c35
            have H1 : (some (y266, y269, false)) = some (r1, r2, r3) := by rw [if_neg (show ¬ (false = true) by decide)] at H; exact H
            clear H
            have H := H1
            clear H1
            simp only [Option.some.injEq, Prod.mk.injEq] at H
            obtain ⟨rfl, rfl, rfl⟩ := H
            go_wp2_with (first | ((with_reducible refine gate_callee (f := 72) rfl ?_); refine goesL_ (some 43) rfl rfl Try.func72 (by kernel_rfl) rfl #[.string (a0.extract 0 (x5_1 : Int).toNat)] rfl (by (try simp only [List.map_toArray, List.map_cons, List.map_nil]); first | done | rfl | (simp only [List.length_drop, List.length_take]; rfl)) ?_; (with_reducible refine (spec_l1Signs.calls kj16 (a0.extract 0 (x5_1 : Int).toNat) t273 false _ A29.out).mono ?_); rintro e w63 ⟨v275, rfl, ho0, hb⟩; refine ⟨_, rfl, ?_⟩; have n0_ := aM (Kd.R_elder' (by (with_reducible repeat (first | apply rA | apply rN | apply rD)); exact HO_273000.out) (Kd.R_base ho0) hb); have n1_ := aM (Kd.R_elder' (by (with_reducible repeat (first | apply rA | apply rN | apply rD)); exact HO_273001.out) (Kd.R_base ho0) hb); have n2_ := aM (Kd.R_lower (Kd.R_new' (Kd.R_new' ho0 (Kd.R_lt (by (with_reducible repeat (first | apply rA | apply rN | apply rD)); exact HO_273000.out))) (Kd.R_lt (by (with_reducible repeat (first | apply rA | apply rN | apply rD)); exact HO_273001.out))) (below_size (by repeat (first | (with_reducible first | exact HB.out | apply bA | apply bN | apply b1 | refine bS ?_ GE265.out | refine bS ?_ GE272.out) | exact HB.out)))); have n3_ := aM (blk_below (g := gb265) (o := .cells #[.slice none 0 0, .slice none 0 0] 47 (0, 0)) (by (with_reducible repeat (first | refine kN ?_ _ | refine kD ?_ | refine kA ?_ _)); exact BK265.out) hb); have n4_ := aM (blk_below (g := gb272) (o := .cells #[.slice Ao9 y266.length co9, .slice Ao8 y269.length co8] 47 (0, 0)) (by (with_reducible repeat (first | refine kN ?_ _ | refine kD ?_ | refine kA ?_ _)); exact BK272.out) hb); have n5_ := aM (below_step (by repeat (first | (with_reducible first | exact HB.out | apply bA | apply bN | apply b1 | refine bS ?_ GE265.out | refine bS ?_ GE272.out) | exact HB.out)) hb); clear HO_273000; clear HO_273001; clear BK265; clear BK272; clear HB; have HO_273000 := n0_; have HO_273001 := n1_; have HO276 := n2_; have BK265 := n3_; have BK272 := n4_; have HB := n5_; clear n0_ n1_ n2_ n3_ n4_ n5_; (try clear hb); (try clear hb2); (try clear hk); (try clear hi); (try clear ho0)) | ((with_reducible refine gate_callee (f := 72) rfl ?_); refine goesL_ (some 54) rfl rfl Try.func72 (by kernel_rfl) rfl #[.string (a0.extract ((ji30) : Int).toNat ((wrap64 ((a0.size : Int) - 1)) : Int).toNat)] rfl (by (try simp only [List.map_toArray, List.map_cons, List.map_nil]); first | done | (simp only [hji30]; rfl) | rfl | (simp only [List.length_drop, List.length_take]; rfl)) ?_; (with_reducible refine (spec_l1Signs.calls kj16 (a0.extract ((ji30) : Int).toNat ((wrap64 ((a0.size : Int) - 1)) : Int).toNat) t277 t278 _ A34.out).mono ?_); rintro e w64 ⟨v279, rfl, ho0, hb⟩; refine ⟨_, rfl, ?_⟩; have n0_ := aM (Kd.R_elder' (by (with_reducible repeat (first | apply rA | apply rN | apply rD)); exact HO_273000.out) (Kd.R_base ho0) hb); have n1_ := aM (Kd.R_elder' (by (with_reducible repeat (first | apply rA | apply rN | apply rD)); exact HO_273001.out) (Kd.R_base ho0) hb); have n2_ := aM (Kd.R_elder' (by (with_reducible repeat (first | apply rA | apply rN | apply rD)); exact HO276.out) (Kd.R_base ho0) hb); have n3_ := aM (Kd.R_lower (Kd.R_new' (Kd.R_new' (Kd.R_new' ho0 (Kd.R_lt (by (with_reducible repeat (first | apply rA | apply rN | apply rD)); exact HO_273000.out))) (Kd.R_lt (by (with_reducible repeat (first | apply rA | apply rN | apply rD)); exact HO_273001.out))) (Kd.R_lt (by (with_reducible repeat (first | apply rA | apply rN | apply rD)); exact HO276.out))) (below_size (by repeat (first | (with_reducible first | exact HB.out | apply bA | apply bN | apply b1 | refine bS ?_ GE265.out | refine bS ?_ GE272.out) | exact HB.out)))); have n4_ := aM (blk_below (g := gb265) (o := .cells #[.slice none 0 0, .slice none 0 0] 47 (0, 0)) (by (with_reducible repeat (first | refine kN ?_ _ | refine kD ?_ | refine kA ?_ _)); exact BK265.out) hb); have n5_ := aM (blk_below (g := gb272) (o := .cells #[.slice Ao9 y266.length co9, .slice Ao8 y269.length co8] 47 (0, 0)) (by (with_reducible repeat (first | refine kN ?_ _ | refine kD ?_ | refine kA ?_ _)); exact BK272.out) hb); have n6_ := aM (below_step (by repeat (first | (with_reducible first | exact HB.out | apply bA | apply bN | apply b1 | refine bS ?_ GE265.out | refine bS ?_ GE272.out) | exact HB.out)) hb); clear HO_273000; clear HO_273001; clear HO276; clear BK265; clear BK272; clear HB; have HO_273000 := n0_; have HO_273001 := n1_; have HO276 := n2_; have HO280 := n3_; have BK265 := n4_; have BK272 := n5_; have HB := n6_; clear n0_ n1_ n2_ n3_ n4_ n5_ n6_; (try clear hb); (try clear hb2); (try clear hk); (try clear hi); (try clear ho0); have hnb65 := NB272_265.out; have hnc65 := NB265_272.out; have hcz66_0 : w64.cell? ⟨gb272, 0, none⟩ = some (.slice Ao9 y266.length co9) := (blk_cell BK272.out 0).trans rfl; have hcz66_1 : w64.cell? ⟨gb272, 1, none⟩ = some (.slice Ao8 y269.length co8) := (blk_cell BK272.out 1).trans rfl; have hfz66_0 := blk_frozen BK272.out 0; have hfz66_1 := blk_frozen BK272.out 1; have hcz67_0 : w64.cell? ⟨gb265, 0, none⟩ = some (.slice none 0 0) := (blk_cell BK265.out 0).trans rfl; have hcz67_1 : w64.cell? ⟨gb265, 1, none⟩ = some (.slice none 0 0) := (blk_cell BK265.out 1).trans rfl; have hfz67_0 := blk_frozen BK265.out 0; have hfz67_1 := blk_frozen BK265.out 1))
            refine bodyPost_ret (results_ct rfl _ _ gb265 47 #[.slice Ao9 y266.length co9, .slice Ao8 y269.length co8] (0, 0) _ rfl (by (with_reducible repeat (first | refine kN ?_ _ | refine kD ?_ | refine kA ?_ _)); refine blk_put (cs := #[.slice Ao9 y266.length co9, .slice none 0 0]) ?_ 1 _ rfl; (with_reducible repeat (first | refine kN ?_ _ | refine kD ?_ | refine kA ?_ _)); refine blk_put (cs := #[.slice none 0 0, .slice none 0 0]) ?_ 0 _ rfl; (with_reducible repeat (first | refine kN ?_ _ | refine kD ?_ | refine kA ?_ _)); exact BK265.out) Try.underlying47 rfl (by kernel_rfl)) rfl ?_
            exact ⟨_, _, by first | rfl | (simp [errW_none, errW_some] <;> rfl) | (simp [errW_none, errW_some]; exact ⟨rfl, rfl⟩) | (simp [errW_none, errW_some]; exact ⟨rfl, rfl, rfl⟩) | (simp only [← hji30]; first | rfl | (simp [errW_none, errW_some] <;> rfl) | (simp [errW_none, errW_some]; exact ⟨rfl, rfl⟩) | (simp [errW_none, errW_some]; exact ⟨rfl, rfl, rfl⟩)) | (simp [*, errW_none, errW_some] <;> rfl), by (with_reducible repeat (first | apply rA | apply rN | apply rD)); exact Kd.R_mono (Kd.R_far (p := ⟨gb265, 1, none⟩) (Kd.R_far (p := ⟨gb265, 0, none⟩) (Kd.R_types HO_273000.out BK265.out (by decide)) (fun _ hk => hk.2) (.slice Ao9 y266.length co9)) (fun _ hk => hk.2) (.slice Ao8 y269.length co8)) (fun _ hk => hk.1.1.1), by (with_reducible repeat (first | apply rA | apply rN | apply rD)); exact Kd.R_mono (Kd.R_far (p := ⟨gb265, 1, none⟩) (Kd.R_far (p := ⟨gb265, 0, none⟩) (Kd.R_types HO_273001.out BK265.out (by decide)) (fun _ hk => hk.2) (.slice Ao9 y266.length co9)) (fun _ hk => hk.2) (.slice Ao8 y269.length co8)) (fun _ hk => hk.1.1.1), by repeat (first | (with_reducible first | exact HB.out | apply bA | apply bN | apply b1 | refine bS ?_ GE265.out | refine bS ?_ GE272.out) | exact HB.out)⟩
          ·rw [if_neg c33] at H
           exact absurd H (by simp)
         ·rw [if_neg c32] at H
          exact absurd H (by simp)
        ·rw [if_neg c31] at H
         exact absurd H (by simp)
       ·rw [if_neg c28] at H
        exact absurd H (by simp)
      ·rw [if_neg c27] at H
       exact absurd H (by simp)

end Go.Proofs.Ytbepcaghlekbaaa.Q
