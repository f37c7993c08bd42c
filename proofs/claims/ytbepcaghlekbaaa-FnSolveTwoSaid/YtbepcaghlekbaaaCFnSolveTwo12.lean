/- The law FnSolveTwo holds for all that it draws. -/
import Derived.Test.YtbepcaghlekbaaaCFnSolveTwo1
import Derived.Test.YtbepcaghlekbaaaCFnSolveTwo7
import Derived.Test.YtbepcaghlekbaaaCFnSolveTwo8
import Derived.Test.YtbepcaghlekbaaaCFnSolveTwo9
import Derived.Test.YtbepcaghlekbaaaCFnSolveTwo10
import Derived.Test.YtbepcaghlekbaaaCFnSolveTwo11
namespace Go.Proofs.Ytbepcaghlekbaaa.Q
open Go.RowKit Go.Proofs.YtbepcaghlekbaaaW.PrintWords Go.Proofs.YtbepcaghlekbaaaW.PrintLast Go.Proofs.YtbepcaghlekbaaaW.PrintMore
attribute [local go_sem] max2_int min2_int max_two min_two max_three min_three max_four min_four   -- for this text's walks alone
set_option linter.unusedVariables false
set_option linter.unusedSimpArgs false
mutual
def spec_SolveTwo.j0 : Nat → Int → Bool → List Bool → List Bool → List Bool → List Bool → Option (Int × Bool)
 | 0, _, _, _, _, _, _ => none
 | k + 1, x2, x36, x483000, x483001, x491000, x491001 => if x36 = true then (some (0, false)) else (if 0 ≤ x2 then (if (x2 : Int).toNat ≤ 281474976710656 then (spec_SolveTwo.l0 k x2 (List.replicate (x2 : Int).toNat false) 0 0 x483000 x483001 x491000 x491001) else (none)) else (none))
def spec_SolveTwo.l0 : Nat → Int → List Bool → Int → Int → List Bool → List Bool → List Bool → List Bool → Option (Int × Bool)
 | 0, _, _, _, _, _, _, _, _ => none
 | k + 1, x2, x12, x13, x14, x483000, x483001, x491000, x491001 => if x14 < x2 then ((spec_l1Has.f x491000 x491001 x14).bind fun t495 => (if 0 ≤ x14 then (if x14 < (x12.length : Int) then (spec_SolveTwo.l1 k x2 (x12.set (x14 : Int).toNat t495) x13 x14 0 x483000 x483001 x491000 x491001) else (none)) else (none))) else (some (x13, true))
def spec_SolveTwo.l1 : Nat → Int → List Bool → Int → Int → Int → List Bool → List Bool → List Bool → List Bool → Option (Int × Bool)
 | 0, _, _, _, _, _, _, _, _, _ => none
 | k + 1, x2, x12, x13, x14, x15, x483000, x483001, x491000, x491001 => if x15 < x14 then (if 0 ≤ x14 then (if x14 < (x12.length : Int) then (if rdOf false x12 x14 = true then (spec_SolveTwo.l1 k x2 (x12.set (x14 : Int).toNat true) x13 x14 (wrap64 (x15 + 1)) x483000 x483001 x491000 x491001) else ((spec_l1Has.f x483000 x483001 x15).bind fun t499 => (if t499 = true then (if 0 ≤ (wrap64 ((wrap64 (x14 - x15)) - 1)) then (if (wrap64 ((wrap64 (x14 - x15)) - 1)) < (x12.length : Int) then (spec_SolveTwo.l1 k x2 (x12.set (x14 : Int).toNat (rdOf false x12 (wrap64 ((wrap64 (x14 - x15)) - 1)))) x13 x14 (wrap64 (x15 + 1)) x483000 x483001 x491000 x491001) else (none)) else (none)) else (spec_SolveTwo.l1 k x2 (x12.set (x14 : Int).toNat false) x13 x14 (wrap64 (x15 + 1)) x483000 x483001 x491000 x491001)))) else (none)) else (none)) else (if 0 ≤ x14 then (if x14 < (x12.length : Int) then (if rdOf false x12 x14 = true then (spec_SolveTwo.l0 k x2 x12 (wrap64 (x13 + 1)) (wrap64 (x14 + 1)) x483000 x483001 x491000 x491001) else (spec_SolveTwo.l0 k x2 x12 x13 (wrap64 (x14 + 1)) x483000 x483001 x491000 x491001)) else (none)) else (none))
end
def spec_SolveTwo.f (k : Nat) (a0 : ByteArray) (a1 : ByteArray) (a2 : Int) : Option (Int × Bool) := (spec_l4Small.f k a0).bind fun bt475 => ((spec_l4Small.f k a1).bind fun bt483 => (if bt475.2.2 = true then (if bt483.2.2 = true then ((spec_l6In.f a2 0 500).bind fun t491 => (spec_SolveTwo.j0 k a2 (!t491) bt475.1 bt475.2.1 bt483.1 bt483.2.1)) else (spec_SolveTwo.j0 k a2 true bt475.1 bt475.2.1 bt483.1 bt483.2.1)) else (spec_SolveTwo.j0 k a2 true bt475.1 bt475.2.1 bt483.1 bt483.2.1)))
theorem spec_SolveTwo.mono_l : ∀ k, (∀ y0 y1 y2 y3 y4 y5, LeO (spec_SolveTwo.j0 k y0 y1 y2 y3 y4 y5) (spec_SolveTwo.j0 (k + 1) y0 y1 y2 y3 y4 y5)) ∧ (∀ y0 y1 y2 y3 y4 y5 y6 y7, LeO (spec_SolveTwo.l0 k y0 y1 y2 y3 y4 y5 y6 y7) (spec_SolveTwo.l0 (k + 1) y0 y1 y2 y3 y4 y5 y6 y7)) ∧ (∀ y0 y1 y2 y3 y4 y5 y6 y7 y8, LeO (spec_SolveTwo.l1 k y0 y1 y2 y3 y4 y5 y6 y7 y8) (spec_SolveTwo.l1 (k + 1) y0 y1 y2 y3 y4 y5 y6 y7 y8))
 | 0 => ⟨fun _ _ _ _ _ _ r h => by simp [spec_SolveTwo.j0] at h, fun _ _ _ _ _ _ _ _ r h => by simp [spec_SolveTwo.l0] at h, fun _ _ _ _ _ _ _ _ _ r h => by simp [spec_SolveTwo.l1] at h⟩
 | k + 1 => by
  obtain ⟨ih0, ih1, ih2⟩ := spec_SolveTwo.mono_l k
  refine ⟨?_, ?_, ?_⟩
  ·intro y0 y1 y2 y3 y4 y5
   unfold spec_SolveTwo.j0
   repeat' first
   | (with_reducible exact ih0 _ _ _ _ _ _)
   | (with_reducible exact ih1 _ _ _ _ _ _ _ _)
   | (with_reducible exact ih2 _ _ _ _ _ _ _ _ _)
   | (with_reducible exact spec_l4Small.mono _ _)
   | (with_reducible exact LeO.refl _)
   | (with_reducible exact LeO.none _)
   | (with_reducible refine LeO.ite ?_ ?_)
   | (with_reducible refine LeO.bind ?_ (fun _ => ?_))
   | exact ih0 _ _ _ _ _ _
   | exact ih1 _ _ _ _ _ _ _ _
   | exact ih2 _ _ _ _ _ _ _ _ _
   | exact spec_l4Small.mono _ _
   | exact LeO.none _
   | refine LeO.ite ?_ ?_
   | refine LeO.bind ?_ (fun _ => ?_)
  ·intro y0 y1 y2 y3 y4 y5 y6 y7
   unfold spec_SolveTwo.l0
   repeat' first
   | (with_reducible exact ih0 _ _ _ _ _ _)
   | (with_reducible exact ih1 _ _ _ _ _ _ _ _)
   | (with_reducible exact ih2 _ _ _ _ _ _ _ _ _)
   | (with_reducible exact spec_l4Small.mono _ _)
   | (with_reducible exact LeO.refl _)
   | (with_reducible exact LeO.none _)
   | (with_reducible refine LeO.ite ?_ ?_)
   | (with_reducible refine LeO.bind ?_ (fun _ => ?_))
   | exact ih0 _ _ _ _ _ _
   | exact ih1 _ _ _ _ _ _ _ _
   | exact ih2 _ _ _ _ _ _ _ _ _
   | exact spec_l4Small.mono _ _
   | exact LeO.none _
   | refine LeO.ite ?_ ?_
   | refine LeO.bind ?_ (fun _ => ?_)
  ·intro y0 y1 y2 y3 y4 y5 y6 y7 y8
   unfold spec_SolveTwo.l1
   repeat' first
   | (with_reducible exact ih0 _ _ _ _ _ _)
   | (with_reducible exact ih1 _ _ _ _ _ _ _ _)
   | (with_reducible exact ih2 _ _ _ _ _ _ _ _ _)
   | (with_reducible exact spec_l4Small.mono _ _)
   | (with_reducible exact LeO.refl _)
   | (with_reducible exact LeO.none _)
   | (with_reducible refine LeO.ite ?_ ?_)
   | (with_reducible refine LeO.bind ?_ (fun _ => ?_))
   | exact ih0 _ _ _ _ _ _
   | exact ih1 _ _ _ _ _ _ _ _
   | exact ih2 _ _ _ _ _ _ _ _ _
   | exact spec_l4Small.mono _ _
   | exact LeO.none _
   | refine LeO.ite ?_ ?_
   | refine LeO.bind ?_ (fun _ => ?_)
theorem spec_SolveTwo.mono : ∀ a0 a1 a2 k, LeO (spec_SolveTwo.f k a0 a1 a2) (spec_SolveTwo.f (k + 1) a0 a1 a2) := by
 intro a0 a1 a2 k
 obtain ⟨ih0, ih1, ih2⟩ := spec_SolveTwo.mono_l k
 unfold spec_SolveTwo.f
 repeat' first
   | (with_reducible exact ih0 _ _ _ _ _ _)
   | (with_reducible exact ih1 _ _ _ _ _ _ _ _)
   | (with_reducible exact ih2 _ _ _ _ _ _ _ _ _)
   | (with_reducible exact spec_l4Small.mono _ _)
   | (with_reducible exact LeO.refl _)
   | (with_reducible exact LeO.none _)
   | (with_reducible refine LeO.ite ?_ ?_)
   | (with_reducible refine LeO.bind ?_ (fun _ => ?_))
   | exact ih0 _ _ _ _ _ _
   | exact ih1 _ _ _ _ _ _ _ _
   | exact ih2 _ _ _ _ _ _ _ _ _
   | exact spec_l4Small.mono _ _
   | exact LeO.none _
   | refine LeO.ite ?_ ?_
   | refine LeO.bind ?_ (fun _ => ?_)
set_option maxHeartbeats 8000000 in
set_option maxRecDepth 100000 in
theorem spec_SolveTwo.calls (k : Nat) (a0 : ByteArray) (a1 : ByteArray) (a2 : Int) (r1 : Int) (r2 : Bool) (w : World) (h : spec_SolveTwo.f k a0 a1 a2 = some (r1, r2)) :
  Calls Try.prog 18 #[.string a0, .string a1, .int .i64 a2] w fun e w' => e = .returned (.tuple #[.int .i64 r1, .bool r2]) ∧ Below w.heap.size w w' := by
 have hu47 := Try.underlying47
 have HB := aM (Below.refl w.heap.size w)
 have H : ((spec_l4Small.f k a0).bind fun bt475 => ((spec_l4Small.f k a1).bind fun bt483 => (if bt475.2.2 = true then (if bt483.2.2 = true then ((spec_l6In.f a2 0 500).bind fun t491 => (spec_SolveTwo.j0 k a2 (!t491) bt475.1 bt475.2.1 bt483.1 bt483.2.1)) else (spec_SolveTwo.j0 k a2 true bt475.1 bt475.2.1 bt483.1 bt483.2.1)) else (spec_SolveTwo.j0 k a2 true bt475.1 bt475.2.1 bt483.1 bt483.2.1)))) = some (r1, r2) := h
 clear h
 replace H := Option.bind_eq_some_iff.mp H
 obtain ⟨⟨t475, t478, t481⟩, A40, H⟩ := H
 replace H : ((spec_l4Small.f k a1).bind fun bt483 => (if t481 = true then (if bt483.2.2 = true then ((spec_l6In.f a2 0 500).bind fun t491 => (spec_SolveTwo.j0 k a2 (!t491) t475 t478 bt483.1 bt483.2.1)) else (spec_SolveTwo.j0 k a2 true t475 t478 bt483.1 bt483.2.1)) else (spec_SolveTwo.j0 k a2 true t475 t478 bt483.1 bt483.2.1))) = some (r1, r2) := H
 have A4 := aM A40
 clear A40
 replace H := Option.bind_eq_some_iff.mp H
 obtain ⟨⟨t483, t486, t489⟩, A50, H⟩ := H
 replace H : (if t481 = true then (if t489 = true then ((spec_l6In.f a2 0 500).bind fun t491 => (spec_SolveTwo.j0 k a2 (!t491) t475 t478 t483 t486)) else (spec_SolveTwo.j0 k a2 true t475 t478 t483 t486)) else (spec_SolveTwo.j0 k a2 true t475 t478 t483 t486)) = some (r1, r2) := H
 have A5 := aM A50
 clear A50
 have HC6 := aM H
 clear H
 go_enter Try.func18, Try.ntmps18
 go_upto_region 3 with (first | ((with_reducible refine gate_callee (f := 52) rfl ?_); refine goesL_ (some 18) rfl rfl Try.func52 (by kernel_rfl) rfl #[.string a0] rfl (by (try simp only [List.map_toArray, List.map_cons, List.map_nil]); first | done | rfl | (simp only [List.length_drop, List.length_take]; rfl)) ?_; (with_reducible refine (spec_l4Small.calls k a0 t475 t478 t481 _ A4.out).mono ?_); rintro e w7 ⟨v476, v479, rfl, ho0, ho1, hb⟩; refine ⟨_, rfl, ?_⟩; have n0_ := aM (Kd.V_lower (Kd.V_mono (ok' := fun k_ => True) ho0 (fun k_ hk_ => trivial)) (below_size (by repeat (first | (with_reducible first | exact HB.out | apply bA | apply bN | apply b1) | exact HB.out)))); have n1_ := aM (Kd.V_lower (Kd.V_mono (ok' := fun k_ => True) ho1 (fun k_ hk_ => trivial)) (below_size (by repeat (first | (with_reducible first | exact HB.out | apply bA | apply bN | apply b1) | exact HB.out)))); have n2_ := aM (below_step (by repeat (first | (with_reducible first | exact HB.out | apply bA | apply bN | apply b1) | exact HB.out)) hb); clear HB; have HO477 := n0_; have HO480 := n1_; have HB := n2_; clear n0_ n1_ n2_; (try clear hb); (try clear hb2); (try clear hk); (try clear hi); (try clear ho0); (try clear ho1)) | ((with_reducible refine gate_dst (N := 8) rfl ?_); refine box_event ?hg (N := 8) ?hd (cs := #[.slice none 0 0, .slice none 0 0]) (t := 47) ?hr ?_; (case hd => rfl); (case hg => rfl); (case hr => first | (go_simp; done) | (go_simp; rfl)); intro gb482 hg w8 hbox hb; have n0_ := aM (Kd.V_below (Kd.V_elderB (by (with_reducible repeat (first | apply vA | apply vN | apply vD)); exact HO477.out) gb482 (Nat.le_of_eq hg.symm)) hb); have n1_ := aM (Kd.V_below (Kd.V_elderB (by (with_reducible repeat (first | apply vA | apply vN | apply vD)); exact HO480.out) gb482 (Nat.le_of_eq hg.symm)) hb); have n2_ := aM (below_step (by repeat (first | (with_reducible first | exact HB.out | apply bA | apply bN | apply b1) | exact HB.out)) hb); have n3_ := aM (hbox); have n4_ := aM ((by rw [hg]; exact (below_size (by repeat (first | (with_reducible first | exact HB.out | apply bA | apply bN | apply b1) | exact HB.out))) : w.heap.size ≤ gb482)); have n5_ := aM ((by rw [hg]; exact (below_size (by repeat (first | (with_reducible first | exact HB.out | apply bA | apply bN | apply b1) | exact HB.out))) : w.heap.size ≤ gb482)); clear HO477; clear HO480; clear HB; have HO477 := n0_; have HO480 := n1_; have HB := n2_; have BK482 := n3_; have GW482 := n4_; have GE482 := n5_; clear n0_ n1_ n2_ n3_ n4_ n5_; clear hb hbox hg; obtain ⟨Ao9, co9, eo9⟩ := Kd.V_slice HO477.out; subst eo9; have hcz10_0 : w8.cell? ⟨gb482, 0, none⟩ = some (.slice none 0 0) := (blk_cell BK482.out 0).trans rfl; have hcz10_1 : w8.cell? ⟨gb482, 1, none⟩ = some (.slice none 0 0) := (blk_cell BK482.out 1).trans rfl; have hfz10_0 := blk_frozen BK482.out 0; have hfz10_1 := blk_frozen BK482.out 1; obtain ⟨Ao11, co11, eo11⟩ := Kd.V_slice HO480.out; subst eo11) | ((with_reducible refine gate_callee (f := 52) rfl ?_); refine goesL_ (some 23) rfl rfl Try.func52 (by kernel_rfl) rfl #[.string a1] rfl (by (try simp only [List.map_toArray, List.map_cons, List.map_nil]); first | done | rfl | (simp only [List.length_drop, List.length_take]; rfl)) ?_; (with_reducible refine (spec_l4Small.calls k a1 t483 t486 t489 _ A5.out).mono ?_); rintro e w12 ⟨v484, v487, rfl, ho0, ho1, hb⟩; refine ⟨_, rfl, ?_⟩; have n0_ := aM (Kd.V_below (by (with_reducible repeat (first | apply vA | apply vN | apply vD)); exact (Kd.V_mono (Kd.V_far (p := ⟨gb482, 1, none⟩) (Kd.V_far (p := ⟨gb482, 0, none⟩) (Kd.V_mono HO477.out (fun k_ hk => (⟨hk, hk.2⟩ : _ ∧ k_ ≠ gb482))) (fun _ hk => hk.2) (.slice Ao9 t475.length co9)) (fun _ hk => hk.2) (.slice Ao11 t478.length co11)) (fun _ h_ => h_.1))) hb); have n1_ := aM (Kd.V_below (by (with_reducible repeat (first | apply vA | apply vN | apply vD)); exact (Kd.V_mono (Kd.V_far (p := ⟨gb482, 1, none⟩) (Kd.V_far (p := ⟨gb482, 0, none⟩) (Kd.V_mono HO480.out (fun k_ hk => (⟨hk, hk.2⟩ : _ ∧ k_ ≠ gb482))) (fun _ hk => hk.2) (.slice Ao9 t475.length co9)) (fun _ hk => hk.2) (.slice Ao11 t478.length co11)) (fun _ h_ => h_.1))) hb); have n2_ := aM (Kd.V_lower (Kd.V_mono (ok' := fun k_ => k_ ≠ gb482) ho0 (fun k_ hk_ => (Kd.freshB (g := gb482) (o := .cells #[.slice Ao9 t475.length co9, .slice Ao11 t478.length co11] 47 (0, 0)) (by (with_reducible repeat (first | refine kN ?_ _ | refine kD ?_ | refine kA ?_ _)); refine blk_put (cs := #[.slice Ao9 t475.length co9, .slice none 0 0]) ?_ 1 _ rfl; (with_reducible repeat (first | refine kN ?_ _ | refine kD ?_ | refine kA ?_ _)); refine blk_put (cs := #[.slice none 0 0, .slice none 0 0]) ?_ 0 _ rfl; (with_reducible repeat (first | refine kN ?_ _ | refine kD ?_ | refine kA ?_ _)); exact BK482.out) k_ hk_))) (below_size (by repeat (first | (with_reducible first | exact HB.out | apply bA | apply bN | apply b1 | refine bS ?_ GE482.out) | exact HB.out)))); have n3_ := aM (Kd.V_lower (Kd.V_mono (ok' := fun k_ => k_ ≠ gb482) ho1 (fun k_ hk_ => (Kd.freshB (g := gb482) (o := .cells #[.slice Ao9 t475.length co9, .slice Ao11 t478.length co11] 47 (0, 0)) (by (with_reducible repeat (first | refine kN ?_ _ | refine kD ?_ | refine kA ?_ _)); refine blk_put (cs := #[.slice Ao9 t475.length co9, .slice none 0 0]) ?_ 1 _ rfl; (with_reducible repeat (first | refine kN ?_ _ | refine kD ?_ | refine kA ?_ _)); refine blk_put (cs := #[.slice none 0 0, .slice none 0 0]) ?_ 0 _ rfl; (with_reducible repeat (first | refine kN ?_ _ | refine kD ?_ | refine kA ?_ _)); exact BK482.out) k_ hk_))) (below_size (by repeat (first | (with_reducible first | exact HB.out | apply bA | apply bN | apply b1 | refine bS ?_ GE482.out) | exact HB.out)))); have n4_ := aM (blk_below (g := gb482) (o := .cells #[.slice Ao9 t475.length co9, .slice Ao11 t478.length co11] 47 (0, 0)) (by (with_reducible repeat (first | refine kN ?_ _ | refine kD ?_ | refine kA ?_ _)); refine blk_put (cs := #[.slice Ao9 t475.length co9, .slice none 0 0]) ?_ 1 _ rfl; (with_reducible repeat (first | refine kN ?_ _ | refine kD ?_ | refine kA ?_ _)); refine blk_put (cs := #[.slice none 0 0, .slice none 0 0]) ?_ 0 _ rfl; (with_reducible repeat (first | refine kN ?_ _ | refine kD ?_ | refine kA ?_ _)); exact BK482.out) hb); have n5_ := aM (below_step (by repeat (first | (with_reducible first | exact HB.out | apply bA | apply bN | apply b1 | refine bS ?_ GE482.out) | exact HB.out)) hb); clear HO477; clear HO480; clear BK482; clear HB; have HO477 := n0_; have HO480 := n1_; have HO485 := n2_; have HO488 := n3_; have BK482 := n4_; have HB := n5_; clear n0_ n1_ n2_ n3_ n4_ n5_; (try clear hb); (try clear hb2); (try clear hk); (try clear hi); (try clear ho0); (try clear ho1)) | ((with_reducible refine gate_dst (N := 10) rfl ?_); refine box_event ?hg (N := 10) ?hd (cs := #[.slice none 0 0, .slice none 0 0]) (t := 47) ?hr ?_; (case hd => rfl); (case hg => rfl); (case hr => first | (go_simp; done) | (go_simp; rfl)); intro gb490 hg w13 hbox hb; have n0_ := aM (Kd.V_below (Kd.V_elderB (by (with_reducible repeat (first | apply vA | apply vN | apply vD)); exact HO477.out) gb490 (Nat.le_of_eq hg.symm)) hb); have n1_ := aM (Kd.V_below (Kd.V_elderB (by (with_reducible repeat (first | apply vA | apply vN | apply vD)); exact HO480.out) gb490 (Nat.le_of_eq hg.symm)) hb); have n2_ := aM (Kd.V_below (Kd.V_elderB (by (with_reducible repeat (first | apply vA | apply vN | apply vD)); exact HO485.out) gb490 (Nat.le_of_eq hg.symm)) hb); have n3_ := aM (Kd.V_below (Kd.V_elderB (by (with_reducible repeat (first | apply vA | apply vN | apply vD)); exact HO488.out) gb490 (Nat.le_of_eq hg.symm)) hb); have n4_ := aM (blk_below (g := gb482) (o := .cells #[.slice Ao9 t475.length co9, .slice Ao11 t478.length co11] 47 (0, 0)) (by (with_reducible repeat (first | refine kN ?_ _ | refine kD ?_ | refine kA ?_ _)); exact BK482.out) hb); have n5_ := aM (below_step (by repeat (first | (with_reducible first | exact HB.out | apply bA | apply bN | apply b1 | refine bS ?_ GE482.out) | exact HB.out)) hb); have n6_ := aM (hbox); have n7_ := aM ((by rw [hg]; exact (below_size (by repeat (first | (with_reducible first | exact HB.out | apply bA | apply bN | apply b1 | refine bS ?_ GE482.out) | exact HB.out))) : w.heap.size ≤ gb490)); have n8_ := aM ((by rw [hg]; exact (below_size (by repeat (first | (with_reducible first | exact HB.out | apply bA | apply bN | apply b1 | refine bS ?_ GE482.out) | exact HB.out))) : w.heap.size ≤ gb490)); have n9_ := aM ((by rw [hg]; exact Nat.ne_of_lt (blk_lt (g := gb482) (o := .cells #[.slice Ao9 t475.length co9, .slice Ao11 t478.length co11] 47 (0, 0)) (by (with_reducible repeat (first | refine kN ?_ _ | refine kD ?_ | refine kA ?_ _)); exact BK482.out)) : gb482 ≠ gb490)); have n10_ := aM ((by rw [hg]; exact Nat.ne_of_gt (blk_lt (g := gb482) (o := .cells #[.slice Ao9 t475.length co9, .slice Ao11 t478.length co11] 47 (0, 0)) (by (with_reducible repeat (first | refine kN ?_ _ | refine kD ?_ | refine kA ?_ _)); exact BK482.out)) : gb490 ≠ gb482)); clear HO477; clear HO480; clear HO485; clear HO488; clear BK482; clear HB; have HO477 := n0_; have HO480 := n1_; have HO485 := n2_; have HO488 := n3_; have BK482 := n4_; have HB := n5_; have BK490 := n6_; have GW490 := n7_; have GE490 := n8_; have NB482_490 := n9_; have NB490_482 := n10_; clear n0_ n1_ n2_ n3_ n4_ n5_ n6_ n7_ n8_ n9_ n10_; clear hb hbox hg; obtain ⟨Ao14, co14, eo14⟩ := Kd.V_slice HO485.out; subst eo14; have hnb15 := NB490_482.out; have hnc15 := NB482_490.out; have hcz16_0 : w13.cell? ⟨gb490, 0, none⟩ = some (.slice none 0 0) := (blk_cell BK490.out 0).trans rfl; have hcz16_1 : w13.cell? ⟨gb490, 1, none⟩ = some (.slice none 0 0) := (blk_cell BK490.out 1).trans rfl; have hfz16_0 := blk_frozen BK490.out 0; have hfz16_1 := blk_frozen BK490.out 1; obtain ⟨Ao17, co17, eo17⟩ := Kd.V_slice HO488.out; subst eo17))
 (try simp only [Act.put, sA, sZ, sS])
 go_cut [36] (fun v36 wc => ∃ (kq : Nat) (x36_5 : Bool), v36 = .bool x36_5 ∧ Aside0 (spec_SolveTwo.j0 kq a2 x36_5 t475 t478 t483 t486 = some (r1, r2)) ∧ Aside0 (kq ≤ k) ∧ Aside0 (Kd.V Kd.bool 4 wc w.heap.size (fun k_ => k_ ≠ gb482 ∧ k_ ≠ gb490) (.slice Ao9 t475.length co9) t475) ∧ Aside0 (Kd.V Kd.bool 4 wc w.heap.size (fun k_ => k_ ≠ gb482 ∧ k_ ≠ gb490) (.slice Ao11 t478.length co11) t478) ∧ Aside0 (Kd.V Kd.bool 4 wc w.heap.size (fun k_ => k_ ≠ gb482 ∧ k_ ≠ gb490) (.slice Ao14 t483.length co14) t483) ∧ Aside0 (Kd.V Kd.bool 4 wc w.heap.size (fun k_ => k_ ≠ gb482 ∧ k_ ≠ gb490) (.slice Ao17 t486.length co17) t486) ∧ Aside0 (wc.heap[gb482]? = some (.cells #[(.slice Ao9 t475.length co9), (.slice Ao11 t478.length co11)] 47 (0, 0))) ∧ Aside0 (wc.heap[gb490]? = some (.cells #[(.slice Ao14 t483.length co14), (.slice Ao17 t486.length co17)] 47 (0, 0))) ∧ Aside0 (Below w.heap.size w wc))
 case first =>
  have H := HC6.out
  clear HC6
  by_cases c18 : t481 = true
  ·subst c18
   have H1 : (if t489 = true then ((spec_l6In.f a2 0 500).bind fun t491 => (spec_SolveTwo.j0 k a2 (!t491) t475 t478 t483 t486)) else (spec_SolveTwo.j0 k a2 true t475 t478 t483 t486)) = some (r1, r2) := by rw [if_pos rfl] at H; exact H
   clear H
   have H := H1
   clear H1
   by_cases c19 : t489 = true
   ·subst c19
    have H1 : ((spec_l6In.f a2 0 500).bind fun t491 => (spec_SolveTwo.j0 k a2 (!t491) t475 t478 t483 t486)) = some (r1, r2) := by rw [if_pos rfl] at H; exact H
    clear H
    have H := H1
    clear H1
    replace H := Option.bind_eq_some_iff.mp H
    obtain ⟨t491, A200, H⟩ := H
    replace H : (spec_SolveTwo.j0 k a2 (!t491) t475 t478 t483 t486) = some (r1, r2) := H
    have A20 := aM A200
    clear A200
    have H' := aM H
    clear H
    go_wp2_with (first | (go_at_call 53; (with_reducible refine (spec_l6In.calls a2 0 500 t491 _ A20.out).mono ?_); rintro e w' ⟨rfl, ⟨nd, rfl⟩⟩))
    go_meet
    case rel => exact ⟨_, (!t491), (by first | rfl | (simp; done) | (simp [*]; done) | (simp [Int.tmod_eq_emod_of_nonneg]; done)), H', ⟨by first | omega | exact Nat.le_refl _⟩, ⟨by (with_reducible repeat (first | apply vA | apply vN | apply vD)); exact Kd.V_mono (Kd.V_far (p := ⟨gb490, 1, none⟩) (Kd.V_far (p := ⟨gb490, 0, none⟩) (Kd.V_mono HO477.out (fun k_ hk => (⟨hk, hk.2⟩ : _ ∧ k_ ≠ gb490))) (fun _ hk => hk.2) (.slice Ao14 t483.length co14)) (fun _ hk => hk.2) (.slice Ao17 t486.length co17)) (fun _ hk => ⟨hk.1.1.2, hk.1.2⟩)⟩, ⟨by (with_reducible repeat (first | apply vA | apply vN | apply vD)); exact Kd.V_mono (Kd.V_far (p := ⟨gb490, 1, none⟩) (Kd.V_far (p := ⟨gb490, 0, none⟩) (Kd.V_mono HO480.out (fun k_ hk => (⟨hk, hk.2⟩ : _ ∧ k_ ≠ gb490))) (fun _ hk => hk.2) (.slice Ao14 t483.length co14)) (fun _ hk => hk.2) (.slice Ao17 t486.length co17)) (fun _ hk => ⟨hk.1.1.2, hk.1.2⟩)⟩, ⟨by (with_reducible repeat (first | apply vA | apply vN | apply vD)); exact Kd.V_mono (Kd.V_far (p := ⟨gb490, 1, none⟩) (Kd.V_far (p := ⟨gb490, 0, none⟩) (Kd.V_mono HO485.out (fun k_ hk => (⟨hk, hk.2⟩ : _ ∧ k_ ≠ gb490))) (fun _ hk => hk.2) (.slice Ao14 t483.length co14)) (fun _ hk => hk.2) (.slice Ao17 t486.length co17)) (fun _ hk => ⟨hk.1.1, hk.1.2⟩)⟩, ⟨by (with_reducible repeat (first | apply vA | apply vN | apply vD)); exact Kd.V_mono (Kd.V_far (p := ⟨gb490, 1, none⟩) (Kd.V_far (p := ⟨gb490, 0, none⟩) (Kd.V_mono HO488.out (fun k_ hk => (⟨hk, hk.2⟩ : _ ∧ k_ ≠ gb490))) (fun _ hk => hk.2) (.slice Ao14 t483.length co14)) (fun _ hk => hk.2) (.slice Ao17 t486.length co17)) (fun _ hk => ⟨hk.1.1, hk.1.2⟩)⟩, ⟨by (with_reducible repeat (first | refine kN ?_ _ | refine kD ?_ | refine kA ?_ _)); refine blk_far ?_ NB482_490.out _; (with_reducible repeat (first | refine kN ?_ _ | refine kD ?_ | refine kA ?_ _)); refine blk_far ?_ NB482_490.out _; (with_reducible repeat (first | refine kN ?_ _ | refine kD ?_ | refine kA ?_ _)); exact BK482.out⟩, ⟨by (with_reducible repeat (first | refine kN ?_ _ | refine kD ?_ | refine kA ?_ _)); refine blk_put (cs := #[.slice Ao14 t483.length co14, .slice none 0 0]) ?_ 1 _ rfl; (with_reducible repeat (first | refine kN ?_ _ | refine kD ?_ | refine kA ?_ _)); refine blk_put (cs := #[.slice none 0 0, .slice none 0 0]) ?_ 0 _ rfl; (with_reducible repeat (first | refine kN ?_ _ | refine kD ?_ | refine kA ?_ _)); exact BK490.out⟩, ⟨by repeat (first | (with_reducible first | exact HB.out | apply bA | apply bN | apply b1 | refine bS ?_ GE482.out | refine bS ?_ GE490.out) | exact HB.out)⟩⟩
   ·replace c19 := Bool.eq_false_iff.mpr c19
    subst c19
    have H1 : (spec_SolveTwo.j0 k a2 true t475 t478 t483 t486) = some (r1, r2) := by rw [if_neg (show ¬ (false = true) by decide)] at H; exact H
    clear H
    have H := H1
    clear H1
    have H' := aM H
    clear H
    go_wp2
    go_meet
    case rel => exact ⟨_, (true), (by first | rfl | (simp; done) | (simp [*]; done) | (simp [Int.tmod_eq_emod_of_nonneg]; done)), H', ⟨by first | omega | exact Nat.le_refl _⟩, ⟨by (with_reducible repeat (first | apply vA | apply vN | apply vD)); exact Kd.V_mono (Kd.V_far (p := ⟨gb490, 1, none⟩) (Kd.V_far (p := ⟨gb490, 0, none⟩) (Kd.V_mono HO477.out (fun k_ hk => (⟨hk, hk.2⟩ : _ ∧ k_ ≠ gb490))) (fun _ hk => hk.2) (.slice Ao14 t483.length co14)) (fun _ hk => hk.2) (.slice Ao17 t486.length co17)) (fun _ hk => ⟨hk.1.1.2, hk.1.2⟩)⟩, ⟨by (with_reducible repeat (first | apply vA | apply vN | apply vD)); exact Kd.V_mono (Kd.V_far (p := ⟨gb490, 1, none⟩) (Kd.V_far (p := ⟨gb490, 0, none⟩) (Kd.V_mono HO480.out (fun k_ hk => (⟨hk, hk.2⟩ : _ ∧ k_ ≠ gb490))) (fun _ hk => hk.2) (.slice Ao14 t483.length co14)) (fun _ hk => hk.2) (.slice Ao17 t486.length co17)) (fun _ hk => ⟨hk.1.1.2, hk.1.2⟩)⟩, ⟨by (with_reducible repeat (first | apply vA | apply vN | apply vD)); exact Kd.V_mono (Kd.V_far (p := ⟨gb490, 1, none⟩) (Kd.V_far (p := ⟨gb490, 0, none⟩) (Kd.V_mono HO485.out (fun k_ hk => (⟨hk, hk.2⟩ : _ ∧ k_ ≠ gb490))) (fun _ hk => hk.2) (.slice Ao14 t483.length co14)) (fun _ hk => hk.2) (.slice Ao17 t486.length co17)) (fun _ hk => ⟨hk.1.1, hk.1.2⟩)⟩, ⟨by (with_reducible repeat (first | apply vA | apply vN | apply vD)); exact Kd.V_mono (Kd.V_far (p := ⟨gb490, 1, none⟩) (Kd.V_far (p := ⟨gb490, 0, none⟩) (Kd.V_mono HO488.out (fun k_ hk => (⟨hk, hk.2⟩ : _ ∧ k_ ≠ gb490))) (fun _ hk => hk.2) (.slice Ao14 t483.length co14)) (fun _ hk => hk.2) (.slice Ao17 t486.length co17)) (fun _ hk => ⟨hk.1.1, hk.1.2⟩)⟩, ⟨by (with_reducible repeat (first | refine kN ?_ _ | refine kD ?_ | refine kA ?_ _)); refine blk_far ?_ NB482_490.out _; (with_reducible repeat (first | refine kN ?_ _ | refine kD ?_ | refine kA ?_ _)); refine blk_far ?_ NB482_490.out _; (with_reducible repeat (first | refine kN ?_ _ | refine kD ?_ | refine kA ?_ _)); exact BK482.out⟩, ⟨by (with_reducible repeat (first | refine kN ?_ _ | refine kD ?_ | refine kA ?_ _)); refine blk_put (cs := #[.slice Ao14 t483.length co14, .slice none 0 0]) ?_ 1 _ rfl; (with_reducible repeat (first | refine kN ?_ _ | refine kD ?_ | refine kA ?_ _)); refine blk_put (cs := #[.slice none 0 0, .slice none 0 0]) ?_ 0 _ rfl; (with_reducible repeat (first | refine kN ?_ _ | refine kD ?_ | refine kA ?_ _)); exact BK490.out⟩, ⟨by repeat (first | (with_reducible first | exact HB.out | apply bA | apply bN | apply b1 | refine bS ?_ GE482.out | refine bS ?_ GE490.out) | exact HB.out)⟩⟩
  ·replace c18 := Bool.eq_false_iff.mpr c18
   subst c18
   have H1 : (spec_SolveTwo.j0 k a2 true t475 t478 t483 t486) = some (r1, r2) := by rw [if_neg (show ¬ (false = true) by decide)] at H; exact H
   clear H
   have H := H1
   clear H1
   have H' := aM H
   clear H
   go_wp2
   go_meet
   case rel => exact ⟨_, (true), (by first | rfl | (simp; done) | (simp [*]; done) | (simp [Int.tmod_eq_emod_of_nonneg]; done)), H', ⟨by first | omega | exact Nat.le_refl _⟩, ⟨by (with_reducible repeat (first | apply vA | apply vN | apply vD)); exact Kd.V_mono (Kd.V_far (p := ⟨gb490, 1, none⟩) (Kd.V_far (p := ⟨gb490, 0, none⟩) (Kd.V_mono HO477.out (fun k_ hk => (⟨hk, hk.2⟩ : _ ∧ k_ ≠ gb490))) (fun _ hk => hk.2) (.slice Ao14 t483.length co14)) (fun _ hk => hk.2) (.slice Ao17 t486.length co17)) (fun _ hk => ⟨hk.1.1.2, hk.1.2⟩)⟩, ⟨by (with_reducible repeat (first | apply vA | apply vN | apply vD)); exact Kd.V_mono (Kd.V_far (p := ⟨gb490, 1, none⟩) (Kd.V_far (p := ⟨gb490, 0, none⟩) (Kd.V_mono HO480.out (fun k_ hk => (⟨hk, hk.2⟩ : _ ∧ k_ ≠ gb490))) (fun _ hk => hk.2) (.slice Ao14 t483.length co14)) (fun _ hk => hk.2) (.slice Ao17 t486.length co17)) (fun _ hk => ⟨hk.1.1.2, hk.1.2⟩)⟩, ⟨by (with_reducible repeat (first | apply vA | apply vN | apply vD)); exact Kd.V_mono (Kd.V_far (p := ⟨gb490, 1, none⟩) (Kd.V_far (p := ⟨gb490, 0, none⟩) (Kd.V_mono HO485.out (fun k_ hk => (⟨hk, hk.2⟩ : _ ∧ k_ ≠ gb490))) (fun _ hk => hk.2) (.slice Ao14 t483.length co14)) (fun _ hk => hk.2) (.slice Ao17 t486.length co17)) (fun _ hk => ⟨hk.1.1, hk.1.2⟩)⟩, ⟨by (with_reducible repeat (first | apply vA | apply vN | apply vD)); exact Kd.V_mono (Kd.V_far (p := ⟨gb490, 1, none⟩) (Kd.V_far (p := ⟨gb490, 0, none⟩) (Kd.V_mono HO488.out (fun k_ hk => (⟨hk, hk.2⟩ : _ ∧ k_ ≠ gb490))) (fun _ hk => hk.2) (.slice Ao14 t483.length co14)) (fun _ hk => hk.2) (.slice Ao17 t486.length co17)) (fun _ hk => ⟨hk.1.1, hk.1.2⟩)⟩, ⟨by (with_reducible repeat (first | refine kN ?_ _ | refine kD ?_ | refine kA ?_ _)); refine blk_far ?_ NB482_490.out _; (with_reducible repeat (first | refine kN ?_ _ | refine kD ?_ | refine kA ?_ _)); refine blk_far ?_ NB482_490.out _; (with_reducible repeat (first | refine kN ?_ _ | refine kD ?_ | refine kA ?_ _)); exact BK482.out⟩, ⟨by (with_reducible repeat (first | refine kN ?_ _ | refine kD ?_ | refine kA ?_ _)); refine blk_put (cs := #[.slice Ao14 t483.length co14, .slice none 0 0]) ?_ 1 _ rfl; (with_reducible repeat (first | refine kN ?_ _ | refine kD ?_ | refine kA ?_ _)); refine blk_put (cs := #[.slice none 0 0, .slice none 0 0]) ?_ 0 _ rfl; (with_reducible repeat (first | refine kN ?_ _ | refine kD ?_ | refine kA ?_ _)); exact BK490.out⟩, ⟨by repeat (first | (with_reducible first | exact HB.out | apply bA | apply bN | apply b1 | refine bS ?_ GE482.out | refine bS ?_ GE490.out) | exact HB.out)⟩⟩
 case rest =>
  clear HC6
  try clear c1
  try clear p2
  try clear c5
  try clear c15
  try clear c18
  try clear c19
  try clear hcz10_0
  try clear hcz10_1
  try clear hcz16_0
  try clear hcz16_1
  try clear hfz10_0
  try clear hfz10_1
  try clear hfz16_0
  try clear hfz16_1
  obtain ⟨kq, x36_5, rfl, HA, HJ5, HO_483000, HO_483001, HO_491000, HO_491001, BK482, BK490, HB⟩ := hcut
  cases kq with
  | zero => exact absurd HA.out (by simp [spec_SolveTwo.j0])
  | succ kj5 =>
   have H := HA.out
   clear HA
   simp only [spec_SolveTwo.j0] at H
   by_cases c21 : x36_5 = true
   ·subst c21
    have H1 : (some (0, false)) = some (r1, r2) := by rw [if_pos rfl] at H; exact H
    clear H
    have H := H1
    clear H1
    simp only [Option.some.injEq, Prod.mk.injEq] at H
    obtain ⟨rfl, rfl⟩ := H
    go_wp2
    go_ret2
    exact ⟨by first | rfl | (simp [errW_none, errW_some] <;> rfl) | (simp [errW_none, errW_some]; exact ⟨rfl, rfl⟩) | (simp [errW_none, errW_some]; exact ⟨rfl, rfl, rfl⟩) | (simp [*, errW_none, errW_some] <;> rfl), by repeat (first | (with_reducible first | exact HB.out | apply bA | apply bN | apply b1 | refine bS ?_ GE482.out | refine bS ?_ GE490.out) | exact HB.out)⟩
   ·replace c21 := Bool.eq_false_iff.mpr c21
    subst c21
    have H1 : (if 0 ≤ a2 then (if (a2 : Int).toNat ≤ 281474976710656 then (spec_SolveTwo.l0 kj5 a2 (List.replicate (a2 : Int).toNat false) 0 0 t475 t478 t483 t486) else (none)) else (none)) = some (r1, r2) := by rw [if_neg (show ¬ (false = true) by decide)] at H; exact H
    clear H
    have H := H1
    clear H1
    by_cases c22 : 0 ≤ a2
    ·rw [if_pos c22] at H
     have c22b0 := eq_true c22
     have c22b1 : decide (0 ≤ a2) = true := decide_eq_true c22
     clear c22
     by_cases c23 : (a2 : Int).toNat ≤ 281474976710656
     ·rw [if_pos c23] at H
      have c23b0 := eq_true c23
      have c23b1 : decide ((a2 : Int).toNat ≤ 281474976710656) = true := decide_eq_true c23
      clear c23
      obtain ⟨y492, hy492⟩ : ∃ y_ : List Bool, y_ = (List.replicate (a2 : Int).toNat false) := ⟨_, rfl⟩
      replace H : (spec_SolveTwo.l0 kj5 a2 y492 0 0 t475 t478 t483 t486) = some (r1, r2) := by first | (rw [hy492]; with_reducible exact H) | (have H2_ := (Option.bind_some _ _).symm.trans H; rw [hy492]; with_reducible exact H2_) | (have H2_ := (Option.bind_some _ _).symm.trans H; with_reducible exact H2_) | with_reducible exact H | (rw [hy492]; exact H) | exact H
      have Ny492 := aM hy492
      clear hy492
      have H' := aM H
      clear H
      go_wp2_with (first | ((with_reducible refine gate_dst (N := 38) rfl ?_); refine Kd.R_make Kd.bool _ 4 rfl (N := 38) rfl 45 _ _ rfl a2 rfl rfl Try.underlying45 (.bool false) 1 info4 rfl (by decide) (by omega) false (ok := fun _ => True) (okp := fun _ => True) rfl (fun _ hk => hk) trivial (of_decide_eq_true (by first | (with_reducible assumption) | assumption)) (Nat.le_trans (Nat.mul_le_mul_right _ (of_decide_eq_true (by first | (with_reducible assumption) | assumption) : a2.toNat ≤ 281474976710656)) (by omega)) (Below.refl _ _) (Nat.le_refl _) ?_; intro v493 w24 ho25 hb hg_ hnew_; clear hg_ hnew_; (first | rw [← Ny492.out] at ho25 | (simp only [Int.reduceToNat] at ho25; rw [← Ny492.out] at ho25)); have n0_ := aM (Kd.V_elder' (by (with_reducible repeat (first | apply vA | apply vN | apply vD)); exact HO_483000.out) (Kd.R_base ho25) hb); have n1_ := aM (Kd.V_elder' (by (with_reducible repeat (first | apply vA | apply vN | apply vD)); exact HO_483001.out) (Kd.R_base ho25) hb); have n2_ := aM (Kd.V_elder' (by (with_reducible repeat (first | apply vA | apply vN | apply vD)); exact HO_491000.out) (Kd.R_base ho25) hb); have n3_ := aM (Kd.V_elder' (by (with_reducible repeat (first | apply vA | apply vN | apply vD)); exact HO_491001.out) (Kd.R_base ho25) hb); have n4_ := aM (Kd.R_lower ho25 (below_size (by repeat (first | (with_reducible first | exact HB.out | apply bA | apply bN | apply b1 | refine bS ?_ GE482.out | refine bS ?_ GE490.out) | exact HB.out)))); have n5_ := aM (blk_below (g := gb482) (o := .cells #[.slice Ao9 t475.length co9, .slice Ao11 t478.length co11] 47 (0, 0)) (by (with_reducible repeat (first | refine kN ?_ _ | refine kD ?_ | refine kA ?_ _)); exact BK482.out) hb); have n6_ := aM (blk_below (g := gb490) (o := .cells #[.slice Ao14 t483.length co14, .slice Ao17 t486.length co17] 47 (0, 0)) (by (with_reducible repeat (first | refine kN ?_ _ | refine kD ?_ | refine kA ?_ _)); exact BK490.out) hb); have n7_ := aM (below_step (by repeat (first | (with_reducible first | exact HB.out | apply bA | apply bN | apply b1 | refine bS ?_ GE482.out | refine bS ?_ GE490.out) | exact HB.out)) hb); clear HO_483000; clear HO_483001; clear HO_491000; clear HO_491001; clear BK482; clear BK490; clear HB; have HO_483000 := n0_; have HO_483001 := n1_; have HO_491000 := n2_; have HO_491001 := n3_; have HO494 := n4_; have BK482 := n5_; have BK490 := n6_; have HB := n7_; clear n0_ n1_ n2_ n3_ n4_ n5_ n6_ n7_; clear hb ho25))
      go_loopg [13, 14] kj5 (fun kq v13 v14 w' => ∃ (x12_2 : List Bool) (x13_2 : Int) (x14_2 : Int), v13 = .int .i64 x13_2 ∧ v14 = .int .i64 x14_2 ∧ Aside0 (spec_SolveTwo.l0 kq a2 x12_2 x13_2 x14_2 t475 t478 t483 t486 = some (r1, r2)) ∧ Aside0 (kq ≤ kj5) ∧ Aside0 (Kd.R Kd.bool 4 w' w.heap.size (fun _ => True) v493 x12_2) ∧ Aside0 (Kd.V Kd.bool 4 w' w.heap.size (fun k_ => some k_ ≠ (v493 : Value).ownBlock ∧ k_ ≠ gb482 ∧ k_ ≠ gb490) (.slice Ao9 t475.length co9) t475) ∧ Aside0 (Kd.V Kd.bool 4 w' w.heap.size (fun k_ => some k_ ≠ (v493 : Value).ownBlock ∧ k_ ≠ gb482 ∧ k_ ≠ gb490) (.slice Ao11 t478.length co11) t478) ∧ Aside0 (Kd.V Kd.bool 4 w' w.heap.size (fun k_ => some k_ ≠ (v493 : Value).ownBlock ∧ k_ ≠ gb482 ∧ k_ ≠ gb490) (.slice Ao14 t483.length co14) t483) ∧ Aside0 (Kd.V Kd.bool 4 w' w.heap.size (fun k_ => some k_ ≠ (v493 : Value).ownBlock ∧ k_ ≠ gb482 ∧ k_ ≠ gb490) (.slice Ao17 t486.length co17) t486) ∧ Aside0 (w'.heap[gb482]? = some (.cells #[(.slice Ao9 t475.length co9), (.slice Ao11 t478.length co11)] 47 (0, 0))) ∧ Aside0 (w'.heap[gb490]? = some (.cells #[(.slice Ao14 t483.length co14), (.slice Ao17 t486.length co17)] 47 (0, 0))) ∧ Aside0 (Below w.heap.size w w'))
      case atStart => exact ⟨(y492), (0), (0), (by first | rfl | (simp; done) | (simp [*]; done) | (simp [Int.tmod_eq_emod_of_nonneg]; done)), (by first | rfl | (simp; done) | (simp [*]; done) | (simp [Int.tmod_eq_emod_of_nonneg]; done)), H', ⟨Nat.le_refl _⟩, ⟨by (with_reducible repeat (first | apply rA | apply rN | apply rD)); exact HO494.out⟩, ⟨by (with_reducible repeat (first | apply vA | apply vN | apply vD)); exact Kd.V_mono HO_483000.out (fun _ hk => ⟨hk.2, ⟨hk.1.1, hk.1.2⟩⟩)⟩, ⟨by (with_reducible repeat (first | apply vA | apply vN | apply vD)); exact Kd.V_mono HO_483001.out (fun _ hk => ⟨hk.2, ⟨hk.1.1, hk.1.2⟩⟩)⟩, ⟨by (with_reducible repeat (first | apply vA | apply vN | apply vD)); exact Kd.V_mono HO_491000.out (fun _ hk => ⟨hk.2, ⟨hk.1.1, hk.1.2⟩⟩)⟩, ⟨by (with_reducible repeat (first | apply vA | apply vN | apply vD)); exact Kd.V_mono HO_491001.out (fun _ hk => ⟨hk.2, ⟨hk.1.1, hk.1.2⟩⟩)⟩, ⟨by (with_reducible repeat (first | refine kN ?_ _ | refine kD ?_ | refine kA ?_ _)); exact BK482.out⟩, ⟨by (with_reducible repeat (first | refine kN ?_ _ | refine kD ?_ | refine kA ?_ _)); exact BK490.out⟩, ⟨by repeat (first | (with_reducible first | exact HB.out | apply bA | apply bN | apply b1 | refine bS ?_ GE482.out | refine bS ?_ GE490.out) | exact HB.out)⟩⟩
      case round =>
       clear H'
       try clear c1
       try clear c2
       try clear p2
       try clear c5
       try clear c15
       try clear c18
       try clear c19
       try clear c21
       try clear c22
       try clear c22b0
       try clear c22b1
       try clear c23
       try clear c23b0
       try clear c23b1
       try clear hcz10_0
       try clear hcz10_1
       try clear hcz16_0
       try clear hcz16_1
       try clear hfz10_0
       try clear hfz10_1
       try clear hfz16_0
       try clear hfz16_1
       try clear p2
       obtain ⟨x12_2, x13_2, x14_2, rfl, rfl, HA, HK2, HO_12, HO_483000, HO_483001, HO_491000, HO_491001, BK482, BK490, HB⟩ := hrel
       cases gk with
       | zero => exact absurd HA.out (by simp [spec_SolveTwo.l0])
       | succ k2 =>
        have H := HA.out
        clear HA
        simp only [spec_SolveTwo.l0] at H
        by_cases c26 : x14_2 < a2
        ·rw [if_pos c26] at H
         have c26b0 : decide (x14_2 < a2) = true := decide_eq_true c26
         clear c26
         replace H := Option.bind_eq_some_iff.mp H
         obtain ⟨t495, A270, H⟩ := H
         replace H : (if 0 ≤ x14_2 then (if x14_2 < (x12_2.length : Int) then (spec_SolveTwo.l1 k2 a2 (x12_2.set (x14_2 : Int).toNat t495) x13_2 x14_2 0 t475 t478 t483 t486) else (none)) else (none)) = some (r1, r2) := H
         have A27 := aM A270
         clear A270
         by_cases c28 : 0 ≤ x14_2
         ·rw [if_pos c28] at H
          have c28b0 : decide (0 ≤ x14_2) = true := decide_eq_true c28
          clear c28
          by_cases c29 : x14_2 < (x12_2.length : Int)
          ·rw [if_pos c29] at H
           have c29b0 : decide (x14_2 < (x12_2.length : Int)) = true := decide_eq_true c29
           clear c29
           obtain ⟨y496, hy496⟩ : ∃ y_ : List Bool, y_ = (x12_2.set (x14_2 : Int).toNat t495) := ⟨_, rfl⟩
           replace H : (spec_SolveTwo.l1 k2 a2 y496 x13_2 x14_2 0 t475 t478 t483 t486) = some (r1, r2) := by first | (rw [hy496]; with_reducible exact H) | (have H2_ := (Option.bind_some _ _).symm.trans H; rw [hy496]; with_reducible exact H2_) | (have H2_ := (Option.bind_some _ _).symm.trans H; with_reducible exact H2_) | with_reducible exact H | (rw [hy496]; exact H) | exact H
           have Ny496 := aM hy496
           clear hy496
           have H' := aM H
           clear H
           have hnb31 := NB490_482.out
           have hnc31 := NB482_490.out
           have hcz32_0 : wr.cell? ⟨gb490, 0, none⟩ = some (.slice Ao14 t483.length co14) := (blk_cell BK490.out 0).trans rfl
           have hcz32_1 : wr.cell? ⟨gb490, 1, none⟩ = some (.slice Ao17 t486.length co17) := (blk_cell BK490.out 1).trans rfl
           have hfz32_0 := blk_frozen BK490.out 0
           have hfz32_1 := blk_frozen BK490.out 1
           go_wp2_with (first | ((with_reducible refine gate_callee (f := 54) rfl ?_); refine goesL_ (some 48) rfl rfl Try.func54 (by kernel_rfl) rfl #[.agg #[.slice Ao14 t483.length co14, .slice Ao17 t486.length co17], .int .i64 x14_2] rfl (by (try simp only [List.map_toArray, List.map_cons, List.map_nil]); first | done | rfl | (simp only [List.length_drop, List.length_take]; rfl)) ?_; (with_reducible refine (spec_l1Has.calls _ _ t483 _ _ t486 x14_2 t495 _ ?side1 ?side2 ?side3 ?side4 A27.out).mono ?_); (case side1 => repeat (first | exact (Kd.V_reads' HO_491000.out).2.2 | (with_reducible refine Kd.C_alloc ?_ _) | (with_reducible refine Kd.C_drewN ?_ _) | (with_reducible refine Kd.C_drew ?_))); (case side2 => exact (Kd.V_reads' HO_491000.out).2.1); (case side3 => repeat (first | exact (Kd.V_reads' HO_491001.out).2.2 | (with_reducible refine Kd.C_alloc ?_ _) | (with_reducible refine Kd.C_drewN ?_ _) | (with_reducible refine Kd.C_drew ?_))); (case side4 => exact (Kd.V_reads' HO_491001.out).2.1); rintro e w33 ⟨rfl, hb⟩; refine ⟨_, rfl, ?_⟩; have n0_ := aM (Kd.R_below (by (with_reducible repeat (first | apply rA | apply rN | apply rD)); exact HO_12.out) hb); have n1_ := aM (Kd.V_below (by (with_reducible repeat (first | apply vA | apply vN | apply vD)); exact HO_483000.out) hb); have n2_ := aM (Kd.V_below (by (with_reducible repeat (first | apply vA | apply vN | apply vD)); exact HO_483001.out) hb); have n3_ := aM (Kd.V_below (by (with_reducible repeat (first | apply vA | apply vN | apply vD)); exact HO_491000.out) hb); have n4_ := aM (Kd.V_below (by (with_reducible repeat (first | apply vA | apply vN | apply vD)); exact HO_491001.out) hb); have n5_ := aM (blk_below (g := gb482) (o := .cells #[.slice Ao9 t475.length co9, .slice Ao11 t478.length co11] 47 (0, 0)) (by (with_reducible repeat (first | refine kN ?_ _ | refine kD ?_ | refine kA ?_ _)); exact BK482.out) hb); have n6_ := aM (blk_below (g := gb490) (o := .cells #[.slice Ao14 t483.length co14, .slice Ao17 t486.length co17] 47 (0, 0)) (by (with_reducible repeat (first | refine kN ?_ _ | refine kD ?_ | refine kA ?_ _)); exact BK490.out) hb); have n7_ := aM (below_step (by repeat (first | (with_reducible first | exact HB.out | apply bA | apply bN | apply b1 | refine bS ?_ GE482.out | refine bS ?_ GE490.out) | exact HB.out)) hb); clear HO_12; clear HO_483000; clear HO_483001; clear HO_491000; clear HO_491001; clear BK482; clear BK490; clear HB; have HO_12 := n0_; have HO_483000 := n1_; have HO_483001 := n2_; have HO_491000 := n3_; have HO_491001 := n4_; have BK482 := n5_; have BK490 := n6_; have HB := n7_; clear n0_ n1_ n2_ n3_ n4_ n5_ n6_ n7_; (try clear hb); (try clear hb2); (try clear hk); (try clear hi); have p30 : 0 ≤ (x14_2 : Int) := of_decide_eq_true (by first | (with_reducible assumption) | assumption); have q30 : (x14_2 : Int) < ((x12_2.length : Int) : Int) := of_decide_eq_true (by first | (with_reducible assumption) | assumption); obtain ⟨go30, co30, eo30, gb30, gl30, cl30, HG30⟩ := Kd.R_form HO_12.out (by omega); (first | cases eo30 | (injection eo30 with ea_ en_ ec_; (first | subst ea_ | (injection ea_ with ea_; subst ea_)); subst ec_; clear en_)); have GB30 := aM gb30; have GG30 := aM HG30; clear gb30 gl30 HG30; obtain ⟨hx30_0, hf30_0⟩ := Kd.R_celln false HO_12.out (x14_2 : Int) p30 q30; replace p30 := eq_true p30; replace q30 := eq_true q30; obtain ⟨hy34_, hz34_⟩ := Kd.R_celln false HO_12.out (x14_2 : Int) (of_decide_eq_true (by first | (with_reducible assumption) | assumption)) (of_decide_eq_true (by first | (with_reducible assumption) | assumption)); have HP34 := Kd.R_putg HO_12.out (x14_2 : Int) t495) | ((with_reducible refine gate_store (t := 4) (p := 49) rfl ?_); refine store_event (t := 4) (p := 49) (v := ?vo_w35) (w1 := (w33.setCell ⟨go30, (x14_2 : Int).toNat, none⟩ (.bool t495))) ?hg ?ho ?hn ?hr ?_; (case ho => rfl); (case hg => rfl); (case hn => rfl); (case hr => first | (go_simp; done) | (go_simp; rfl)); intro w35 hw; have hg : w33.grownBy w35 (some go30) := (by rw [hw]; exact HP34.2); have hp_ : Kd.R Kd.bool 4 w35 w.heap.size (fun _ => True) (.slice (some ⟨go30, 0, none⟩) x12_2.length co30) y496 := (by rw [hw, Ny496.out]; exact HP34.1); clear HP34; have n0_ := aM (hp_); have n1_ := aM (Kd.V_afterv (v := (.slice (some ⟨go30, 0, none⟩) x12_2.length co30)) (v1 := (.slice (some ⟨go30, 0, none⟩) x12_2.length co30)) (ok := (fun k_ => k_ ≠ gb482 ∧ k_ ≠ gb490)) (by (with_reducible repeat (first | apply vA | apply vN | apply vD)); exact Kd.V_mono HO_483000.out (fun _ hk => ⟨⟨hk.2.1, hk.2.2⟩, hk.1⟩)) hg (.inl rfl)); have n2_ := aM (Kd.V_afterv (v := (.slice (some ⟨go30, 0, none⟩) x12_2.length co30)) (v1 := (.slice (some ⟨go30, 0, none⟩) x12_2.length co30)) (ok := (fun k_ => k_ ≠ gb482 ∧ k_ ≠ gb490)) (by (with_reducible repeat (first | apply vA | apply vN | apply vD)); exact Kd.V_mono HO_483001.out (fun _ hk => ⟨⟨hk.2.1, hk.2.2⟩, hk.1⟩)) hg (.inl rfl)); have n3_ := aM (Kd.V_afterv (v := (.slice (some ⟨go30, 0, none⟩) x12_2.length co30)) (v1 := (.slice (some ⟨go30, 0, none⟩) x12_2.length co30)) (ok := (fun k_ => k_ ≠ gb482 ∧ k_ ≠ gb490)) (by (with_reducible repeat (first | apply vA | apply vN | apply vD)); exact Kd.V_mono HO_491000.out (fun _ hk => ⟨⟨hk.2.1, hk.2.2⟩, hk.1⟩)) hg (.inl rfl)); have n4_ := aM (Kd.V_afterv (v := (.slice (some ⟨go30, 0, none⟩) x12_2.length co30)) (v1 := (.slice (some ⟨go30, 0, none⟩) x12_2.length co30)) (ok := (fun k_ => k_ ≠ gb482 ∧ k_ ≠ gb490)) (by (with_reducible repeat (first | apply vA | apply vN | apply vD)); exact Kd.V_mono HO_491001.out (fun _ hk => ⟨⟨hk.2.1, hk.2.2⟩, hk.1⟩)) hg (.inl rfl)); have n5_ := aM (blk_grown (g := gb482) (o := .cells #[.slice Ao9 t475.length co9, .slice Ao11 t478.length co11] 47 (0, 0)) (by (with_reducible repeat (first | refine kN ?_ _ | refine kD ?_ | refine kA ?_ _)); exact BK482.out) hg (Kd.R_ne HO_12.out BK482.out (by decide))); have n6_ := aM (blk_grown (g := gb490) (o := .cells #[.slice Ao14 t483.length co14, .slice Ao17 t486.length co17] 47 (0, 0)) (by (with_reducible repeat (first | refine kN ?_ _ | refine kD ?_ | refine kA ?_ _)); exact BK490.out) hg (Kd.R_ne HO_12.out BK490.out (by decide))); have n7_ := aM ((by rw [hw]; exact bS (HB.out) GB30.out : Below w.heap.size w w35)); clear HO_12; clear HO_483000; clear HO_483001; clear HO_491000; clear HO_491001; clear BK482; clear BK490; clear HB; have HO_12 := n0_; have HO_483000 := n1_; have HO_483001 := n2_; have HO_491000 := n3_; have HO_491001 := n4_; have BK482 := n5_; have BK490 := n6_; have HB := n7_; clear n0_ n1_ n2_ n3_ n4_ n5_ n6_ n7_; clear hg hw hp_))
           go_loopg [15] k2 (fun kq v15 w' => ∃ (x12_3 : List Bool) (x15_3 : Int), v15 = .int .i64 x15_3 ∧ Aside0 (spec_SolveTwo.l1 kq a2 x12_3 x13_2 x14_2 x15_3 t475 t478 t483 t486 = some (r1, r2)) ∧ Aside0 (kq ≤ k2) ∧ Aside0 (Kd.R Kd.bool 4 w' w.heap.size (fun _ => True) (.slice (some ⟨go30, 0, none⟩) x12_2.length co30) x12_3) ∧ Aside0 (Kd.V Kd.bool 4 w' w.heap.size (fun k_ => some k_ ≠ ((.slice (some ⟨go30, 0, none⟩) x12_2.length co30) : Value).ownBlock ∧ k_ ≠ gb482 ∧ k_ ≠ gb490) (.slice Ao9 t475.length co9) t475) ∧ Aside0 (Kd.V Kd.bool 4 w' w.heap.size (fun k_ => some k_ ≠ ((.slice (some ⟨go30, 0, none⟩) x12_2.length co30) : Value).ownBlock ∧ k_ ≠ gb482 ∧ k_ ≠ gb490) (.slice Ao11 t478.length co11) t478) ∧ Aside0 (Kd.V Kd.bool 4 w' w.heap.size (fun k_ => some k_ ≠ ((.slice (some ⟨go30, 0, none⟩) x12_2.length co30) : Value).ownBlock ∧ k_ ≠ gb482 ∧ k_ ≠ gb490) (.slice Ao14 t483.length co14) t483) ∧ Aside0 (Kd.V Kd.bool 4 w' w.heap.size (fun k_ => some k_ ≠ ((.slice (some ⟨go30, 0, none⟩) x12_2.length co30) : Value).ownBlock ∧ k_ ≠ gb482 ∧ k_ ≠ gb490) (.slice Ao17 t486.length co17) t486) ∧ Aside0 (w'.heap[gb482]? = some (.cells #[(.slice Ao9 t475.length co9), (.slice Ao11 t478.length co11)] 47 (0, 0))) ∧ Aside0 (w'.heap[gb490]? = some (.cells #[(.slice Ao14 t483.length co14), (.slice Ao17 t486.length co17)] 47 (0, 0))) ∧ Aside0 (Below w.heap.size w w'))
           case atStart => exact ⟨(y496), (0), (by first | rfl | (simp; done) | (simp [*]; done) | (simp [Int.tmod_eq_emod_of_nonneg]; done)), H', ⟨Nat.le_refl _⟩, ⟨by (with_reducible repeat (first | apply rA | apply rN | apply rD)); exact HO_12.out⟩, ⟨by (with_reducible repeat (first | apply vA | apply vN | apply vD)); exact Kd.V_mono HO_483000.out (fun _ hk => ⟨hk.2, ⟨hk.1.1, hk.1.2⟩⟩)⟩, ⟨by (with_reducible repeat (first | apply vA | apply vN | apply vD)); exact Kd.V_mono HO_483001.out (fun _ hk => ⟨hk.2, ⟨hk.1.1, hk.1.2⟩⟩)⟩, ⟨by (with_reducible repeat (first | apply vA | apply vN | apply vD)); exact Kd.V_mono HO_491000.out (fun _ hk => ⟨hk.2, ⟨hk.1.1, hk.1.2⟩⟩)⟩, ⟨by (with_reducible repeat (first | apply vA | apply vN | apply vD)); exact Kd.V_mono HO_491001.out (fun _ hk => ⟨hk.2, ⟨hk.1.1, hk.1.2⟩⟩)⟩, ⟨by (with_reducible repeat (first | refine kN ?_ _ | refine kD ?_ | refine kA ?_ _)); exact BK482.out⟩, ⟨by (with_reducible repeat (first | refine kN ?_ _ | refine kD ?_ | refine kA ?_ _)); exact BK490.out⟩, ⟨by repeat (first | (with_reducible first | exact HB.out | apply bA | apply bN | apply b1 | refine bS ?_ GE482.out | refine bS ?_ GE490.out) | exact HB.out)⟩⟩
           case round =>
            clear H'
            try clear c1
            try clear c2
            try clear p2
            try clear c3
            try clear p3
            try clear q3
            try clear hx3
            try clear hf3
            try clear c5
            try clear c15
            try clear c18
            try clear c19
            try clear c21
            try clear c22
            try clear c22b0
            try clear c22b1
            try clear c23
            try clear c23b0
            try clear c23b1
            try clear c26
            try clear c26b0
            try clear c28
            try clear c28b0
            try clear c29
            try clear c29b0
            try clear p30
            try clear q30
            try clear hx30
            try clear hf30
            try clear c31
            try clear hcz10_0
            try clear hcz10_1
            try clear hcz16_0
            try clear hcz16_1
            try clear hcz32_0
            try clear hcz32_1
            try clear hfz10_0
            try clear hfz10_1
            try clear hfz16_0
            try clear hfz16_1
            try clear hfz32_0
            try clear hfz32_1
            try clear hx30_0
            try clear p2
            try clear p30
            try clear q30
            obtain ⟨x12_3, x15_3, rfl, HA, HK3, HO_12, HO_483000, HO_483001, HO_491000, HO_491001, BK482, BK490, HB⟩ := hrel
            have hl12_3 := (Kd.R_reads' HO_12.out).1
            rw [hl12_3] at HO_12
            (try simp only [hl12_3])
            (try simp only [hl12_3] at BK482)
            (try simp only [hl12_3] at BK490)
            (try simp only [hl12_3] at HO_483000)
            (try simp only [hl12_3] at HO_483001)
            (try simp only [hl12_3] at HO_491000)
            (try simp only [hl12_3] at HO_491001)
            cases gk with
            | zero => exact absurd HA.out (by simp [spec_SolveTwo.l1])
            | succ k3 =>
             have H := HA.out
             clear HA
             simp only [spec_SolveTwo.l1] at H
             by_cases c36 : x15_3 < x14_2
             ·rw [if_pos c36] at H
              have c36b0 : decide (x15_3 < x14_2) = true := decide_eq_true c36
              clear c36
              by_cases c37 : 0 ≤ x14_2
              ·rw [if_pos c37] at H
               have c37b0 : decide (0 ≤ x14_2) = true := decide_eq_true c37
               clear c37
               by_cases c38 : x14_2 < (x12_3.length : Int)
               ·rw [if_pos c38] at H
                have c38b0 : decide (x14_2 < (x12_3.length : Int)) = true := decide_eq_true c38
                have c38b0z := c38b0
                (try simp only [hl12_3] at c38b0z)
                clear c38
                obtain ⟨bq39, hbq39⟩ : ∃ b_ : Bool, b_ = (rdOf false x12_3 x14_2) := ⟨_, rfl⟩
                replace H : (if bq39 = true then (spec_SolveTwo.l1 k3 a2 (x12_3.set (x14_2 : Int).toNat true) x13_2 x14_2 (wrap64 (x15_3 + 1)) t475 t478 t483 t486) else ((spec_l1Has.f t475 t478 x15_3).bind fun t499 => (if t499 = true then (if 0 ≤ (wrap64 ((wrap64 (x14_2 - x15_3)) - 1)) then (if (wrap64 ((wrap64 (x14_2 - x15_3)) - 1)) < (x12_3.length : Int) then (spec_SolveTwo.l1 k3 a2 (x12_3.set (x14_2 : Int).toNat (rdOf false x12_3 (wrap64 ((wrap64 (x14_2 - x15_3)) - 1)))) x13_2 x14_2 (wrap64 (x15_3 + 1)) t475 t478 t483 t486) else (none)) else (none)) else (spec_SolveTwo.l1 k3 a2 (x12_3.set (x14_2 : Int).toNat false) x13_2 x14_2 (wrap64 (x15_3 + 1)) t475 t478 t483 t486)))) = some (r1, r2) := by rw [← hbq39] at H; exact H
                have Nbq39 := aM hbq39
                clear hbq39
                by_cases c40 : bq39 = true
                ·subst c40
                 have H1 : (spec_SolveTwo.l1 k3 a2 (x12_3.set (x14_2 : Int).toNat true) x13_2 x14_2 (wrap64 (x15_3 + 1)) t475 t478 t483 t486) = some (r1, r2) := by rw [if_pos rfl] at H; exact H
                 clear H
                 have H := H1
                 clear H1
                 obtain ⟨y498, hy498⟩ : ∃ y_ : List Bool, y_ = (x12_3.set (x14_2 : Int).toNat true) := ⟨_, rfl⟩
                 replace H : (spec_SolveTwo.l1 k3 a2 y498 x13_2 x14_2 (wrap64 (x15_3 + 1)) t475 t478 t483 t486) = some (r1, r2) := by first | (rw [hy498]; with_reducible exact H) | (have H2_ := (Option.bind_some _ _).symm.trans H; rw [hy498]; with_reducible exact H2_) | (have H2_ := (Option.bind_some _ _).symm.trans H; with_reducible exact H2_) | with_reducible exact H | (rw [hy498]; exact H) | exact H
                 have Ny498 := aM hy498
                 clear hy498
                 have H' := aM H
                 clear H
                 have p497 : 0 ≤ (x14_2 : Int) := of_decide_eq_true (by first | (with_reducible assumption) | assumption)
                 have q497 : x14_2 < (x12_3.length : Int) := of_decide_eq_true (by first | (with_reducible assumption) | assumption)
                 obtain ⟨ad497, e497, hx497_0⟩ := Kd.at_bool (Kd.R_reads' HO_12.out).2.2 x14_2 p497 q497
                 (try rw [← Nbq39.out] at hx497_0)
                 obtain rfl : (⟨go30, 0, none⟩ : Addr) = ad497 := (by injection e497)
                 (first | simp only [add_plain] at hx497_0 | simp only [add_at] at hx497_0 | simp only [Addr.add, Nat.zero_add] at hx497_0 | skip)
                 replace p497 := eq_true p497
                 replace q497 := eq_true q497
                 have p41 : 0 ≤ (x14_2 : Int) := of_decide_eq_true (by first | (with_reducible assumption) | assumption)
                 have q41 : (x14_2 : Int) < ((x12_3.length : Int) : Int) := of_decide_eq_true (by first | (with_reducible assumption) | assumption)
                 obtain ⟨hx41_0, hf41_0⟩ := Kd.R_celln false HO_12.out (x14_2 : Int) p41 q41
                 replace p41 := eq_true p41
                 replace q41 := eq_true q41
                 have HP42 := Kd.R_putg HO_12.out (x14_2 : Int) true
                 go_wp2_with (first | ((with_reducible refine gate_store (t := 4) (p := 75) rfl ?_); refine store_event (t := 4) (p := 75) (v := ?vo_w43) (w1 := (wr.setCell ⟨go30, (x14_2 : Int).toNat, none⟩ (.bool true))) ?hg ?ho ?hn ?hr ?_; (case ho => rfl); (case hg => rfl); (case hn => rfl); (case hr => first | (go_simp; done) | (go_simp; rfl)); intro w43 hw; have hg : wr.grownBy w43 (some go30) := (by rw [hw]; exact HP42.2); have hp_ : Kd.R Kd.bool 4 w43 w.heap.size (fun _ => True) (.slice (some ⟨go30, 0, none⟩) x12_3.length co30) y498 := (by rw [hw, Ny498.out]; exact HP42.1); clear HP42; have n0_ := aM (hp_); have n1_ := aM (Kd.V_afterv (v := (.slice (some ⟨go30, 0, none⟩) x12_3.length co30)) (v1 := (.slice (some ⟨go30, 0, none⟩) x12_3.length co30)) (ok := (fun k_ => k_ ≠ gb482 ∧ k_ ≠ gb490)) (by (with_reducible repeat (first | apply vA | apply vN | apply vD)); exact Kd.V_mono HO_483000.out (fun _ hk => ⟨⟨hk.2.1, hk.2.2⟩, hk.1⟩)) hg (.inl rfl)); have n2_ := aM (Kd.V_afterv (v := (.slice (some ⟨go30, 0, none⟩) x12_3.length co30)) (v1 := (.slice (some ⟨go30, 0, none⟩) x12_3.length co30)) (ok := (fun k_ => k_ ≠ gb482 ∧ k_ ≠ gb490)) (by (with_reducible repeat (first | apply vA | apply vN | apply vD)); exact Kd.V_mono HO_483001.out (fun _ hk => ⟨⟨hk.2.1, hk.2.2⟩, hk.1⟩)) hg (.inl rfl)); have n3_ := aM (Kd.V_afterv (v := (.slice (some ⟨go30, 0, none⟩) x12_3.length co30)) (v1 := (.slice (some ⟨go30, 0, none⟩) x12_3.length co30)) (ok := (fun k_ => k_ ≠ gb482 ∧ k_ ≠ gb490)) (by (with_reducible repeat (first | apply vA | apply vN | apply vD)); exact Kd.V_mono HO_491000.out (fun _ hk => ⟨⟨hk.2.1, hk.2.2⟩, hk.1⟩)) hg (.inl rfl)); have n4_ := aM (Kd.V_afterv (v := (.slice (some ⟨go30, 0, none⟩) x12_3.length co30)) (v1 := (.slice (some ⟨go30, 0, none⟩) x12_3.length co30)) (ok := (fun k_ => k_ ≠ gb482 ∧ k_ ≠ gb490)) (by (with_reducible repeat (first | apply vA | apply vN | apply vD)); exact Kd.V_mono HO_491001.out (fun _ hk => ⟨⟨hk.2.1, hk.2.2⟩, hk.1⟩)) hg (.inl rfl)); have n5_ := aM (blk_grown (g := gb482) (o := .cells #[.slice Ao9 t475.length co9, .slice Ao11 t478.length co11] 47 (0, 0)) (by (with_reducible repeat (first | refine kN ?_ _ | refine kD ?_ | refine kA ?_ _)); exact BK482.out) hg (Kd.R_ne HO_12.out BK482.out (by decide))); have n6_ := aM (blk_grown (g := gb490) (o := .cells #[.slice Ao14 t483.length co14, .slice Ao17 t486.length co17] 47 (0, 0)) (by (with_reducible repeat (first | refine kN ?_ _ | refine kD ?_ | refine kA ?_ _)); exact BK490.out) hg (Kd.R_ne HO_12.out BK490.out (by decide))); have n7_ := aM ((by rw [hw]; exact bS (HB.out) GB30.out : Below w.heap.size w w43)); clear HO_12; clear HO_483000; clear HO_483001; clear HO_491000; clear HO_491001; clear BK482; clear BK490; clear HB; have HO_12 := n0_; have HO_483000 := n1_; have HO_483001 := n2_; have HO_491000 := n3_; have HO_491001 := n4_; have BK482 := n5_; have BK490 := n6_; have HB := n7_; clear n0_ n1_ n2_ n3_ n4_ n5_ n6_ n7_; clear hg hw hp_))
                 (try simp only [← hl12_3])
                 go_roundg k3
                 case measure => have := HJ5.out; have := HK2.out; have := HK3.out; omega
                 case rel => exact ⟨(y498), (wrap64 (x15_3 + 1)), (by first | rfl | (simp; done) | (simp [*]; done) | (simp [Int.tmod_eq_emod_of_nonneg]; done)), H', ⟨by have := HJ5.out; have := HK2.out; have := HK3.out; omega⟩, ⟨by (try simp only [hl12_3]); (with_reducible repeat (first | apply rA | apply rN | apply rD)); exact HO_12.out⟩, ⟨by (try simp only [hl12_3]); (with_reducible repeat (first | apply vA | apply vN | apply vD)); exact Kd.V_mono HO_483000.out (fun _ hk => ⟨hk.2, ⟨hk.1.1, hk.1.2⟩⟩)⟩, ⟨by (try simp only [hl12_3]); (with_reducible repeat (first | apply vA | apply vN | apply vD)); exact Kd.V_mono HO_483001.out (fun _ hk => ⟨hk.2, ⟨hk.1.1, hk.1.2⟩⟩)⟩, ⟨by (try simp only [hl12_3]); (with_reducible repeat (first | apply vA | apply vN | apply vD)); exact Kd.V_mono HO_491000.out (fun _ hk => ⟨hk.2, ⟨hk.1.1, hk.1.2⟩⟩)⟩, ⟨by (try simp only [hl12_3]); (with_reducible repeat (first | apply vA | apply vN | apply vD)); exact Kd.V_mono HO_491001.out (fun _ hk => ⟨hk.2, ⟨hk.1.1, hk.1.2⟩⟩)⟩, ⟨by (try simp only [hl12_3]); (with_reducible repeat (first | refine kN ?_ _ | refine kD ?_ | refine kA ?_ _)); exact BK482.out⟩, ⟨by (try simp only [hl12_3]); (with_reducible repeat (first | refine kN ?_ _ | refine kD ?_ | refine kA ?_ _)); exact BK490.out⟩, ⟨by repeat (first | (with_reducible first | exact HB.out | apply bA | apply bN | apply b1 | refine bS ?_ GE482.out | refine bS ?_ GE490.out) | exact HB.out)⟩⟩
                ·replace c40 := Bool.eq_false_iff.mpr c40
                 subst c40
                 have H1 : ((spec_l1Has.f t475 t478 x15_3).bind fun t499 => (if t499 = true then (if 0 ≤ (wrap64 ((wrap64 (x14_2 - x15_3)) - 1)) then (if (wrap64 ((wrap64 (x14_2 - x15_3)) - 1)) < (x12_3.length : Int) then (spec_SolveTwo.l1 k3 a2 (x12_3.set (x14_2 : Int).toNat (rdOf false x12_3 (wrap64 ((wrap64 (x14_2 - x15_3)) - 1)))) x13_2 x14_2 (wrap64 (x15_3 + 1)) t475 t478 t483 t486) else (none)) else (none)) else (spec_SolveTwo.l1 k3 a2 (x12_3.set (x14_2 : Int).toNat false) x13_2 x14_2 (wrap64 (x15_3 + 1)) t475 t478 t483 t486))) = some (r1, r2) := by rw [if_neg (show ¬ (false = true) by decide)] at H; exact H
                 clear H
                 have H := H1
                 clear H1
                 replace H := Option.bind_eq_some_iff.mp H
                 obtain ⟨t499, A440, H⟩ := H
                 replace H : (if t499 = true then (if 0 ≤ (wrap64 ((wrap64 (x14_2 - x15_3)) - 1)) then (if (wrap64 ((wrap64 (x14_2 - x15_3)) - 1)) < (x12_3.length : Int) then (spec_SolveTwo.l1 k3 a2 (x12_3.set (x14_2 : Int).toNat (rdOf false x12_3 (wrap64 ((wrap64 (x14_2 - x15_3)) - 1)))) x13_2 x14_2 (wrap64 (x15_3 + 1)) t475 t478 t483 t486) else (none)) else (none)) else (spec_SolveTwo.l1 k3 a2 (x12_3.set (x14_2 : Int).toNat false) x13_2 x14_2 (wrap64 (x15_3 + 1)) t475 t478 t483 t486)) = some (r1, r2) := H
                 have A44 := aM A440
                 clear A440
                 by_cases c45 : t499 = true
                 ·subst c45
                  have H1 : (if 0 ≤ (wrap64 ((wrap64 (x14_2 - x15_3)) - 1)) then (if (wrap64 ((wrap64 (x14_2 - x15_3)) - 1)) < (x12_3.length : Int) then (spec_SolveTwo.l1 k3 a2 (x12_3.set (x14_2 : Int).toNat (rdOf false x12_3 (wrap64 ((wrap64 (x14_2 - x15_3)) - 1)))) x13_2 x14_2 (wrap64 (x15_3 + 1)) t475 t478 t483 t486) else (none)) else (none)) = some (r1, r2) := by rw [if_pos rfl] at H; exact H
                  clear H
                  have H := H1
                  clear H1
                  obtain ⟨ji46, hji46⟩ : ∃ j_ : Int, (wrap64 ((wrap64 (x14_2 - x15_3)) - 1)) = j_ := ⟨_, rfl⟩
                  replace H : (if 0 ≤ (ji46) then (if (ji46) < (x12_3.length : Int) then (spec_SolveTwo.l1 k3 a2 (x12_3.set (x14_2 : Int).toNat (rdOf false x12_3 (ji46))) x13_2 x14_2 (wrap64 (x15_3 + 1)) t475 t478 t483 t486) else (none)) else (none)) = some (r1, r2) := by first | (rw [hji46] at H; exact H) | (simp only [hji46] at H ⊢; exact H)
                  (try rw [hji46] at A44)
                  have hji46w : (IntKind.i64.wrap ((wrap64 (x14_2 - x15_3)) - 1)) = ji46 := (i64_w _).trans hji46
                  by_cases c47 : 0 ≤ (ji46)
                  ·rw [if_pos c47] at H
                   have c47b0 : decide (0 ≤ (ji46)) = true := decide_eq_true c47
                   clear c47
                   by_cases c48 : (ji46) < (x12_3.length : Int)
                   ·rw [if_pos c48] at H
                    have c48b0 : decide ((ji46) < (x12_3.length : Int)) = true := decide_eq_true c48
                    have c48b0z := c48b0
                    (try simp only [hl12_3] at c48b0z)
                    clear c48
                    obtain ⟨y501, hy501⟩ : ∃ y_ : List Bool, y_ = (x12_3.set (x14_2 : Int).toNat (rdOf false x12_3 (ji46))) := ⟨_, rfl⟩
                    replace H : (spec_SolveTwo.l1 k3 a2 y501 x13_2 x14_2 (wrap64 (x15_3 + 1)) t475 t478 t483 t486) = some (r1, r2) := by first | (rw [hy501]; with_reducible exact H) | (have H2_ := (Option.bind_some _ _).symm.trans H; rw [hy501]; with_reducible exact H2_) | (have H2_ := (Option.bind_some _ _).symm.trans H; with_reducible exact H2_) | with_reducible exact H | (rw [hy501]; exact H) | exact H
                    have Ny501 := aM hy501
                    clear hy501
                    have H' := aM H
                    clear H
                    have p497 : 0 ≤ (x14_2 : Int) := of_decide_eq_true (by first | (with_reducible assumption) | assumption)
                    have q497 : x14_2 < (x12_3.length : Int) := of_decide_eq_true (by first | (with_reducible assumption) | assumption)
                    obtain ⟨ad497, e497, hx497_0⟩ := Kd.at_bool (Kd.R_reads' HO_12.out).2.2 x14_2 p497 q497
                    (try rw [← Nbq39.out] at hx497_0)
                    obtain rfl : (⟨go30, 0, none⟩ : Addr) = ad497 := (by injection e497)
                    (first | simp only [add_plain] at hx497_0 | simp only [add_at] at hx497_0 | simp only [Addr.add, Nat.zero_add] at hx497_0 | skip)
                    replace p497 := eq_true p497
                    replace q497 := eq_true q497
                    have hnb50 := NB482_490.out
                    have hnc50 := NB490_482.out
                    have hcz51_0 : wr.cell? ⟨gb482, 0, none⟩ = some (.slice Ao9 t475.length co9) := (blk_cell BK482.out 0).trans rfl
                    have hcz51_1 : wr.cell? ⟨gb482, 1, none⟩ = some (.slice Ao11 t478.length co11) := (blk_cell BK482.out 1).trans rfl
                    have hfz51_0 := blk_frozen BK482.out 0
                    have hfz51_1 := blk_frozen BK482.out 1
                    go_wp2_with (first | (go_at_call 54; (with_reducible refine (spec_l1Has.calls _ _ t475 _ _ t478 x15_3 true _ ?side1 ?side2 ?side3 ?side4 A44.out).mono ?_); (case side1 => repeat (first | exact (Kd.V_reads' HO_483000.out).2.2 | (with_reducible refine Kd.C_alloc ?_ _) | (with_reducible refine Kd.C_drewN ?_ _) | (with_reducible refine Kd.C_drew ?_))); (case side2 => exact (Kd.V_reads' HO_483000.out).2.1); (case side3 => repeat (first | exact (Kd.V_reads' HO_483001.out).2.2 | (with_reducible refine Kd.C_alloc ?_ _) | (with_reducible refine Kd.C_drewN ?_ _) | (with_reducible refine Kd.C_drew ?_))); (case side4 => exact (Kd.V_reads' HO_483001.out).2.1); rintro e w52 ⟨rfl, hb⟩; have n0_ := aM (Kd.R_below (by (with_reducible repeat (first | apply rA | apply rN | apply rD)); exact HO_12.out) hb); have n1_ := aM (Kd.V_below (by (with_reducible repeat (first | apply vA | apply vN | apply vD)); exact HO_483000.out) hb); have n2_ := aM (Kd.V_below (by (with_reducible repeat (first | apply vA | apply vN | apply vD)); exact HO_483001.out) hb); have n3_ := aM (Kd.V_below (by (with_reducible repeat (first | apply vA | apply vN | apply vD)); exact HO_491000.out) hb); have n4_ := aM (Kd.V_below (by (with_reducible repeat (first | apply vA | apply vN | apply vD)); exact HO_491001.out) hb); have n5_ := aM (blk_below (g := gb482) (o := .cells #[.slice Ao9 t475.length co9, .slice Ao11 t478.length co11] 47 (0, 0)) (by (with_reducible repeat (first | refine kN ?_ _ | refine kD ?_ | refine kA ?_ _)); exact BK482.out) hb); have n6_ := aM (blk_below (g := gb490) (o := .cells #[.slice Ao14 t483.length co14, .slice Ao17 t486.length co17] 47 (0, 0)) (by (with_reducible repeat (first | refine kN ?_ _ | refine kD ?_ | refine kA ?_ _)); exact BK490.out) hb); have n7_ := aM (below_step (by repeat (first | (with_reducible first | exact HB.out | apply bA | apply bN | apply b1 | refine bS ?_ GE482.out | refine bS ?_ GE490.out) | exact HB.out)) hb); clear HO_12; clear HO_483000; clear HO_483001; clear HO_491000; clear HO_491001; clear BK482; clear BK490; clear HB; have HO_12 := n0_; have HO_483000 := n1_; have HO_483001 := n2_; have HO_491000 := n3_; have HO_491001 := n4_; have BK482 := n5_; have BK490 := n6_; have HB := n7_; clear n0_ n1_ n2_ n3_ n4_ n5_ n6_ n7_; (try clear hb); (try clear hb2); (try clear hk); (try clear hi); have p500 : 0 ≤ ((ji46) : Int) := of_decide_eq_true (by first | (with_reducible assumption) | assumption); have q500 : (ji46) < (x12_3.length : Int) := of_decide_eq_true (by first | (with_reducible assumption) | assumption); obtain ⟨ad500, e500, hx500_0⟩ := Kd.at_bool (Kd.R_reads' HO_12.out).2.2 (ji46) p500 q500; (try rw [← Nbq39.out] at hx500_0); obtain rfl : (⟨go30, 0, none⟩ : Addr) = ad500 := (by injection e500); (first | simp only [add_plain] at hx500_0 | simp only [add_at] at hx500_0 | simp only [Addr.add, Nat.zero_add] at hx500_0 | skip); replace p500 := eq_true p500; replace q500 := eq_true q500; have p49 : 0 ≤ (x14_2 : Int) := of_decide_eq_true (by first | (with_reducible assumption) | assumption); have q49 : (x14_2 : Int) < ((x12_3.length : Int) : Int) := of_decide_eq_true (by first | (with_reducible assumption) | assumption); obtain ⟨hx49_0, hf49_0⟩ := Kd.R_celln false HO_12.out (x14_2 : Int) p49 q49; replace p49 := eq_true p49; replace q49 := eq_true q49; obtain ⟨hy53_, hz53_⟩ := Kd.R_celln false HO_12.out (x14_2 : Int) (of_decide_eq_true (by first | (with_reducible assumption) | assumption)) (of_decide_eq_true (by first | (with_reducible assumption) | assumption)); have HP53 := Kd.R_putg HO_12.out (x14_2 : Int) (rdOf false x12_3 (ji46))) | ((with_reducible refine gate_store (t := 4) (p := 75) rfl ?_); refine store_event (t := 4) (p := 75) (v := ?vo_w54) (w1 := (w52.setCell ⟨go30, (x14_2 : Int).toNat, none⟩ (.bool (rdOf false x12_3 (ji46))))) ?hg ?ho ?hn ?hr ?_; (case ho => rfl); (case hg => rfl); (case hn => rfl); (case hr => first | (go_simp; done) | (go_simp; rfl)); intro w54 hw; have hg : w52.grownBy w54 (some go30) := (by rw [hw]; exact HP53.2); have hp_ : Kd.R Kd.bool 4 w54 w.heap.size (fun _ => True) (.slice (some ⟨go30, 0, none⟩) x12_3.length co30) y501 := (by rw [hw, Ny501.out]; exact HP53.1); clear HP53; have n0_ := aM (hp_); have n1_ := aM (Kd.V_afterv (v := (.slice (some ⟨go30, 0, none⟩) x12_3.length co30)) (v1 := (.slice (some ⟨go30, 0, none⟩) x12_3.length co30)) (ok := (fun k_ => k_ ≠ gb482 ∧ k_ ≠ gb490)) (by (with_reducible repeat (first | apply vA | apply vN | apply vD)); exact Kd.V_mono HO_483000.out (fun _ hk => ⟨⟨hk.2.1, hk.2.2⟩, hk.1⟩)) hg (.inl rfl)); have n2_ := aM (Kd.V_afterv (v := (.slice (some ⟨go30, 0, none⟩) x12_3.length co30)) (v1 := (.slice (some ⟨go30, 0, none⟩) x12_3.length co30)) (ok := (fun k_ => k_ ≠ gb482 ∧ k_ ≠ gb490)) (by (with_reducible repeat (first | apply vA | apply vN | apply vD)); exact Kd.V_mono HO_483001.out (fun _ hk => ⟨⟨hk.2.1, hk.2.2⟩, hk.1⟩)) hg (.inl rfl)); have n3_ := aM (Kd.V_afterv (v := (.slice (some ⟨go30, 0, none⟩) x12_3.length co30)) (v1 := (.slice (some ⟨go30, 0, none⟩) x12_3.length co30)) (ok := (fun k_ => k_ ≠ gb482 ∧ k_ ≠ gb490)) (by (with_reducible repeat (first | apply vA | apply vN | apply vD)); exact Kd.V_mono HO_491000.out (fun _ hk => ⟨⟨hk.2.1, hk.2.2⟩, hk.1⟩)) hg (.inl rfl)); have n4_ := aM (Kd.V_afterv (v := (.slice (some ⟨go30, 0, none⟩) x12_3.length co30)) (v1 := (.slice (some ⟨go30, 0, none⟩) x12_3.length co30)) (ok := (fun k_ => k_ ≠ gb482 ∧ k_ ≠ gb490)) (by (with_reducible repeat (first | apply vA | apply vN | apply vD)); exact Kd.V_mono HO_491001.out (fun _ hk => ⟨⟨hk.2.1, hk.2.2⟩, hk.1⟩)) hg (.inl rfl)); have n5_ := aM (blk_grown (g := gb482) (o := .cells #[.slice Ao9 t475.length co9, .slice Ao11 t478.length co11] 47 (0, 0)) (by (with_reducible repeat (first | refine kN ?_ _ | refine kD ?_ | refine kA ?_ _)); exact BK482.out) hg (Kd.R_ne HO_12.out BK482.out (by decide))); have n6_ := aM (blk_grown (g := gb490) (o := .cells #[.slice Ao14 t483.length co14, .slice Ao17 t486.length co17] 47 (0, 0)) (by (with_reducible repeat (first | refine kN ?_ _ | refine kD ?_ | refine kA ?_ _)); exact BK490.out) hg (Kd.R_ne HO_12.out BK490.out (by decide))); have n7_ := aM ((by rw [hw]; exact bS (HB.out) GB30.out : Below w.heap.size w w54)); clear HO_12; clear HO_483000; clear HO_483001; clear HO_491000; clear HO_491001; clear BK482; clear BK490; clear HB; have HO_12 := n0_; have HO_483000 := n1_; have HO_483001 := n2_; have HO_491000 := n3_; have HO_491001 := n4_; have BK482 := n5_; have BK490 := n6_; have HB := n7_; clear n0_ n1_ n2_ n3_ n4_ n5_ n6_ n7_; clear hg hw hp_))
                    (try simp only [← hl12_3])
                    go_roundg k3
                    case measure => have := HJ5.out; have := HK2.out; have := HK3.out; omega
                    case rel => exact ⟨(y501), (wrap64 (x15_3 + 1)), (by first | rfl | (simp; done) | (simp [*]; done) | (simp [Int.tmod_eq_emod_of_nonneg]; done)), H', ⟨by have := HJ5.out; have := HK2.out; have := HK3.out; omega⟩, ⟨by (try simp only [hl12_3]); (with_reducible repeat (first | apply rA | apply rN | apply rD)); exact HO_12.out⟩, ⟨by (try simp only [hl12_3]); (with_reducible repeat (first | apply vA | apply vN | apply vD)); exact Kd.V_mono HO_483000.out (fun _ hk => ⟨hk.2, ⟨hk.1.1, hk.1.2⟩⟩)⟩, ⟨by (try simp only [hl12_3]); (with_reducible repeat (first | apply vA | apply vN | apply vD)); exact Kd.V_mono HO_483001.out (fun _ hk => ⟨hk.2, ⟨hk.1.1, hk.1.2⟩⟩)⟩, ⟨by (try simp only [hl12_3]); (with_reducible repeat (first | apply vA | apply vN | apply vD)); exact Kd.V_mono HO_491000.out (fun _ hk => ⟨hk.2, ⟨hk.1.1, hk.1.2⟩⟩)⟩, ⟨by (try simp only [hl12_3]); (with_reducible repeat (first | apply vA | apply vN | apply vD)); exact Kd.V_mono HO_491001.out (fun _ hk => ⟨hk.2, ⟨hk.1.1, hk.1.2⟩⟩)⟩, ⟨by (try simp only [hl12_3]); (with_reducible repeat (first | refine kN ?_ _ | refine kD ?_ | refine kA ?_ _)); exact BK482.out⟩, ⟨by (try simp only [hl12_3]); (with_reducible repeat (first | refine kN ?_ _ | refine kD ?_ | refine kA ?_ _)); exact BK490.out⟩, ⟨by repeat (first | (with_reducible first | exact HB.out | apply bA | apply bN | apply b1 | refine bS ?_ GE482.out | refine bS ?_ GE490.out) | exact HB.out)⟩⟩
                   ·rw [if_neg c48] at H
                    exact absurd H (by simp)
                  ·rw [if_neg c47] at H
                   exact absurd H (by simp)
                 ·replace c45 := Bool.eq_false_iff.mpr c45
                  subst c45
                  have H1 : (spec_SolveTwo.l1 k3 a2 (x12_3.set (x14_2 : Int).toNat false) x13_2 x14_2 (wrap64 (x15_3 + 1)) t475 t478 t483 t486) = some (r1, r2) := by rw [if_neg (show ¬ (false = true) by decide)] at H; exact H
                  clear H
                  have H := H1
                  clear H1
                  obtain ⟨y502, hy502⟩ : ∃ y_ : List Bool, y_ = (x12_3.set (x14_2 : Int).toNat false) := ⟨_, rfl⟩
                  replace H : (spec_SolveTwo.l1 k3 a2 y502 x13_2 x14_2 (wrap64 (x15_3 + 1)) t475 t478 t483 t486) = some (r1, r2) := by first | (rw [hy502]; with_reducible exact H) | (have H2_ := (Option.bind_some _ _).symm.trans H; rw [hy502]; with_reducible exact H2_) | (have H2_ := (Option.bind_some _ _).symm.trans H; with_reducible exact H2_) | with_reducible exact H | (rw [hy502]; exact H) | exact H
                  have Ny502 := aM hy502
                  clear hy502
                  have H' := aM H
                  clear H
                  have p497 : 0 ≤ (x14_2 : Int) := of_decide_eq_true (by first | (with_reducible assumption) | assumption)
                  have q497 : x14_2 < (x12_3.length : Int) := of_decide_eq_true (by first | (with_reducible assumption) | assumption)
                  obtain ⟨ad497, e497, hx497_0⟩ := Kd.at_bool (Kd.R_reads' HO_12.out).2.2 x14_2 p497 q497
                  (try rw [← Nbq39.out] at hx497_0)
                  obtain rfl : (⟨go30, 0, none⟩ : Addr) = ad497 := (by injection e497)
                  (first | simp only [add_plain] at hx497_0 | simp only [add_at] at hx497_0 | simp only [Addr.add, Nat.zero_add] at hx497_0 | skip)
                  replace p497 := eq_true p497
                  replace q497 := eq_true q497
                  have hnb56 := NB482_490.out
                  have hnc56 := NB490_482.out
                  have hcz57_0 : wr.cell? ⟨gb482, 0, none⟩ = some (.slice Ao9 t475.length co9) := (blk_cell BK482.out 0).trans rfl
                  have hcz57_1 : wr.cell? ⟨gb482, 1, none⟩ = some (.slice Ao11 t478.length co11) := (blk_cell BK482.out 1).trans rfl
                  have hfz57_0 := blk_frozen BK482.out 0
                  have hfz57_1 := blk_frozen BK482.out 1
                  go_wp2_with (first | (go_at_call 54; (with_reducible refine (spec_l1Has.calls _ _ t475 _ _ t478 x15_3 false _ ?side1 ?side2 ?side3 ?side4 A44.out).mono ?_); (case side1 => repeat (first | exact (Kd.V_reads' HO_483000.out).2.2 | (with_reducible refine Kd.C_alloc ?_ _) | (with_reducible refine Kd.C_drewN ?_ _) | (with_reducible refine Kd.C_drew ?_))); (case side2 => exact (Kd.V_reads' HO_483000.out).2.1); (case side3 => repeat (first | exact (Kd.V_reads' HO_483001.out).2.2 | (with_reducible refine Kd.C_alloc ?_ _) | (with_reducible refine Kd.C_drewN ?_ _) | (with_reducible refine Kd.C_drew ?_))); (case side4 => exact (Kd.V_reads' HO_483001.out).2.1); rintro e w58 ⟨rfl, hb⟩; have n0_ := aM (Kd.R_below (by (with_reducible repeat (first | apply rA | apply rN | apply rD)); exact HO_12.out) hb); have n1_ := aM (Kd.V_below (by (with_reducible repeat (first | apply vA | apply vN | apply vD)); exact HO_483000.out) hb); have n2_ := aM (Kd.V_below (by (with_reducible repeat (first | apply vA | apply vN | apply vD)); exact HO_483001.out) hb); have n3_ := aM (Kd.V_below (by (with_reducible repeat (first | apply vA | apply vN | apply vD)); exact HO_491000.out) hb); have n4_ := aM (Kd.V_below (by (with_reducible repeat (first | apply vA | apply vN | apply vD)); exact HO_491001.out) hb); have n5_ := aM (blk_below (g := gb482) (o := .cells #[.slice Ao9 t475.length co9, .slice Ao11 t478.length co11] 47 (0, 0)) (by (with_reducible repeat (first | refine kN ?_ _ | refine kD ?_ | refine kA ?_ _)); exact BK482.out) hb); have n6_ := aM (blk_below (g := gb490) (o := .cells #[.slice Ao14 t483.length co14, .slice Ao17 t486.length co17] 47 (0, 0)) (by (with_reducible repeat (first | refine kN ?_ _ | refine kD ?_ | refine kA ?_ _)); exact BK490.out) hb); have n7_ := aM (below_step (by repeat (first | (with_reducible first | exact HB.out | apply bA | apply bN | apply b1 | refine bS ?_ GE482.out | refine bS ?_ GE490.out) | exact HB.out)) hb); clear HO_12; clear HO_483000; clear HO_483001; clear HO_491000; clear HO_491001; clear BK482; clear BK490; clear HB; have HO_12 := n0_; have HO_483000 := n1_; have HO_483001 := n2_; have HO_491000 := n3_; have HO_491001 := n4_; have BK482 := n5_; have BK490 := n6_; have HB := n7_; clear n0_ n1_ n2_ n3_ n4_ n5_ n6_ n7_; (try clear hb); (try clear hb2); (try clear hk); (try clear hi); have p55 : 0 ≤ (x14_2 : Int) := of_decide_eq_true (by first | (with_reducible assumption) | assumption); have q55 : (x14_2 : Int) < ((x12_3.length : Int) : Int) := of_decide_eq_true (by first | (with_reducible assumption) | assumption); obtain ⟨hx55_0, hf55_0⟩ := Kd.R_celln false HO_12.out (x14_2 : Int) p55 q55; replace p55 := eq_true p55; replace q55 := eq_true q55; obtain ⟨hy59_, hz59_⟩ := Kd.R_celln false HO_12.out (x14_2 : Int) (of_decide_eq_true (by first | (with_reducible assumption) | assumption)) (of_decide_eq_true (by first | (with_reducible assumption) | assumption)); have HP59 := Kd.R_putg HO_12.out (x14_2 : Int) false) | ((with_reducible refine gate_store (t := 4) (p := 75) rfl ?_); refine store_event (t := 4) (p := 75) (v := ?vo_w60) (w1 := (w58.setCell ⟨go30, (x14_2 : Int).toNat, none⟩ (.bool false))) ?hg ?ho ?hn ?hr ?_; (case ho => rfl); (case hg => rfl); (case hn => rfl); (case hr => first | (go_simp; done) | (go_simp; rfl)); intro w60 hw; have hg : w58.grownBy w60 (some go30) := (by rw [hw]; exact HP59.2); have hp_ : Kd.R Kd.bool 4 w60 w.heap.size (fun _ => True) (.slice (some ⟨go30, 0, none⟩) x12_3.length co30) y502 := (by rw [hw, Ny502.out]; exact HP59.1); clear HP59; have n0_ := aM (hp_); have n1_ := aM (Kd.V_afterv (v := (.slice (some ⟨go30, 0, none⟩) x12_3.length co30)) (v1 := (.slice (some ⟨go30, 0, none⟩) x12_3.length co30)) (ok := (fun k_ => k_ ≠ gb482 ∧ k_ ≠ gb490)) (by (with_reducible repeat (first | apply vA | apply vN | apply vD)); exact Kd.V_mono HO_483000.out (fun _ hk => ⟨⟨hk.2.1, hk.2.2⟩, hk.1⟩)) hg (.inl rfl)); have n2_ := aM (Kd.V_afterv (v := (.slice (some ⟨go30, 0, none⟩) x12_3.length co30)) (v1 := (.slice (some ⟨go30, 0, none⟩) x12_3.length co30)) (ok := (fun k_ => k_ ≠ gb482 ∧ k_ ≠ gb490)) (by (with_reducible repeat (first | apply vA | apply vN | apply vD)); exact Kd.V_mono HO_483001.out (fun _ hk => ⟨⟨hk.2.1, hk.2.2⟩, hk.1⟩)) hg (.inl rfl)); have n3_ := aM (Kd.V_afterv (v := (.slice (some ⟨go30, 0, none⟩) x12_3.length co30)) (v1 := (.slice (some ⟨go30, 0, none⟩) x12_3.length co30)) (ok := (fun k_ => k_ ≠ gb482 ∧ k_ ≠ gb490)) (by (with_reducible repeat (first | apply vA | apply vN | apply vD)); exact Kd.V_mono HO_491000.out (fun _ hk => ⟨⟨hk.2.1, hk.2.2⟩, hk.1⟩)) hg (.inl rfl)); have n4_ := aM (Kd.V_afterv (v := (.slice (some ⟨go30, 0, none⟩) x12_3.length co30)) (v1 := (.slice (some ⟨go30, 0, none⟩) x12_3.length co30)) (ok := (fun k_ => k_ ≠ gb482 ∧ k_ ≠ gb490)) (by (with_reducible repeat (first | apply vA | apply vN | apply vD)); exact Kd.V_mono HO_491001.out (fun _ hk => ⟨⟨hk.2.1, hk.2.2⟩, hk.1⟩)) hg (.inl rfl)); have n5_ := aM (blk_grown (g := gb482) (o := .cells #[.slice Ao9 t475.length co9, .slice Ao11 t478.length co11] 47 (0, 0)) (by (with_reducible repeat (first | refine kN ?_ _ | refine kD ?_ | refine kA ?_ _)); exact BK482.out) hg (Kd.R_ne HO_12.out BK482.out (by decide))); have n6_ := aM (blk_grown (g := gb490) (o := .cells #[.slice Ao14 t483.length co14, .slice Ao17 t486.length co17] 47 (0, 0)) (by (with_reducible repeat (first | refine kN ?_ _ | refine kD ?_ | refine kA ?_ _)); exact BK490.out) hg (Kd.R_ne HO_12.out BK490.out (by decide))); have n7_ := aM ((by rw [hw]; exact bS (HB.out) GB30.out : Below w.heap.size w w60)); clear HO_12; clear HO_483000; clear HO_483001; clear HO_491000; clear HO_491001; clear BK482; clear BK490; clear HB; have HO_12 := n0_; have HO_483000 := n1_; have HO_483001 := n2_; have HO_491000 := n3_; have HO_491001 := n4_; have BK482 := n5_; have BK490 := n6_; have HB := n7_; clear n0_ n1_ n2_ n3_ n4_ n5_ n6_ n7_; clear hg hw hp_))
                  (try simp only [← hl12_3])
                  go_roundg k3
                  case measure => have := HJ5.out; have := HK2.out; have := HK3.out; omega
                  case rel => exact ⟨(y502), (wrap64 (x15_3 + 1)), (by first | rfl | (simp; done) | (simp [*]; done) | (simp [Int.tmod_eq_emod_of_nonneg]; done)), H', ⟨by have := HJ5.out; have := HK2.out; have := HK3.out; omega⟩, ⟨by (try simp only [hl12_3]); (with_reducible repeat (first | apply rA | apply rN | apply rD)); exact HO_12.out⟩, ⟨by (try simp only [hl12_3]); (with_reducible repeat (first | apply vA | apply vN | apply vD)); exact Kd.V_mono HO_483000.out (fun _ hk => ⟨hk.2, ⟨hk.1.1, hk.1.2⟩⟩)⟩, ⟨by (try simp only [hl12_3]); (with_reducible repeat (first | apply vA | apply vN | apply vD)); exact Kd.V_mono HO_483001.out (fun _ hk => ⟨hk.2, ⟨hk.1.1, hk.1.2⟩⟩)⟩, ⟨by (try simp only [hl12_3]); (with_reducible repeat (first | apply vA | apply vN | apply vD)); exact Kd.V_mono HO_491000.out (fun _ hk => ⟨hk.2, ⟨hk.1.1, hk.1.2⟩⟩)⟩, ⟨by (try simp only [hl12_3]); (with_reducible repeat (first | apply vA | apply vN | apply vD)); exact Kd.V_mono HO_491001.out (fun _ hk => ⟨hk.2, ⟨hk.1.1, hk.1.2⟩⟩)⟩, ⟨by (try simp only [hl12_3]); (with_reducible repeat (first | refine kN ?_ _ | refine kD ?_ | refine kA ?_ _)); exact BK482.out⟩, ⟨by (try simp only [hl12_3]); (with_reducible repeat (first | refine kN ?_ _ | refine kD ?_ | refine kA ?_ _)); exact BK490.out⟩, ⟨by repeat (first | (with_reducible first | exact HB.out | apply bA | apply bN | apply b1 | refine bS ?_ GE482.out | refine bS ?_ GE490.out) | exact HB.out)⟩⟩
               ·rw [if_neg c38] at H
                exact absurd H (by simp)
              ·rw [if_neg c37] at H
               exact absurd H (by simp)
             ·rw [if_neg c36] at H
              have c36b0 : decide (x15_3 < x14_2) = false := decide_eq_false c36
              clear c36
              by_cases c61 : 0 ≤ x14_2
              ·rw [if_pos c61] at H
               have c61b0 : decide (0 ≤ x14_2) = true := decide_eq_true c61
               clear c61
               by_cases c62 : x14_2 < (x12_3.length : Int)
               ·rw [if_pos c62] at H
                have c62b0 : decide (x14_2 < (x12_3.length : Int)) = true := decide_eq_true c62
                have c62b0z := c62b0
                (try simp only [hl12_3] at c62b0z)
                clear c62
                obtain ⟨bq63, hbq63⟩ : ∃ b_ : Bool, b_ = (rdOf false x12_3 x14_2) := ⟨_, rfl⟩
                replace H : (if bq63 = true then (spec_SolveTwo.l0 k3 a2 x12_3 (wrap64 (x13_2 + 1)) (wrap64 (x14_2 + 1)) t475 t478 t483 t486) else (spec_SolveTwo.l0 k3 a2 x12_3 x13_2 (wrap64 (x14_2 + 1)) t475 t478 t483 t486)) = some (r1, r2) := by rw [← hbq63] at H; exact H
                have Nbq63 := aM hbq63
                clear hbq63
                by_cases c64 : bq63 = true
                ·subst c64
                 have H1 : (spec_SolveTwo.l0 k3 a2 x12_3 (wrap64 (x13_2 + 1)) (wrap64 (x14_2 + 1)) t475 t478 t483 t486) = some (r1, r2) := by rw [if_pos rfl] at H; exact H
                 clear H
                 have H := H1
                 clear H1
                 have H' := aM H
                 clear H
                 have p503 : 0 ≤ (x14_2 : Int) := of_decide_eq_true (by first | (with_reducible assumption) | assumption)
                 have q503 : x14_2 < (x12_3.length : Int) := of_decide_eq_true (by first | (with_reducible assumption) | assumption)
                 obtain ⟨ad503, e503, hx503_0⟩ := Kd.at_bool (Kd.R_reads' HO_12.out).2.2 x14_2 p503 q503
                 (try rw [← Nbq63.out] at hx503_0)
                 obtain rfl : (⟨go30, 0, none⟩ : Addr) = ad503 := (by injection e503)
                 (first | simp only [add_plain] at hx503_0 | simp only [add_at] at hx503_0 | simp only [Addr.add, Nat.zero_add] at hx503_0 | skip)
                 replace p503 := eq_true p503
                 replace q503 := eq_true q503
                 go_wp2
                 (try simp only [← hl12_3])
                 go_roundg k3
                 case measure => have := HJ5.out; have := HK2.out; have := HK3.out; omega
                 case rel => exact ⟨(x12_3), (wrap64 (x13_2 + 1)), (wrap64 (x14_2 + 1)), (by first | rfl | (simp; done) | (simp [*]; done) | (simp [Int.tmod_eq_emod_of_nonneg]; done)), (by first | rfl | (simp; done) | (simp [*]; done) | (simp [Int.tmod_eq_emod_of_nonneg]; done)), H', ⟨by have := HJ5.out; have := HK2.out; have := HK3.out; omega⟩, ⟨by (try simp only [hl12_3]); (with_reducible repeat (first | apply rA | apply rN | apply rD)); exact HO_12.out⟩, ⟨by (try simp only [hl12_3]); (with_reducible repeat (first | apply vA | apply vN | apply vD)); exact HO_483000.out⟩, ⟨by (try simp only [hl12_3]); (with_reducible repeat (first | apply vA | apply vN | apply vD)); exact HO_483001.out⟩, ⟨by (try simp only [hl12_3]); (with_reducible repeat (first | apply vA | apply vN | apply vD)); exact HO_491000.out⟩, ⟨by (try simp only [hl12_3]); (with_reducible repeat (first | apply vA | apply vN | apply vD)); exact HO_491001.out⟩, ⟨by (try simp only [hl12_3]); (with_reducible repeat (first | refine kN ?_ _ | refine kD ?_ | refine kA ?_ _)); exact BK482.out⟩, ⟨by (try simp only [hl12_3]); (with_reducible repeat (first | refine kN ?_ _ | refine kD ?_ | refine kA ?_ _)); exact BK490.out⟩, ⟨by repeat (first | (with_reducible first | exact HB.out | apply bA | apply bN | apply b1 | refine bS ?_ GE482.out | refine bS ?_ GE490.out) | exact HB.out)⟩⟩
                ·replace c64 := Bool.eq_false_iff.mpr c64
                 subst c64
                 have H1 : (spec_SolveTwo.l0 k3 a2 x12_3 x13_2 (wrap64 (x14_2 + 1)) t475 t478 t483 t486) = some (r1, r2) := by rw [if_neg (show ¬ (false = true) by decide)] at H; exact H
                 clear H
                 have H := H1
                 clear H1
                 have H' := aM H
                 clear H
                 have p503 : 0 ≤ (x14_2 : Int) := of_decide_eq_true (by first | (with_reducible assumption) | assumption)
                 have q503 : x14_2 < (x12_3.length : Int) := of_decide_eq_true (by first | (with_reducible assumption) | assumption)
                 obtain ⟨ad503, e503, hx503_0⟩ := Kd.at_bool (Kd.R_reads' HO_12.out).2.2 x14_2 p503 q503
                 (try rw [← Nbq63.out] at hx503_0)
                 obtain rfl : (⟨go30, 0, none⟩ : Addr) = ad503 := (by injection e503)
                 (first | simp only [add_plain] at hx503_0 | simp only [add_at] at hx503_0 | simp only [Addr.add, Nat.zero_add] at hx503_0 | skip)
                 replace p503 := eq_true p503
                 replace q503 := eq_true q503
                 go_wp2
                 (try simp only [← hl12_3])
                 go_roundg k3
                 case measure => have := HJ5.out; have := HK2.out; have := HK3.out; omega
                 case rel => exact ⟨(x12_3), (x13_2), (wrap64 (x14_2 + 1)), (by first | rfl | (simp; done) | (simp [*]; done) | (simp [Int.tmod_eq_emod_of_nonneg]; done)), (by first | rfl | (simp; done) | (simp [*]; done) | (simp [Int.tmod_eq_emod_of_nonneg]; done)), H', ⟨by have := HJ5.out; have := HK2.out; have := HK3.out; omega⟩, ⟨by (try simp only [hl12_3]); (with_reducible repeat (first | apply rA | apply rN | apply rD)); exact HO_12.out⟩, ⟨by (try simp only [hl12_3]); (with_reducible repeat (first | apply vA | apply vN | apply vD)); exact HO_483000.out⟩, ⟨by (try simp only [hl12_3]); (with_reducible repeat (first | apply vA | apply vN | apply vD)); exact HO_483001.out⟩, ⟨by (try simp only [hl12_3]); (with_reducible repeat (first | apply vA | apply vN | apply vD)); exact HO_491000.out⟩, ⟨by (try simp only [hl12_3]); (with_reducible repeat (first | apply vA | apply vN | apply vD)); exact HO_491001.out⟩, ⟨by (try simp only [hl12_3]); (with_reducible repeat (first | refine kN ?_ _ | refine kD ?_ | refine kA ?_ _)); exact BK482.out⟩, ⟨by (try simp only [hl12_3]); (with_reducible repeat (first | refine kN ?_ _ | refine kD ?_ | refine kA ?_ _)); exact BK490.out⟩, ⟨by repeat (first | (with_reducible first | exact HB.out | apply bA | apply bN | apply b1 | refine bS ?_ GE482.out | refine bS ?_ GE490.out) | exact HB.out)⟩⟩
               ·rw [if_neg c62] at H
                exact absurd H (by simp)
              ·rw [if_neg c61] at H
               exact absurd H (by simp)
          ·rw [if_neg c29] at H
           exact absurd H (by simp)
         ·rw [if_neg c28] at H
          exact absurd H (by simp)
        ·rw [if_neg c26] at H
         have c26b0 : decide (x14_2 < a2) = false := decide_eq_false c26
         clear c26
         simp only [Option.some.injEq, Prod.mk.injEq] at H
         obtain ⟨rfl, rfl⟩ := H
         go_wp2
         go_ret2
         exact ⟨by first | rfl | (simp [errW_none, errW_some] <;> rfl) | (simp [errW_none, errW_some]; exact ⟨rfl, rfl⟩) | (simp [errW_none, errW_some]; exact ⟨rfl, rfl, rfl⟩) | (simp [*, errW_none, errW_some] <;> rfl), by repeat (first | (with_reducible first | exact HB.out | apply bA | apply bN | apply b1 | refine bS ?_ GE482.out | refine bS ?_ GE490.out) | exact HB.out)⟩
     ·rw [if_neg c23] at H
      exact absurd H (by simp)
    ·rw [if_neg c22] at H
     exact absurd H (by simp)


def impl_set_below.l0 : Nat → List Int → Int → Int → List Bool → List Bool → Option (List Int)
 | 0, _, _, _, _, _ => none
 | k + 1, x5, x7, x8, x505000, x505001 => if x8 < x7 then ((impl_set_has.f x505000 x505001 x8).bind fun t505 => (if t505 = true then (if x5.length < 17592186044416 then (impl_set_below.l0 k (x5 ++ [x8]) x7 (wrap64 (x8 + 1)) x505000 x505001) else (none)) else (impl_set_below.l0 k x5 x7 (wrap64 (x8 + 1)) x505000 x505001))) else (some x5)
def impl_set_below.f (k : Nat) (l0_0 : List Bool) (l0_1 : List Bool) (a1 : Int) : Option (List Int) := impl_set_below.l0 k ([] : List Int) a1 0 l0_0 l0_1
theorem impl_set_below.mono_l : ∀ k, (∀ y0 y1 y2 y3 y4, LeO (impl_set_below.l0 k y0 y1 y2 y3 y4) (impl_set_below.l0 (k + 1) y0 y1 y2 y3 y4))
 | 0 => fun _ _ _ _ _ r h => by simp [impl_set_below.l0] at h
 | k + 1 => by
  have ih0 := impl_set_below.mono_l k
  ·intro y0 y1 y2 y3 y4
   unfold impl_set_below.l0
   repeat' first
   | (with_reducible exact ih0 _ _ _ _ _)
   | (with_reducible exact LeO.refl _)
   | (with_reducible exact LeO.none _)
   | (with_reducible refine LeO.ite ?_ ?_)
   | (with_reducible refine LeO.bind ?_ (fun _ => ?_))
   | exact ih0 _ _ _ _ _
   | exact LeO.none _
   | refine LeO.ite ?_ ?_
   | refine LeO.bind ?_ (fun _ => ?_)
theorem impl_set_below.mono : ∀ a0 a1 a2 k, LeO (impl_set_below.f k a0 a1 a2) (impl_set_below.f (k + 1) a0 a1 a2) := by
 intro a0 a1 a2 k
 have ih0 := impl_set_below.mono_l k
 unfold impl_set_below.f
 repeat' first
   | (with_reducible exact ih0 _ _ _ _ _)
   | (with_reducible exact LeO.refl _)
   | (with_reducible exact LeO.none _)
   | (with_reducible refine LeO.ite ?_ ?_)
   | (with_reducible refine LeO.bind ?_ (fun _ => ?_))
   | exact ih0 _ _ _ _ _
   | exact LeO.none _
   | refine LeO.ite ?_ ?_
   | refine LeO.bind ?_ (fun _ => ?_)
set_option maxHeartbeats 8000000 in
set_option maxRecDepth 100000 in
theorem impl_set_below.calls (k : Nat) (A0_0 : Option Addr) (c0_0 : Nat) (l0_0 : List Bool) (A0_1 : Option Addr) (c0_1 : Nat) (l0_1 : List Bool) (a1 : Int) (r : List Int) (w : World) (hr0_0 : Kd.C Kd.bool w A0_0 l0_0.length l0_0) (hc0_0 : l0_0.length ≤ c0_0) (hr0_1 : Kd.C Kd.bool w A0_1 l0_1.length l0_1) (hc0_1 : l0_1.length ≤ c0_1) (h : impl_set_below.f k l0_0 l0_1 a1 = some r) :
  Calls Try.prog 68 #[.agg #[.slice A0_0 l0_0.length c0_0, .slice A0_1 l0_1.length c0_1], .int .i64 a1] w fun e w' => ∃ v0_ : Value, e = .returned (v0_) ∧ Kd.R (Kd.int .i64) 3 w' w.heap.size (fun _ => True) v0_ r ∧ Below w.heap.size w w' := by
 have hu52 := Try.underlying52
 have HR0_0 := aM hr0_0
 have HC0_0 := aM hc0_0
 clear hr0_0 hc0_0
 have HR0_1 := aM hr0_1
 have HC0_1 := aM hc0_1
 clear hr0_1 hc0_1
 have HB := aM (Below.refl w.heap.size w)
 have H : (impl_set_below.l0 k ([] : List Int) a1 0 l0_0 l0_1) = some r := h
 clear h
 have H' := aM H
 clear H
 go_enter Try.func68, Try.ntmps68
 go_wp2_with (first | ((with_reducible refine gate_dst (N := 2) rfl ?_); refine box_event ?hg (N := 2) ?hd (cs := #[.slice A0_0 l0_0.length c0_0, .slice A0_1 l0_1.length c0_1]) (t := 52) ?hr ?_; (case hd => rfl); (case hg => rfl); (case hr => first | (go_simp; done) | (go_simp; rfl)); intro gb504 hg w3 hbox hb; have n0_ := aM (below_step (by repeat (first | (with_reducible first | exact HB.out | apply bA | apply bN | apply b1) | exact HB.out)) hb); have n1_ := aM (hbox); have n2_ := aM ((by rw [hg]; exact (below_size (by repeat (first | (with_reducible first | exact HB.out | apply bA | apply bN | apply b1) | exact HB.out))) : w.heap.size ≤ gb504)); have n3_ := aM ((by rw [hg]; exact (below_size (by repeat (first | (with_reducible first | exact HB.out | apply bA | apply bN | apply b1) | exact HB.out))) : w.heap.size ≤ gb504)); clear HB; have HB := n0_; have BK504 := n1_; have GW504 := n2_; have GE504 := n3_; clear n0_ n1_ n2_ n3_; clear hb hbox hg))
 go_loopg [5, 8] k (fun kq v5 v8 w' => ∃ (x5_1 : List Int) (x8_1 : Int), v8 = .int .i64 x8_1 ∧ Aside0 (impl_set_below.l0 kq x5_1 a1 x8_1 l0_0 l0_1 = some r) ∧ Aside0 (kq ≤ k) ∧ Aside0 (Kd.R (Kd.int .i64) 3 w' w.heap.size (fun _ => True) v5 x5_1) ∧ Aside0 (w'.heap[gb504]? = some (.cells #[(.slice A0_0 l0_0.length c0_0), (.slice A0_1 l0_1.length c0_1)] 52 (0, 0))) ∧ Aside0 (Below w.heap.size w w'))
 case atStart => exact ⟨(([] : List Int)), (0), (by first | rfl | (simp; done) | (simp [*]; done) | (simp [Int.tmod_eq_emod_of_nonneg]; done)), H', ⟨Nat.le_refl _⟩, ⟨by first | exact Kd.R_nil _ _ _ _ _ | exact Kd.N_nil _ _ _ _ _ | exact Kd.V_nil _ _ _ _ _ | exact Kd.Q_nil _ _ _ _ _ | exact Kd.S_nil _ _ _ _ _⟩, ⟨by (with_reducible repeat (first | refine kN ?_ _ | refine kD ?_ | refine kA ?_ _)); exact BK504.out⟩, ⟨by repeat (first | (with_reducible first | exact HB.out | apply bA | apply bN | apply b1 | refine bS ?_ GE504.out) | exact HB.out)⟩⟩
 case round =>
  clear H'
  try clear p2
  obtain ⟨x5_1, x8_1, rfl, HA, HK1, HO_5, BK504, HB⟩ := hrel
  cases gk with
  | zero => exact absurd HA.out (by simp [impl_set_below.l0])
  | succ k1 =>
   have H := HA.out
   clear HA
   simp only [impl_set_below.l0] at H
   by_cases c4 : x8_1 < a1
   ·rw [if_pos c4] at H
    have c4b0 : decide (x8_1 < a1) = true := decide_eq_true c4
    clear c4
    replace H := Option.bind_eq_some_iff.mp H
    obtain ⟨t505, A50, H⟩ := H
    replace H : (if t505 = true then (if x5_1.length < 17592186044416 then (impl_set_below.l0 k1 (x5_1 ++ [x8_1]) a1 (wrap64 (x8_1 + 1)) l0_0 l0_1) else (none)) else (impl_set_below.l0 k1 x5_1 a1 (wrap64 (x8_1 + 1)) l0_0 l0_1)) = some r := H
    have A5 := aM A50
    clear A50
    by_cases c6 : t505 = true
    ·subst c6
     have H1 : (if x5_1.length < 17592186044416 then (impl_set_below.l0 k1 (x5_1 ++ [x8_1]) a1 (wrap64 (x8_1 + 1)) l0_0 l0_1) else (none)) = some r := by rw [if_pos rfl] at H; exact H
     clear H
     have H := H1
     clear H1
     by_cases c7 : x5_1.length < 17592186044416
     ·rw [if_pos c7] at H
      have LMc7 := aM c7
      clear c7
      obtain ⟨y506, hy506⟩ : ∃ y_ : List Int, y_ = (x5_1 ++ [x8_1]) := ⟨_, rfl⟩
      replace H : (impl_set_below.l0 k1 y506 a1 (wrap64 (x8_1 + 1)) l0_0 l0_1) = some r := by first | (rw [hy506]; with_reducible exact H) | (have H2_ := (Option.bind_some _ _).symm.trans H; rw [hy506]; with_reducible exact H2_) | (have H2_ := (Option.bind_some _ _).symm.trans H; with_reducible exact H2_) | with_reducible exact H | (rw [hy506]; exact H) | exact H
      have Ny506 := aM hy506
      clear hy506
      have H' := aM H
      clear H
      have hcz8_0 : wr.cell? ⟨gb504, 0, none⟩ = some (.slice A0_0 l0_0.length c0_0) := (blk_cell BK504.out 0).trans rfl
      have hcz8_1 : wr.cell? ⟨gb504, 1, none⟩ = some (.slice A0_1 l0_1.length c0_1) := (blk_cell BK504.out 1).trans rfl
      have hfz8_0 := blk_frozen BK504.out 0
      have hfz8_1 := blk_frozen BK504.out 1
      go_wp2_with (first | ((with_reducible refine gate_callee (f := 48) rfl ?_); refine goesL_ (some 13) rfl rfl Try.func48 (by kernel_rfl) rfl #[.agg #[.slice A0_0 l0_0.length c0_0, .slice A0_1 l0_1.length c0_1], .int .i64 x8_1] rfl (by (try simp only [List.map_toArray, List.map_cons, List.map_nil]); first | done | rfl | (simp only [List.length_drop, List.length_take]; rfl)) ?_; (with_reducible refine (impl_set_has.calls _ _ l0_0 _ _ l0_1 x8_1 true _ ?side1 ?side2 ?side3 ?side4 A5.out).mono ?_); (case side1 => repeat (first | exact (Kd.C_below HR0_0.out HB.out) | (with_reducible refine Kd.C_alloc ?_ _) | (with_reducible refine Kd.C_drewN ?_ _) | (with_reducible refine Kd.C_drew ?_))); (case side2 => exact HC0_0.out); (case side3 => repeat (first | exact (Kd.C_below HR0_1.out HB.out) | (with_reducible refine Kd.C_alloc ?_ _) | (with_reducible refine Kd.C_drewN ?_ _) | (with_reducible refine Kd.C_drew ?_))); (case side4 => exact HC0_1.out); rintro e w9 ⟨rfl, hb⟩; refine ⟨_, rfl, ?_⟩; have n0_ := aM (Kd.R_below (by (with_reducible repeat (first | apply rA | apply rN | apply rD)); exact HO_5.out) hb); have n1_ := aM (blk_below (g := gb504) (o := .cells #[.slice A0_0 l0_0.length c0_0, .slice A0_1 l0_1.length c0_1] 52 (0, 0)) (by (with_reducible repeat (first | refine kN ?_ _ | refine kD ?_ | refine kA ?_ _)); exact BK504.out) hb); have n2_ := aM (below_step (by repeat (first | (with_reducible first | exact HB.out | apply bA | apply bN | apply b1 | refine bS ?_ GE504.out) | exact HB.out)) hb); clear HO_5; clear BK504; clear HB; have HO_5 := n0_; have BK504 := n1_; have HB := n2_; clear n0_ n1_ n2_; (try clear hb); (try clear hb2); (try clear hk); (try clear hi)) | ((with_reducible refine gate_builtin (b := .append) (xs := #[.tmp 14, .tmp 16]) rfl ?_); at_builtin; refine Kd.R_append (Kd.int .i64) (w0 := w) w.heap.size rfl (.tmp 14) (.tmp 16) 35 3 (.int .i64 0) 8 rfl Try.underlying35 info3 rfl (by decide) (by omega) u5 x5_1 x8_1 [.int .i64 x8_1] (fun _ => True) (fun _ => False) rfl rfl ?aP (fun _ hk => hk.elim) ?aF ?aO ?aB ?aS ?aL ?_; (case aP => exact rfl); (case aB => exact (by repeat (first | (with_reducible first | exact HB.out | apply bA | apply bN | apply b1 | refine bS ?_ GE504.out) | exact HB.out))); (case aF => exact (fun _ _ => trivial)); (case aO => exact (by (with_reducible repeat (first | apply rA | apply rN | apply rD)); exact HO_5.out)); (case aS => exact (below_size (by repeat (first | (with_reducible first | exact HB.out | apply bA | apply bN | apply b1 | refine bS ?_ GE504.out) | exact HB.out)))); (case aL => have := LMc7.out; omega); intro v507 w10 ho hb hg hat; rw [← Ny506.out] at ho; have n0_ := aM (blk_grown (g := gb504) (o := .cells #[.slice A0_0 l0_0.length c0_0, .slice A0_1 l0_1.length c0_1] 52 (0, 0)) (by (with_reducible repeat (first | refine kN ?_ _ | refine kD ?_ | refine kA ?_ _)); exact BK504.out) hg (Kd.R_ne HO_5.out BK504.out (by decide))); have n1_ := aM (hb); have n2_ := aM (ho); clear BK504; clear HB; clear HO_5; have BK504 := n0_; have HB := n1_; have HO508 := n2_; clear n0_ n1_ n2_; clear ho hb hg hat))
      go_roundg k1
      case measure => have := HK1.out; omega
      case rel => exact ⟨(y506), (wrap64 (x8_1 + 1)), (by first | rfl | (simp; done) | (simp [*]; done) | (simp [Int.tmod_eq_emod_of_nonneg]; done)), H', ⟨by have := HK1.out; omega⟩, ⟨by (with_reducible repeat (first | apply rA | apply rN | apply rD)); exact HO508.out⟩, ⟨by (with_reducible repeat (first | refine kN ?_ _ | refine kD ?_ | refine kA ?_ _)); exact BK504.out⟩, ⟨by repeat (first | (with_reducible first | exact HB.out | apply bA | apply bN | apply b1 | refine bS ?_ GE504.out) | exact HB.out)⟩⟩
     ·rw [if_neg c7] at H
      exact absurd H (by simp)
    ·replace c6 := Bool.eq_false_iff.mpr c6
     subst c6
     have H1 : (impl_set_below.l0 k1 x5_1 a1 (wrap64 (x8_1 + 1)) l0_0 l0_1) = some r := by rw [if_neg (show ¬ (false = true) by decide)] at H; exact H
     clear H
     have H := H1
     clear H1
     have H' := aM H
     clear H
     have hcz11_0 : wr.cell? ⟨gb504, 0, none⟩ = some (.slice A0_0 l0_0.length c0_0) := (blk_cell BK504.out 0).trans rfl
     have hcz11_1 : wr.cell? ⟨gb504, 1, none⟩ = some (.slice A0_1 l0_1.length c0_1) := (blk_cell BK504.out 1).trans rfl
     have hfz11_0 := blk_frozen BK504.out 0
     have hfz11_1 := blk_frozen BK504.out 1
     go_wp2_with (first | ((with_reducible refine gate_callee (f := 48) rfl ?_); refine goesL_ (some 13) rfl rfl Try.func48 (by kernel_rfl) rfl #[.agg #[.slice A0_0 l0_0.length c0_0, .slice A0_1 l0_1.length c0_1], .int .i64 x8_1] rfl (by (try simp only [List.map_toArray, List.map_cons, List.map_nil]); first | done | rfl | (simp only [List.length_drop, List.length_take]; rfl)) ?_; (with_reducible refine (impl_set_has.calls _ _ l0_0 _ _ l0_1 x8_1 false _ ?side1 ?side2 ?side3 ?side4 A5.out).mono ?_); (case side1 => repeat (first | exact (Kd.C_below HR0_0.out HB.out) | (with_reducible refine Kd.C_alloc ?_ _) | (with_reducible refine Kd.C_drewN ?_ _) | (with_reducible refine Kd.C_drew ?_))); (case side2 => exact HC0_0.out); (case side3 => repeat (first | exact (Kd.C_below HR0_1.out HB.out) | (with_reducible refine Kd.C_alloc ?_ _) | (with_reducible refine Kd.C_drewN ?_ _) | (with_reducible refine Kd.C_drew ?_))); (case side4 => exact HC0_1.out); rintro e w12 ⟨rfl, hb⟩; refine ⟨_, rfl, ?_⟩; have n0_ := aM (Kd.R_below (by (with_reducible repeat (first | apply rA | apply rN | apply rD)); exact HO_5.out) hb); have n1_ := aM (blk_below (g := gb504) (o := .cells #[.slice A0_0 l0_0.length c0_0, .slice A0_1 l0_1.length c0_1] 52 (0, 0)) (by (with_reducible repeat (first | refine kN ?_ _ | refine kD ?_ | refine kA ?_ _)); exact BK504.out) hb); have n2_ := aM (below_step (by repeat (first | (with_reducible first | exact HB.out | apply bA | apply bN | apply b1 | refine bS ?_ GE504.out) | exact HB.out)) hb); clear HO_5; clear BK504; clear HB; have HO_5 := n0_; have BK504 := n1_; have HB := n2_; clear n0_ n1_ n2_; (try clear hb); (try clear hb2); (try clear hk); (try clear hi)))
     go_roundg k1
     case measure => have := HK1.out; omega
     case rel => exact ⟨(x5_1), (wrap64 (x8_1 + 1)), (by first | rfl | (simp; done) | (simp [*]; done) | (simp [Int.tmod_eq_emod_of_nonneg]; done)), H', ⟨by have := HK1.out; omega⟩, ⟨by (with_reducible repeat (first | apply rA | apply rN | apply rD)); exact HO_5.out⟩, ⟨by (with_reducible repeat (first | refine kN ?_ _ | refine kD ?_ | refine kA ?_ _)); exact BK504.out⟩, ⟨by repeat (first | (with_reducible first | exact HB.out | apply bA | apply bN | apply b1 | refine bS ?_ GE504.out) | exact HB.out)⟩⟩
   ·rw [if_neg c4] at H
    have c4b0 : decide (x8_1 < a1) = false := decide_eq_false c4
    clear c4
    obtain rfl := Option.some.inj H
    go_wp2
    go_ret
    exact ⟨_, by first | rfl | (simp [errW_none, errW_some] <;> rfl) | (simp [errW_none, errW_some]; exact ⟨rfl, rfl⟩) | (simp [errW_none, errW_some]; exact ⟨rfl, rfl, rfl⟩) | (simp [*, errW_none, errW_some] <;> rfl), by (with_reducible repeat (first | apply rA | apply rN | apply rD)); exact HO_5.out, by repeat (first | (with_reducible first | exact HB.out | apply bA | apply bN | apply b1 | refine bS ?_ GE504.out) | exact HB.out)⟩


def impl_SetList.f (k : Nat) (a0 : ByteArray) (a1 : Int) : Option (List Int × Bool) := (impl_setOf.f a0).bind fun bt509 => (if bt509.2.2 = true then ((impl_in.f a1 0 1000).bind fun t517 => (if t517 = true then ((impl_set_below.f k bt509.1 bt509.2.1 a1).bind fun t518 => (some (t518, true))) else (some (([] : List Int), false)))) else (some (([] : List Int), false)))
theorem impl_SetList.mono : ∀ a0 a1 k, LeO (impl_SetList.f k a0 a1) (impl_SetList.f (k + 1) a0 a1) := by
 intro a0 a1 k
 unfold impl_SetList.f
 repeat' first
   | (with_reducible exact impl_set_below.mono _ _ _ _)
   | (with_reducible exact LeO.refl _)
   | (with_reducible exact LeO.none _)
   | (with_reducible refine LeO.ite ?_ ?_)
   | (with_reducible refine LeO.bind ?_ (fun _ => ?_))
   | exact impl_set_below.mono _ _ _ _
   | exact LeO.none _
   | refine LeO.ite ?_ ?_
   | refine LeO.bind ?_ (fun _ => ?_)
set_option maxHeartbeats 8000000 in
set_option maxRecDepth 100000 in
theorem impl_SetList.calls (k : Nat) (a0 : ByteArray) (a1 : Int) (r1 : List Int) (r2 : Bool) (w : World) (h : impl_SetList.f k a0 a1 = some (r1, r2)) :
  Calls Try.prog 55 #[.string a0, .int .i64 a1] w fun e w' => ∃ v0_ : Value, e = .returned (.tuple #[v0_, .bool r2]) ∧ Kd.R (Kd.int .i64) 3 w' w.heap.size (fun _ => True) v0_ r1 ∧ Below w.heap.size w w' := by
 have hu52 := Try.underlying52
 have HB := aM (Below.refl w.heap.size w)
 have H : ((impl_setOf.f a0).bind fun bt509 => (if bt509.2.2 = true then ((impl_in.f a1 0 1000).bind fun t517 => (if t517 = true then ((impl_set_below.f k bt509.1 bt509.2.1 a1).bind fun t518 => (some (t518, true))) else (some (([] : List Int), false)))) else (some (([] : List Int), false)))) = some (r1, r2) := h
 clear h
 replace H := Option.bind_eq_some_iff.mp H
 obtain ⟨⟨t509, t512, t515⟩, A30, H⟩ := H
 replace H : (if t515 = true then ((impl_in.f a1 0 1000).bind fun t517 => (if t517 = true then ((impl_set_below.f k t509 t512 a1).bind fun t518 => (some (t518, true))) else (some (([] : List Int), false)))) else (some (([] : List Int), false))) = some (r1, r2) := H
 have A3 := aM A30
 clear A30
 by_cases c4 : t515 = true
 ·subst c4
  have H1 : ((impl_in.f a1 0 1000).bind fun t517 => (if t517 = true then ((impl_set_below.f k t509 t512 a1).bind fun t518 => (some (t518, true))) else (some (([] : List Int), false)))) = some (r1, r2) := by rw [if_pos rfl] at H; exact H
  clear H
  have H := H1
  clear H1
  replace H := Option.bind_eq_some_iff.mp H
  obtain ⟨t517, A50, H⟩ := H
  replace H : (if t517 = true then ((impl_set_below.f k t509 t512 a1).bind fun t518 => (some (t518, true))) else (some (([] : List Int), false))) = some (r1, r2) := H
  have A5 := aM A50
  clear A50
  by_cases c6 : t517 = true
  ·subst c6
   have H1 : ((impl_set_below.f k t509 t512 a1).bind fun t518 => (some (t518, true))) = some (r1, r2) := by rw [if_pos rfl] at H; exact H
   clear H
   have H := H1
   clear H1
   replace H := Option.bind_eq_some_iff.mp H
   obtain ⟨t518, A70, H⟩ := H
   replace H : (some (t518, true)) = some (r1, r2) := H
   have A7 := aM A70
   clear A70
   simp only [Option.some.injEq, Prod.mk.injEq] at H
   obtain ⟨rfl, rfl⟩ := H
   go_enter Try.func55, Try.ntmps55
   go_wp2_with (first | ((with_reducible refine gate_callee (f := 47) rfl ?_); refine goesL_ (some 10) rfl rfl Try.func47 (by kernel_rfl) rfl #[.string a0] rfl (by (try simp only [List.map_toArray, List.map_cons, List.map_nil]); first | done | rfl | (simp only [List.length_drop, List.length_take]; rfl)) ?_; (with_reducible refine (impl_setOf.calls a0 t509 t512 true _ A3.out).mono ?_); rintro e w8 ⟨v510, v513, rfl, ho0, ho1, hb⟩; refine ⟨_, rfl, ?_⟩; have n0_ := aM (Kd.R_lower ho0 (below_size (by repeat (first | (with_reducible first | exact HB.out | apply bA | apply bN | apply b1) | exact HB.out)))); have n1_ := aM (Kd.R_lower ho1 (below_size (by repeat (first | (with_reducible first | exact HB.out | apply bA | apply bN | apply b1) | exact HB.out)))); have n2_ := aM (below_step (by repeat (first | (with_reducible first | exact HB.out | apply bA | apply bN | apply b1) | exact HB.out)) hb); clear HB; have HO511 := n0_; have HO514 := n1_; have HB := n2_; clear n0_ n1_ n2_; (try clear hb); (try clear hb2); (try clear hk); (try clear hi); (try clear ho0); (try clear ho1)) | ((with_reducible refine gate_dst (N := 6) rfl ?_); refine box_event ?hg (N := 6) ?hd (cs := #[.slice none 0 0, .slice none 0 0]) (t := 52) ?hr ?_; (case hd => rfl); (case hg => rfl); (case hr => first | (go_simp; done) | (go_simp; rfl)); intro gb516 hg w9 hbox hb; have n0_ := aM (Kd.R_below (by (with_reducible repeat (first | apply rA | apply rN | apply rD)); exact HO511.out) hb); have n1_ := aM (Kd.R_below (by (with_reducible repeat (first | apply rA | apply rN | apply rD)); exact HO514.out) hb); have n2_ := aM (below_step (by repeat (first | (with_reducible first | exact HB.out | apply bA | apply bN | apply b1) | exact HB.out)) hb); have n3_ := aM (hbox); have n4_ := aM ((by rw [hg]; exact (below_size (by repeat (first | (with_reducible first | exact HB.out | apply bA | apply bN | apply b1) | exact HB.out))) : w.heap.size ≤ gb516)); have n5_ := aM ((by rw [hg]; exact (below_size (by repeat (first | (with_reducible first | exact HB.out | apply bA | apply bN | apply b1) | exact HB.out))) : w.heap.size ≤ gb516)); clear HO511; clear HO514; clear HB; have HO511 := n0_; have HO514 := n1_; have HB := n2_; have BK516 := n3_; have GW516 := n4_; have GE516 := n5_; clear n0_ n1_ n2_ n3_ n4_ n5_; clear hb hbox hg; obtain ⟨Ao10, co10, eo10⟩ := Kd.R_slice HO511.out; subst eo10; have hcz11_0 : w9.cell? ⟨gb516, 0, none⟩ = some (.slice none 0 0) := (blk_cell BK516.out 0).trans rfl; have hcz11_1 : w9.cell? ⟨gb516, 1, none⟩ = some (.slice none 0 0) := (blk_cell BK516.out 1).trans rfl; have hfz11_0 := blk_frozen BK516.out 0; have hfz11_1 := blk_frozen BK516.out 1; obtain ⟨Ao12, co12, eo12⟩ := Kd.R_slice HO514.out; subst eo12) | (go_at_call 50; (with_reducible refine (impl_in.calls a1 0 1000 true _ A5.out).mono ?_); rintro e w' ⟨rfl, ⟨nd, rfl⟩⟩) | ((with_reducible refine gate_callee (f := 68) rfl ?_); refine goesL_ (some 22) rfl rfl Try.func68 (by kernel_rfl) rfl #[.agg #[.slice Ao10 t509.length co10, .slice Ao12 t512.length co12], .int .i64 a1] rfl (by (try simp only [List.map_toArray, List.map_cons, List.map_nil]); first | done | rfl | (simp only [List.length_drop, List.length_take]; rfl)) ?_; (with_reducible refine (impl_set_below.calls k _ _ t509 _ _ t512 a1 t518 _ ?side1 ?side2 ?side3 ?side4 A7.out).mono ?_); (case side1 => refine (Kd.R_reads' (e := 4) (base := w.heap.size) (ok := fun k_ => some k_ ≠ (.slice Ao12 t512.length co12 : Value).ownBlock) (n := t509.length) (c := co10) ?_).2.2; exact (by (with_reducible repeat (first | apply rA | apply rN | apply rD)); exact (Kd.R_mono (Kd.R_far (p := ⟨gb516, 1, none⟩) (Kd.R_far (p := ⟨gb516, 0, none⟩) (Kd.R_types HO511.out BK516.out (by decide)) (fun _ hk => hk.2) (.slice Ao10 t509.length co10)) (fun _ hk => hk.2) (.slice Ao12 t512.length co12)) (fun _ h_ => h_.1)))); (case side2 => exact (Kd.R_reads' HO511.out).2.1); (case side3 => refine (Kd.R_reads' (e := 4) (base := w.heap.size) (ok := fun k_ => some k_ ≠ (.slice Ao10 t509.length co10 : Value).ownBlock) (n := t512.length) (c := co12) ?_).2.2; exact (by (with_reducible repeat (first | apply rA | apply rN | apply rD)); exact (Kd.R_mono (Kd.R_far (p := ⟨gb516, 1, none⟩) (Kd.R_far (p := ⟨gb516, 0, none⟩) (Kd.R_types HO514.out BK516.out (by decide)) (fun _ hk => hk.2) (.slice Ao10 t509.length co10)) (fun _ hk => hk.2) (.slice Ao12 t512.length co12)) (fun _ h_ => h_.1)))); (case side4 => exact (Kd.R_reads' HO514.out).2.1); rintro e w13 ⟨v519, rfl, ho0, hb⟩; refine ⟨_, rfl, ?_⟩; have n0_ := aM (Kd.R_below (by (with_reducible repeat (first | apply rA | apply rN | apply rD)); exact (Kd.R_mono (Kd.R_far (p := ⟨gb516, 1, none⟩) (Kd.R_far (p := ⟨gb516, 0, none⟩) (Kd.R_types HO511.out BK516.out (by decide)) (fun _ hk => hk.2) (.slice Ao10 t509.length co10)) (fun _ hk => hk.2) (.slice Ao12 t512.length co12)) (fun _ h_ => h_.1))) hb); have n1_ := aM (Kd.R_below (by (with_reducible repeat (first | apply rA | apply rN | apply rD)); exact (Kd.R_mono (Kd.R_far (p := ⟨gb516, 1, none⟩) (Kd.R_far (p := ⟨gb516, 0, none⟩) (Kd.R_types HO514.out BK516.out (by decide)) (fun _ hk => hk.2) (.slice Ao10 t509.length co10)) (fun _ hk => hk.2) (.slice Ao12 t512.length co12)) (fun _ h_ => h_.1))) hb); have n2_ := aM (Kd.R_lower ho0 (below_size (by repeat (first | (with_reducible first | exact HB.out | apply bA | apply bN | apply b1 | refine bS ?_ GE516.out) | exact HB.out)))); have n3_ := aM (blk_below (g := gb516) (o := .cells #[.slice Ao10 t509.length co10, .slice Ao12 t512.length co12] 52 (0, 0)) (by (with_reducible repeat (first | refine kN ?_ _ | refine kD ?_ | refine kA ?_ _)); refine blk_put (cs := #[.slice Ao10 t509.length co10, .slice none 0 0]) ?_ 1 _ rfl; (with_reducible repeat (first | refine kN ?_ _ | refine kD ?_ | refine kA ?_ _)); refine blk_put (cs := #[.slice none 0 0, .slice none 0 0]) ?_ 0 _ rfl; (with_reducible repeat (first | refine kN ?_ _ | refine kD ?_ | refine kA ?_ _)); exact BK516.out) hb); have n4_ := aM (below_step (by repeat (first | (with_reducible first | exact HB.out | apply bA | apply bN | apply b1 | refine bS ?_ GE516.out) | exact HB.out)) hb); clear HO511; clear HO514; clear BK516; clear HB; have HO511 := n0_; have HO514 := n1_; have HO520 := n2_; have BK516 := n3_; have HB := n4_; clear n0_ n1_ n2_ n3_ n4_; (try clear hb); (try clear hb2); (try clear hk); (try clear hi); (try clear ho0)))
   go_ret2
   exact ⟨_, by first | rfl | (simp [errW_none, errW_some] <;> rfl) | (simp [errW_none, errW_some]; exact ⟨rfl, rfl⟩) | (simp [errW_none, errW_some]; exact ⟨rfl, rfl, rfl⟩) | (simp [*, errW_none, errW_some] <;> rfl), by (with_reducible repeat (first | apply rA | apply rN | apply rD)); exact HO520.out, by repeat (first | (with_reducible first | exact HB.out | apply bA | apply bN | apply b1 | refine bS ?_ GE516.out) | exact HB.out)⟩
  ·replace c6 := Bool.eq_false_iff.mpr c6
   subst c6
   have H1 : (some (([] : List Int), false)) = some (r1, r2) := by rw [if_neg (show ¬ (false = true) by decide)] at H; exact H
   clear H
   have H := H1
   clear H1
   simp only [Option.some.injEq, Prod.mk.injEq] at H
   obtain ⟨rfl, rfl⟩ := H
   go_enter Try.func55, Try.ntmps55
   go_wp2_with (first | ((with_reducible refine gate_callee (f := 47) rfl ?_); refine goesL_ (some 10) rfl rfl Try.func47 (by kernel_rfl) rfl #[.string a0] rfl (by (try simp only [List.map_toArray, List.map_cons, List.map_nil]); first | done | rfl | (simp only [List.length_drop, List.length_take]; rfl)) ?_; (with_reducible refine (impl_setOf.calls a0 t509 t512 true _ A3.out).mono ?_); rintro e w14 ⟨v510, v513, rfl, ho0, ho1, hb⟩; refine ⟨_, rfl, ?_⟩; have n0_ := aM (Kd.R_lower ho0 (below_size (by repeat (first | (with_reducible first | exact HB.out | apply bA | apply bN | apply b1) | exact HB.out)))); have n1_ := aM (Kd.R_lower ho1 (below_size (by repeat (first | (with_reducible first | exact HB.out | apply bA | apply bN | apply b1) | exact HB.out)))); have n2_ := aM (below_step (by repeat (first | (with_reducible first | exact HB.out | apply bA | apply bN | apply b1) | exact HB.out)) hb); clear HB; have HO511 := n0_; have HO514 := n1_; have HB := n2_; clear n0_ n1_ n2_; (try clear hb); (try clear hb2); (try clear hk); (try clear hi); (try clear ho0); (try clear ho1)) | ((with_reducible refine gate_dst (N := 6) rfl ?_); refine box_event ?hg (N := 6) ?hd (cs := #[.slice none 0 0, .slice none 0 0]) (t := 52) ?hr ?_; (case hd => rfl); (case hg => rfl); (case hr => first | (go_simp; done) | (go_simp; rfl)); intro gb516 hg w15 hbox hb; have n0_ := aM (Kd.R_below (by (with_reducible repeat (first | apply rA | apply rN | apply rD)); exact HO511.out) hb); have n1_ := aM (Kd.R_below (by (with_reducible repeat (first | apply rA | apply rN | apply rD)); exact HO514.out) hb); have n2_ := aM (below_step (by repeat (first | (with_reducible first | exact HB.out | apply bA | apply bN | apply b1) | exact HB.out)) hb); have n3_ := aM (hbox); have n4_ := aM ((by rw [hg]; exact (below_size (by repeat (first | (with_reducible first | exact HB.out | apply bA | apply bN | apply b1) | exact HB.out))) : w.heap.size ≤ gb516)); have n5_ := aM ((by rw [hg]; exact (below_size (by repeat (first | (with_reducible first | exact HB.out | apply bA | apply bN | apply b1) | exact HB.out))) : w.heap.size ≤ gb516)); clear HO511; clear HO514; clear HB; have HO511 := n0_; have HO514 := n1_; have HB := n2_; have BK516 := n3_; have GW516 := n4_; have GE516 := n5_; clear n0_ n1_ n2_ n3_ n4_ n5_; clear hb hbox hg; obtain ⟨Ao16, co16, eo16⟩ := Kd.R_slice HO511.out; subst eo16; have hcz17_0 : w15.cell? ⟨gb516, 0, none⟩ = some (.slice none 0 0) := (blk_cell BK516.out 0).trans rfl; have hcz17_1 : w15.cell? ⟨gb516, 1, none⟩ = some (.slice none 0 0) := (blk_cell BK516.out 1).trans rfl; have hfz17_0 := blk_frozen BK516.out 0; have hfz17_1 := blk_frozen BK516.out 1; obtain ⟨Ao18, co18, eo18⟩ := Kd.R_slice HO514.out; subst eo18) | (go_at_call 50; (with_reducible refine (impl_in.calls a1 0 1000 false _ A5.out).mono ?_); rintro e w' ⟨rfl, ⟨nd, rfl⟩⟩))
   go_ret2
   exact ⟨_, by first | rfl | (simp [errW_none, errW_some] <;> rfl) | (simp [errW_none, errW_some]; exact ⟨rfl, rfl⟩) | (simp [errW_none, errW_some]; exact ⟨rfl, rfl, rfl⟩) | (simp [*, errW_none, errW_some] <;> rfl), by first | exact Kd.R_nil _ _ _ _ _ | exact Kd.N_nil _ _ _ _ _ | exact Kd.V_nil _ _ _ _ _ | exact Kd.Q_nil _ _ _ _ _ | exact Kd.S_nil _ _ _ _ _, by repeat (first | (with_reducible first | exact HB.out | apply bA | apply bN | apply b1 | refine bS ?_ GE516.out) | exact HB.out)⟩
 ·replace c4 := Bool.eq_false_iff.mpr c4
  subst c4
  have H1 : (some (([] : List Int), false)) = some (r1, r2) := by rw [if_neg (show ¬ (false = true) by decide)] at H; exact H
  clear H
  have H := H1
  clear H1
  simp only [Option.some.injEq, Prod.mk.injEq] at H
  obtain ⟨rfl, rfl⟩ := H
  go_enter Try.func55, Try.ntmps55
  go_wp2_with (first | ((with_reducible refine gate_callee (f := 47) rfl ?_); refine goesL_ (some 10) rfl rfl Try.func47 (by kernel_rfl) rfl #[.string a0] rfl (by (try simp only [List.map_toArray, List.map_cons, List.map_nil]); first | done | rfl | (simp only [List.length_drop, List.length_take]; rfl)) ?_; (with_reducible refine (impl_setOf.calls a0 t509 t512 false _ A3.out).mono ?_); rintro e w19 ⟨v510, v513, rfl, ho0, ho1, hb⟩; refine ⟨_, rfl, ?_⟩; have n0_ := aM (Kd.R_lower ho0 (below_size (by repeat (first | (with_reducible first | exact HB.out | apply bA | apply bN | apply b1) | exact HB.out)))); have n1_ := aM (Kd.R_lower ho1 (below_size (by repeat (first | (with_reducible first | exact HB.out | apply bA | apply bN | apply b1) | exact HB.out)))); have n2_ := aM (below_step (by repeat (first | (with_reducible first | exact HB.out | apply bA | apply bN | apply b1) | exact HB.out)) hb); clear HB; have HO511 := n0_; have HO514 := n1_; have HB := n2_; clear n0_ n1_ n2_; (try clear hb); (try clear hb2); (try clear hk); (try clear hi); (try clear ho0); (try clear ho1)) | ((with_reducible refine gate_dst (N := 6) rfl ?_); refine box_event ?hg (N := 6) ?hd (cs := #[.slice none 0 0, .slice none 0 0]) (t := 52) ?hr ?_; (case hd => rfl); (case hg => rfl); (case hr => first | (go_simp; done) | (go_simp; rfl)); intro gb516 hg w20 hbox hb; have n0_ := aM (Kd.R_below (by (with_reducible repeat (first | apply rA | apply rN | apply rD)); exact HO511.out) hb); have n1_ := aM (Kd.R_below (by (with_reducible repeat (first | apply rA | apply rN | apply rD)); exact HO514.out) hb); have n2_ := aM (below_step (by repeat (first | (with_reducible first | exact HB.out | apply bA | apply bN | apply b1) | exact HB.out)) hb); have n3_ := aM (hbox); have n4_ := aM ((by rw [hg]; exact (below_size (by repeat (first | (with_reducible first | exact HB.out | apply bA | apply bN | apply b1) | exact HB.out))) : w.heap.size ≤ gb516)); have n5_ := aM ((by rw [hg]; exact (below_size (by repeat (first | (with_reducible first | exact HB.out | apply bA | apply bN | apply b1) | exact HB.out))) : w.heap.size ≤ gb516)); clear HO511; clear HO514; clear HB; have HO511 := n0_; have HO514 := n1_; have HB := n2_; have BK516 := n3_; have GW516 := n4_; have GE516 := n5_; clear n0_ n1_ n2_ n3_ n4_ n5_; clear hb hbox hg; obtain ⟨Ao21, co21, eo21⟩ := Kd.R_slice HO511.out; subst eo21; have hcz22_0 : w20.cell? ⟨gb516, 0, none⟩ = some (.slice none 0 0) := (blk_cell BK516.out 0).trans rfl; have hcz22_1 : w20.cell? ⟨gb516, 1, none⟩ = some (.slice none 0 0) := (blk_cell BK516.out 1).trans rfl; have hfz22_0 := blk_frozen BK516.out 0; have hfz22_1 := blk_frozen BK516.out 1; obtain ⟨Ao23, co23, eo23⟩ := Kd.R_slice HO514.out; subst eo23))
  go_ret2
  exact ⟨_, by first | rfl | (simp [errW_none, errW_some] <;> rfl) | (simp [errW_none, errW_some]; exact ⟨rfl, rfl⟩) | (simp [errW_none, errW_some]; exact ⟨rfl, rfl, rfl⟩) | (simp [*, errW_none, errW_some] <;> rfl), by first | exact Kd.R_nil _ _ _ _ _ | exact Kd.N_nil _ _ _ _ _ | exact Kd.V_nil _ _ _ _ _ | exact Kd.Q_nil _ _ _ _ _ | exact Kd.S_nil _ _ _ _ _, by repeat (first | (with_reducible first | exact HB.out | apply bA | apply bN | apply b1 | refine bS ?_ GE516.out) | exact HB.out)⟩


def impl_SetCount.f (k : Nat) (a0 : ByteArray) (a1 : Int) : Option (Int × Bool) := (impl_SetList.f k a0 a1).bind fun bt521 => (some ((bt521.1.length : Int), bt521.2))
theorem impl_SetCount.mono : ∀ a0 a1 k, LeO (impl_SetCount.f k a0 a1) (impl_SetCount.f (k + 1) a0 a1) := by
 intro a0 a1 k
 unfold impl_SetCount.f
 repeat' first
   | (with_reducible exact impl_SetList.mono _ _ _)
   | (with_reducible exact LeO.refl _)
   | (with_reducible exact LeO.none _)
   | (with_reducible refine LeO.ite ?_ ?_)
   | (with_reducible refine LeO.bind ?_ (fun _ => ?_))
   | exact impl_SetList.mono _ _ _
   | exact LeO.none _
   | refine LeO.ite ?_ ?_
   | refine LeO.bind ?_ (fun _ => ?_)
set_option maxHeartbeats 8000000 in
set_option maxRecDepth 100000 in
theorem impl_SetCount.calls (k : Nat) (a0 : ByteArray) (a1 : Int) (r1 : Int) (r2 : Bool) (w : World) (h : impl_SetCount.f k a0 a1 = some (r1, r2)) :
  Calls Try.prog 19 #[.string a0, .int .i64 a1] w fun e w' => e = .returned (.tuple #[.int .i64 r1, .bool r2]) ∧ Below w.heap.size w w' := by
 have HB := aM (Below.refl w.heap.size w)
 have H : ((impl_SetList.f k a0 a1).bind fun bt521 => (some ((bt521.1.length : Int), bt521.2))) = some (r1, r2) := h
 clear h
 replace H := Option.bind_eq_some_iff.mp H
 obtain ⟨⟨t521, t522⟩, A30, H⟩ := H
 replace H : (some ((t521.length : Int), t522)) = some (r1, r2) := H
 have A3 := aM A30
 clear A30
 simp only [Option.some.injEq, Prod.mk.injEq] at H
 obtain ⟨rfl, rfl⟩ := H
 go_enter Try.func19, Try.ntmps19
 go_wp2_with (first | ((with_reducible refine gate_callee (f := 55) rfl ?_); refine goesL_ (some 11) rfl rfl Try.func55 (by kernel_rfl) rfl #[.string a0, .int .i64 a1] rfl (by (try simp only [List.map_toArray, List.map_cons, List.map_nil]); first | done | rfl | (simp only [List.length_drop, List.length_take]; rfl)) ?_; (with_reducible refine (impl_SetList.calls k a0 a1 t521 t522 _ A3.out).mono ?_); rintro e w4 ⟨v523, rfl, ho0, hb⟩; refine ⟨_, rfl, ?_⟩; have n0_ := aM (Kd.R_lower ho0 (below_size (by repeat (first | (with_reducible first | exact HB.out | apply bA | apply bN | apply b1) | exact HB.out)))); have n1_ := aM (below_step (by repeat (first | (with_reducible first | exact HB.out | apply bA | apply bN | apply b1) | exact HB.out)) hb); clear HB; have HO524 := n0_; have HB := n1_; clear n0_ n1_; (try clear hb); (try clear hb2); (try clear hk); (try clear hi); (try clear ho0); obtain ⟨Ao5, co5, eo5⟩ := Kd.R_slice HO524.out; subst eo5))
 go_ret2
 exact ⟨by first | rfl | (simp [errW_none, errW_some] <;> rfl) | (simp [errW_none, errW_some]; exact ⟨rfl, rfl⟩) | (simp [errW_none, errW_some]; exact ⟨rfl, rfl, rfl⟩) | (simp [*, errW_none, errW_some] <;> rfl), by repeat (first | (with_reducible first | exact HB.out | apply bA | apply bN | apply b1) | exact HB.out)⟩


mutual
def laws_FnSolveTwo.j0 : Nat → ByteArray → ByteArray → Int → Int → Bool → Bool → Option (Bool)
 | 0, _, _, _, _, _, _ => none
 | k + 1, x3, x4, x5, x6, x7, x10 => if x10 = true then (laws_FnSolveTwo.j1 k x3 x4 x5 x6 x10 (!x7)) else (laws_FnSolveTwo.j1 k x3 x4 x5 x6 x10 true)
def laws_FnSolveTwo.j1 : Nat → ByteArray → ByteArray → Int → Int → Bool → Bool → Option (Bool)
 | 0, _, _, _, _, _, _ => none
 | k + 1, x3, x4, x5, x6, x10, x51 => if x51 = true then (some x10) else ((impl_SolveTwo.f k x3 x4 (wrap64 (x5 + 1))).bind fun bt532 => ((impl_SetCount.f k x4 x5).bind fun bt534 => (if bt532.2 = true then (if bt532.1 = x6 then (if x6 ≤ x5 then (if bt534.2 = true then (some (decide (bt534.1 ≤ x6))) else (some true)) else (some false)) else (if bt532.1 = (wrap64 (x6 + 1)) then (if x6 ≤ x5 then (if bt534.2 = true then (some (decide (bt534.1 ≤ x6))) else (some true)) else (some false)) else (some false))) else (if x6 ≤ x5 then (if bt534.2 = true then (some (decide (bt534.1 ≤ x6))) else (some true)) else (some false)))))
end
def laws_FnSolveTwo.f (k : Nat) (l0 : List Int) : Option (Bool) := if (l0.length : Int) > 1048576 then (some true) else ((spec_DrawSolveTwo.f k l0).bind fun bt525 => ((impl_SolveTwo.f k bt525.1 bt525.2.1 bt525.2.2).bind fun bt528 => ((spec_SolveTwo.f k bt525.1 bt525.2.1 bt525.2.2).bind fun bt530 => (if bt528.1 = bt530.1 then (laws_FnSolveTwo.j0 k bt525.1 bt525.2.1 bt525.2.2 bt528.1 bt528.2 (bt528.2 == bt530.2)) else (laws_FnSolveTwo.j0 k bt525.1 bt525.2.1 bt525.2.2 bt528.1 bt528.2 false)))))
theorem laws_FnSolveTwo.mono_l : ∀ k, (∀ y0 y1 y2 y3 y4 y5, LeO (laws_FnSolveTwo.j0 k y0 y1 y2 y3 y4 y5) (laws_FnSolveTwo.j0 (k + 1) y0 y1 y2 y3 y4 y5)) ∧ (∀ y0 y1 y2 y3 y4 y5, LeO (laws_FnSolveTwo.j1 k y0 y1 y2 y3 y4 y5) (laws_FnSolveTwo.j1 (k + 1) y0 y1 y2 y3 y4 y5))
 | 0 => ⟨fun _ _ _ _ _ _ r h => by simp [laws_FnSolveTwo.j0] at h, fun _ _ _ _ _ _ r h => by simp [laws_FnSolveTwo.j1] at h⟩
 | k + 1 => by
  obtain ⟨ih0, ih1⟩ := laws_FnSolveTwo.mono_l k
  refine ⟨?_, ?_⟩
  ·intro y0 y1 y2 y3 y4 y5
   unfold laws_FnSolveTwo.j0
   repeat' first
   | (with_reducible exact ih0 _ _ _ _ _ _)
   | (with_reducible exact ih1 _ _ _ _ _ _)
   | (with_reducible exact impl_SetCount.mono _ _ _)
   | (with_reducible exact impl_SolveTwo.mono _ _ _ _)
   | (with_reducible exact spec_DrawSolveTwo.mono _ _)
   | (with_reducible exact spec_SolveTwo.mono _ _ _ _)
   | (with_reducible exact LeO.refl _)
   | (with_reducible exact LeO.none _)
   | (with_reducible refine LeO.ite ?_ ?_)
   | (with_reducible refine LeO.bind ?_ (fun _ => ?_))
   | exact ih0 _ _ _ _ _ _
   | exact ih1 _ _ _ _ _ _
   | exact impl_SetCount.mono _ _ _
   | exact impl_SolveTwo.mono _ _ _ _
   | exact spec_DrawSolveTwo.mono _ _
   | exact spec_SolveTwo.mono _ _ _ _
   | exact LeO.none _
   | refine LeO.ite ?_ ?_
   | refine LeO.bind ?_ (fun _ => ?_)
  ·intro y0 y1 y2 y3 y4 y5
   unfold laws_FnSolveTwo.j1
   repeat' first
   | (with_reducible exact ih0 _ _ _ _ _ _)
   | (with_reducible exact ih1 _ _ _ _ _ _)
   | (with_reducible exact impl_SetCount.mono _ _ _)
   | (with_reducible exact impl_SolveTwo.mono _ _ _ _)
   | (with_reducible exact spec_DrawSolveTwo.mono _ _)
   | (with_reducible exact spec_SolveTwo.mono _ _ _ _)
   | (with_reducible exact LeO.refl _)
   | (with_reducible exact LeO.none _)
   | (with_reducible refine LeO.ite ?_ ?_)
   | (with_reducible refine LeO.bind ?_ (fun _ => ?_))
   | exact ih0 _ _ _ _ _ _
   | exact ih1 _ _ _ _ _ _
   | exact impl_SetCount.mono _ _ _
   | exact impl_SolveTwo.mono _ _ _ _
   | exact spec_DrawSolveTwo.mono _ _
   | exact spec_SolveTwo.mono _ _ _ _
   | exact LeO.none _
   | refine LeO.ite ?_ ?_
   | refine LeO.bind ?_ (fun _ => ?_)
theorem laws_FnSolveTwo.mono : ∀ a0 k, LeO (laws_FnSolveTwo.f k a0) (laws_FnSolveTwo.f (k + 1) a0) := by
 intro a0 k
 obtain ⟨ih0, ih1⟩ := laws_FnSolveTwo.mono_l k
 unfold laws_FnSolveTwo.f
 repeat' first
   | (with_reducible exact ih0 _ _ _ _ _ _)
   | (with_reducible exact ih1 _ _ _ _ _ _)
   | (with_reducible exact impl_SetCount.mono _ _ _)
   | (with_reducible exact impl_SolveTwo.mono _ _ _ _)
   | (with_reducible exact spec_DrawSolveTwo.mono _ _)
   | (with_reducible exact spec_SolveTwo.mono _ _ _ _)
   | (with_reducible exact LeO.refl _)
   | (with_reducible exact LeO.none _)
   | (with_reducible refine LeO.ite ?_ ?_)
   | (with_reducible refine LeO.bind ?_ (fun _ => ?_))
   | exact ih0 _ _ _ _ _ _
   | exact ih1 _ _ _ _ _ _
   | exact impl_SetCount.mono _ _ _
   | exact impl_SolveTwo.mono _ _ _ _
   | exact spec_DrawSolveTwo.mono _ _
   | exact spec_SolveTwo.mono _ _ _ _
   | exact LeO.none _
   | refine LeO.ite ?_ ?_
   | refine LeO.bind ?_ (fun _ => ?_)
set_option maxHeartbeats 8000000 in
set_option maxRecDepth 100000 in
theorem laws_FnSolveTwo.calls (k : Nat) (A0 : Option Addr) (c0 : Nat) (l0 : List Int) (r : Bool) (w : World) (hr0 : Kd.C (Kd.int .u8) w A0 l0.length l0) (hc0 : l0.length ≤ c0) (h : laws_FnSolveTwo.f k l0 = some r) :
  Calls Try.prog 4 #[.slice A0 l0.length c0] w fun e w' => e = .returned (.bool r) ∧ Below w.heap.size w w' := by
 have HR0 := aM hr0
 have HC0 := aM hc0
 clear hr0 hc0
 have HB := aM (Below.refl w.heap.size w)
 have H : (if (l0.length : Int) > 1048576 then (some true) else ((spec_DrawSolveTwo.f k l0).bind fun bt525 => ((impl_SolveTwo.f k bt525.1 bt525.2.1 bt525.2.2).bind fun bt528 => ((spec_SolveTwo.f k bt525.1 bt525.2.1 bt525.2.2).bind fun bt530 => (if bt528.1 = bt530.1 then (laws_FnSolveTwo.j0 k bt525.1 bt525.2.1 bt525.2.2 bt528.1 bt528.2 (bt528.2 == bt530.2)) else (laws_FnSolveTwo.j0 k bt525.1 bt525.2.1 bt525.2.2 bt528.1 bt528.2 false)))))) = some r := h
 clear h
 by_cases c2 : (l0.length : Int) > 1048576
 ·rw [if_pos c2] at H
  have c2b0 : decide (1048576 < (l0.length : Int)) = true := decide_eq_true c2
  have c2b1 : decide (1048576 < l0.length) = true := decide_eq_true (by omega)
  clear c2
  obtain rfl := Option.some.inj H
  go_enter Try.func4, Try.ntmps4
  go_wp2
  go_ret
  exact ⟨by first | rfl | (simp [errW_none, errW_some] <;> rfl) | (simp [errW_none, errW_some]; exact ⟨rfl, rfl⟩) | (simp [errW_none, errW_some]; exact ⟨rfl, rfl, rfl⟩) | (simp [*, errW_none, errW_some] <;> rfl), by repeat (first | (with_reducible first | exact HB.out | apply bA | apply bN | apply b1) | exact HB.out)⟩
 ·rw [if_neg c2] at H
  have c2b0 : decide (1048576 < (l0.length : Int)) = false := decide_eq_false c2
  have c2b1 : decide (1048576 < l0.length) = false := decide_eq_false (by omega)
  clear c2
  replace H := Option.bind_eq_some_iff.mp H
  obtain ⟨⟨t525, t526, t527⟩, A30, H⟩ := H
  replace H : ((impl_SolveTwo.f k t525 t526 t527).bind fun bt528 => ((spec_SolveTwo.f k t525 t526 t527).bind fun bt530 => (if bt528.1 = bt530.1 then (laws_FnSolveTwo.j0 k t525 t526 t527 bt528.1 bt528.2 (bt528.2 == bt530.2)) else (laws_FnSolveTwo.j0 k t525 t526 t527 bt528.1 bt528.2 false)))) = some r := H
  have A3 := aM A30
  clear A30
  replace H := Option.bind_eq_some_iff.mp H
  obtain ⟨⟨t528, t529⟩, A40, H⟩ := H
  replace H : ((spec_SolveTwo.f k t525 t526 t527).bind fun bt530 => (if t528 = bt530.1 then (laws_FnSolveTwo.j0 k t525 t526 t527 t528 t529 (t529 == bt530.2)) else (laws_FnSolveTwo.j0 k t525 t526 t527 t528 t529 false))) = some r := H
  have A4 := aM A40
  clear A40
  replace H := Option.bind_eq_some_iff.mp H
  obtain ⟨⟨t530, t531⟩, A50, H⟩ := H
  replace H : (if t528 = t530 then (laws_FnSolveTwo.j0 k t525 t526 t527 t528 t529 (t529 == t531)) else (laws_FnSolveTwo.j0 k t525 t526 t527 t528 t529 false)) = some r := H
  have A5 := aM A50
  clear A50
  have HC6 := aM H
  clear H
  go_enter Try.func4, Try.ntmps4
  go_upto_region 6 with (first | ((with_reducible refine gate_callee (f := 16) rfl ?_); refine goesL_ (some 20) rfl rfl Try.func16 (by kernel_rfl) rfl #[.slice A0 l0.length c0] rfl (by (try simp only [List.map_toArray, List.map_cons, List.map_nil]); first | done | rfl | (simp only [List.length_drop, List.length_take]; rfl)) ?_; (with_reducible refine (spec_DrawSolveTwo.calls k _ _ l0 t525 t526 t527 _ ?side1 ?side2 A3.out).mono ?_); (case side1 => repeat (first | exact HR0.out | (with_reducible refine Kd.C_alloc ?_ _) | (with_reducible refine Kd.C_drewN ?_ _) | (with_reducible refine Kd.C_drew ?_))); (case side2 => exact HC0.out); rintro e w7 ⟨rfl, hb⟩; refine ⟨_, rfl, ?_⟩; have n0_ := aM (below_step (by repeat (first | (with_reducible first | exact HB.out | apply bA | apply bN | apply b1) | exact HB.out)) hb); clear HB; have HB := n0_; clear n0_; (try clear hb); (try clear hb2); (try clear hk); (try clear hi)) | ((with_reducible refine gate_callee (f := 17) rfl ?_); refine goesL_ (some 28) rfl rfl Try.func17 (by kernel_rfl) rfl #[.string t525, .string t526, .int .i64 t527] rfl (by (try simp only [List.map_toArray, List.map_cons, List.map_nil]); first | done | rfl | (simp only [List.length_drop, List.length_take]; rfl)) ?_; (with_reducible refine (impl_SolveTwo.calls k t525 t526 t527 t528 t529 _ A4.out).mono ?_); rintro e w8 ⟨rfl, hb⟩; refine ⟨_, rfl, ?_⟩; have n0_ := aM (below_step (by repeat (first | (with_reducible first | exact HB.out | apply bA | apply bN | apply b1) | exact HB.out)) hb); clear HB; have HB := n0_; clear n0_; (try clear hb); (try clear hb2); (try clear hk); (try clear hi)) | ((with_reducible refine gate_callee (f := 18) rfl ?_); refine goesL_ (some 35) rfl rfl Try.func18 (by kernel_rfl) rfl #[.string t525, .string t526, .int .i64 t527] rfl (by (try simp only [List.map_toArray, List.map_cons, List.map_nil]); first | done | rfl | (simp only [List.length_drop, List.length_take]; rfl)) ?_; (with_reducible refine (spec_SolveTwo.calls k t525 t526 t527 t530 t531 _ A5.out).mono ?_); rintro e w9 ⟨rfl, hb⟩; refine ⟨_, rfl, ?_⟩; have n0_ := aM (below_step (by repeat (first | (with_reducible first | exact HB.out | apply bA | apply bN | apply b1) | exact HB.out)) hb); clear HB; have HB := n0_; clear n0_; (try clear hb); (try clear hb2); (try clear hk); (try clear hi)))
  (try simp only [Act.put, sA, sZ, sS])
  go_cut [10] (fun v10 wc => ∃ (kq : Nat) (x10_5 : Bool), v10 = .bool x10_5 ∧ Aside0 (laws_FnSolveTwo.j0 kq t525 t526 t527 t528 t529 x10_5 = some r) ∧ Aside0 (kq ≤ k) ∧ Aside0 (Below w.heap.size w wc))
  case first =>
   have H := HC6.out
   clear HC6
   by_cases c10 : t528 = t530
   ·rw [if_pos c10] at H
    have c10b0 : (t528 == t530) = true := beq_iff_eq.mpr c10
    have c10b1 : (t528 != t530) = false := bne_eq_false_iff_eq.mpr c10
    clear c10
    (first | rw [c10b0] | (simp only [i64_w, i32_w]; rw [c10b0]) | skip)
    have H' := aM H
    clear H
    go_wp2
    go_meet
    case rel => exact ⟨_, ((t529 == t531)), (by first | rfl | (simp; done) | (simp [*]; done) | (simp [Int.tmod_eq_emod_of_nonneg]; done)), H', ⟨by first | omega | exact Nat.le_refl _⟩, ⟨by repeat (first | (with_reducible first | exact HB.out | apply bA | apply bN | apply b1) | exact HB.out)⟩⟩
   ·rw [if_neg c10] at H
    have c10b0 : (t528 == t530) = false := beq_eq_false_iff_ne.mpr c10
    have c10b1 : (t528 != t530) = true := bne_iff_ne.mpr c10
    (first | rw [c10b0] | (simp only [i64_w, i32_w]; rw [c10b0]) | skip)
    have H' := aM H
    clear H
    go_wp2
    go_meet
    case rel => exact ⟨_, (false), (by first | rfl | (simp; done) | (simp [*]; done) | (simp [Int.tmod_eq_emod_of_nonneg]; done)), H', ⟨by first | omega | exact Nat.le_refl _⟩, ⟨by repeat (first | (with_reducible first | exact HB.out | apply bA | apply bN | apply b1) | exact HB.out)⟩⟩
  case rest =>
   clear HC6
   try clear c1
   try clear c2
   try clear c2b0
   try clear c2b1
   try clear p2
   try clear c4
   try clear c10
   try clear c10b0
   try clear c10b1
   obtain ⟨kq, x10_5, rfl, HA, HJ5, HB⟩ := hcut
   cases kq with
   | zero => exact absurd HA.out (by simp [laws_FnSolveTwo.j0])
   | succ kj5 =>
    have H := HA.out
    clear HA
    simp only [laws_FnSolveTwo.j0] at H
    have HC11 := aM H
    clear H
    go_upto_region 7 with (fail)
    go_cut [51] (fun v51 wc => ∃ (kq : Nat) (x51_10 : Bool), v51 = .bool x51_10 ∧ Aside0 (laws_FnSolveTwo.j1 kq t525 t526 t527 t528 x10_5 x51_10 = some r) ∧ Aside0 (kq ≤ kj5) ∧ Aside0 (Below w.heap.size w wc))
    case first =>
     have H := HC11.out
     clear HC11
     by_cases c12 : x10_5 = true
     ·subst c12
      have H1 : (laws_FnSolveTwo.j1 kj5 t525 t526 t527 t528 true (!t529)) = some r := by rw [if_pos rfl] at H; exact H
      clear H
      have H := H1
      clear H1
      have H' := aM H
      clear H
      go_wp2
      go_meet
      case rel => exact ⟨_, (!t529), (by first | rfl | (simp; done) | (simp [*]; done) | (simp [Int.tmod_eq_emod_of_nonneg]; done)), H', ⟨by have := HJ5.out; first | omega | exact Nat.le_refl _⟩, ⟨by repeat (first | (with_reducible first | exact HB.out | apply bA | apply bN | apply b1) | exact HB.out)⟩⟩
     ·replace c12 := Bool.eq_false_iff.mpr c12
      subst c12
      have H1 : (laws_FnSolveTwo.j1 kj5 t525 t526 t527 t528 false true) = some r := by rw [if_neg (show ¬ (false = true) by decide)] at H; exact H
      clear H
      have H := H1
      clear H1
      have H' := aM H
      clear H
      go_wp2
      go_meet
      case rel => exact ⟨_, (true), (by first | rfl | (simp; done) | (simp [*]; done) | (simp [Int.tmod_eq_emod_of_nonneg]; done)), H', ⟨by have := HJ5.out; first | omega | exact Nat.le_refl _⟩, ⟨by repeat (first | (with_reducible first | exact HB.out | apply bA | apply bN | apply b1) | exact HB.out)⟩⟩
    case rest =>
     clear HC11
     try clear c1
     try clear c2
     try clear c2b0
     try clear c2b1
     try clear p2
     try clear c4
     try clear c10
     try clear c10b0
     try clear c10b1
     try clear c12
     try clear p2
     obtain ⟨kq, x51_10, rfl, HA, HJ10, HB⟩ := hcut
     cases kq with
     | zero => exact absurd HA.out (by simp [laws_FnSolveTwo.j1])
     | succ kj10 =>
      have H := HA.out
      clear HA
      simp only [laws_FnSolveTwo.j1] at H
      by_cases c13 : x51_10 = true
      ·subst c13
       have H1 : (some x10_5) = some r := by rw [if_pos rfl] at H; exact H
       clear H
       have H := H1
       clear H1
       obtain rfl := Option.some.inj H
       go_wp2
       go_ret
       exact ⟨by first | rfl | (simp [errW_none, errW_some] <;> rfl) | (simp [errW_none, errW_some]; exact ⟨rfl, rfl⟩) | (simp [errW_none, errW_some]; exact ⟨rfl, rfl, rfl⟩) | (simp [*, errW_none, errW_some] <;> rfl), by repeat (first | (with_reducible first | exact HB.out | apply bA | apply bN | apply b1) | exact HB.out)⟩
      ·replace c13 := Bool.eq_false_iff.mpr c13
       subst c13
       have H1 : ((impl_SolveTwo.f kj10 t525 t526 (wrap64 (t527 + 1))).bind fun bt532 => ((impl_SetCount.f kj10 t526 t527).bind fun bt534 => (if bt532.2 = true then (if bt532.1 = t528 then (if t528 ≤ t527 then (if bt534.2 = true then (some (decide (bt534.1 ≤ t528))) else (some true)) else (some false)) else (if bt532.1 = (wrap64 (t528 + 1)) then (if t528 ≤ t527 then (if bt534.2 = true then (some (decide (bt534.1 ≤ t528))) else (some true)) else (some false)) else (some false))) else (if t528 ≤ t527 then (if bt534.2 = true then (some (decide (bt534.1 ≤ t528))) else (some true)) else (some false))))) = some r := by rw [if_neg (show ¬ (false = true) by decide)] at H; exact H
       clear H
       have H := H1
       clear H1
       replace H := Option.bind_eq_some_iff.mp H
       obtain ⟨⟨t532, t533⟩, A140, H⟩ := H
       replace H : ((impl_SetCount.f kj10 t526 t527).bind fun bt534 => (if t533 = true then (if t532 = t528 then (if t528 ≤ t527 then (if bt534.2 = true then (some (decide (bt534.1 ≤ t528))) else (some true)) else (some false)) else (if t532 = (wrap64 (t528 + 1)) then (if t528 ≤ t527 then (if bt534.2 = true then (some (decide (bt534.1 ≤ t528))) else (some true)) else (some false)) else (some false))) else (if t528 ≤ t527 then (if bt534.2 = true then (some (decide (bt534.1 ≤ t528))) else (some true)) else (some false)))) = some r := H
       have A14 := aM A140
       clear A140
       replace H := Option.bind_eq_some_iff.mp H
       obtain ⟨⟨t534, t535⟩, A150, H⟩ := H
       replace H : (if t533 = true then (if t532 = t528 then (if t528 ≤ t527 then (if t535 = true then (some (decide (t534 ≤ t528))) else (some true)) else (some false)) else (if t532 = (wrap64 (t528 + 1)) then (if t528 ≤ t527 then (if t535 = true then (some (decide (t534 ≤ t528))) else (some true)) else (some false)) else (some false))) else (if t528 ≤ t527 then (if t535 = true then (some (decide (t534 ≤ t528))) else (some true)) else (some false))) = some r := H
       have A15 := aM A150
       clear A150
       by_cases c16 : t533 = true
       ·subst c16
        have H1 : (if t532 = t528 then (if t528 ≤ t527 then (if t535 = true then (some (decide (t534 ≤ t528))) else (some true)) else (some false)) else (if t532 = (wrap64 (t528 + 1)) then (if t528 ≤ t527 then (if t535 = true then (some (decide (t534 ≤ t528))) else (some true)) else (some false)) else (some false))) = some r := by rw [if_pos rfl] at H; exact H
        clear H
        have H := H1
        clear H1
        by_cases c17 : t532 = t528
        ·rw [if_pos c17] at H
         have c17b0 : (t532 == t528) = true := beq_iff_eq.mpr c17
         have c17b1 : (t532 != t528) = false := bne_eq_false_iff_eq.mpr c17
         clear c17
         by_cases c18 : t528 ≤ t527
         ·rw [if_pos c18] at H
          have c18b0 : decide (t528 ≤ t527) = true := decide_eq_true c18
          clear c18
          by_cases c19 : t535 = true
          ·subst c19
           have H1 : (some (decide (t534 ≤ t528))) = some r := by rw [if_pos rfl] at H; exact H
           clear H
           have H := H1
           clear H1
           obtain rfl := Option.some.inj H
           go_wp2_with (first | ((with_reducible refine gate_callee (f := 17) rfl ?_); refine goesL_ (some 58) rfl rfl Try.func17 (by kernel_rfl) rfl #[.string t525, .string t526, .int .i64 (wrap64 (t527 + 1))] rfl (by (try simp only [List.map_toArray, List.map_cons, List.map_nil]); first | done | rfl | (simp only [List.length_drop, List.length_take]; rfl)) ?_; (with_reducible refine (impl_SolveTwo.calls kj10 t525 t526 (wrap64 (t527 + 1)) t532 true _ A14.out).mono ?_); rintro e w20 ⟨rfl, hb⟩; refine ⟨_, rfl, ?_⟩; have n0_ := aM (below_step (by repeat (first | (with_reducible first | exact HB.out | apply bA | apply bN | apply b1) | exact HB.out)) hb); clear HB; have HB := n0_; clear n0_; (try clear hb); (try clear hb2); (try clear hk); (try clear hi)) | ((with_reducible refine gate_callee (f := 19) rfl ?_); refine goesL_ (some 64) rfl rfl Try.func19 (by kernel_rfl) rfl #[.string t526, .int .i64 t527] rfl (by (try simp only [List.map_toArray, List.map_cons, List.map_nil]); first | done | rfl | (simp only [List.length_drop, List.length_take]; rfl)) ?_; (with_reducible refine (impl_SetCount.calls kj10 t526 t527 t534 true _ A15.out).mono ?_); rintro e w21 ⟨rfl, hb⟩; refine ⟨_, rfl, ?_⟩; have n0_ := aM (below_step (by repeat (first | (with_reducible first | exact HB.out | apply bA | apply bN | apply b1) | exact HB.out)) hb); clear HB; have HB := n0_; clear n0_; (try clear hb); (try clear hb2); (try clear hk); (try clear hi)))
           go_ret
           exact ⟨by first | rfl | (simp [errW_none, errW_some] <;> rfl) | (simp [errW_none, errW_some]; exact ⟨rfl, rfl⟩) | (simp [errW_none, errW_some]; exact ⟨rfl, rfl, rfl⟩) | (simp [*, errW_none, errW_some] <;> rfl), by repeat (first | (with_reducible first | exact HB.out | apply bA | apply bN | apply b1) | exact HB.out)⟩
          ·replace c19 := Bool.eq_false_iff.mpr c19
           subst c19
           have H1 : (some true) = some r := by rw [if_neg (show ¬ (false = true) by decide)] at H; exact H
           clear H
           have H := H1
           clear H1
           obtain rfl := Option.some.inj H
           go_wp2_with (first | ((with_reducible refine gate_callee (f := 17) rfl ?_); refine goesL_ (some 58) rfl rfl Try.func17 (by kernel_rfl) rfl #[.string t525, .string t526, .int .i64 (wrap64 (t527 + 1))] rfl (by (try simp only [List.map_toArray, List.map_cons, List.map_nil]); first | done | rfl | (simp only [List.length_drop, List.length_take]; rfl)) ?_; (with_reducible refine (impl_SolveTwo.calls kj10 t525 t526 (wrap64 (t527 + 1)) t532 true _ A14.out).mono ?_); rintro e w22 ⟨rfl, hb⟩; refine ⟨_, rfl, ?_⟩; have n0_ := aM (below_step (by repeat (first | (with_reducible first | exact HB.out | apply bA | apply bN | apply b1) | exact HB.out)) hb); clear HB; have HB := n0_; clear n0_; (try clear hb); (try clear hb2); (try clear hk); (try clear hi)) | ((with_reducible refine gate_callee (f := 19) rfl ?_); refine goesL_ (some 64) rfl rfl Try.func19 (by kernel_rfl) rfl #[.string t526, .int .i64 t527] rfl (by (try simp only [List.map_toArray, List.map_cons, List.map_nil]); first | done | rfl | (simp only [List.length_drop, List.length_take]; rfl)) ?_; (with_reducible refine (impl_SetCount.calls kj10 t526 t527 t534 false _ A15.out).mono ?_); rintro e w23 ⟨rfl, hb⟩; refine ⟨_, rfl, ?_⟩; have n0_ := aM (below_step (by repeat (first | (with_reducible first | exact HB.out | apply bA | apply bN | apply b1) | exact HB.out)) hb); clear HB; have HB := n0_; clear n0_; (try clear hb); (try clear hb2); (try clear hk); (try clear hi)))
           go_ret
           exact ⟨by first | rfl | (simp [errW_none, errW_some] <;> rfl) | (simp [errW_none, errW_some]; exact ⟨rfl, rfl⟩) | (simp [errW_none, errW_some]; exact ⟨rfl, rfl, rfl⟩) | (simp [*, errW_none, errW_some] <;> rfl), by repeat (first | (with_reducible first | exact HB.out | apply bA | apply bN | apply b1) | exact HB.out)⟩
         ·rw [if_neg c18] at H
          have c18b0 : decide (t528 ≤ t527) = false := decide_eq_false c18
          clear c18
          obtain rfl := Option.some.inj H
          go_wp2_with (first | ((with_reducible refine gate_callee (f := 17) rfl ?_); refine goesL_ (some 58) rfl rfl Try.func17 (by kernel_rfl) rfl #[.string t525, .string t526, .int .i64 (wrap64 (t527 + 1))] rfl (by (try simp only [List.map_toArray, List.map_cons, List.map_nil]); first | done | rfl | (simp only [List.length_drop, List.length_take]; rfl)) ?_; (with_reducible refine (impl_SolveTwo.calls kj10 t525 t526 (wrap64 (t527 + 1)) t532 true _ A14.out).mono ?_); rintro e w24 ⟨rfl, hb⟩; refine ⟨_, rfl, ?_⟩; have n0_ := aM (below_step (by repeat (first | (with_reducible first | exact HB.out | apply bA | apply bN | apply b1) | exact HB.out)) hb); clear HB; have HB := n0_; clear n0_; (try clear hb); (try clear hb2); (try clear hk); (try clear hi)) | ((with_reducible refine gate_callee (f := 19) rfl ?_); refine goesL_ (some 64) rfl rfl Try.func19 (by kernel_rfl) rfl #[.string t526, .int .i64 t527] rfl (by (try simp only [List.map_toArray, List.map_cons, List.map_nil]); first | done | rfl | (simp only [List.length_drop, List.length_take]; rfl)) ?_; (with_reducible refine (impl_SetCount.calls kj10 t526 t527 t534 t535 _ A15.out).mono ?_); rintro e w25 ⟨rfl, hb⟩; refine ⟨_, rfl, ?_⟩; have n0_ := aM (below_step (by repeat (first | (with_reducible first | exact HB.out | apply bA | apply bN | apply b1) | exact HB.out)) hb); clear HB; have HB := n0_; clear n0_; (try clear hb); (try clear hb2); (try clear hk); (try clear hi)))
          go_ret
          exact ⟨by first | rfl | (simp [errW_none, errW_some] <;> rfl) | (simp [errW_none, errW_some]; exact ⟨rfl, rfl⟩) | (simp [errW_none, errW_some]; exact ⟨rfl, rfl, rfl⟩) | (simp [*, errW_none, errW_some] <;> rfl), by repeat (first | (with_reducible first | exact HB.out | apply bA | apply bN | apply b1) | exact HB.out)⟩
        ·rw [if_neg c17] at H
         have c17b0 : (t532 == t528) = false := beq_eq_false_iff_ne.mpr c17
         have c17b1 : (t532 != t528) = true := bne_iff_ne.mpr c17
         by_cases c26 : t532 = (wrap64 (t528 + 1))
         ·rw [if_pos c26] at H
          have c26b0 : (t532 == (wrap64 (t528 + 1))) = true := beq_iff_eq.mpr c26
          have c26b1 : (t532 != (wrap64 (t528 + 1))) = false := bne_eq_false_iff_eq.mpr c26
          clear c26
          by_cases c27 : t528 ≤ t527
          ·rw [if_pos c27] at H
           have c27b0 : decide (t528 ≤ t527) = true := decide_eq_true c27
           clear c27
           by_cases c28 : t535 = true
           ·subst c28
            have H1 : (some (decide (t534 ≤ t528))) = some r := by rw [if_pos rfl] at H; exact H
            clear H
            have H := H1
            clear H1
            obtain rfl := Option.some.inj H
            go_wp2_with (first | ((with_reducible refine gate_callee (f := 17) rfl ?_); refine goesL_ (some 58) rfl rfl Try.func17 (by kernel_rfl) rfl #[.string t525, .string t526, .int .i64 (wrap64 (t527 + 1))] rfl (by (try simp only [List.map_toArray, List.map_cons, List.map_nil]); first | done | rfl | (simp only [List.length_drop, List.length_take]; rfl)) ?_; (with_reducible refine (impl_SolveTwo.calls kj10 t525 t526 (wrap64 (t527 + 1)) t532 true _ A14.out).mono ?_); rintro e w29 ⟨rfl, hb⟩; refine ⟨_, rfl, ?_⟩; have n0_ := aM (below_step (by repeat (first | (with_reducible first | exact HB.out | apply bA | apply bN | apply b1) | exact HB.out)) hb); clear HB; have HB := n0_; clear n0_; (try clear hb); (try clear hb2); (try clear hk); (try clear hi)) | ((with_reducible refine gate_callee (f := 19) rfl ?_); refine goesL_ (some 64) rfl rfl Try.func19 (by kernel_rfl) rfl #[.string t526, .int .i64 t527] rfl (by (try simp only [List.map_toArray, List.map_cons, List.map_nil]); first | done | rfl | (simp only [List.length_drop, List.length_take]; rfl)) ?_; (with_reducible refine (impl_SetCount.calls kj10 t526 t527 t534 true _ A15.out).mono ?_); rintro e w30 ⟨rfl, hb⟩; refine ⟨_, rfl, ?_⟩; have n0_ := aM (below_step (by repeat (first | (with_reducible first | exact HB.out | apply bA | apply bN | apply b1) | exact HB.out)) hb); clear HB; have HB := n0_; clear n0_; (try clear hb); (try clear hb2); (try clear hk); (try clear hi)))
            go_ret
            exact ⟨by first | rfl | (simp [errW_none, errW_some] <;> rfl) | (simp [errW_none, errW_some]; exact ⟨rfl, rfl⟩) | (simp [errW_none, errW_some]; exact ⟨rfl, rfl, rfl⟩) | (simp [*, errW_none, errW_some] <;> rfl), by repeat (first | (with_reducible first | exact HB.out | apply bA | apply bN | apply b1) | exact HB.out)⟩
           ·replace c28 := Bool.eq_false_iff.mpr c28
            subst c28
            have H1 : (some true) = some r := by rw [if_neg (show ¬ (false = true) by decide)] at H; exact H
            clear H
            have H := H1
            clear H1
            obtain rfl := Option.some.inj H
            go_wp2_with (first | ((with_reducible refine gate_callee (f := 17) rfl ?_); refine goesL_ (some 58) rfl rfl Try.func17 (by kernel_rfl) rfl #[.string t525, .string t526, .int .i64 (wrap64 (t527 + 1))] rfl (by (try simp only [List.map_toArray, List.map_cons, List.map_nil]); first | done | rfl | (simp only [List.length_drop, List.length_take]; rfl)) ?_; (with_reducible refine (impl_SolveTwo.calls kj10 t525 t526 (wrap64 (t527 + 1)) t532 true _ A14.out).mono ?_); rintro e w31 ⟨rfl, hb⟩; refine ⟨_, rfl, ?_⟩; have n0_ := aM (below_step (by repeat (first | (with_reducible first | exact HB.out | apply bA | apply bN | apply b1) | exact HB.out)) hb); clear HB; have HB := n0_; clear n0_; (try clear hb); (try clear hb2); (try clear hk); (try clear hi)) | ((with_reducible refine gate_callee (f := 19) rfl ?_); refine goesL_ (some 64) rfl rfl Try.func19 (by kernel_rfl) rfl #[.string t526, .int .i64 t527] rfl (by (try simp only [List.map_toArray, List.map_cons, List.map_nil]); first | done | rfl | (simp only [List.length_drop, List.length_take]; rfl)) ?_; (with_reducible refine (impl_SetCount.calls kj10 t526 t527 t534 false _ A15.out).mono ?_); rintro e w32 ⟨rfl, hb⟩; refine ⟨_, rfl, ?_⟩; have n0_ := aM (below_step (by repeat (first | (with_reducible first | exact HB.out | apply bA | apply bN | apply b1) | exact HB.out)) hb); clear HB; have HB := n0_; clear n0_; (try clear hb); (try clear hb2); (try clear hk); (try clear hi)))
            go_ret
            exact ⟨by first | rfl | (simp [errW_none, errW_some] <;> rfl) | (simp [errW_none, errW_some]; exact ⟨rfl, rfl⟩) | (simp [errW_none, errW_some]; exact ⟨rfl, rfl, rfl⟩) | (simp [*, errW_none, errW_some] <;> rfl), by repeat (first | (with_reducible first | exact HB.out | apply bA | apply bN | apply b1) | exact HB.out)⟩
          ·rw [if_neg c27] at H
           have c27b0 : decide (t528 ≤ t527) = false := decide_eq_false c27
           clear c27
           obtain rfl := Option.some.inj H
           go_wp2_with (first | ((with_reducible refine gate_callee (f := 17) rfl ?_); refine goesL_ (some 58) rfl rfl Try.func17 (by kernel_rfl) rfl #[.string t525, .string t526, .int .i64 (wrap64 (t527 + 1))] rfl (by (try simp only [List.map_toArray, List.map_cons, List.map_nil]); first | done | rfl | (simp only [List.length_drop, List.length_take]; rfl)) ?_; (with_reducible refine (impl_SolveTwo.calls kj10 t525 t526 (wrap64 (t527 + 1)) t532 true _ A14.out).mono ?_); rintro e w33 ⟨rfl, hb⟩; refine ⟨_, rfl, ?_⟩; have n0_ := aM (below_step (by repeat (first | (with_reducible first | exact HB.out | apply bA | apply bN | apply b1) | exact HB.out)) hb); clear HB; have HB := n0_; clear n0_; (try clear hb); (try clear hb2); (try clear hk); (try clear hi)) | ((with_reducible refine gate_callee (f := 19) rfl ?_); refine goesL_ (some 64) rfl rfl Try.func19 (by kernel_rfl) rfl #[.string t526, .int .i64 t527] rfl (by (try simp only [List.map_toArray, List.map_cons, List.map_nil]); first | done | rfl | (simp only [List.length_drop, List.length_take]; rfl)) ?_; (with_reducible refine (impl_SetCount.calls kj10 t526 t527 t534 t535 _ A15.out).mono ?_); rintro e w34 ⟨rfl, hb⟩; refine ⟨_, rfl, ?_⟩; have n0_ := aM (below_step (by repeat (first | (with_reducible first | exact HB.out | apply bA | apply bN | apply b1) | exact HB.out)) hb); clear HB; have HB := n0_; clear n0_; (try clear hb); (try clear hb2); (try clear hk); (try clear hi)))
           go_ret
           exact ⟨by first | rfl | (simp [errW_none, errW_some] <;> rfl) | (simp [errW_none, errW_some]; exact ⟨rfl, rfl⟩) | (simp [errW_none, errW_some]; exact ⟨rfl, rfl, rfl⟩) | (simp [*, errW_none, errW_some] <;> rfl), by repeat (first | (with_reducible first | exact HB.out | apply bA | apply bN | apply b1) | exact HB.out)⟩
         ·rw [if_neg c26] at H
          have c26b0 : (t532 == (wrap64 (t528 + 1))) = false := beq_eq_false_iff_ne.mpr c26
          have c26b1 : (t532 != (wrap64 (t528 + 1))) = true := bne_iff_ne.mpr c26
          obtain rfl := Option.some.inj H
          go_wp2_with (first | ((with_reducible refine gate_callee (f := 17) rfl ?_); refine goesL_ (some 58) rfl rfl Try.func17 (by kernel_rfl) rfl #[.string t525, .string t526, .int .i64 (wrap64 (t527 + 1))] rfl (by (try simp only [List.map_toArray, List.map_cons, List.map_nil]); first | done | rfl | (simp only [List.length_drop, List.length_take]; rfl)) ?_; (with_reducible refine (impl_SolveTwo.calls kj10 t525 t526 (wrap64 (t527 + 1)) t532 true _ A14.out).mono ?_); rintro e w35 ⟨rfl, hb⟩; refine ⟨_, rfl, ?_⟩; have n0_ := aM (below_step (by repeat (first | (with_reducible first | exact HB.out | apply bA | apply bN | apply b1) | exact HB.out)) hb); clear HB; have HB := n0_; clear n0_; (try clear hb); (try clear hb2); (try clear hk); (try clear hi)) | ((with_reducible refine gate_callee (f := 19) rfl ?_); refine goesL_ (some 64) rfl rfl Try.func19 (by kernel_rfl) rfl #[.string t526, .int .i64 t527] rfl (by (try simp only [List.map_toArray, List.map_cons, List.map_nil]); first | done | rfl | (simp only [List.length_drop, List.length_take]; rfl)) ?_; (with_reducible refine (impl_SetCount.calls kj10 t526 t527 t534 t535 _ A15.out).mono ?_); rintro e w36 ⟨rfl, hb⟩; refine ⟨_, rfl, ?_⟩; have n0_ := aM (below_step (by repeat (first | (with_reducible first | exact HB.out | apply bA | apply bN | apply b1) | exact HB.out)) hb); clear HB; have HB := n0_; clear n0_; (try clear hb); (try clear hb2); (try clear hk); (try clear hi)))
          go_ret
          exact ⟨by first | rfl | (simp [errW_none, errW_some] <;> rfl) | (simp [errW_none, errW_some]; exact ⟨rfl, rfl⟩) | (simp [errW_none, errW_some]; exact ⟨rfl, rfl, rfl⟩) | (simp [*, errW_none, errW_some] <;> rfl), by repeat (first | (with_reducible first | exact HB.out | apply bA | apply bN | apply b1) | exact HB.out)⟩
       ·replace c16 := Bool.eq_false_iff.mpr c16
        subst c16
        have H1 : (if t528 ≤ t527 then (if t535 = true then (some (decide (t534 ≤ t528))) else (some true)) else (some false)) = some r := by rw [if_neg (show ¬ (false = true) by decide)] at H; exact H
        clear H
        have H := H1
        clear H1
        by_cases c37 : t528 ≤ t527
        ·rw [if_pos c37] at H
         have c37b0 : decide (t528 ≤ t527) = true := decide_eq_true c37
         clear c37
         by_cases c38 : t535 = true
         ·subst c38
          have H1 : (some (decide (t534 ≤ t528))) = some r := by rw [if_pos rfl] at H; exact H
          clear H
          have H := H1
          clear H1
          obtain rfl := Option.some.inj H
          go_wp2_with (first | ((with_reducible refine gate_callee (f := 17) rfl ?_); refine goesL_ (some 58) rfl rfl Try.func17 (by kernel_rfl) rfl #[.string t525, .string t526, .int .i64 (wrap64 (t527 + 1))] rfl (by (try simp only [List.map_toArray, List.map_cons, List.map_nil]); first | done | rfl | (simp only [List.length_drop, List.length_take]; rfl)) ?_; (with_reducible refine (impl_SolveTwo.calls kj10 t525 t526 (wrap64 (t527 + 1)) t532 false _ A14.out).mono ?_); rintro e w39 ⟨rfl, hb⟩; refine ⟨_, rfl, ?_⟩; have n0_ := aM (below_step (by repeat (first | (with_reducible first | exact HB.out | apply bA | apply bN | apply b1) | exact HB.out)) hb); clear HB; have HB := n0_; clear n0_; (try clear hb); (try clear hb2); (try clear hk); (try clear hi)) | ((with_reducible refine gate_callee (f := 19) rfl ?_); refine goesL_ (some 64) rfl rfl Try.func19 (by kernel_rfl) rfl #[.string t526, .int .i64 t527] rfl (by (try simp only [List.map_toArray, List.map_cons, List.map_nil]); first | done | rfl | (simp only [List.length_drop, List.length_take]; rfl)) ?_; (with_reducible refine (impl_SetCount.calls kj10 t526 t527 t534 true _ A15.out).mono ?_); rintro e w40 ⟨rfl, hb⟩; refine ⟨_, rfl, ?_⟩; have n0_ := aM (below_step (by repeat (first | (with_reducible first | exact HB.out | apply bA | apply bN | apply b1) | exact HB.out)) hb); clear HB; have HB := n0_; clear n0_; (try clear hb); (try clear hb2); (try clear hk); (try clear hi)))
          go_ret
          exact ⟨by first | rfl | (simp [errW_none, errW_some] <;> rfl) | (simp [errW_none, errW_some]; exact ⟨rfl, rfl⟩) | (simp [errW_none, errW_some]; exact ⟨rfl, rfl, rfl⟩) | (simp [*, errW_none, errW_some] <;> rfl), by repeat (first | (with_reducible first | exact HB.out | apply bA | apply bN | apply b1) | exact HB.out)⟩
         ·replace c38 := Bool.eq_false_iff.mpr c38
          subst c38
          have H1 : (some true) = some r := by rw [if_neg (show ¬ (false = true) by decide)] at H; exact H
          clear H
          have H := H1
          clear H1
          obtain rfl := Option.some.inj H
          go_wp2_with (first | ((with_reducible refine gate_callee (f := 17) rfl ?_); refine goesL_ (some 58) rfl rfl Try.func17 (by kernel_rfl) rfl #[.string t525, .string t526, .int .i64 (wrap64 (t527 + 1))] rfl (by (try simp only [List.map_toArray, List.map_cons, List.map_nil]); first | done | rfl | (simp only [List.length_drop, List.length_take]; rfl)) ?_; (with_reducible refine (impl_SolveTwo.calls kj10 t525 t526 (wrap64 (t527 + 1)) t532 false _ A14.out).mono ?_); rintro e w41 ⟨rfl, hb⟩; refine ⟨_, rfl, ?_⟩; have n0_ := aM (below_step (by repeat (first | (with_reducible first | exact HB.out | apply bA | apply bN | apply b1) | exact HB.out)) hb); clear HB; have HB := n0_; clear n0_; (try clear hb); (try clear hb2); (try clear hk); (try clear hi)) | ((with_reducible refine gate_callee (f := 19) rfl ?_); refine goesL_ (some 64) rfl rfl Try.func19 (by kernel_rfl) rfl #[.string t526, .int .i64 t527] rfl (by (try simp only [List.map_toArray, List.map_cons, List.map_nil]); first | done | rfl | (simp only [List.length_drop, List.length_take]; rfl)) ?_; (with_reducible refine (impl_SetCount.calls kj10 t526 t527 t534 false _ A15.out).mono ?_); rintro e w42 ⟨rfl, hb⟩; refine ⟨_, rfl, ?_⟩; have n0_ := aM (below_step (by repeat (first | (with_reducible first | exact HB.out | apply bA | apply bN | apply b1) | exact HB.out)) hb); clear HB; have HB := n0_; clear n0_; (try clear hb); (try clear hb2); (try clear hk); (try clear hi)))
          go_ret
          exact ⟨by first | rfl | (simp [errW_none, errW_some] <;> rfl) | (simp [errW_none, errW_some]; exact ⟨rfl, rfl⟩) | (simp [errW_none, errW_some]; exact ⟨rfl, rfl, rfl⟩) | (simp [*, errW_none, errW_some] <;> rfl), by repeat (first | (with_reducible first | exact HB.out | apply bA | apply bN | apply b1) | exact HB.out)⟩
        ·rw [if_neg c37] at H
         have c37b0 : decide (t528 ≤ t527) = false := decide_eq_false c37
         clear c37
         obtain rfl := Option.some.inj H
         go_wp2_with (first | ((with_reducible refine gate_callee (f := 17) rfl ?_); refine goesL_ (some 58) rfl rfl Try.func17 (by kernel_rfl) rfl #[.string t525, .string t526, .int .i64 (wrap64 (t527 + 1))] rfl (by (try simp only [List.map_toArray, List.map_cons, List.map_nil]); first | done | rfl | (simp only [List.length_drop, List.length_take]; rfl)) ?_; (with_reducible refine (impl_SolveTwo.calls kj10 t525 t526 (wrap64 (t527 + 1)) t532 false _ A14.out).mono ?_); rintro e w43 ⟨rfl, hb⟩; refine ⟨_, rfl, ?_⟩; have n0_ := aM (below_step (by repeat (first | (with_reducible first | exact HB.out | apply bA | apply bN | apply b1) | exact HB.out)) hb); clear HB; have HB := n0_; clear n0_; (try clear hb); (try clear hb2); (try clear hk); (try clear hi)) | ((with_reducible refine gate_callee (f := 19) rfl ?_); refine goesL_ (some 64) rfl rfl Try.func19 (by kernel_rfl) rfl #[.string t526, .int .i64 t527] rfl (by (try simp only [List.map_toArray, List.map_cons, List.map_nil]); first | done | rfl | (simp only [List.length_drop, List.length_take]; rfl)) ?_; (with_reducible refine (impl_SetCount.calls kj10 t526 t527 t534 t535 _ A15.out).mono ?_); rintro e w44 ⟨rfl, hb⟩; refine ⟨_, rfl, ?_⟩; have n0_ := aM (below_step (by repeat (first | (with_reducible first | exact HB.out | apply bA | apply bN | apply b1) | exact HB.out)) hb); clear HB; have HB := n0_; clear n0_; (try clear hb); (try clear hb2); (try clear hk); (try clear hi)))
         go_ret
         exact ⟨by first | rfl | (simp [errW_none, errW_some] <;> rfl) | (simp [errW_none, errW_some]; exact ⟨rfl, rfl⟩) | (simp [errW_none, errW_some]; exact ⟨rfl, rfl, rfl⟩) | (simp [*, errW_none, errW_some] <;> rfl), by repeat (first | (with_reducible first | exact HB.out | apply bA | apply bN | apply b1) | exact HB.out)⟩

/-- THE ONE PURE STATEMENT of laws_FnSolveTwo: yours. -/
def laws_FnSolveTwo.Pure : Prop := ∀ (l0 : List Int), l0.length ≤ maxLen → l0.length * 1 ≤ 140737488351232 → (∀ x ∈ l0, (Lit.int .u8 x).wf = true) → ∃ k, laws_FnSolveTwo.f k l0 = some true
theorem laws_FnSolveTwo.walk (P : laws_FnSolveTwo.Pure) (a0 : Option Addr) (len0 cap0 : Nat) (z0 : List Int) (w : World) (w0 : (a0 = none ∧ len0 = 0 ∧ cap0 = 0 ∧ z0 = []) ∨ ∃ x, a0 = some x ∧ len0 ≤ cap0 ∧ cap0 ≤ maxLen ∧ z0.length = cap0 ∧ (∀ i, i < z0.length → w.cell? (x.add i) = some (.int .u8 (z0.getD i 0))) ∧ ∀ n ∈ z0, (Lit.int .u8 n).wf = true) (y0 : len0 * 1 ≤ 140737488351232) :
  Calls Try.prog 4 #[.slice a0 len0 cap0] w fun e w' => e = .returned (.bool true) ∧ Below w.heap.size w w' := by
 obtain ⟨l0, rfl, hr0, hm0, hw0, hc0⟩ := ReadsInt.ofRowC w0
 obtain ⟨k, h⟩ := P l0 hm0 y0 hw0
 refine (laws_FnSolveTwo.calls k _ _ l0 true w (Kd.C_of_reads (d := (0 : Int)) (h1 := fun _ => rfl) hr0) hc0 h).mono ?_
 rintro e w' ⟨rfl, hd⟩
 exact ⟨rfl, hd⟩

end Go.Proofs.Ytbepcaghlekbaaa.Q

namespace Go.Proofs.Ytbepcaghlekbaaa.Q
open Go.RowKit Go.Proofs.YtbepcaghlekbaaaW.PrintWords Go.Proofs.YtbepcaghlekbaaaW.PrintLast Go.Proofs.YtbepcaghlekbaaaW.PrintMore
open Go.Proofs.Ytbepcaghlekbaaa.Pl (hasB)
set_option linter.unusedVariables false
set_option linter.unusedSimpArgs false
theorem wr {x : Int} (h0 : -9223372036854775808 ≤ x) (h1 : x ≤ 9223372036854775807) : wrap64 x = x := by unfold wrap64; omega
theorem Ev.eq {α : Type} {g f : Nat → Option α} {r : α} (h : g = f) (k : Ev f r) : Ev g r := h ▸ k
theorem Ev.end {α : Type} {g : Nat → Option α} {r : α} (h : ∀ k, g (k + 1) = some r) : Ev g r := ⟨1, fun k hk => by obtain ⟨m, rfl⟩ : ∃ m, k = m + 1 := ⟨k - 1, by omega⟩; exact h m⟩
theorem Ev.const {α : Type} {g : Nat → Option α} {r : α} (h : ∀ k, g k = some r) : Ev g r := ⟨0, fun k _ => h k⟩
theorem Ev.unique {α : Type} {g : Nat → Option α} {r q : α} (h : Ev g r) (k : Ev g q) : r = q := by
  obtain ⟨a, ha⟩ := h
  obtain ⟨b, hb⟩ := k
  have h1 := ha (max a b) (Nat.le_max_left _ _)
  rw [hb (max a b) (Nat.le_max_right _ _)] at h1
  exact (Option.some.inj h1).symm

theorem bt_list (s : ByteArray) (i : Nat) (h : i < s.size) : bt s (i : Int) = ((s.data.toList.getD i 0).toNat : Int) := by
  unfold bt
  rw [dif_pos (by simpa using h)]
  have : s.data.toList.length = s.size := Array.length_toList
  simp [List.getD, h, this]
  rfl
theorem bt_is (s : ByteArray) (i : Nat) (h : i < s.size) (c : UInt8) (n : Int) (hn : n = (c.toNat : Int)) : bt s (i : Int) = n ↔ s.data.toList.getD i 0 = c := by
  rw [bt_list s i h, hn]
  constructor
  · intro h
    exact UInt8.toNat_inj.1 (by exact_mod_cast h)
  · intro h
    rw [h]
theorem drop_getD {α : Type} (l : List α) (i : Nat) (z : α) (h : i < l.length) : l.drop i = l.getD i z :: l.drop (i + 1) := by
  rw [List.drop_eq_getElem_cons h]; simp [List.getD, h]

def okL (l : List UInt8) : Bool := l.all fun c => c == 48 || c == 49
theorem signs_l0 (s : ByteArray) (hs : s.size ≤ 1073741824) (d : Nat) : ∀ (i : Nat) (acc : List Bool), i + d = s.size → acc.length = i →
    Ev (fun k => spec_l1Signs.l0 k s acc i) (if okL (s.data.toList.drop i) then (acc ++ (s.data.toList.drop i).map (· == 49), true) else ([], false)) := by
  have hl : s.data.toList.length = s.size := Array.length_toList
  induction d with
  | zero =>
    intro i acc h1 h2
    refine Ev.end fun k => ?_
    simp only [spec_l1Signs.l0]
    rw [if_neg (by omega), List.drop_of_length_le (by omega)]
    simp [okL]
  | succ d ih =>
    intro i acc h1 h2
    rw [drop_getD _ i 0 (by omega)]
    have hb48 := bt_is s i (by omega) 48 48 rfl
    have hb49 := bt_is s i (by omega) 49 49 rfl
    have hw : wrap64 ((i : Int) + 1) = ((i + 1 : Nat) : Int) := by rw [wr (by omega) (by omega)]; omega
    by_cases c48 : s.data.toList.getD i 0 = 48
    · refine Ev.step (f := fun k => spec_l1Signs.l0 k s (acc ++ [false]) ((i + 1 : Nat) : Int)) (fun k => ?_) ?_
      · simp only [spec_l1Signs.l0]
        have e : bt s (i : Int) = 48 := hb48.2 c48
        rw [if_pos (by omega), if_pos (by omega), if_pos e, if_pos (by omega), hw, e]
        rfl
      · have := ih (i + 1) (acc ++ [false]) (by omega) (by simp [h2])
        rw [c48]
        simpa [okL] using this
    · by_cases c49 : s.data.toList.getD i 0 = 49
      · refine Ev.step (f := fun k => spec_l1Signs.l0 k s (acc ++ [true]) ((i + 1 : Nat) : Int)) (fun k => ?_) ?_
        · simp only [spec_l1Signs.l0]
          have e : bt s (i : Int) = 49 := hb49.2 c49
          rw [if_pos (by omega), if_pos (by omega), if_neg (fun h => c48 (hb48.1 h)), if_pos e, if_pos (by omega), hw]
        · have := ih (i + 1) (acc ++ [true]) (by omega) (by simp [h2])
          rw [c49]
          simpa [okL] using this
      · refine Ev.end fun k => ?_
        simp only [spec_l1Signs.l0]
        rw [if_pos (by omega), if_pos (by omega), if_neg (fun h => c48 (hb48.1 h)), if_neg (fun h => c49 (hb49.1 h))]
        rw [if_neg]
        simp only [okL, List.all_cons, Bool.and_eq_true, Bool.or_eq_true, beq_iff_eq, not_and]
        intro h
        exact absurd h (by simp only [not_or]; exact ⟨c48, c49⟩)
theorem l1Signs_ev (s : ByteArray) (hs : s.size ≤ 1073741824) : Ev (fun k => spec_l1Signs.f k s) (if okL s.data.toList then (s.data.toList.map (· == 49), true) else ([], false)) := by
  have := signs_l0 s hs s.size 0 [] (by omega) rfl
  simpa [spec_l1Signs.f] using this
theorem signs_ev (s : ByteArray) (hs : s.size ≤ 1073741824) : impl_signs.f s = some (if okL s.data.toList then (s.data.toList.map (· == 49), decide ((s.size : Int) ≤ 60)) else ([], false)) := by
  unfold impl_signs.f
  rw [if_pos (by omega)]
  unfold okL impl_signs.ok
  split <;> rfl

theorem index_cases (l : List UInt8) (c : UInt8) : (Lib.indexByte l c = -1 ∧ ∀ i, i < l.length → l.getD i 0 ≠ c) ∨ ∃ i : Nat, i < l.length ∧ Lib.indexByte l c = i ∧ l.getD i 0 = c ∧ ∀ j, j < i → l.getD j 0 ≠ c := by
  induction l with
  | nil => left; exact ⟨rfl, fun i h => absurd h (Nat.not_lt_zero i)⟩
  | cons b l ih =>
    unfold Lib.indexByte
    by_cases hb : b = c
    · right
      exact ⟨0, by simp, by simp [hb], by simp [hb], fun j h => absurd h (Nat.not_lt_zero j)⟩
    · rw [if_neg (by simpa using hb)]
      rcases ih with ⟨h1, h2⟩ | ⟨i, h1, h2, h3, h4⟩
      · left
        refine ⟨by rw [h1]; rfl, fun i hi => ?_⟩
        cases i with
        | zero => simpa using hb
        | succ i => simpa using h2 i (by simpa using hi)
      · right
        refine ⟨i + 1, by simpa using h1, ?_, by simpa using h3, fun j hj => ?_⟩
        · rw [h2, if_neg (by simp only [beq_iff_eq]; omega)]; omega
        · cases j with
          | zero => simpa using hb
          | succ j => simpa using h4 j (by omega)

structure Good (t r : List Bool) : Prop where
  pos : 0 < r.length
  tl : t.length ≤ 60
  rl : r.length ≤ 60
structure IsSet (s : ByteArray) (t r : List Bool) : Prop where
  good : Good t r
  impl : impl_setOf.f s = some (t, r, true)
  spec : Ev (fun k => spec_l1Read.f k s) (t, r, true)
structure NoSet (s : ByteArray) : Prop where
  impl : ∃ a b, impl_setOf.f s = some (a, b, false)
  spec : ∃ a b, Ev (fun k => spec_l1Read.f k s) (a, b, false)

/-- The reader comes to the first bracket, or to the end. -/
theorem read_l0 (s : ByteArray) (hs : s.size ≤ 1073741824) (a b : List Bool) {r : List Bool × List Bool × Bool} (j : Nat) (hj : j ≤ s.size) (hn : ∀ i, i < j → s.data.toList.getD i 0 ≠ 40) (hend : j < s.size → s.data.toList.getD j 0 = 40)
    (h : Ev (fun k => spec_l1Read.j1 k s j a b) r) (d : Nat) : ∀ i, i + d = j → Ev (fun k => spec_l1Read.l0 k s (i : Nat) a b) r := by
  induction d with
  | zero =>
    intro i hi
    obtain rfl : i = j := by omega
    refine Ev.step (fun k => ?_) h
    simp only [spec_l1Read.l0]
    by_cases c : i < s.size
    · rw [if_pos (by omega), if_pos (by omega), if_pos ((bt_is s i c 40 40 rfl).2 (hend c))]
    · rw [if_neg (by omega)]
  | succ d ih =>
    intro i hi
    refine Ev.step (fun k => ?_) (ih (i + 1) (by omega))
    simp only [spec_l1Read.l0]
    have hw : wrap64 ((i : Int) + 1) = ((i + 1 : Nat) : Int) := by rw [wr (by omega) (by omega)]; omega
    rw [if_pos (by omega), if_pos (by omega), if_neg (fun h => hn i (by omega) ((bt_is s i (by omega) 40 40 rfl).1 h)), hw]

theorem size_data (s : ByteArray) : s.data.toList.length = s.size := Array.length_toList
theorem ext_size (s : ByteArray) (a b : Nat) (hb : b ≤ s.size) : (s.extract a b).size = b - a := by simp; omega
theorem ext_list (s : ByteArray) (a b : Nat) : (s.extract a b).data.toList = (s.data.toList.take b).drop a := by
  simp [List.extract_eq_take_drop, List.drop_take]
theorem toList_eq (s : ByteArray) : s.toList = s.data.toList := (Lib.toList_data s).symm ▸ rfl

theorem last_eq {s : ByteArray} {i : Nat} (h : i + 1 < s.size) : ((s.extract (i + 1) s.size).extract ((s.extract (i + 1) s.size).size - 1) (s.extract (i + 1) s.size).size).toList = [s.data.toList.getD (s.size - 1) 0] := by
  rw [toList_eq, ext_list, ext_list, ext_size _ _ _ (Nat.le_refl _)]
  have hl := size_data s
  rw [List.take_of_length_le (l := s.data.toList) (by omega), List.take_of_length_le (by rw [List.length_drop]; omega), List.drop_drop, drop_getD _ _ 0 (by omega), List.drop_of_length_le (by omega)]
  congr 2
  omega
theorem ring_eq {s : ByteArray} {i : Nat} (h : i + 1 < s.size) : (s.extract (i + 1) s.size).extract 0 ((s.extract (i + 1) s.size).size - 1) = s.extract (i + 1) (s.size - 1) := by
  have : ∀ a b : ByteArray, a.data.toList = b.data.toList → a = b := fun a b h => by
    obtain ⟨⟨a⟩⟩ := a; obtain ⟨⟨b⟩⟩ := b; simp at h; simp [h]
  refine this _ _ ?_
  have hl := size_data s
  rw [ext_list, ext_list, ext_list, ext_size _ _ _ (Nat.le_refl _), List.drop_zero, List.take_of_length_le (l := s.data.toList) (by omega), List.drop_take]
  congr 1
  omega

/-- Each text is a set text for both readers, with the same tail and ring, or for none. -/
theorem read_cases (s : ByteArray) (hs : s.size ≤ 1073741824) : NoSet s ∨ ∃ t r, IsSet s t r := by
  have hl := size_data s
  have hsg := fun (x : ByteArray) (hx : x.size ≤ 1073741824) => signs_ev x hx
  rcases index_cases s.data.toList 40 with ⟨h1, h2⟩ | ⟨i, h1, h2, h3, h4⟩
  · left
    refine ⟨?_, ?_⟩
    · have hc : strings_Cut.f s ⟨#[40]⟩ = some (s, ⟨#[]⟩, false) := by
        unfold strings_Cut.f stringslite_Cut.f stringslite_Index.f
        rw [dif_pos (by rfl)]
        show ((some (Lib.indexByte s.data.toList 40)).bind _).bind _ = _
        rw [h1]
        rfl
      have hd : strings_CutSuffix.f ⟨#[]⟩ ⟨#[41]⟩ = some (⟨#[]⟩, false) := by rfl
      refine ⟨(if okL s.data.toList then (s.data.toList.map (· == 49), decide ((s.size : Int) ≤ 60)) else ([], false)).1, [], ?_⟩
      unfold impl_setOf.f
      rw [hc]; simp only [Option.bind_some]
      rw [hd]; simp only [Option.bind_some]
      rw [hsg s hs, hsg ⟨#[]⟩ (by decide)]
      simp only [Option.bind_some]
      rw [if_neg (by simp)]
      rfl
    · refine ⟨[], [false], ?_⟩
      refine read_l0 s hs [] [false] s.size (Nat.le_refl _) (fun i hi => h2 i (by omega)) (fun h => by omega) ?_ s.size 0 (by omega)
      refine Ev.step (f := fun k => spec_l1Read.j2 k s (s.size : Nat) true [] [false]) (fun k => ?_) (Ev.end fun k => ?_)
      · simp only [spec_l1Read.j1]
        rw [if_pos (by rw [wr (by omega) (by omega)]; omega)]
      · simp only [spec_l1Read.j2, if_true]
  · have hi : i < s.size := by omega
    have hc : strings_Cut.f s ⟨#[40]⟩ = some (s.extract 0 i, s.extract (i + 1) s.size, true) := by
      unfold strings_Cut.f stringslite_Cut.f stringslite_Index.f
      rw [dif_pos (by rfl)]
      show ((some (Lib.indexByte s.data.toList 40)).bind _).bind _ = _
      rw [h2]
      simp only [Option.bind_some]
      have hz : ((⟨#[40]⟩ : ByteArray).size : Int) = 1 := rfl
      rw [if_pos (by omega), if_pos (by omega), if_pos (by omega), hz, wr (by omega) (by omega), if_pos (by omega), if_pos (by omega)]
      simp only [Option.bind_some, Int.toNat_natCast]
      rw [show ((i : Int) + 1).toNat = i + 1 from by omega]
    have hz1 : (s.extract (i + 1) s.size).size = s.size - (i + 1) := ext_size _ _ _ (Nat.le_refl _)
    have h41 : ((⟨#[41]⟩ : ByteArray).size : Int) = 1 := rfl
    have hsuf : strings_CutSuffix.f (s.extract (i + 1) s.size) ⟨#[41]⟩ = some (if i + 1 < s.size ∧ s.data.toList.getD (s.size - 1) 0 = 41 then (s.extract (i + 1) (s.size - 1), true) else (s.extract (i + 1) s.size, false)) := by
      unfold strings_CutSuffix.f stringslite_CutSuffix.f stringslite_HasSuffix.f
      rw [h41]
      by_cases c : i + 1 < s.size
      · rw [if_pos (by omega), wr (by omega) (by omega), if_pos (by omega), if_pos (by omega), show (((s.extract (i + 1) s.size).size : Int) - 1).toNat = (s.extract (i + 1) s.size).size - 1 from by omega, last_eq c, ring_eq c]
        simp only [Option.bind_some]
        have hb : ([s.data.toList.getD (s.size - 1) 0] == (⟨#[41]⟩ : ByteArray).toList) = decide (s.data.toList.getD (s.size - 1) 0 = 41) := by
          rw [toList_eq, Bool.eq_iff_iff]; simp
        rw [hb]
        by_cases e : s.data.toList.getD (s.size - 1) 0 = 41
        · rw [decide_eq_true e, if_pos rfl, if_pos (by omega), if_pos (by omega), if_pos ⟨c, e⟩]; rfl
        · rw [decide_eq_false e, if_neg (by simp), if_neg (by intro h; exact e h.2)]; rfl
      · rw [if_neg (by omega)]
        simp only [Option.bind_some, Bool.false_eq_true, if_false]
        rw [if_neg (fun h => c h.1)]
    have hspec : ∀ (r : List Bool × List Bool × Bool), Ev (fun k => spec_l1Read.j1 k s i [] [false]) r → Ev (fun k => spec_l1Read.f k s) r := by
      intro r hr
      exact read_l0 s hs [] [false] i (by omega) (fun j hj => h4 j hj) (fun _ => h3) hr i 0 (by omega)
    have hnull : ∀ x : Bool, x = true → Ev (fun k => spec_l1Read.j2 k s (i : Nat) x [] [false]) (([] : List Bool), [false], false) := by
      intro x hx
      refine Ev.end fun k => ?_
      simp only [spec_l1Read.j2]
      rw [if_pos hx]
    -- for the reader's bracket at the end
    have hj1 : ∀ r, Ev (fun k => spec_l1Read.j2 k s (i : Nat) (decide (s.size ≤ i + 2) || s.data.toList.getD (s.size - 1) 0 != 41) [] [false]) r → Ev (fun k => spec_l1Read.j1 k s i [] [false]) r := by
      intro r hr
      refine Ev.step (fun k => ?_) hr
      simp only [spec_l1Read.j1]
      rw [wr (x := (i : Int) + 2) (by omega) (by omega), wr (x := (s.size : Int) - 1) (by omega) (by omega)]
      by_cases c : s.size ≤ i + 2
      · rw [if_pos (by omega)]; simp [c]
      · rw [if_neg (by omega), if_pos (by omega), if_pos (by omega)]
        rw [show (s.size : Int) - 1 = ((s.size - 1 : Nat) : Int) from by omega]
        congr 1
        simp only [c, decide_false, Bool.false_or]
        have := bt_is s (s.size - 1) (by omega) 41 41 rfl
        rw [Bool.eq_iff_iff]; simp only [bne_iff_ne, ne_eq, this]
    by_cases c : (i + 2 < s.size) ∧ s.data.toList.getD (s.size - 1) 0 = 41
    · obtain ⟨c1, c2⟩ := c
      rw [if_pos ⟨by omega, c2⟩] at hsuf
      have e1 := hsg (s.extract 0 i) (by rw [ext_size _ _ _ (by omega)]; omega)
      have e2 := hsg (s.extract (i + 1) (s.size - 1)) (by rw [ext_size _ _ _ (by omega)]; omega)
      have g1 := l1Signs_ev (s.extract 0 i) (by rw [ext_size _ _ _ (by omega)]; omega)
      have g2 := l1Signs_ev (s.extract (i + 1) (s.size - 1)) (by rw [ext_size _ _ _ (by omega)]; omega)
      have z1 : (s.extract 0 i).size = i := by rw [ext_size _ _ _ (by omega)]; omega
      have z2 : (s.extract (i + 1) (s.size - 1)).size = s.size - i - 2 := by rw [ext_size _ _ _ (by omega)]; omega
      have y1 := size_data (s.extract 0 i)
      have y2 := size_data (s.extract (i + 1) (s.size - 1))
      rw [z1] at e1 y1
      rw [z2] at e2 y2
      have himpl : impl_setOf.f s = (impl_signs.f (s.extract 0 i)).bind fun x => (impl_signs.f (s.extract (i + 1) (s.size - 1))).bind fun y => some (x.1, y.1, x.2 && y.2 && decide ((y.1.length : Int) > 0)) := by
        unfold impl_setOf.f
        rw [hc]; simp only [Option.bind_some]
        rw [hsuf]; simp only [Option.bind_some]
        congr 1; funext x; congr 1; funext y
        cases x.2 <;> cases y.2 <;> simp
      have hj2 : ∀ (x y : List Bool × Bool), Ev (fun k => spec_l1Signs.f k (s.extract 0 i)) x → Ev (fun k => spec_l1Signs.f k (s.extract (i + 1) (s.size - 1))) y →
          Ev (fun k => spec_l1Read.f k s) (if x.2 && y.2 && decide (x.1.length ≤ 60) && decide (y.1.length ≤ 60) then (x.1, y.1, true) else ([], [false], false)) := by
        intro x y hx hy
        refine hspec _ (hj1 _ ?_)
        have : (decide (s.size ≤ i + 2) || s.data.toList.getD (s.size - 1) 0 != 41) = false := by rw [c2]; simp; omega
        rw [this]
        refine Ev.step (f := fun k => (spec_l1Signs.f k (s.extract 0 i)).bind fun bt121 => (spec_l1Signs.f k (s.extract (i + 1) (s.size - 1))).bind fun bt125 => (if bt121.2 = true then (if bt125.2 = true then (if (bt121.1.length : Int) > 60 then (some (([] : List Bool), [false], false)) else (if (bt125.1.length : Int) > 60 then (some ([], [false], false)) else (some (bt121.1, bt125.1, true)))) else (some ([], [false], false))) else (some ([], [false], false)))) (fun k => ?_) ?_
        · simp only [spec_l1Read.j2]
          rw [if_neg (by simp), if_pos (by omega), if_pos (by omega), wr (x := (i : Int) + 1) (by omega) (by omega), wr (x := (s.size : Int) - 1) (by omega) (by omega)]
          simp only [if_pos (show (0 : Int) ≤ (i : Int) + 1 from by omega), if_pos (show (i : Int) + 1 ≤ (s.size : Int) - 1 from by omega), if_pos (show (s.size : Int) - 1 ≤ (s.size : Int) from by omega)]
          rw [Int.toNat_natCast, show ((i : Int) + 1).toNat = i + 1 from by omega, show ((s.size : Int) - 1).toNat = s.size - 1 from by omega]
        · refine Ev.bind hx (Ev.bind hy (Ev.const fun k => ?_))
          obtain ⟨x1, x2⟩ := x
          obtain ⟨y1, y2⟩ := y
          cases x2 <;> cases y2 <;> simp
          by_cases q1 : x1.length ≤ 60
          · by_cases q2 : y1.length ≤ 60
            · rw [if_neg (by omega), if_neg (by omega), if_pos ⟨q1, q2⟩]
            · rw [if_neg (by omega), if_pos (by omega), if_neg (by omega)]
          · rw [if_pos (by omega), if_neg (by omega)]
      have hfin := hj2 _ _ g1 g2
      rw [e1, e2] at himpl
      simp only [Option.bind_some] at himpl
      cases o1 : okL (s.extract 0 i).data.toList with
      | false => left; rw [o1] at himpl hfin; exact ⟨⟨_, _, by rw [himpl]; simp; exact ⟨rfl, rfl⟩⟩, ⟨_, _, by simpa using hfin⟩⟩
      | true =>
        cases o2 : okL (s.extract (i + 1) (s.size - 1)).data.toList with
        | false => left; rw [o1, o2] at himpl hfin; exact ⟨⟨_, _, by rw [himpl]; simp; exact ⟨rfl, rfl⟩⟩, ⟨_, _, by simpa using hfin⟩⟩
        | true =>
          rw [o1, o2] at himpl hfin
          simp only [if_true, List.length_map, Bool.and_self, Bool.true_and] at himpl hfin
          rw [y1, y2] at hfin
          rw [y2] at himpl
          by_cases q : i ≤ 60 ∧ s.size - i - 2 ≤ 60
          · right
            refine ⟨(s.extract 0 i).data.toList.map (· == 49), (s.extract (i + 1) (s.size - 1)).data.toList.map (· == 49), ⟨?_, by rw [List.length_map]; omega, by rw [List.length_map]; omega⟩, himpl.trans ?_, ?_⟩
            · rw [List.length_map]; omega
            · rw [decide_eq_true (show ((i : Nat) : Int) ≤ 60 from by omega), decide_eq_true (show (((s.size - i - 2 : Nat) : Int) ≤ 60) from by omega), decide_eq_true (show (((s.size - i - 2 : Nat) : Int) > 0) from by omega)]
              rfl
            · rw [decide_eq_true q.1, decide_eq_true q.2] at hfin
              exact hfin
          · left
            refine ⟨⟨(s.extract 0 i).data.toList.map (· == 49), (s.extract (i + 1) (s.size - 1)).data.toList.map (· == 49), himpl.trans ?_⟩, ⟨[], [false], ?_⟩⟩
            · congr 3
              by_cases q1 : i ≤ 60
              · rw [decide_eq_false (show ¬ (((s.size - i - 2 : Nat) : Int) ≤ 60) from by omega)]; simp
              · rw [decide_eq_false (show ¬ ((i : Nat) : Int) ≤ 60 from by omega)]; simp
            · by_cases q1 : i ≤ 60
              · rw [decide_eq_false (show ¬ (s.size - i - 2 ≤ 60) from by omega)] at hfin; simpa using hfin
              · rw [decide_eq_false q1] at hfin; simpa using hfin
    · left
      have hcond : (decide (s.size ≤ i + 2) || s.data.toList.getD (s.size - 1) 0 != 41) = true := by
        by_cases q : i + 2 < s.size
        · have : ¬ s.data.toList.getD (s.size - 1) 0 = 41 := fun h => c ⟨q, h⟩
          simp only [Bool.or_eq_true, bne_iff_ne, ne_eq]; exact .inr this
        · simp only [Bool.or_eq_true, decide_eq_true_eq]; exact .inl (by omega)
      refine ⟨?_, ⟨[], [false], hspec _ (hj1 _ (hnull _ hcond))⟩⟩
      have e1 := hsg (s.extract 0 i) (by rw [ext_size _ _ _ (by omega)]; omega)
      unfold impl_setOf.f
      rw [hc]; simp only [Option.bind_some]
      rw [hsuf]; simp only [Option.bind_some]
      by_cases q : i + 1 < s.size ∧ s.data.toList.getD (s.size - 1) 0 = 41
      · rw [if_pos q]
        have hem : (s.extract (i + 1) (s.size - 1)).size = 0 := by
          rw [ext_size _ _ _ (by omega)]
          by_cases q2 : i + 2 < s.size
          · exact absurd ⟨q2, q.2⟩ c
          · omega
        have e2 := hsg (s.extract (i + 1) (s.size - 1)) (by omega)
        have y2 := size_data (s.extract (i + 1) (s.size - 1))
        have hn : (s.extract (i + 1) (s.size - 1)).data.toList = [] := List.length_eq_zero_iff.1 (by omega)
        obtain ⟨p, hp⟩ : ∃ p, impl_signs.f (s.extract 0 i) = some p := ⟨_, e1⟩
        rw [hp, e2, hn]
        simp only [Option.bind_some, okL, List.all_nil, if_true, List.map_nil, List.length_nil]
        refine ⟨p.1, [], ?_⟩
        cases p.2 <;> simp
      · rw [if_neg q, e1]
        simp only [Option.bind_some]
        rw [hsg (s.extract (i + 1) s.size) (by omega)]
        simp only [Option.bind_some]
        exact ⟨_, _, rfl⟩

end Go.Proofs.Ytbepcaghlekbaaa.Q

namespace Go.Proofs.Ytbepcaghlekbaaa.Q
open Go.RowKit Go.Proofs.YtbepcaghlekbaaaW.PrintWords Go.Proofs.YtbepcaghlekbaaaW.PrintLast Go.Proofs.YtbepcaghlekbaaaW.PrintMore
open Go.Proofs.Ytbepcaghlekbaaa.Pl
set_option linter.unusedVariables false
set_option linter.unusedSimpArgs false
theorem rdOf_nat (l : List Bool) (n : Nat) : rdOf false l (n : Int) = l.getD n false := by simp [rdOf]
theorem tmod_nat (a b : Nat) : Int.tmod (a : Int) (b : Int) = ((a % b : Nat) : Int) := by
  rw [Int.tmod_eq_emod_of_nonneg (Int.natCast_nonneg a)]; exact (Int.natCast_emod a b).symm
theorem tdiv_nat (a b : Nat) : Int.tdiv (a : Int) (b : Int) = ((a / b : Nat) : Int) := by
  rw [Int.tdiv_eq_ediv_of_nonneg (Int.natCast_nonneg a)]; exact (Int.natCast_ediv a b).symm
theorem wr1 {n : Nat} (h : n ≤ 4611686018427387904) : wrap64 ((n : Int) + 1) = ((n + 1 : Nat) : Int) := by rw [wr (by omega) (by omega)]; omega

theorem set_has {t r : List Bool} (h : Good t r) (n : Nat) (hn : n ≤ 4611686018427387904) : impl_set_has.f t r n = some (hasB t r n) := by
  have h1 := h.pos
  have h2 := h.tl
  have h3 := h.rl
  unfold impl_set_has.f
  rw [if_neg (by omega)]
  by_cases c : n < t.length
  · rw [if_pos (by omega), if_pos (by omega), rdOf_nat, hasB_lt c]
  · have e : wrap64 ((n : Int) - (t.length : Int)) = ((n - t.length : Nat) : Int) := by rw [wr (by omega) (by omega)]; omega
    have hm := Nat.mod_lt (n - t.length) h1
    rw [if_neg (by omega), if_neg (by omega), e, tmod_nat, if_pos (by omega), if_pos (by omega), rdOf_nat, hasB_ge (by omega)]
theorem l1_has {t r : List Bool} (h : Good t r) (n : Nat) (hn : n ≤ 4611686018427387904) : spec_l1Has.f t r n = some (hasB t r n) := by
  have h1 := h.pos
  have h2 := h.tl
  have h3 := h.rl
  unfold spec_l1Has.f
  by_cases c : n < t.length
  · rw [if_pos (by omega), if_pos (by omega), rdOf_nat, hasB_lt c]
  · have e : wrap64 ((n : Int) - (t.length : Int)) = ((n - t.length : Nat) : Int) := by rw [wr (by omega) (by omega)]; omega
    have hm := Nat.mod_lt (n - t.length) h1
    rw [if_neg (by omega), if_neg (by omega), e, tmod_nat, if_pos (by omega), if_pos (by omega), rdOf_nat, hasB_ge (by omega)]

/-- The numbers less than n of a set. -/
def listM (f : Nat → Bool) (n : Nat) : List Int := ((List.range n).filter f).map fun (x : Nat) => (x : Int)
theorem listM_succ (f : Nat → Bool) (n : Nat) : listM f (n + 1) = if f n = true then listM f n ++ [(n : Int)] else listM f n := by
  unfold listM
  rw [List.range_succ, List.filter_append, List.map_append]
  by_cases c : f n = true <;> simp [c]
theorem listM_length_le (f : Nat → Bool) (n : Nat) : (listM f n).length ≤ n := by
  unfold listM
  rw [List.length_map]
  exact Nat.le_trans (List.length_filter_le _ _) (by simp)


theorem wrm1 {n : Nat} (h0 : 1 ≤ n) (h : n ≤ 4611686018427387904) : wrap64 ((n : Int) - 1) = ((n - 1 : Nat) : Int) := by rw [wr (by omega) (by omega)]; omega

theorem turns_l0 (r : List Bool) (hr : r.length ≤ 1073741824) (d : Nat) (hd : 1 ≤ d) (hdl : d ≤ r.length) (m : Nat) : ∀ i, i + m = r.length → (∀ j, j < i → r.getD j false = r.getD (j % d) false) →
    ∃ b : Bool, Ev (fun k => impl_turns.l0 k r d (r.length : Int) (i : Nat)) b ∧ (b = true ↔ per r d) := by
  induction m with
  | zero =>
    intro i hi hall
    refine ⟨decide (r.length % d = 0), Ev.end fun k => ?_, ?_⟩
    · simp only [impl_turns.l0]
      rw [if_neg (by omega), if_neg (by omega), ← Int.natCast_emod]
      congr 1
      rw [Bool.eq_iff_iff]
      simp only [beq_iff_eq, decide_eq_true_eq]
      omega
    · rw [decide_eq_true_eq]
      exact ⟨fun h => ⟨h, fun j hj => hall j (by omega)⟩, fun h => h.1⟩
  | succ m ih =>
    intro i hi hall
    have hm := Nat.mod_lt i (show d > 0 by omega)
    by_cases c : r.getD i false = r.getD (i % d) false
    · obtain ⟨b, h1, h2⟩ := ih (i + 1) (by omega) (fun j hj => by
        rcases Nat.lt_or_ge j i with h | h
        · exact hall j h
        · obtain rfl : j = i := by omega
          exact c)
      refine ⟨b, Ev.step (fun k => ?_) h1, h2⟩
      simp only [impl_turns.l0]
      rw [if_pos (by omega), if_pos (by omega), if_pos (by omega), if_neg (by omega), tmod_nat, if_pos (by omega), if_pos (by omega), rdOf_nat, rdOf_nat, wr1 (by omega), if_neg (by rw [c]; simp)]
    · refine ⟨false, Ev.end fun k => ?_, ?_⟩
      · simp only [impl_turns.l0]
        rw [if_pos (by omega), if_pos (by omega), if_pos (by omega), if_neg (by omega), tmod_nat, if_pos (by omega), if_pos (by omega), rdOf_nat, rdOf_nat, if_pos (by simpa using c)]
      · exact ⟨fun h => absurd h (by simp), fun h => absurd (h.2 i (by omega)) c⟩
theorem turns_ev (r : List Bool) (hr : r.length ≤ 1073741824) (d : Nat) (hd : 1 ≤ d) (hdl : d ≤ r.length) : ∃ b : Bool, Ev (fun k => impl_turns.f k r d) b ∧ (b = true ↔ per r d) :=
  turns_l0 r hr d hd hdl r.length 0 (by omega) (fun j hj => absurd hj (Nat.not_lt_zero j))

theorem rot_append {r : List Bool} : ([r.getD (r.length - 1) false] : List Bool) ++ r.take (r.length - 1) = rot r := by
  simp [rot, List.dropLast_eq_take]

/-- The tail made short. -/
theorem tidy_l1 (n : Nat) : ∀ (t r : List Bool), t.length = n → t.length ≤ 1073741824 → 0 < r.length → r.length ≤ 1073741824 → (∀ d, 1 ≤ d → d < r.length → ¬ per r d) →
    ∃ t' r', Ev (fun k => impl_set_tidy.l1 k (r.length : Int) t r) (t', r') ∧ Canon t' r' ∧ (∀ m, hasB t' r' m = hasB t r m) ∧ t'.length ≤ t.length ∧ r'.length ≤ r.length := by
  induction n with
  | zero =>
    intro t r ht _ h1 h2 h3
    refine ⟨t, r, Ev.end fun k => ?_, ⟨h1, h3, fun m hm => by omega⟩, fun m => rfl, Nat.le_refl _, Nat.le_refl _⟩
    simp only [impl_set_tidy.l1]
    rw [if_neg (by omega)]
  | succ n ih =>
    intro t r ht htl h1 h2 h3
    have e1 : wrap64 ((t.length : Int) - 1) = (n : Nat) := by rw [wrm1 (by omega) (by omega)]; omega
    by_cases c : t.getD n false = r.getD (r.length - 1) false
    · have hl : (t.take n).length = n := by rw [List.length_take]; omega
      obtain ⟨t', r', g1, g2, g3, g4, g5⟩ := ih (t.take n) (rot r) hl (by omega) (by rw [rot_length h1]; exact h1) (by rw [rot_length h1]; exact h2) (fun d hd1 hd2 hp => by rw [rot_length h1] at hd2; exact h3 d hd1 hd2 (per_rot h1 hd1 hp))
      rw [rot_length h1] at g1 g5
      refine ⟨t', r', Ev.step (fun k => ?_) g1, g2, fun m => by rw [g3, has_rot ht h1 c], by omega, g5⟩
      simp only [impl_set_tidy.l1]
      rw [if_pos (by omega), e1, if_pos (by omega), if_pos (by omega), wrm1 h1 (by omega), if_pos (by omega), if_pos (by omega), rdOf_nat, rdOf_nat, if_pos (by rw [c]; simp), if_pos (by omega)]
      simp only [Option.bind_some]
      rw [if_pos (by omega)]
      rw [if_pos (by simp; omega), Int.toNat_natCast, Int.toNat_natCast, rot_append]
    · refine ⟨t, r, Ev.end fun k => ?_, ⟨h1, h3, fun m hm => (show n = m by omega) ▸ c⟩, fun m => rfl, Nat.le_refl _, Nat.le_refl _⟩
      simp only [impl_set_tidy.l1]
      rw [if_pos (by omega), e1, if_pos (by omega), if_pos (by omega), wrm1 h1 (by omega), if_pos (by omega), if_pos (by omega), rdOf_nat, rdOf_nat, if_neg (by simpa using c)]

theorem tidy_l0 (t r : List Bool) (ht : t.length ≤ 1073741824) (h1 : 0 < r.length) (h2 : r.length ≤ 1073741824) (m : Nat) : ∀ d, d + m = r.length → 1 ≤ d → (∀ e, 1 ≤ e → e < d → ¬ per r e) →
    ∃ t' r', Ev (fun k => impl_set_tidy.l0 k (d : Nat) t r) (t', r') ∧ Canon t' r' ∧ (∀ m, hasB t' r' m = hasB t r m) ∧ t'.length ≤ t.length ∧ r'.length ≤ r.length := by
  induction m with
  | zero =>
    intro d hd hd1 hno
    obtain ⟨b, hb, hb2⟩ := turns_ev r h2 d hd1 (by omega)
    have hp : per r d := ⟨by rw [show r.length = d from by omega]; exact Nat.mod_self d, fun i hi => by rw [Nat.mod_eq_of_lt (by omega)]⟩
    have hl : (r.take d).length = d := by rw [List.length_take]; omega
    obtain ⟨t', r', g1, g2, g3, g4, g5⟩ := tidy_l1 t.length t (r.take d) rfl ht (by omega) (by omega) (fun e he1 he2 hpe => hno e he1 (by omega) (per_take hd1 he1 (by omega) hp hpe))
    rw [hl] at g1 g5
    refine ⟨t', r', ?_, g2, fun m => by rw [g3, has_take hd1 h1 hp (by omega)], g4, by omega⟩
    refine Ev.step (f := fun k => (impl_turns.f k r d).bind fun x => if x = true then impl_set_tidy.l1 k d t (r.take d) else impl_set_tidy.l0 k (wrap64 (d + 1)) t r) (fun k => ?_) ?_
    · simp only [impl_set_tidy.l0, slices_Clone_bool_bool.f]
      rw [if_pos (by omega)]
      simp only [Option.bind_some]
      rw [if_pos (by omega), if_pos (by omega), Int.toNat_natCast, if_pos (by omega)]
      simp only [Option.bind_some]
    · exact Ev.bind hb (by simp only [if_pos (hb2.2 hp)]; exact g1)
  | succ m ih =>
    intro d hd hd1 hno
    obtain ⟨b, hb, hb2⟩ := turns_ev r h2 d hd1 (by omega)
    have hl : (r.take d).length = d := by rw [List.length_take]; omega
    have key : ∃ t' r', Ev (fun k => if b = true then impl_set_tidy.l1 k d t (r.take d) else impl_set_tidy.l0 k (wrap64 ((d : Nat) + 1)) t r) (t', r') ∧ Canon t' r' ∧ (∀ m, hasB t' r' m = hasB t r m) ∧ t'.length ≤ t.length ∧ r'.length ≤ r.length := by
      by_cases c : b = true
      · have hp := hb2.1 c
        obtain ⟨t', r', g1, g2, g3, g4, g5⟩ := tidy_l1 t.length t (r.take d) rfl ht (by omega) (by omega) (fun e he1 he2 hpe => hno e he1 (by omega) (per_take hd1 he1 (by omega) hp hpe))
        rw [hl] at g1 g5
        refine ⟨t', r', ?_, g2, fun m => by rw [g3, has_take hd1 h1 hp (by omega)], g4, by omega⟩
        simp only [if_pos c]
        exact g1
      · obtain ⟨t', r', g1, g2, g3, g4, g5⟩ := ih (d + 1) (by omega) (by omega) (fun e he1 he2 hpe => by
          rcases Nat.lt_or_ge e d with h | h
          · exact hno e he1 h hpe
          · obtain rfl : e = d := by omega
            exact c (hb2.2 hpe))
        refine ⟨t', r', ?_, g2, g3, g4, g5⟩
        simp only [if_neg c]
        rw [wr1 (by omega)]
        exact g1
    obtain ⟨t', r', g1, g2⟩ := key
    refine ⟨t', r', ?_, g2⟩
    refine Ev.step (f := fun k => (impl_turns.f k r d).bind fun x => if x = true then impl_set_tidy.l1 k d t (r.take d) else impl_set_tidy.l0 k (wrap64 (d + 1)) t r) (fun k => ?_) (Ev.bind hb g1)
    simp only [impl_set_tidy.l0, slices_Clone_bool_bool.f]
    rw [if_pos (by omega)]
    simp only [Option.bind_some]
    rw [if_pos (by omega), if_pos (by omega), Int.toNat_natCast, if_pos (by omega)]
    simp only [Option.bind_some]

theorem tidy_ev {t r : List Bool} (h : Good t r) : ∃ t' r', Ev (fun k => impl_set_tidy.f k t r) (t', r') ∧ Canon t' r' ∧ (∀ m, hasB t' r' m = hasB t r m) ∧ t'.length ≤ t.length ∧ r'.length ≤ r.length := by
  have h1 := h.pos
  have h2 := h.tl
  have h3 := h.rl
  exact tidy_l0 t r (by omega) h1 (by omega) (r.length - 1) 1 (by omega) (by omega) (fun e he1 he2 => by omega)

/-- 'comes again behind d' in the reference's words. -/
theorem per_steps (r : List Bool) (d : Nat) (hd : 1 ≤ d) : (∀ i, d ≤ i → i < r.length → r.getD i false = r.getD (i - d) false) ↔ ∀ i, i < r.length → r.getD i false = r.getD (i % d) false := by
  constructor
  · intro h i
    induction i using Nat.strongRecOn with
    | _ i ih =>
      intro hi
      rcases Nat.lt_or_ge i d with c | c
      · rw [Nat.mod_eq_of_lt c]
      · rw [h i c hi, ih (i - d) (by omega) (by omega), ← Nat.mod_eq_sub_mod c]
  · intro h i h1 h2
    rw [h i h2, h (i - d) (by omega), ← Nat.mod_eq_sub_mod h1]

/-- The reference's inner loop. -/
theorem less_l1 (t r : List Bool) (hr : r.length ≤ 1073741824) (d : Nat) (hd : 1 ≤ d) (hdl : d < r.length) (g : Bool → Nat → Option (List Bool × List Bool))
    (hgt : ∀ k, g true k = (spec_l1Less.f k t (r.take d)).bind fun x => some (x.1, x.2)) (hgf : ∀ k, g false k = spec_l1Less.l0 k (r.length : Int) ((d + 1 : Nat) : Int) t r) (res : List Bool × List Bool) (m : Nat) :
    ∀ i (b : Bool), i + m = r.length → d ≤ i → (b = true ↔ r.length % d = 0 ∧ ∀ j, d ≤ j → j < i → r.getD j false = r.getD (j - d) false) →
      (∀ c : Bool, (c = true ↔ r.length % d = 0 ∧ ∀ j, d ≤ j → j < r.length → r.getD j false = r.getD (j - d) false) → Ev (g c) res) → Ev (fun k => spec_l1Less.l1 k (r.length : Int) (d : Nat) b (i : Nat) t r) res := by
  induction m with
  | zero =>
    intro i b hi hdi hb hres
    obtain rfl : i = r.length := by omega
    refine Ev.step (fun k => ?_) (hres b hb)
    simp only [spec_l1Less.l1]
    rw [if_neg (by omega)]
    cases b with
    | true => rw [if_pos rfl, if_pos (by omega), if_pos (by omega), Int.toNat_natCast, hgt]
    | false => rw [if_neg (by simp), wr1 (by omega), hgf]
  | succ m ih =>
    intro i b hi hdi hb hres
    cases b with
    | true =>
      have h1 := hb.1 rfl
      have e : wrap64 ((i : Int) - (d : Int)) = ((i - d : Nat) : Int) := by rw [wr (by omega) (by omega)]; omega
      refine Ev.step (fun k => ?_) (ih (i + 1) (r.getD i false == r.getD (i - d) false) (by omega) (by omega) ?_ hres)
      · simp only [spec_l1Less.l1, if_true]
        rw [if_pos (by omega), if_pos (by omega), if_pos (by omega), e, if_pos (by omega), if_pos (by omega), rdOf_nat, rdOf_nat, wr1 (by omega)]
      · rw [beq_iff_eq]
        constructor
        · intro c
          refine ⟨h1.1, fun j hj1 hj2 => ?_⟩
          rcases Nat.lt_or_ge j i with h | h
          · exact h1.2 j hj1 h
          · obtain rfl : j = i := by omega
            exact c
        · intro c
          exact c.2 i hdi (by omega)
    | false =>
      refine Ev.step (fun k => ?_) (hres false ⟨fun h => (by cases h), fun h => (hb.2 ⟨h.1, fun j hj1 hj2 => h.2 j hj1 (by omega)⟩)⟩)
      simp only [spec_l1Less.l1]
      rw [if_pos (by omega), if_neg (by simp), wr1 (by omega), hgf]

theorem less_ev (n : Nat) : ∀ t r : List Bool, t.length + r.length = n → t.length ≤ 1073741824 → 0 < r.length → r.length ≤ 1073741824 →
    ∃ t' r', Ev (fun k => spec_l1Less.f k t r) (t', r') ∧ Canon t' r' ∧ (∀ m, hasB t' r' m = hasB t r m) ∧ t'.length ≤ t.length ∧ r'.length ≤ r.length := by
  induction n using Nat.strongRecOn with
  | _ n ih =>
    intro t r hn ht h1 h2
    have loop : ∀ m d, d + m = r.length → 1 ≤ d → (∀ e, 1 ≤ e → e < d → ¬ per r e) → ∃ t' r', Ev (fun k => spec_l1Less.l0 k (r.length : Int) (d : Nat) t r) (t', r') ∧ Canon t' r' ∧ (∀ m, hasB t' r' m = hasB t r m) ∧ t'.length ≤ t.length ∧ r'.length ≤ r.length := by
      intro m
      induction m with
      | zero =>
        intro d hd hd1 hno
        obtain rfl : d = r.length := by omega
        by_cases ct : t.length = 0
        · refine ⟨t, r, Ev.end fun k => ?_, ⟨h1, hno, fun m hm => by omega⟩, fun m => rfl, Nat.le_refl _, Nat.le_refl _⟩
          simp only [spec_l1Less.l0]
          rw [if_neg (by omega), if_neg (by omega)]
        · obtain ⟨q, hq⟩ : ∃ q, t.length = q + 1 := ⟨t.length - 1, by omega⟩
          have e1 : wrap64 ((t.length : Int) - 1) = (q : Nat) := by rw [wrm1 (by omega) (by omega)]; omega
          by_cases c : t.getD q false = r.getD (r.length - 1) false
          · have hl : (t.take q).length = q := by rw [List.length_take]; omega
            obtain ⟨t', r', g1, g2, g3, g4, g5⟩ := ih (q + r.length) (by omega) (t.take q) (rot r) (by rw [rot_length h1, hl]) (by omega) (by rw [rot_length h1]; exact h1) (by rw [rot_length h1]; exact h2)
            rw [rot_length h1] at g5
            refine ⟨t', r', Ev.step (f := fun k => (spec_l1Less.f k (t.take q) (rot r)).bind fun x => some (x.1, x.2)) (fun k => ?_) (Ev.bind g1 (Ev.now _)), g2, fun m => by rw [g3, has_rot hq h1 c], by omega, g5⟩
            simp only [spec_l1Less.l0]
            rw [if_neg (by omega), if_pos (by omega), e1, if_pos (by omega), if_pos (by omega), wrm1 h1 (by omega), if_pos (by omega), if_pos (by omega), rdOf_nat, rdOf_nat, if_pos (by rw [c]; simp)]
            simp only [Option.bind_some]
            rw [if_pos (by omega)]
            rw [if_pos (by simp; omega), if_pos (by omega), Int.toNat_natCast, Int.toNat_natCast, rot_append]
          · refine ⟨t, r, Ev.end fun k => ?_, ⟨h1, hno, fun m hm => (show q = m by omega) ▸ c⟩, fun m => rfl, Nat.le_refl _, Nat.le_refl _⟩
            simp only [spec_l1Less.l0]
            rw [if_neg (by omega), if_pos (by omega), e1, if_pos (by omega), if_pos (by omega), wrm1 h1 (by omega), if_pos (by omega), if_pos (by omega), rdOf_nat, rdOf_nat, if_neg (by simpa using c)]
      | succ m ihm =>
        intro d hd hd1 hno
        have hl : (r.take d).length = d := by rw [List.length_take]; omega
        have hstep : ∀ res, Ev (fun k => spec_l1Less.l1 k (r.length : Int) (d : Nat) (decide (r.length % d = 0)) (d : Nat) t r) res → Ev (fun k => spec_l1Less.l0 k (r.length : Int) (d : Nat) t r) res := by
          intro res hres
          refine Ev.step (fun k => ?_) hres
          simp only [spec_l1Less.l0]
          rw [if_pos (by omega), if_neg (by omega), tmod_nat]
          congr 1
          rw [Bool.eq_iff_iff]
          simp only [beq_iff_eq, decide_eq_true_eq]
          omega
        by_cases hp : per r d
        · obtain ⟨t', r', g1, g2, g3, g4, g5⟩ := ih (t.length + d) (by omega) t (r.take d) (by rw [hl]) ht (by omega) (by omega)
          refine ⟨t', r', hstep _ ?_, g2, fun m => by rw [g3, has_take hd1 h1 hp (by omega)], g4, by omega⟩
          refine less_l1 t r h2 d hd1 (by omega) (fun b k => if b = true then (spec_l1Less.f k t (r.take d)).bind fun x => some (x.1, x.2) else spec_l1Less.l0 k (r.length : Int) ((d + 1 : Nat) : Int) t r) (fun k => if_pos rfl) (fun k => if_neg (by simp)) (t', r') m.succ d (decide (r.length % d = 0)) (by omega) (Nat.le_refl _) ?_ ?_
          · rw [decide_eq_true_eq]
            exact ⟨fun h => ⟨h, fun j a b => by omega⟩, fun h => h.1⟩
          · intro c hc
            have : c = true := hc.2 ⟨hp.1, (per_steps r d hd1).2 hp.2⟩
            subst this
            simp only [if_true]
            exact Ev.bind g1 (Ev.now _)
        · obtain ⟨t', r', g1, g2, g3, g4, g5⟩ := ihm (d + 1) (by omega) (by omega) (fun e he1 he2 hpe => by
            rcases Nat.lt_or_ge e d with h | h
            · exact hno e he1 h hpe
            · obtain rfl : e = d := by omega
              exact hp hpe)
          refine ⟨t', r', hstep _ ?_, g2, g3, g4, g5⟩
          refine less_l1 t r h2 d hd1 (by omega) (fun b k => if b = true then (spec_l1Less.f k t (r.take d)).bind fun x => some (x.1, x.2) else spec_l1Less.l0 k (r.length : Int) ((d + 1 : Nat) : Int) t r) (fun k => if_pos rfl) (fun k => if_neg (by simp)) (t', r') m.succ d (decide (r.length % d = 0)) (by omega) (Nat.le_refl _) ?_ ?_
          · rw [decide_eq_true_eq]
            exact ⟨fun h => ⟨h, fun j a b => by omega⟩, fun h => h.1⟩
          · intro c hc
            have : ¬ c = true := fun h => hp ⟨(hc.1 h).1, (per_steps r d hd1).1 (hc.1 h).2⟩
            simp only [if_neg this]
            exact g1
    obtain ⟨t', r', g1, g2⟩ := loop (r.length - 1) 1 (by omega) (by omega) (fun e he1 he2 => by omega)
    exact ⟨t', r', Ev.step (fun k => by simp only [spec_l1Less.f]; rfl) g1, g2⟩

/-- The tidy form of a set, for both. -/
structure Tidied (t r t' r' : List Bool) : Prop where
  impl : Ev (fun k => impl_set_tidy.f k t r) (t', r')
  spec : Ev (fun k => spec_l1Less.f k t r) (t', r')
  canon : Canon t' r'
  same : ∀ n, hasB t' r' n = hasB t r n
  good : Good t' r'
  tle : t'.length ≤ t.length
  rle : r'.length ≤ r.length
theorem tidied {t r : List Bool} (h : Good t r) : ∃ t' r', Tidied t r t' r' := by
  have h1 := h.pos
  have h2 := h.tl
  have h3 := h.rl
  obtain ⟨t', r', g1, g2, g3, g4, g5⟩ := tidy_ev h
  obtain ⟨t2, r2, k1, k2, k3, k4, k5⟩ := less_ev (t.length + r.length) t r rfl (by omega) h1 (by omega)
  obtain ⟨rfl, rfl⟩ := canon_unique g2 k2 (fun n => by rw [g3, k3])
  exact ⟨t', r', g1, k1, g2, g3, ⟨g2.pos, by omega, by omega⟩, g4, g5⟩


structure IsSmall (s : ByteArray) (t r : List Bool) : Prop where
  orig : ∃ t0 r0, IsSet s t0 r0 ∧ Tidied t0 r0 t r
  good : Good t r
  tl : t.length ≤ 8
  rl : r.length ≤ 8
  impl : Ev (fun k => impl_small.f k s) (t, r, true)
  spec : Ev (fun k => spec_l4Small.f k s) (t, r, true)
structure NoSmall (s : ByteArray) : Prop where
  impl : ∃ a b, Ev (fun k => impl_small.f k s) (a, b, false)
  spec : ∃ a b, Ev (fun k => spec_l4Small.f k s) (a, b, false)
theorem small_cases (s : ByteArray) (hs : s.size ≤ 1073741824) : NoSmall s ∨ ∃ t r, IsSmall s t r := by
  rcases read_cases s hs with h | ⟨t0, r0, h⟩
  · left
    obtain ⟨⟨a, b, ha⟩, ⟨a', b', hb⟩⟩ := h
    refine ⟨⟨[], [], ?_⟩, ⟨a', b', ?_⟩⟩
    · unfold impl_small.f impl_tidied.f
      rw [ha]; simp only [Option.bind_some, Bool.false_eq_true, if_false]
      exact Ev.now _
    · unfold spec_l4Small.f
      refine Ev.bind hb ?_
      simp only [Bool.false_eq_true, if_false]
      exact Ev.now _
  · obtain ⟨t, r, hT⟩ := tidied h.good
    have hi : Ev (fun k => impl_small.f k s) (t, r, decide ((t.length : Int) ≤ 8) && decide ((r.length : Int) ≤ 8)) := by
      unfold impl_small.f impl_tidied.f
      rw [h.impl]; simp only [Option.bind_some, if_true]
      refine Ev.bind (a := (t, r, true)) (Ev.bind hT.impl (Ev.now _)) (Ev.const fun k => ?_)
      rw [if_pos rfl]
      by_cases c : (t.length : Int) ≤ 8
      · rw [if_pos c, decide_eq_true c]; rfl
      · rw [if_neg c, decide_eq_false c]; rfl
    have hs : Ev (fun k => spec_l4Small.f k s) (t, r, decide ((t.length : Int) ≤ 8) && decide ((r.length : Int) ≤ 8)) := by
      unfold spec_l4Small.f
      refine Ev.bind h.spec ?_
      simp only [if_true]
      refine Ev.bind hT.spec (Ev.const fun k => ?_)
      by_cases c : (t.length : Int) ≤ 8
      · rw [if_pos c, decide_eq_true c]; rfl
      · rw [if_neg c, decide_eq_false c]; rfl
    by_cases c : t.length ≤ 8 ∧ r.length ≤ 8
    · right
      rw [decide_eq_true (by omega), decide_eq_true (by omega)] at hi hs
      exact ⟨t, r, ⟨t0, r0, h, hT⟩, hT.good, c.1, c.2, hi, hs⟩
    · left
      have : (decide ((t.length : Int) ≤ 8) && decide ((r.length : Int) ≤ 8)) = false := by
        by_cases c1 : t.length ≤ 8
        · rw [decide_eq_false (show ¬ (r.length : Int) ≤ 8 by omega), Bool.and_false]
        · rw [decide_eq_false (show ¬ (t.length : Int) ≤ 8 by omega), Bool.false_and]
      rw [this] at hi hs
      exact ⟨⟨t, r, hi⟩, ⟨t, r, hs⟩⟩
theorem IsSmall.has {s : ByteArray} {t r : List Bool} (h : IsSmall s t r) : ∃ t0 r0, IsSet s t0 r0 ∧ ∀ n, hasB t0 r0 n = hasB t r n := by
  obtain ⟨t0, r0, h1, h2⟩ := h.orig
  exact ⟨t0, r0, h1, fun n => (h2.same n).symm⟩

theorem getD_set_self (l : List Bool) (i : Nat) (v : Bool) (h : i < l.length) : (l.set i v).getD i false = v := by simp [List.getD, h]
theorem getD_set_ne (l : List Bool) {i j : Nat} (v : Bool) (h : i ≠ j) : (l.set i v).getD j false = l.getD j false := by simp [List.getD, h]
theorem in_eq' (a b c : Int) : impl_in.f a b c = some (decide (b ≤ a ∧ a ≤ c)) := by
  unfold impl_in.f
  by_cases h : b ≤ a
  · rw [if_pos h]; simp [h]
  · rw [if_neg (by omega), decide_eq_false (by omega)]
theorem l6In_eq' (a b c : Int) : spec_l6In.f a b c = some (decide (b ≤ a ∧ a ≤ c)) := by
  unfold spec_l6In.f
  by_cases h : b ≤ a
  · rw [if_pos h]; simp [h]
  · rw [if_neg (by omega), decide_eq_false (by omega)]


theorem wrs {a b : Nat} (h : b ≤ a) (ha : a ≤ 4611686018427387904) : wrap64 ((a : Int) - (b : Int)) = ((a - b : Nat) : Int) := by rw [wr (by omega) (by omega)]; omega

theorem star_l1 {t r : List Bool} (h : Good t r) (m : Nat) (hm : m ≤ 1000000) (i : Nat) (hi : i < m) (P : List Bool → Prop)
    (hend : ∀ l, l.length = m → (∀ j, j < i + 1 → l.getD j false = star (hasB t r) j) → ∃ l', Ev (fun k => impl_star.l0 k l m ((i + 1 : Nat) : Int) t r) l' ∧ P l') (d : Nat) :
    ∀ (q : Nat) (l : List Bool), q + d = i + 1 → 1 ≤ q → l.length = m → (∀ j, j < i → l.getD j false = star (hasB t r) j) → (l.getD i false = true → star (hasB t r) i = true) → (l.getD i false = false → 1 ≤ i ∧ ∀ y, 1 ≤ y → y < q → ¬ (hasB t r y = true ∧ star (hasB t r) (i - y) = true)) →
      ∃ l', Ev (fun k => impl_star.l1 k l (i : Nat) (q : Nat) m (i : Nat) t r) l' ∧ P l' := by
  have fin : ∀ l : List Bool, l.length = m → (∀ j, j < i → l.getD j false = star (hasB t r) j) → l.getD i false = star (hasB t r) i → ∃ l', Ev (fun k => impl_star.l0 k l m ((i + 1 : Nat) : Int) t r) l' ∧ P l' := by
    intro l hl ha hb
    refine hend l hl fun j hj => ?_
    rcases Nat.lt_or_ge j i with c | c
    · exact ha j c
    · obtain rfl : j = i := by omega
      exact hb
  induction d with
  | zero =>
    intro q l hq h1 hl ha hb hc
    have hb' : l.getD i false = star (hasB t r) i := by
      cases e : l.getD i false with
      | true => exact (hb e).symm
      | false =>
        obtain ⟨g1, g2⟩ := hc e
        cases es : star (hasB t r) i with
        | false => rfl
        | true =>
          obtain ⟨y, p1, p2, p3, p4⟩ := (star_iff _ g1).1 es
          exact absurd ⟨p3, p4⟩ (g2 y p1 (by omega))
    obtain ⟨l', k1, k2⟩ := fin l hl ha hb'
    refine ⟨l', Ev.step (fun k => ?_) k1, k2⟩
    simp only [impl_star.l1]
    rw [if_neg (by omega), wr1 (by omega)]
  | succ d ih =>
    intro q l hq h1 hl ha hb hc
    cases e : l.getD i false with
    | true =>
      obtain ⟨l', k1, k2⟩ := fin l hl ha (by rw [e, hb e])
      refine ⟨l', Ev.step (fun k => ?_) k1, k2⟩
      simp only [impl_star.l1]
      rw [if_pos (by omega), if_pos (by omega), if_pos (by omega), rdOf_nat, if_pos e, wr1 (by omega)]
    | false =>
      obtain ⟨g1, g2⟩ := hc e
      have nx : ∀ v : Bool, (v = true ↔ hasB t r q = true ∧ star (hasB t r) (i - q) = true) → ∃ l', Ev (fun k => impl_star.l1 k (l.set i v) (i : Nat) ((q + 1 : Nat) : Int) m (i : Nat) t r) l' ∧ P l' := by
        intro v hv
        refine ih (q + 1) (l.set i v) (by omega) (by omega) (by rw [List.length_set, hl]) (fun j hj => by rw [getD_set_ne _ _ (by omega)]; exact ha j hj) ?_ ?_
        · rw [getD_set_self _ _ _ (by omega)]
          intro hv1
          obtain ⟨p1, p2⟩ := hv.1 hv1
          exact (star_iff _ g1).2 ⟨q, h1, by omega, p1, p2⟩
        · rw [getD_set_self _ _ _ (by omega)]
          intro hv1
          refine ⟨g1, fun y a b => ?_⟩
          rcases Nat.lt_or_ge y q with c | c
          · exact g2 y a c
          · obtain rfl : y = q := by omega
            intro hx
            rw [hv.2 hx] at hv1
            cases hv1
      by_cases c : hasB t r q = true
      · obtain ⟨l', k1, k2⟩ := nx (l.getD (i - q) false) (by rw [ha (i - q) (by omega)]; exact ⟨fun h => ⟨c, h⟩, fun h => h.2⟩)
        refine ⟨l', Ev.step (fun k => ?_) k1, k2⟩
        simp only [impl_star.l1]
        rw [if_pos (by omega), if_pos (by omega), if_pos (by omega), rdOf_nat, if_neg (by rw [e]; simp), set_has h q (by omega)]
        simp only [Option.bind_some]
        rw [if_pos c, wrs (by omega) (by omega), if_pos (by omega), if_pos (by omega), rdOf_nat, wr1 (by omega), Int.toNat_natCast]
      · obtain ⟨l', k1, k2⟩ := nx false (by simp [c])
        refine ⟨l', Ev.step (fun k => ?_) k1, k2⟩
        simp only [impl_star.l1]
        rw [if_pos (by omega), if_pos (by omega), if_pos (by omega), rdOf_nat, if_neg (by rw [e]; simp), set_has h q (by omega)]
        simp only [Option.bind_some]
        rw [if_neg c, wr1 (by omega), Int.toNat_natCast]
/-- A list that tells f up to its length. -/
structure Tells (l : List Bool) (f : Nat → Bool) (m : Nat) : Prop where
  len : l.length = m
  get : ∀ j, j < m → l.getD j false = f j
theorem star_l0 {t r : List Bool} (h : Good t r) (m : Nat) (hm : m ≤ 1000000) (d : Nat) : ∀ (i : Nat) (l : List Bool), i + d = m → l.length = m → (∀ j, j < i → l.getD j false = star (hasB t r) j) → ∃ l', Ev (fun k => impl_star.l0 k l m (i : Nat) t r) l' ∧ Tells l' (star (hasB t r)) m := by
  induction d with
  | zero =>
    intro i l hi hl ha
    obtain rfl : i = m := by omega
    refine ⟨l, Ev.end fun k => ?_, hl, ha⟩
    simp only [impl_star.l0]
    rw [if_neg (by omega)]
  | succ d ih =>
    intro i l hi hl ha
    obtain ⟨l', k1, k2⟩ := star_l1 h m hm i (by omega) (fun l' => Tells l' (star (hasB t r)) m) (fun l hl ha => ih (i + 1) l (by omega) hl ha) i 1 (l.set i (decide (i = 0))) (by omega) (by omega) (by rw [List.length_set, hl]) (fun j hj => by rw [getD_set_ne _ _ (by omega)]; exact ha j hj)
      (by rw [getD_set_self _ _ _ (by omega)]; intro h0; have := of_decide_eq_true h0; subst this; exact star_zero _)
      (by rw [getD_set_self _ _ _ (by omega)]; intro h0; have := of_decide_eq_false h0; exact ⟨by omega, fun y a b => by omega⟩)
    refine ⟨l', Ev.step (fun k => ?_) k1, k2⟩
    simp only [impl_star.l0]
    rw [if_pos (by omega), if_pos (by omega), if_pos (by omega), Int.toNat_natCast]
    congr 2
    rw [Bool.eq_iff_iff, beq_iff_eq, decide_eq_true_eq]; omega
theorem star_ev {t r : List Bool} (h : Good t r) (m : Nat) (hm : m ≤ 1000000) : ∃ l, Ev (fun k => impl_star.f k t r m) l ∧ Tells l (star (hasB t r)) m := by
  obtain ⟨l, k1, k2⟩ := star_l0 h m hm m 0 (List.replicate m false) (by omega) (List.length_replicate ..) (fun j hj => absurd hj (Nat.not_lt_zero j))
  refine ⟨l, ?_, k2⟩
  unfold impl_star.f
  simp only [if_pos (show (0 : Int) ≤ (m : Int) by omega), Int.toNat_natCast, if_pos (show m ≤ 281474976710656 by omega), Option.bind_some, List.length_replicate]
  exact k1

theorem solved_l1 {ta ra tb rb : List Bool} (hb : Good tb rb) (m : Nat) (hm : m ≤ 1000000) (st : List Bool) (hst : Tells st (star (hasB ta ra)) m) (i : Nat) (hi : i < m) (P : List Bool → Prop)
    (hend : ∀ l, l.length = m → (∀ j, j < i + 1 → l.getD j false = lst (hasB ta ra) (hasB tb rb) j) → (∀ j, i < j → l.getD j false = false) → ∃ l', Ev (fun k => impl_solved.l0 k st l m ((i + 1 : Nat) : Int) tb rb) l' ∧ P l') (d : Nat) :
    ∀ (q : Nat) (l : List Bool), q + d = i + 1 → l.length = m → (∀ j, j < i → l.getD j false = lst (hasB ta ra) (hasB tb rb) j) → (∀ j, i < j → l.getD j false = false) → (l.getD i false = true → lst (hasB ta ra) (hasB tb rb) i = true) → (l.getD i false = false → ∀ y, y < q → ¬ (star (hasB ta ra) y = true ∧ hasB tb rb (i - y) = true)) →
      ∃ l', Ev (fun k => impl_solved.l1 k st l (i : Nat) (q : Nat) m (i : Nat) tb rb) l' ∧ P l' := by
  have fin : ∀ l : List Bool, l.length = m → (∀ j, j < i → l.getD j false = lst (hasB ta ra) (hasB tb rb) j) → (∀ j, i < j → l.getD j false = false) → l.getD i false = lst (hasB ta ra) (hasB tb rb) i → ∃ l', Ev (fun k => impl_solved.l0 k st l m ((i + 1 : Nat) : Int) tb rb) l' ∧ P l' := by
    intro l hl ha hz hb
    refine hend l hl (fun j hj => ?_) hz
    rcases Nat.lt_or_ge j i with c | c
    · exact ha j c
    · obtain rfl : j = i := by omega
      exact hb
  have sl := hst.len
  induction d with
  | zero =>
    intro q l hq hl ha hz hb1 hc
    have hb' : l.getD i false = lst (hasB ta ra) (hasB tb rb) i := by
      cases e : l.getD i false with
      | true => exact (hb1 e).symm
      | false =>
        have g2 := hc e
        cases es : lst (hasB ta ra) (hasB tb rb) i with
        | false => rfl
        | true =>
          obtain ⟨y, p1, p2, p3⟩ := (sumB_iff _ _ _).1 es
          exact absurd ⟨p2, p3⟩ (g2 y (by omega))
    obtain ⟨l', k1, k2⟩ := fin l hl ha hz hb'
    refine ⟨l', Ev.step (fun k => ?_) k1, k2⟩
    simp only [impl_solved.l1]
    rw [if_neg (by omega), wr1 (by omega)]
  | succ d ih =>
    intro q l hq hl ha hz hb1 hc
    cases e : l.getD i false with
    | true =>
      obtain ⟨l', k1, k2⟩ := fin l hl ha hz (by rw [e, hb1 e])
      refine ⟨l', Ev.step (fun k => ?_) k1, k2⟩
      simp only [impl_solved.l1]
      rw [if_pos (by omega), if_pos (by omega), if_pos (by omega), rdOf_nat, if_pos e, wr1 (by omega)]
    | false =>
      have g2 := hc e
      have nx : ∀ v : Bool, (v = true ↔ star (hasB ta ra) q = true ∧ hasB tb rb (i - q) = true) → ∃ l', Ev (fun k => impl_solved.l1 k st (l.set i v) (i : Nat) ((q + 1 : Nat) : Int) m (i : Nat) tb rb) l' ∧ P l' := by
        intro v hv
        refine ih (q + 1) (l.set i v) (by omega) (by rw [List.length_set, hl]) (fun j hj => by rw [getD_set_ne _ _ (by omega)]; exact ha j hj) (fun j hj => by rw [getD_set_ne _ _ (by omega)]; exact hz j hj) ?_ ?_
        · rw [getD_set_self _ _ _ (by omega)]
          intro hv1
          obtain ⟨p1, p2⟩ := hv.1 hv1
          exact (sumB_iff _ _ _).2 ⟨q, by omega, p1, p2⟩
        · rw [getD_set_self _ _ _ (by omega)]
          intro hv1 y b
          rcases Nat.lt_or_ge y q with c | c
          · exact g2 y c
          · obtain rfl : y = q := by omega
            intro hx
            rw [hv.2 hx] at hv1
            cases hv1
      have hq2 := hst.get q (by omega)
      by_cases c : st.getD q false = true
      · obtain ⟨l', k1, k2⟩ := nx (hasB tb rb (i - q)) ⟨fun h => ⟨by rw [← hq2]; exact c, h⟩, fun h => h.2⟩
        refine ⟨l', Ev.step (fun k => ?_) k1, k2⟩
        simp only [impl_solved.l1]
        rw [if_pos (by omega), if_pos (by omega), if_pos (by omega), rdOf_nat, if_neg (by rw [e]; simp), if_pos (by omega), if_pos (by omega), rdOf_nat, if_pos c, wrs (by omega) (by omega), set_has hb (i - q) (by omega)]
        simp only [Option.bind_some]
        rw [wr1 (by omega), Int.toNat_natCast]
      · obtain ⟨l', k1, k2⟩ := nx false ⟨fun h => absurd h (by simp), fun h => absurd (by rw [hq2]; exact h.1) c⟩
        refine ⟨l', Ev.step (fun k => ?_) k1, k2⟩
        simp only [impl_solved.l1]
        rw [if_pos (by omega), if_pos (by omega), if_pos (by omega), rdOf_nat, if_neg (by rw [e]; simp), if_pos (by omega), if_pos (by omega), rdOf_nat, if_neg c, wr1 (by omega), Int.toNat_natCast]
theorem solved_l0 {ta ra tb rb : List Bool} (hb : Good tb rb) (m : Nat) (hm : m ≤ 1000000) (st : List Bool) (hst : Tells st (star (hasB ta ra)) m) (d : Nat) : ∀ (i : Nat) (l : List Bool), i + d = m → l.length = m → (∀ j, j < i → l.getD j false = lst (hasB ta ra) (hasB tb rb) j) → (∀ j, i ≤ j → l.getD j false = false) → ∃ l', Ev (fun k => impl_solved.l0 k st l m (i : Nat) tb rb) l' ∧ Tells l' (lst (hasB ta ra) (hasB tb rb)) m := by
  induction d with
  | zero =>
    intro i l hi hl ha _
    obtain rfl : i = m := by omega
    refine ⟨l, Ev.end fun k => ?_, hl, ha⟩
    simp only [impl_solved.l0]
    rw [if_neg (by omega)]
  | succ d ih =>
    intro i l hi hl ha hf
    obtain ⟨l', k1, k2⟩ := solved_l1 hb m hm st hst i (by omega) (fun l' => Tells l' (lst (hasB ta ra) (hasB tb rb)) m) (fun l hl ha hz => ih (i + 1) l (by omega) hl ha (fun j hj => hz j (by omega))) (i + 1) 0 l (by omega) hl ha (fun j hj => hf j (by omega)) (fun h => by rw [hf i (Nat.le_refl _)] at h; cases h) (fun _ y hy => by omega)
    refine ⟨l', Ev.step (fun k => ?_) k1, k2⟩
    simp only [impl_solved.l0]
    rw [if_pos (by omega)]
    rfl
theorem solved_ev {ta ra tb rb : List Bool} (ha : Good ta ra) (hb : Good tb rb) (m : Nat) (hm : m ≤ 1000000) : ∃ l, Ev (fun k => impl_solved.f k ta ra tb rb m) l ∧ Tells l (lst (hasB ta ra) (hasB tb rb)) m := by
  obtain ⟨st, s1, s2⟩ := star_ev ha m hm
  obtain ⟨l, k1, k2⟩ := solved_l0 hb m hm st s2 m 0 (List.replicate m false) (by omega) (List.length_replicate ..) (fun j hj => absurd hj (Nat.not_lt_zero j)) (fun j _ => by simp only [List.getD, List.getElem?_replicate]; split <;> rfl)
  refine ⟨l, ?_, k2⟩
  unfold impl_solved.f
  refine Ev.bind s1 ?_
  simp only [if_pos (show (0 : Int) ≤ (m : Int) by omega), Int.toNat_natCast, if_pos (show m ≤ 281474976710656 by omega), Option.bind_some, List.length_replicate]
  exact k1

theorem two_yes {s u : ByteArray} {ta ra tb rb : List Bool} (h : IsSmall s ta ra) (h2 : IsSmall u tb rb) : Ev (fun k => impl_two.f k s u) (ta, ra, tb, rb, true) := by
  unfold impl_two.f
  exact Ev.bind h.impl (Ev.bind h2.impl (Ev.now _))
theorem two_no {s u : ByteArray} (hs : NoSmall s ∨ ∃ t r, IsSmall s t r) (hu : NoSmall u ∨ ∃ t r, IsSmall u t r) (h : NoSmall s ∨ NoSmall u) : ∃ a b c d, Ev (fun k => impl_two.f k s u) (a, b, c, d, false) := by
  unfold impl_two.f
  rcases hs with hs | ⟨t, r, hs⟩
  · obtain ⟨a, b, ha⟩ := hs.impl
    rcases hu with hu | ⟨t2, r2, hu⟩
    · obtain ⟨c, d, hc⟩ := hu.impl
      exact ⟨a, b, c, d, Ev.bind ha (Ev.bind hc (Ev.now _))⟩
    · exact ⟨a, b, t2, r2, Ev.bind ha (Ev.bind hu.impl (Ev.now _))⟩
  · rcases h with h | h
    · obtain ⟨a, b, ha⟩ := h.impl
      have := Ev.unique ha hs.impl
      simp at this
    · obtain ⟨c, d, hc⟩ := h.impl
      exact ⟨t, r, c, d, Ev.bind hs.impl (Ev.bind hc (Ev.now _))⟩
end Go.Proofs.Ytbepcaghlekbaaa.Q
