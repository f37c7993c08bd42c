/- The program's DenseLess returns what the reference's returns, for all arguments; no condition beyond the statement's own. -/
import Derived.Test.YtbgapjgfocdjoaaCFnExactDenseLess1
import Derived.Test.YtbgapjgfocdjoaaCFnExactDenseLess5
import Derived.Test.YtbgapjgfocdjoaaCFnExactDenseLess6
namespace Go.Proofs.Ytbgapjgfocdjoaa.Q
open Go.RowKit Go.Proofs.YtbgapjgfocdjoaaW.PrintWords Go.Proofs.YtbgapjgfocdjoaaW.PrintLast Go.Proofs.YtbgapjgfocdjoaaW.PrintMore
attribute [local go_sem] max2_int min2_int max_two min_two max_three min_three max_four min_four   -- for this text's walks alone
set_option linter.unusedVariables false
set_option linter.unusedSimpArgs false

def impl_DenseOf.f (k : Nat) (a0 : ByteArray) : Option (Int × Int × Bool) := (impl_tidied.f k a0).bind fun bt324 => (if bt324.2.2 = true then ((impl_set_ones.f k bt324.1 bt324.2.1).bind fun t332 => ((impl_gcd.f k t332 (bt324.2.1.length : Int)).bind fun t333 => ((impl_set_ones.f k bt324.1 bt324.2.1).bind fun t334 => (if t333 = 0 then (none) else (some (wrap64 (Int.tdiv t334 t333), wrap64 ((bt324.2.1.length : Int) / t333), true)))))) else (some (0, 0, false)))
theorem impl_DenseOf.mono : ∀ a0 k, LeO (impl_DenseOf.f k a0) (impl_DenseOf.f (k + 1) a0) := by
  intro a0 k
  unfold impl_DenseOf.f
  repeat' first
      | (with_reducible exact impl_gcd.mono _ _ _)
      | (with_reducible exact impl_set_ones.mono _ _ _)
      | (with_reducible exact impl_tidied.mono _ _)
      | (with_reducible exact LeO.refl _)
      | (with_reducible exact LeO.none _)
      | (with_reducible refine LeO.ite ?_ ?_)
      | (with_reducible refine LeO.bind ?_ (fun _ => ?_))
      | exact impl_gcd.mono _ _ _
      | exact impl_set_ones.mono _ _ _
      | exact impl_tidied.mono _ _
      | exact LeO.none _
      | refine LeO.ite ?_ ?_
      | refine LeO.bind ?_ (fun _ => ?_)
def impl_DenseOf.T5 : Bool × List (List Nat × List Nat) := (true, [([], []), ([0], [0]), ([], []), ([1, 2], [1, 2]), ([], []), ([4], [4]), ([5], [5]), ([], []), ([6, 7], [6, 7]), ([3, 1, 0, 1, 2, 3], [3]), ([8, 9, 0, 1, 2, 3, 4, 5, 6, 7, 8, 9], [8]), ([10, 0, 1, 2, 3, 4, 5, 6, 7, 8, 9, 10], [])])
def impl_DenseOf.B5 : List Nat := [0, 1, 0, 7, 0, 16, 48, 0, 240, 15, 1023, 2047]
theorem impl_DenseOf.tab5 : rtab .any (opsOf Try.f22 5) = impl_DenseOf.T5 := by kernel_rfl
theorem impl_DenseOf.bits5 : waitsOk impl_DenseOf.T5.2 impl_DenseOf.B5 = true := by kernel_rfl
set_option maxHeartbeats 8000000 in
set_option maxRecDepth 100000 in
theorem impl_DenseOf.calls (k : Nat) (a0 : ByteArray) (r1 : Int) (r2 : Int) (r3 : Bool) (w : World) (h : impl_DenseOf.f k a0 = some (r1, r2, r3)) :
    Calls Try.prog 22 #[.string a0] w fun e w' => e = .returned (.tuple #[.int .i64 r1, .int .i64 r2, .bool r3]) ∧ Below w.heap.size w w' := by
  have hu48 := Try.underlying48
  have HB := Aside0.mk (Below.refl w.heap.size w)
  have H : ((impl_tidied.f k a0).bind fun bt324 => (if bt324.2.2 = true then ((impl_set_ones.f k bt324.1 bt324.2.1).bind fun t332 => ((impl_gcd.f k t332 (bt324.2.1.length : Int)).bind fun t333 => ((impl_set_ones.f k bt324.1 bt324.2.1).bind fun t334 => (if t333 = 0 then (none) else (some (wrap64 (Int.tdiv t334 t333), wrap64 ((bt324.2.1.length : Int) / t333), true)))))) else (some (0, 0, false)))) = some (r1, r2, r3) := h
  clear h
  replace H := Option.bind_eq_some_iff.mp H
  obtain ⟨⟨t324, t327, t330⟩, A20, H⟩ := H
  replace H : (if t330 = true then ((impl_set_ones.f k t324 t327).bind fun t332 => ((impl_gcd.f k t332 (t327.length : Int)).bind fun t333 => ((impl_set_ones.f k t324 t327).bind fun t334 => (if t333 = 0 then (none) else (some (wrap64 (Int.tdiv t334 t333), wrap64 ((t327.length : Int) / t333), true)))))) else (some (0, 0, false))) = some (r1, r2, r3) := H
  have A2 := Aside0.mk A20
  clear A20
  by_cases c3 : t330 = true
  · subst c3
    have H1 : ((impl_set_ones.f k t324 t327).bind fun t332 => ((impl_gcd.f k t332 (t327.length : Int)).bind fun t333 => ((impl_set_ones.f k t324 t327).bind fun t334 => (if t333 = 0 then (none) else (some (wrap64 (Int.tdiv t334 t333), wrap64 ((t327.length : Int) / t333), true)))))) = some (r1, r2, r3) := by rw [if_pos rfl] at H; exact H
    clear H
    have H := H1
    clear H1
    replace H := Option.bind_eq_some_iff.mp H
    obtain ⟨t332, A40, H⟩ := H
    replace H : ((impl_gcd.f k t332 (t327.length : Int)).bind fun t333 => ((impl_set_ones.f k t324 t327).bind fun t334 => (if t333 = 0 then (none) else (some (wrap64 (Int.tdiv t334 t333), wrap64 ((t327.length : Int) / t333), true))))) = some (r1, r2, r3) := H
    have A4 := Aside0.mk A40
    clear A40
    replace H := Option.bind_eq_some_iff.mp H
    obtain ⟨t333, A50, H⟩ := H
    replace H : ((impl_set_ones.f k t324 t327).bind fun t334 => (if t333 = 0 then (none) else (some (wrap64 (Int.tdiv t334 t333), wrap64 ((t327.length : Int) / t333), true)))) = some (r1, r2, r3) := H
    have A5 := Aside0.mk A50
    clear A50
    replace H := Option.bind_eq_some_iff.mp H
    obtain ⟨t334, A60, H⟩ := H
    replace H : (if t333 = 0 then (none) else (some (wrap64 (Int.tdiv t334 t333), wrap64 ((t327.length : Int) / t333), true))) = some (r1, r2, r3) := H
    have A6 := Aside0.mk A60
    clear A60
    by_cases c7 : t333 = 0
    · rw [if_pos c7] at H
      exact absurd H (by simp)
    · rw [if_neg c7] at H
      have c7b0 : (t333 == 0) = false := beq_eq_false_iff_ne.mpr c7
      have c7b1 : (t333 != 0) = true := bne_iff_ne.mpr c7
      simp only [Option.some.injEq, Prod.mk.injEq] at H
      obtain ⟨rfl, rfl, rfl⟩ := H
      go_enter Try.func22, Try.ntmps22
      try go_wp2_with (first | ((with_reducible refine gate_callee (f := 45) rfl ?_); refine goesL_ (some 10) rfl rfl Try.func45 (by kernel_rfl) rfl #[.string a0] rfl (by (try simp only [List.map_toArray, List.map_cons, List.map_nil]); first | done | rfl | (simp only [List.length_drop, List.length_take]; rfl)) ?_; (with_reducible refine (impl_tidied.calls k a0 t324 t327 true _ A2.out).mono ?_); rintro e w8 ⟨v325, v328, rfl, ho0, ho1, hb⟩; refine ⟨_, rfl, ?_⟩; have n0_ := Aside0.mk (Kd.R_lower ho0 (below_size (by repeat (first | (with_reducible first | exact HB.out | apply below_alloc | apply pw_below_drewN | apply below_drew1) | exact HB.out)))); have n1_ := Aside0.mk (Kd.R_lower ho1 (below_size (by repeat (first | (with_reducible first | exact HB.out | apply below_alloc | apply pw_below_drewN | apply below_drew1) | exact HB.out)))); have n2_ := Aside0.mk (below_step (by repeat (first | (with_reducible first | exact HB.out | apply below_alloc | apply pw_below_drewN | apply below_drew1) | exact HB.out)) hb); clear HB; have HO326 := n0_; have HO329 := n1_; have HB := n2_; clear n0_ n1_ n2_; (try clear hb); (try clear hb2); (try clear hk); (try clear hi); (try clear ho0); (try clear ho1)) | ((with_reducible refine gate_dst (N := 5) rfl ?_); refine box_event ?hg (N := 5) ?hd (cs := #[.slice none 0 0, .slice none 0 0]) (t := 48) ?hr ?_; (case hd => rfl); (case hg => rfl); (case hr => first | (go_simp; done) | (go_simp; rfl)); intro gb331 hg w9 hbox hb; have n0_ := Aside0.mk (Kd.R_below (by (with_reducible repeat (first | apply Kd.R_alloc | apply Kd.R_drewN | apply Kd.R_drew)); exact HO326.out) hb); have n1_ := Aside0.mk (Kd.R_below (by (with_reducible repeat (first | apply Kd.R_alloc | apply Kd.R_drewN | apply Kd.R_drew)); exact HO329.out) hb); have n2_ := Aside0.mk (below_step (by repeat (first | (with_reducible first | exact HB.out | apply below_alloc | apply pw_below_drewN | apply below_drew1) | exact HB.out)) hb); have n3_ := Aside0.mk (hbox); have n4_ := Aside0.mk ((by rw [hg]; exact (below_size (by repeat (first | (with_reducible first | exact HB.out | apply below_alloc | apply pw_below_drewN | apply below_drew1) | exact HB.out))) : w.heap.size ≤ gb331)); have n5_ := Aside0.mk ((by rw [hg]; exact (below_size (by repeat (first | (with_reducible first | exact HB.out | apply below_alloc | apply pw_below_drewN | apply below_drew1) | exact HB.out))) : w.heap.size ≤ gb331)); clear HO326; clear HO329; clear HB; have HO326 := n0_; have HO329 := n1_; have HB := n2_; have BK331 := n3_; have GW331 := n4_; have GE331 := n5_; clear n0_ n1_ n2_ n3_ n4_ n5_; clear hb hbox hg; obtain ⟨Ao10, co10, eo10⟩ := Kd.R_slice HO326.out; subst eo10; have hcz11_0 : w9.cell? ⟨gb331, 0, none⟩ = some (.slice none 0 0) := (blk_cell BK331.out 0).trans rfl; have hcz11_1 : w9.cell? ⟨gb331, 1, none⟩ = some (.slice none 0 0) := (blk_cell BK331.out 1).trans rfl; have hfz11_0 := blk_frozen BK331.out 0; have hfz11_1 := blk_frozen BK331.out 1; obtain ⟨Ao12, co12, eo12⟩ := Kd.R_slice HO329.out; subst eo12))
      have n0_ : Aside0 (Kd.R Kd.bool 4 ((w9.setCell ⟨gb331, 0, none⟩ (.slice Ao10 t324.length co10)).setCell ⟨gb331, 1, none⟩ (.slice Ao12 t327.length co12)) w.heap.size (fun k_ => some k_ ≠ (.slice Ao12 t327.length co12 : Value).ownBlock) (.slice Ao10 t324.length co10) t324) := ⟨by (with_reducible repeat (first | apply Kd.R_alloc | apply Kd.R_drewN | apply Kd.R_drew)); exact Kd.R_mono (Kd.R_far (p := ⟨gb331, 1, none⟩) (Kd.R_far (p := ⟨gb331, 0, none⟩) (Kd.R_types HO326.out BK331.out (by decide)) (fun _ hk => hk.2) (.slice Ao10 t324.length co10)) (fun _ hk => hk.2) (.slice Ao12 t327.length co12)) (fun _ hk => hk.1)⟩
      have n1_ : Aside0 (Kd.R Kd.bool 4 ((w9.setCell ⟨gb331, 0, none⟩ (.slice Ao10 t324.length co10)).setCell ⟨gb331, 1, none⟩ (.slice Ao12 t327.length co12)) w.heap.size (fun k_ => some k_ ≠ (.slice Ao10 t324.length co10 : Value).ownBlock) (.slice Ao12 t327.length co12) t327) := ⟨by (with_reducible repeat (first | apply Kd.R_alloc | apply Kd.R_drewN | apply Kd.R_drew)); exact Kd.R_mono (Kd.R_far (p := ⟨gb331, 1, none⟩) (Kd.R_far (p := ⟨gb331, 0, none⟩) (Kd.R_types HO329.out BK331.out (by decide)) (fun _ hk => hk.2) (.slice Ao10 t324.length co10)) (fun _ hk => hk.2) (.slice Ao12 t327.length co12)) (fun _ hk => hk.1)⟩
      have n2_ : Aside0 (((w9.setCell ⟨gb331, 0, none⟩ (.slice Ao10 t324.length co10)).setCell ⟨gb331, 1, none⟩ (.slice Ao12 t327.length co12)).heap[gb331]? = some (.cells #[.slice Ao10 t324.length co10, .slice Ao12 t327.length co12] 48 (0, 0))) := ⟨by (with_reducible repeat (first | refine blk_drewN ?_ _ | refine blk_drew ?_ | refine blk_alloc ?_ _)); refine blk_put (cs := #[.slice Ao10 t324.length co10, .slice none 0 0]) ?_ 1 _ rfl; (with_reducible repeat (first | refine blk_drewN ?_ _ | refine blk_drew ?_ | refine blk_alloc ?_ _)); refine blk_put (cs := #[.slice none 0 0, .slice none 0 0]) ?_ 0 _ rfl; (with_reducible repeat (first | refine blk_drewN ?_ _ | refine blk_drew ?_ | refine blk_alloc ?_ _)); exact BK331.out⟩
      have n3_ : Aside0 (Below w.heap.size w ((w9.setCell ⟨gb331, 0, none⟩ (.slice Ao10 t324.length co10)).setCell ⟨gb331, 1, none⟩ (.slice Ao12 t327.length co12))) := ⟨by repeat (first | (with_reducible first | exact HB.out | apply below_alloc | apply pw_below_drewN | apply below_drew1 | refine below_set ?_ GE331.out) | exact HB.out)⟩
      (try clear HO326)
      (try clear HO329)
      (try clear BK331)
      (try clear HB)
      generalize ((w9.setCell ⟨gb331, 0, none⟩ (.slice Ao10 t324.length co10)).setCell ⟨gb331, 1, none⟩ (.slice Ao12 t327.length co12)) = w13 at n0_ n1_ n2_ n3_ ⊢
      have HO326 := n0_
      have HO329 := n1_
      have BK331 := n2_
      have HB := n3_
      clear n0_ n1_ n2_ n3_
      have n0_ := Aside0.mk (Kd.R_drew HO326.out)
      have n1_ := Aside0.mk (Kd.R_drew HO329.out)
      have n2_ := Aside0.mk (blk_drew BK331.out)
      have n3_ := Aside0.mk (below_drew1 HB.out)
      clear HO326
      clear HO329
      clear BK331
      clear HB
      have HO326 := n0_
      have HO329 := n1_
      have BK331 := n2_
      have HB := n3_
      clear n0_ n1_ n2_ n3_
      refine start_ (n := 7) (S := fun w' => w'.cell? ⟨gb331, 0, none⟩ = some (.slice Ao10 t324.length co10) ∧ w'.cell? ⟨gb331, 1, none⟩ = some (.slice Ao12 t327.length co12)) (ds := []) #[false, false, false, false, false, false, false] (by kernel_rfl) rfl rfl ⟨(blk_cell BK331.out 0).trans rfl, (blk_cell BK331.out 1).trans rfl⟩ (fun hHeld => ?_)
      generalize w13.drew = w14 at HO326 HO329 BK331 HB hHeld ⊢
      refine pure_ (i := 2) (N := some 17) (v := ?_) (a' := ?_) #[false, false, true, false, false, false, false] rfl rfl (by kernel_rfl) (fun _ _ _ h => h) (Or.inl ⟨by rfl, ?_⟩) ?_ ?_
      rotate_left
      · intro w'
        go_simp
        with_reducible rfl
      rotate_left
      · simp only [Act.put, List.setIfInBounds_toArray, List.set_cons_zero, List.set_cons_succ, i64_w, i32_w]
        rfl
      refine take_ (i := 0) (N := some 15) (v := ?_) (a' := ?_) #[true, false, true, false, false, false, false] rfl rfl (by kernel_rfl) (fun _ _ _ h => h) (Or.inl ⟨by rfl, ?_⟩) hHeld ?_ ?_
      rotate_left
      · rintro w' ⟨s0, s1⟩
        go_simp
        with_reducible rfl
      rotate_left
      · simp only [Act.put, List.setIfInBounds_toArray, List.set_cons_zero, List.set_cons_succ, i64_w, i32_w]
        rfl
      refine take_ (i := 3) (N := some 18) (v := ?_) (a' := ?_) #[true, false, true, true, false, false, false] rfl rfl (by kernel_rfl) (fun _ _ _ h => h) (Or.inl ⟨by rfl, ?_⟩) hHeld ?_ ?_
      rotate_left
      · rintro w' ⟨s0, s1⟩
        go_simp
        with_reducible rfl
      rotate_left
      · simp only [Act.put, List.setIfInBounds_toArray, List.set_cons_zero, List.set_cons_succ, i64_w, i32_w]
        rfl
      refine pure_ (i := 4) (N := some 19) (v := ?_) (a' := ?_) #[true, false, true, true, true, false, false] rfl rfl (by kernel_rfl) (fun _ _ _ h => h) (Or.inl ⟨by rfl, ?_⟩) ?_ ?_
      rotate_left
      · intro w'
        go_simp
        with_reducible rfl
      rotate_left
      · simp only [Act.put, List.setIfInBounds_toArray, List.set_cons_zero, List.set_cons_succ, i64_w, i32_w]
        rfl
      refine one_ (i := 1) (N := some 16) #[true, true, true, true, true, false, false] rfl rfl (by kernel_rfl) (by decide) (fun K hK => ?_)
      refine goes_ Try.func39 (by kernel_rfl) rfl #[.agg #[.slice Ao10 t324.length co10, .slice Ao12 t327.length co12]] (by rfl) rfl rfl (by (try simp only [List.map_toArray, List.map_cons, List.map_nil]); first | done | rfl | (simp only [List.length_drop, List.length_take]; rfl)) ?_
      with_reducible refine (impl_set_ones.calls k _ _ t324 _ _ t327 t332 _ ?side1 ?side2 ?side3 ?side4 A4.out).mono ?_
      (case side1 => repeat (first | exact (Kd.R_reads' HO326.out).2.2 | (with_reducible refine Kd.C_alloc ?_ _) | (with_reducible refine Kd.C_drewN ?_ _) | (with_reducible refine Kd.C_drew ?_)))
      (case side2 => exact (Kd.R_reads' HO326.out).2.1)
      (case side3 => repeat (first | exact (Kd.R_reads' HO329.out).2.2 | (with_reducible refine Kd.C_alloc ?_ _) | (with_reducible refine Kd.C_drewN ?_ _) | (with_reducible refine Kd.C_drew ?_)))
      (case side4 => exact (Kd.R_reads' HO329.out).2.1)
      rintro e w15 ⟨rfl, hb⟩
      refine ⟨_, rfl, ?_⟩
      have n0_ := Aside0.mk (Kd.R_below (by (with_reducible repeat (first | apply Kd.R_alloc | apply Kd.R_drewN | apply Kd.R_drew)); exact HO326.out) hb)
      have n1_ := Aside0.mk (Kd.R_below (by (with_reducible repeat (first | apply Kd.R_alloc | apply Kd.R_drewN | apply Kd.R_drew)); exact HO329.out) hb)
      have n2_ := Aside0.mk (blk_below (g := gb331) (o := .cells #[.slice Ao10 t324.length co10, .slice Ao12 t327.length co12] 48 (0, 0)) (by (with_reducible repeat (first | refine blk_drewN ?_ _ | refine blk_drew ?_ | refine blk_alloc ?_ _)); exact BK331.out) hb)
      have n3_ := Aside0.mk (below_step (by repeat (first | (with_reducible first | exact HB.out | apply below_alloc | apply pw_below_drewN | apply below_drew1 | refine below_set ?_ GE331.out) | exact HB.out)) hb)
      clear HO326
      clear HO329
      clear BK331
      clear HB
      have HO326 := n0_
      have HO329 := n1_
      have BK331 := n2_
      have HB := n3_
      clear n0_ n1_ n2_ n3_
      (try clear hb)
      (try clear hb2)
      (try clear hk)
      (try clear hi)
      refine hK.out _ _ ⟨(blk_cell BK331.out 0).trans rfl, (blk_cell BK331.out 1).trans rfl⟩ (fun hHeld => ?_)
      clear hK K
      refine norm_ (a' := ?_) ?_ ?_
      rotate_left
      · show Act.put _ (some 16) _ = _
        simp only [Act.put, List.setIfInBounds_toArray, List.set_cons_zero, List.set_cons_succ, i64_w, i32_w]
        rfl
      refine one_ (i := 5) (N := some 20) #[true, true, true, true, true, true, false] rfl rfl (by kernel_rfl) (by decide) (fun K hK => ?_)
      refine goes_ Try.func46 (by kernel_rfl) rfl #[.int .i64 t332, .int .i64 (t327.length : Int)] (by rfl) rfl rfl (by (try simp only [List.map_toArray, List.map_cons, List.map_nil]); first | done | rfl | (simp only [List.length_drop, List.length_take]; rfl)) ?_
      with_reducible refine (impl_gcd.calls k t332 (t327.length : Int) t333 _ A5.out).mono ?_
      rintro e w' ⟨rfl, ⟨nd, rfl⟩⟩
      refine ⟨_, rfl, ?_⟩
      refine hK.out _ _ ⟨(blk_cell BK331.out 0).trans rfl, (blk_cell BK331.out 1).trans rfl⟩ (fun hHeld => ?_)
      clear hK K
      refine norm_ (a' := ?_) ?_ ?_
      rotate_left
      · show Act.put _ (some 20) _ = _
        simp only [Act.put, List.setIfInBounds_toArray, List.set_cons_zero, List.set_cons_succ, i64_w, i32_w]
        rfl
      refine pure_ (i := 6) (N := some 7) (v := ?_) (a' := ?_) #[true, true, true, true, true, true, true] rfl rfl (by kernel_rfl) (fun _ _ _ h => h) (Or.inl ⟨by rfl, ?_⟩) ?_ ?_
      rotate_left
      · intro w'
        go_simp
        with_reducible rfl
      rotate_left
      · simp only [Act.put, List.setIfInBounds_toArray, List.set_cons_zero, List.set_cons_succ, i64_w, i32_w]
        rfl
      refine done_ (by kernel_rfl) ?_
      try go_wp2
      (try (rw [drewN_self w15]; generalize hq_ : World.drewN w15 _ = w15; have n0_ : Aside0 (Kd.R Kd.bool 4 w15 w.heap.size (fun k_ => some k_ ≠ (.slice Ao12 t327.length co12 : Value).ownBlock) (.slice Ao10 t324.length co10) t324) := ⟨by rw [← hq_]; exact (by (with_reducible repeat (first | apply Kd.R_alloc | apply Kd.R_drewN | apply Kd.R_drew)); exact HO326.out)⟩; have n1_ : Aside0 (Kd.R Kd.bool 4 w15 w.heap.size (fun k_ => some k_ ≠ (.slice Ao10 t324.length co10 : Value).ownBlock) (.slice Ao12 t327.length co12) t327) := ⟨by rw [← hq_]; exact (by (with_reducible repeat (first | apply Kd.R_alloc | apply Kd.R_drewN | apply Kd.R_drew)); exact HO329.out)⟩; have n2_ : Aside0 (w15.heap[gb331]? = some (.cells #[.slice Ao10 t324.length co10, .slice Ao12 t327.length co12] 48 (0, 0))) := ⟨by rw [← hq_]; exact (by (with_reducible repeat (first | refine blk_drewN ?_ _ | refine blk_drew ?_ | refine blk_alloc ?_ _)); exact BK331.out)⟩; have n3_ : Aside0 (Below w.heap.size w w15) := ⟨by rw [← hq_]; exact (by repeat (first | (with_reducible first | exact HB.out | apply below_alloc | apply pw_below_drewN | apply below_drew1 | refine below_set ?_ GE331.out) | exact HB.out))⟩; clear HO326 HO329 BK331 HB hq_; have HO326 := n0_; have HO329 := n1_; have BK331 := n2_; have HB := n3_; clear n0_ n1_ n2_ n3_))
      have n0_ := Aside0.mk (Kd.R_drew HO326.out)
      have n1_ := Aside0.mk (Kd.R_drew HO329.out)
      have n2_ := Aside0.mk (blk_drew BK331.out)
      have n3_ := Aside0.mk (below_drew1 HB.out)
      clear HO326
      clear HO329
      clear BK331
      clear HB
      have HO326 := n0_
      have HO329 := n1_
      have BK331 := n2_
      have HB := n3_
      clear n0_ n1_ n2_ n3_
      refine start_ (n := 12) (S := fun w' => w'.cell? ⟨gb331, 0, none⟩ = some (.slice Ao10 t324.length co10) ∧ w'.cell? ⟨gb331, 1, none⟩ = some (.slice Ao12 t327.length co12)) (ds := []) #[false, false, false, false, false, false, false, false, false, false, false, false] (by kernel_rfl) rfl rfl ⟨(blk_cell BK331.out 0).trans rfl, (blk_cell BK331.out 1).trans rfl⟩ (fun hHeld => ?_); refine with_tabW impl_DenseOf.tab5 impl_DenseOf.bits5 (fun HT_ HW_ => ?_)
      generalize w15.drew = w16 at HO326 HO329 BK331 HB hHeld ⊢
      refine pure_ (i := 2) (N := some 23) (v := ?_) (a' := ?_) #[false, false, true, false, false, false, false, false, false, false, false, false] rfl rfl (any_of HT_.out (by kernel_rfl)) (fun _ _ _ h => h) (Or.inl ⟨by rfl, ?_⟩) ?_ ?_
      rotate_left
      · intro w'
        go_simp
        with_reducible rfl
      rotate_left
      · simp only [Act.put, List.setIfInBounds_toArray, List.set_cons_zero, List.set_cons_succ, i64_w, i32_w]
        rfl
      refine pure_ (i := 4) (N := some 25) (v := ?_) (a' := ?_) #[false, false, true, false, true, false, false, false, false, false, false, false] rfl rfl (any_of HT_.out (by kernel_rfl)) (fun _ _ _ h => h) (Or.inl ⟨by rfl, ?_⟩) ?_ ?_
      rotate_left
      · intro w'
        go_simp
        with_reducible rfl
      rotate_left
      · simp only [Act.put, List.setIfInBounds_toArray, List.set_cons_zero, List.set_cons_succ, i64_w, i32_w]
        rfl
      refine pure_ (i := 7) (N := some 28) (v := ?_) (a' := ?_) #[false, false, true, false, true, false, false, true, false, false, false, false] rfl rfl (any_of HT_.out (by kernel_rfl)) (fun _ _ _ h => h) (Or.inl ⟨by rfl, ?_⟩) ?_ ?_
      rotate_left
      · intro w'
        go_simp
        with_reducible rfl
      rotate_left
      · simp only [Act.put, List.setIfInBounds_toArray, List.set_cons_zero, List.set_cons_succ, i64_w, i32_w]
        rfl
      refine take_ (i := 0) (N := some 21) (v := ?_) (a' := ?_) #[true, false, true, false, true, false, false, true, false, false, false, false] rfl rfl (take_ofW HT_.out HW_.out (by kernel_rfl)) (fun _ _ _ h => h) (Or.inl ⟨by rfl, ?_⟩) hHeld ?_ ?_
      rotate_left
      · rintro w' ⟨s0, s1⟩
        go_simp
        with_reducible rfl
      rotate_left
      · simp only [Act.put, List.setIfInBounds_toArray, List.set_cons_zero, List.set_cons_succ, i64_w, i32_w]
        rfl
      refine take_ (i := 5) (N := some 26) (v := ?_) (a' := ?_) #[true, false, true, false, true, true, false, true, false, false, false, false] rfl rfl (take_ofW HT_.out HW_.out (by kernel_rfl)) (fun _ _ _ h => h) (Or.inl ⟨by rfl, ?_⟩) hHeld ?_ ?_
      rotate_left
      · rintro w' ⟨s0, s1⟩
        go_simp
        with_reducible rfl
      rotate_left
      · simp only [Act.put, List.setIfInBounds_toArray, List.set_cons_zero, List.set_cons_succ, i64_w, i32_w]
        rfl
      refine pure_ (i := 6) (N := some 27) (v := ?_) (a' := ?_) #[true, false, true, false, true, true, true, true, false, false, false, false] rfl rfl (any_of HT_.out (by kernel_rfl)) (fun _ _ _ h => h) (Or.inl ⟨by rfl, ?_⟩) ?_ ?_
      rotate_left
      · intro w'
        go_simp
        with_reducible rfl
      rotate_left
      · simp only [Act.put, List.setIfInBounds_toArray, List.set_cons_zero, List.set_cons_succ, i64_w, i32_w]
        rfl
      refine pure_ (i := 8) (N := some 29) (v := ?_) (a' := ?_) #[true, false, true, false, true, true, true, true, true, false, false, false] rfl rfl (any_of HT_.out (by kernel_rfl)) (fun _ _ _ h => h) (Or.inl ⟨by rfl, ?_⟩) ?_ ?_
      rotate_left
      · intro w'
        go_simp
        with_reducible rfl
      rotate_left
      · simp only [Act.put, List.setIfInBounds_toArray, List.set_cons_zero, List.set_cons_succ, i64_w, i32_w]
        rfl
      refine one_ (i := 1) (N := some 22) #[true, true, true, false, true, true, true, true, true, false, false, false] rfl rfl (one_of HT_.out (by kernel_rfl)) (by decide) (fun K hK => ?_)
      refine goes_ Try.func39 (by kernel_rfl) rfl #[.agg #[.slice Ao10 t324.length co10, .slice Ao12 t327.length co12]] (by rfl) rfl rfl (by (try simp only [List.map_toArray, List.map_cons, List.map_nil]); first | done | rfl | (simp only [List.length_drop, List.length_take]; rfl)) ?_
      with_reducible refine (impl_set_ones.calls k _ _ t324 _ _ t327 t334 _ ?side1 ?side2 ?side3 ?side4 A6.out).mono ?_
      (case side1 => repeat (first | exact (Kd.R_reads' HO326.out).2.2 | (with_reducible refine Kd.C_alloc ?_ _) | (with_reducible refine Kd.C_drewN ?_ _) | (with_reducible refine Kd.C_drew ?_)))
      (case side2 => exact (Kd.R_reads' HO326.out).2.1)
      (case side3 => repeat (first | exact (Kd.R_reads' HO329.out).2.2 | (with_reducible refine Kd.C_alloc ?_ _) | (with_reducible refine Kd.C_drewN ?_ _) | (with_reducible refine Kd.C_drew ?_)))
      (case side4 => exact (Kd.R_reads' HO329.out).2.1)
      rintro e w17 ⟨rfl, hb⟩
      refine ⟨_, rfl, ?_⟩
      have n0_ := Aside0.mk (Kd.R_below (by (with_reducible repeat (first | apply Kd.R_alloc | apply Kd.R_drewN | apply Kd.R_drew)); exact HO326.out) hb)
      have n1_ := Aside0.mk (Kd.R_below (by (with_reducible repeat (first | apply Kd.R_alloc | apply Kd.R_drewN | apply Kd.R_drew)); exact HO329.out) hb)
      have n2_ := Aside0.mk (blk_below (g := gb331) (o := .cells #[.slice Ao10 t324.length co10, .slice Ao12 t327.length co12] 48 (0, 0)) (by (with_reducible repeat (first | refine blk_drewN ?_ _ | refine blk_drew ?_ | refine blk_alloc ?_ _)); exact BK331.out) hb)
      have n3_ := Aside0.mk (below_step (by repeat (first | (with_reducible first | exact HB.out | apply below_alloc | apply pw_below_drewN | apply below_drew1 | refine below_set ?_ GE331.out) | exact HB.out)) hb)
      clear HO326
      clear HO329
      clear BK331
      clear HB
      have HO326 := n0_
      have HO329 := n1_
      have BK331 := n2_
      have HB := n3_
      clear n0_ n1_ n2_ n3_
      (try clear hb)
      (try clear hb2)
      (try clear hk)
      (try clear hi)
      refine hK.out _ _ ⟨(blk_cell BK331.out 0).trans rfl, (blk_cell BK331.out 1).trans rfl⟩ (fun hHeld => ?_)
      clear hK K
      refine norm_ (a' := ?_) ?_ ?_
      rotate_left
      · show Act.put _ (some 22) _ = _
        simp only [Act.put, List.setIfInBounds_toArray, List.set_cons_zero, List.set_cons_succ, i64_w, i32_w]
        rfl
      refine pure_ (i := 3) (N := some 24) (v := ?_) (a' := ?_) #[true, true, true, true, true, true, true, true, true, false, false, false] rfl rfl (any_of HT_.out (by kernel_rfl)) (fun _ _ _ h => h) (Or.inl ⟨by rfl, ?_⟩) ?_ ?_
      rotate_left
      · intro w'
        go_simp
        with_reducible rfl
      rotate_left
      · simp only [Act.put, List.setIfInBounds_toArray, List.set_cons_zero, List.set_cons_succ, i64_w, i32_w]
        rfl
      refine pure_ (i := 9) (N := some 2) (v := ?_) (a' := ?_) #[true, true, true, true, true, true, true, true, true, true, false, false] rfl rfl (any_of HT_.out (by kernel_rfl)) (fun _ _ _ h => h) (Or.inl ⟨by rfl, ?_⟩) ?_ ?_
      rotate_left
      · intro w'
        go_simp
        with_reducible rfl
      rotate_left
      · simp only [Act.put, List.setIfInBounds_toArray, List.set_cons_zero, List.set_cons_succ, i64_w, i32_w]
        rfl
      refine pure_ (i := 10) (N := some 3) (v := ?_) (a' := ?_) #[true, true, true, true, true, true, true, true, true, true, true, false] rfl rfl (any_of HT_.out (by kernel_rfl)) (fun _ _ _ h => h) (Or.inl ⟨by rfl, ?_⟩) ?_ ?_
      rotate_left
      · intro w'
        go_simp
        with_reducible rfl
      rotate_left
      · simp only [Act.put, List.setIfInBounds_toArray, List.set_cons_zero, List.set_cons_succ, i64_w, i32_w]
        rfl
      refine pure_ (i := 11) (N := some 4) (v := ?_) (a' := ?_) #[true, true, true, true, true, true, true, true, true, true, true, true] rfl rfl (any_of HT_.out (by kernel_rfl)) (fun _ _ _ h => h) (Or.inl ⟨by rfl, ?_⟩) ?_ ?_
      rotate_left
      · intro w'
        go_simp
        with_reducible rfl
      rotate_left
      · simp only [Act.put, List.setIfInBounds_toArray, List.set_cons_zero, List.set_cons_succ, i64_w, i32_w]
        rfl
      refine done_ (done_of HT_.out (by kernel_rfl)) ?_
      try go_wp2
      go_ret3
      exact ⟨by first | rfl | (simp [errW_none, errW_some] <;> rfl) | (simp [errW_none, errW_some]; exact ⟨rfl, rfl⟩) | (simp [errW_none, errW_some]; exact ⟨rfl, rfl, rfl⟩) | (simp [*, errW_none, errW_some] <;> rfl), by repeat (first | (with_reducible first | exact HB.out | apply below_alloc | apply pw_below_drewN | apply below_drew1 | refine below_set ?_ GE331.out) | exact HB.out)⟩
  · replace c3 := Bool.eq_false_iff.mpr c3
    subst c3
    have H1 : (some (0, 0, false)) = some (r1, r2, r3) := by rw [if_neg (show ¬ (false = true) by decide)] at H; exact H
    clear H
    have H := H1
    clear H1
    simp only [Option.some.injEq, Prod.mk.injEq] at H
    obtain ⟨rfl, rfl, rfl⟩ := H
    go_enter Try.func22, Try.ntmps22
    go_wp2_with (first | ((with_reducible refine gate_callee (f := 45) rfl ?_); refine goesL_ (some 10) rfl rfl Try.func45 (by kernel_rfl) rfl #[.string a0] rfl (by (try simp only [List.map_toArray, List.map_cons, List.map_nil]); first | done | rfl | (simp only [List.length_drop, List.length_take]; rfl)) ?_; (with_reducible refine (impl_tidied.calls k a0 t324 t327 false _ A2.out).mono ?_); rintro e w18 ⟨v325, v328, rfl, ho0, ho1, hb⟩; refine ⟨_, rfl, ?_⟩; have n0_ := Aside0.mk (Kd.R_lower ho0 (below_size (by repeat (first | (with_reducible first | exact HB.out | apply below_alloc | apply pw_below_drewN | apply below_drew1) | exact HB.out)))); have n1_ := Aside0.mk (Kd.R_lower ho1 (below_size (by repeat (first | (with_reducible first | exact HB.out | apply below_alloc | apply pw_below_drewN | apply below_drew1) | exact HB.out)))); have n2_ := Aside0.mk (below_step (by repeat (first | (with_reducible first | exact HB.out | apply below_alloc | apply pw_below_drewN | apply below_drew1) | exact HB.out)) hb); clear HB; have HO326 := n0_; have HO329 := n1_; have HB := n2_; clear n0_ n1_ n2_; (try clear hb); (try clear hb2); (try clear hk); (try clear hi); (try clear ho0); (try clear ho1)) | ((with_reducible refine gate_dst (N := 5) rfl ?_); refine box_event ?hg (N := 5) ?hd (cs := #[.slice none 0 0, .slice none 0 0]) (t := 48) ?hr ?_; (case hd => rfl); (case hg => rfl); (case hr => first | (go_simp; done) | (go_simp; rfl)); intro gb331 hg w19 hbox hb; have n0_ := Aside0.mk (Kd.R_below (by (with_reducible repeat (first | apply Kd.R_alloc | apply Kd.R_drewN | apply Kd.R_drew)); exact HO326.out) hb); have n1_ := Aside0.mk (Kd.R_below (by (with_reducible repeat (first | apply Kd.R_alloc | apply Kd.R_drewN | apply Kd.R_drew)); exact HO329.out) hb); have n2_ := Aside0.mk (below_step (by repeat (first | (with_reducible first | exact HB.out | apply below_alloc | apply pw_below_drewN | apply below_drew1) | exact HB.out)) hb); have n3_ := Aside0.mk (hbox); have n4_ := Aside0.mk ((by rw [hg]; exact (below_size (by repeat (first | (with_reducible first | exact HB.out | apply below_alloc | apply pw_below_drewN | apply below_drew1) | exact HB.out))) : w.heap.size ≤ gb331)); have n5_ := Aside0.mk ((by rw [hg]; exact (below_size (by repeat (first | (with_reducible first | exact HB.out | apply below_alloc | apply pw_below_drewN | apply below_drew1) | exact HB.out))) : w.heap.size ≤ gb331)); clear HO326; clear HO329; clear HB; have HO326 := n0_; have HO329 := n1_; have HB := n2_; have BK331 := n3_; have GW331 := n4_; have GE331 := n5_; clear n0_ n1_ n2_ n3_ n4_ n5_; clear hb hbox hg; obtain ⟨Ao20, co20, eo20⟩ := Kd.R_slice HO326.out; subst eo20; have hcz21_0 : w19.cell? ⟨gb331, 0, none⟩ = some (.slice none 0 0) := (blk_cell BK331.out 0).trans rfl; have hcz21_1 : w19.cell? ⟨gb331, 1, none⟩ = some (.slice none 0 0) := (blk_cell BK331.out 1).trans rfl; have hfz21_0 := blk_frozen BK331.out 0; have hfz21_1 := blk_frozen BK331.out 1; obtain ⟨Ao22, co22, eo22⟩ := Kd.R_slice HO329.out; subst eo22))
    go_ret3
    exact ⟨by first | rfl | (simp [errW_none, errW_some] <;> rfl) | (simp [errW_none, errW_some]; exact ⟨rfl, rfl⟩) | (simp [errW_none, errW_some]; exact ⟨rfl, rfl, rfl⟩) | (simp [*, errW_none, errW_some] <;> rfl), by repeat (first | (with_reducible first | exact HB.out | apply below_alloc | apply pw_below_drewN | apply below_drew1 | refine below_set ?_ GE331.out) | exact HB.out)⟩

end Go.Proofs.Ytbgapjgfocdjoaa.Q

namespace Go.Proofs.Ytbgapjgfocdjoaa.Q
open Go.RowKit Go.Proofs.YtbgapjgfocdjoaaW.PrintWords Go.Proofs.YtbgapjgfocdjoaaW.PrintLast Go.Proofs.YtbgapjgfocdjoaaW.PrintMore
attribute [local go_sem] max2_int min2_int max_two min_two max_three min_three max_four min_four   -- for this text's walks alone
set_option linter.unusedVariables false
set_option linter.unusedSimpArgs false

def impl_DenseLess.f (k : Nat) (a0 : ByteArray) (a1 : ByteArray) : Option (Bool) := (impl_DenseOf.f k a0).bind fun bt335 => ((impl_DenseOf.f k a1).bind fun bt338 => (if bt335.2.2 = true then (if bt338.2.2 = true then (some (decide ((wrap64 (bt335.1 * bt338.2.1)) < (wrap64 (bt338.1 * bt335.2.1))))) else (some false)) else (some false)))
theorem impl_DenseLess.mono : ∀ a0 a1 k, LeO (impl_DenseLess.f k a0 a1) (impl_DenseLess.f (k + 1) a0 a1) := by
  intro a0 a1 k
  unfold impl_DenseLess.f
  repeat' first
      | (with_reducible exact impl_DenseOf.mono _ _)
      | (with_reducible exact LeO.refl _)
      | (with_reducible exact LeO.none _)
      | (with_reducible refine LeO.ite ?_ ?_)
      | (with_reducible refine LeO.bind ?_ (fun _ => ?_))
      | exact impl_DenseOf.mono _ _
      | exact LeO.none _
      | refine LeO.ite ?_ ?_
      | refine LeO.bind ?_ (fun _ => ?_)
set_option maxHeartbeats 8000000 in
set_option maxRecDepth 100000 in
theorem impl_DenseLess.calls (k : Nat) (a0 : ByteArray) (a1 : ByteArray) (r : Bool) (w : World) (h : impl_DenseLess.f k a0 a1 = some r) :
    Calls Try.prog 20 #[.string a0, .string a1] w fun e w' => e = .returned (.bool r) ∧ Below w.heap.size w w' := by
  have HB := Aside0.mk (Below.refl w.heap.size w)
  have H : ((impl_DenseOf.f k a0).bind fun bt335 => ((impl_DenseOf.f k a1).bind fun bt338 => (if bt335.2.2 = true then (if bt338.2.2 = true then (some (decide ((wrap64 (bt335.1 * bt338.2.1)) < (wrap64 (bt338.1 * bt335.2.1))))) else (some false)) else (some false)))) = some r := h
  clear h
  replace H := Option.bind_eq_some_iff.mp H
  obtain ⟨⟨t335, t336, t337⟩, A30, H⟩ := H
  replace H : ((impl_DenseOf.f k a1).bind fun bt338 => (if t337 = true then (if bt338.2.2 = true then (some (decide ((wrap64 (t335 * bt338.2.1)) < (wrap64 (bt338.1 * t336))))) else (some false)) else (some false))) = some r := H
  have A3 := Aside0.mk A30
  clear A30
  replace H := Option.bind_eq_some_iff.mp H
  obtain ⟨⟨t338, t339, t340⟩, A40, H⟩ := H
  replace H : (if t337 = true then (if t340 = true then (some (decide ((wrap64 (t335 * t339)) < (wrap64 (t338 * t336))))) else (some false)) else (some false)) = some r := H
  have A4 := Aside0.mk A40
  clear A40
  by_cases c5 : t337 = true
  · subst c5
    have H1 : (if t340 = true then (some (decide ((wrap64 (t335 * t339)) < (wrap64 (t338 * t336))))) else (some false)) = some r := by rw [if_pos rfl] at H; exact H
    clear H
    have H := H1
    clear H1
    by_cases c6 : t340 = true
    · subst c6
      have H1 : (some (decide ((wrap64 (t335 * t339)) < (wrap64 (t338 * t336))))) = some r := by rw [if_pos rfl] at H; exact H
      clear H
      have H := H1
      clear H1
      obtain rfl := Option.some.inj H
      go_enter Try.func20, Try.ntmps20
      go_wp2_with (first | ((with_reducible refine gate_callee (f := 22) rfl ?_); refine goesL_ (some 13) rfl rfl Try.func22 (by kernel_rfl) rfl #[.string a0] rfl (by (try simp only [List.map_toArray, List.map_cons, List.map_nil]); first | done | rfl | (simp only [List.length_drop, List.length_take]; rfl)) ?_; (with_reducible refine (impl_DenseOf.calls k a0 t335 t336 true _ A3.out).mono ?_); rintro e w7 ⟨rfl, hb⟩; refine ⟨_, rfl, ?_⟩; have n0_ := Aside0.mk (below_step (by repeat (first | (with_reducible first | exact HB.out | apply below_alloc | apply pw_below_drewN | apply below_drew1) | exact HB.out)) hb); clear HB; have HB := n0_; clear n0_; (try clear hb); (try clear hb2); (try clear hk); (try clear hi)) | ((with_reducible refine gate_callee (f := 22) rfl ?_); refine goesL_ (some 19) rfl rfl Try.func22 (by kernel_rfl) rfl #[.string a1] rfl (by (try simp only [List.map_toArray, List.map_cons, List.map_nil]); first | done | rfl | (simp only [List.length_drop, List.length_take]; rfl)) ?_; (with_reducible refine (impl_DenseOf.calls k a1 t338 t339 true _ A4.out).mono ?_); rintro e w8 ⟨rfl, hb⟩; refine ⟨_, rfl, ?_⟩; have n0_ := Aside0.mk (below_step (by repeat (first | (with_reducible first | exact HB.out | apply below_alloc | apply pw_below_drewN | apply below_drew1) | exact HB.out)) hb); clear HB; have HB := n0_; clear n0_; (try clear hb); (try clear hb2); (try clear hk); (try clear hi)))
      go_ret
      exact ⟨by first | rfl | (simp [errW_none, errW_some] <;> rfl) | (simp [errW_none, errW_some]; exact ⟨rfl, rfl⟩) | (simp [errW_none, errW_some]; exact ⟨rfl, rfl, rfl⟩) | (simp [*, errW_none, errW_some] <;> rfl), by repeat (first | (with_reducible first | exact HB.out | apply below_alloc | apply pw_below_drewN | apply below_drew1) | exact HB.out)⟩
    · replace c6 := Bool.eq_false_iff.mpr c6
      subst c6
      have H1 : (some false) = some r := by rw [if_neg (show ¬ (false = true) by decide)] at H; exact H
      clear H
      have H := H1
      clear H1
      obtain rfl := Option.some.inj H
      go_enter Try.func20, Try.ntmps20
      go_wp2_with (first | ((with_reducible refine gate_callee (f := 22) rfl ?_); refine goesL_ (some 13) rfl rfl Try.func22 (by kernel_rfl) rfl #[.string a0] rfl (by (try simp only [List.map_toArray, List.map_cons, List.map_nil]); first | done | rfl | (simp only [List.length_drop, List.length_take]; rfl)) ?_; (with_reducible refine (impl_DenseOf.calls k a0 t335 t336 true _ A3.out).mono ?_); rintro e w9 ⟨rfl, hb⟩; refine ⟨_, rfl, ?_⟩; have n0_ := Aside0.mk (below_step (by repeat (first | (with_reducible first | exact HB.out | apply below_alloc | apply pw_below_drewN | apply below_drew1) | exact HB.out)) hb); clear HB; have HB := n0_; clear n0_; (try clear hb); (try clear hb2); (try clear hk); (try clear hi)) | ((with_reducible refine gate_callee (f := 22) rfl ?_); refine goesL_ (some 19) rfl rfl Try.func22 (by kernel_rfl) rfl #[.string a1] rfl (by (try simp only [List.map_toArray, List.map_cons, List.map_nil]); first | done | rfl | (simp only [List.length_drop, List.length_take]; rfl)) ?_; (with_reducible refine (impl_DenseOf.calls k a1 t338 t339 false _ A4.out).mono ?_); rintro e w10 ⟨rfl, hb⟩; refine ⟨_, rfl, ?_⟩; have n0_ := Aside0.mk (below_step (by repeat (first | (with_reducible first | exact HB.out | apply below_alloc | apply pw_below_drewN | apply below_drew1) | exact HB.out)) hb); clear HB; have HB := n0_; clear n0_; (try clear hb); (try clear hb2); (try clear hk); (try clear hi)))
      go_ret
      exact ⟨by first | rfl | (simp [errW_none, errW_some] <;> rfl) | (simp [errW_none, errW_some]; exact ⟨rfl, rfl⟩) | (simp [errW_none, errW_some]; exact ⟨rfl, rfl, rfl⟩) | (simp [*, errW_none, errW_some] <;> rfl), by repeat (first | (with_reducible first | exact HB.out | apply below_alloc | apply pw_below_drewN | apply below_drew1) | exact HB.out)⟩
  · replace c5 := Bool.eq_false_iff.mpr c5
    subst c5
    have H1 : (some false) = some r := by rw [if_neg (show ¬ (false = true) by decide)] at H; exact H
    clear H
    have H := H1
    clear H1
    obtain rfl := Option.some.inj H
    go_enter Try.func20, Try.ntmps20
    go_wp2_with (first | ((with_reducible refine gate_callee (f := 22) rfl ?_); refine goesL_ (some 13) rfl rfl Try.func22 (by kernel_rfl) rfl #[.string a0] rfl (by (try simp only [List.map_toArray, List.map_cons, List.map_nil]); first | done | rfl | (simp only [List.length_drop, List.length_take]; rfl)) ?_; (with_reducible refine (impl_DenseOf.calls k a0 t335 t336 false _ A3.out).mono ?_); rintro e w11 ⟨rfl, hb⟩; refine ⟨_, rfl, ?_⟩; have n0_ := Aside0.mk (below_step (by repeat (first | (with_reducible first | exact HB.out | apply below_alloc | apply pw_below_drewN | apply below_drew1) | exact HB.out)) hb); clear HB; have HB := n0_; clear n0_; (try clear hb); (try clear hb2); (try clear hk); (try clear hi)) | ((with_reducible refine gate_callee (f := 22) rfl ?_); refine goesL_ (some 19) rfl rfl Try.func22 (by kernel_rfl) rfl #[.string a1] rfl (by (try simp only [List.map_toArray, List.map_cons, List.map_nil]); first | done | rfl | (simp only [List.length_drop, List.length_take]; rfl)) ?_; (with_reducible refine (impl_DenseOf.calls k a1 t338 t339 t340 _ A4.out).mono ?_); rintro e w12 ⟨rfl, hb⟩; refine ⟨_, rfl, ?_⟩; have n0_ := Aside0.mk (below_step (by repeat (first | (with_reducible first | exact HB.out | apply below_alloc | apply pw_below_drewN | apply below_drew1) | exact HB.out)) hb); clear HB; have HB := n0_; clear n0_; (try clear hb); (try clear hb2); (try clear hk); (try clear hi)))
    go_ret
    exact ⟨by first | rfl | (simp [errW_none, errW_some] <;> rfl) | (simp [errW_none, errW_some]; exact ⟨rfl, rfl⟩) | (simp [errW_none, errW_some]; exact ⟨rfl, rfl, rfl⟩) | (simp [*, errW_none, errW_some] <;> rfl), by repeat (first | (with_reducible first | exact HB.out | apply below_alloc | apply pw_below_drewN | apply below_drew1) | exact HB.out)⟩

end Go.Proofs.Ytbgapjgfocdjoaa.Q

namespace Go.Proofs.Ytbgapjgfocdjoaa.Q
open Go.RowKit Go.Proofs.YtbgapjgfocdjoaaW.PrintWords Go.Proofs.YtbgapjgfocdjoaaW.PrintLast Go.Proofs.YtbgapjgfocdjoaaW.PrintMore
attribute [local go_sem] max2_int min2_int max_two min_two max_three min_three max_four min_four   -- for this text's walks alone
set_option linter.unusedVariables false
set_option linter.unusedSimpArgs false

def laws_FnExactDenseLess.f (k : Nat) (a0 : ByteArray) (a1 : ByteArray) : Option (Bool) := if (a0.size : Int) > 1048576 then (some true) else (if (a1.size : Int) > 1048576 then (some true) else ((spec_DenseLess.f k a0 a1).bind fun t341 => ((impl_DenseLess.f k a0 a1).bind fun t342 => (if (t342 != t341) = true then (some false) else (some true)))))
theorem laws_FnExactDenseLess.mono : ∀ a0 a1 k, LeO (laws_FnExactDenseLess.f k a0 a1) (laws_FnExactDenseLess.f (k + 1) a0 a1) := by
  intro a0 a1 k
  unfold laws_FnExactDenseLess.f
  repeat' first
      | (with_reducible exact impl_DenseLess.mono _ _ _)
      | (with_reducible exact spec_DenseLess.mono _ _ _)
      | (with_reducible exact LeO.refl _)
      | (with_reducible exact LeO.none _)
      | (with_reducible refine LeO.ite ?_ ?_)
      | (with_reducible refine LeO.bind ?_ (fun _ => ?_))
      | exact impl_DenseLess.mono _ _ _
      | exact spec_DenseLess.mono _ _ _
      | exact LeO.none _
      | refine LeO.ite ?_ ?_
      | refine LeO.bind ?_ (fun _ => ?_)
set_option maxHeartbeats 8000000 in
set_option maxRecDepth 100000 in
theorem laws_FnExactDenseLess.calls (k : Nat) (a0 : ByteArray) (a1 : ByteArray) (r : Bool) (w : World) (h : laws_FnExactDenseLess.f k a0 a1 = some r) :
    Calls Try.prog 6 #[.string a0, .string a1] w fun e w' => e = .returned (.bool r) ∧ Below w.heap.size w w' := by
  have HB := Aside0.mk (Below.refl w.heap.size w)
  have H : (if (a0.size : Int) > 1048576 then (some true) else (if (a1.size : Int) > 1048576 then (some true) else ((spec_DenseLess.f k a0 a1).bind fun t341 => ((impl_DenseLess.f k a0 a1).bind fun t342 => (if (t342 != t341) = true then (some false) else (some true)))))) = some r := h
  clear h
  by_cases c3 : (a0.size : Int) > 1048576
  · rw [if_pos c3] at H
    have c3b0 : decide (1048576 < (a0.size : Int)) = true := decide_eq_true c3
    have c3b1 : decide (1048576 < a0.size) = true := decide_eq_true (by omega)
    clear c3
    obtain rfl := Option.some.inj H
    go_enter Try.func6, Try.ntmps6
    go_wp2
    go_ret
    exact ⟨by first | rfl | (simp [errW_none, errW_some] <;> rfl) | (simp [errW_none, errW_some]; exact ⟨rfl, rfl⟩) | (simp [errW_none, errW_some]; exact ⟨rfl, rfl, rfl⟩) | (simp [*, errW_none, errW_some] <;> rfl), by repeat (first | (with_reducible first | exact HB.out | apply below_alloc | apply pw_below_drewN | apply below_drew1) | exact HB.out)⟩
  · rw [if_neg c3] at H
    have c3b0 : decide (1048576 < (a0.size : Int)) = false := decide_eq_false c3
    have c3b1 : decide (1048576 < a0.size) = false := decide_eq_false (by omega)
    clear c3
    by_cases c4 : (a1.size : Int) > 1048576
    · rw [if_pos c4] at H
      have c4b0 : decide (1048576 < (a1.size : Int)) = true := decide_eq_true c4
      have c4b1 : decide (1048576 < a1.size) = true := decide_eq_true (by omega)
      clear c4
      obtain rfl := Option.some.inj H
      go_enter Try.func6, Try.ntmps6
      go_wp2
      go_ret
      exact ⟨by first | rfl | (simp [errW_none, errW_some] <;> rfl) | (simp [errW_none, errW_some]; exact ⟨rfl, rfl⟩) | (simp [errW_none, errW_some]; exact ⟨rfl, rfl, rfl⟩) | (simp [*, errW_none, errW_some] <;> rfl), by repeat (first | (with_reducible first | exact HB.out | apply below_alloc | apply pw_below_drewN | apply below_drew1) | exact HB.out)⟩
    · rw [if_neg c4] at H
      have c4b0 : decide (1048576 < (a1.size : Int)) = false := decide_eq_false c4
      have c4b1 : decide (1048576 < a1.size) = false := decide_eq_false (by omega)
      clear c4
      replace H := Option.bind_eq_some_iff.mp H
      obtain ⟨t341, A50, H⟩ := H
      replace H : ((impl_DenseLess.f k a0 a1).bind fun t342 => (if (t342 != t341) = true then (some false) else (some true))) = some r := H
      have A5 := Aside0.mk A50
      clear A50
      replace H := Option.bind_eq_some_iff.mp H
      obtain ⟨t342, A60, H⟩ := H
      replace H : (if (t342 != t341) = true then (some false) else (some true)) = some r := H
      have A6 := Aside0.mk A60
      clear A60
      by_cases c7 : (t342 != t341) = true
      · rw [if_pos c7] at H
        have c7b0 : (t342 != t341) = true := c7
        (try (have c7b1 : decide (t342 = t341) = false := by simpa using c7))
        (try (have c7b2 : (t342 == t341) = false := by simpa using c7))
        (try (have c7b3 : ¬ (t342 = t341) := by simpa using c7))
        clear c7
        obtain rfl := Option.some.inj H
        go_enter Try.func6, Try.ntmps6
        go_wp2_with (first | ((with_reducible refine gate_callee (f := 19) rfl ?_); refine goesL_ (some 15) rfl rfl Try.func19 (by kernel_rfl) rfl #[.string a0, .string a1] rfl (by (try simp only [List.map_toArray, List.map_cons, List.map_nil]); first | done | rfl | (simp only [List.length_drop, List.length_take]; rfl)) ?_; (with_reducible refine (spec_DenseLess.calls k a0 a1 t341 _ A5.out).mono ?_); rintro e w8 ⟨rfl, hb⟩; refine ⟨_, rfl, ?_⟩; have n0_ := Aside0.mk (below_step (by repeat (first | (with_reducible first | exact HB.out | apply below_alloc | apply pw_below_drewN | apply below_drew1) | exact HB.out)) hb); clear HB; have HB := n0_; clear n0_; (try clear hb); (try clear hb2); (try clear hk); (try clear hi)) | ((with_reducible refine gate_callee (f := 20) rfl ?_); refine goesL_ (some 18) rfl rfl Try.func20 (by kernel_rfl) rfl #[.string a0, .string a1] rfl (by (try simp only [List.map_toArray, List.map_cons, List.map_nil]); first | done | rfl | (simp only [List.length_drop, List.length_take]; rfl)) ?_; (with_reducible refine (impl_DenseLess.calls k a0 a1 t342 _ A6.out).mono ?_); rintro e w9 ⟨rfl, hb⟩; refine ⟨_, rfl, ?_⟩; have n0_ := Aside0.mk (below_step (by repeat (first | (with_reducible first | exact HB.out | apply below_alloc | apply pw_below_drewN | apply below_drew1) | exact HB.out)) hb); clear HB; have HB := n0_; clear n0_; (try clear hb); (try clear hb2); (try clear hk); (try clear hi)))
        go_ret
        exact ⟨by first | rfl | (simp [errW_none, errW_some] <;> rfl) | (simp [errW_none, errW_some]; exact ⟨rfl, rfl⟩) | (simp [errW_none, errW_some]; exact ⟨rfl, rfl, rfl⟩) | (simp [*, errW_none, errW_some] <;> rfl), by repeat (first | (with_reducible first | exact HB.out | apply below_alloc | apply pw_below_drewN | apply below_drew1) | exact HB.out)⟩
      · rw [if_neg c7] at H
        have c7b0 : (t342 != t341) = false := by simpa using c7
        (try (have c7b1 : decide (t342 = t341) = true := by simpa using c7))
        (try (have c7b2 : (t342 == t341) = true := by simpa using c7))
        clear c7
        obtain rfl := Option.some.inj H
        go_enter Try.func6, Try.ntmps6
        go_wp2_with (first | ((with_reducible refine gate_callee (f := 19) rfl ?_); refine goesL_ (some 15) rfl rfl Try.func19 (by kernel_rfl) rfl #[.string a0, .string a1] rfl (by (try simp only [List.map_toArray, List.map_cons, List.map_nil]); first | done | rfl | (simp only [List.length_drop, List.length_take]; rfl)) ?_; (with_reducible refine (spec_DenseLess.calls k a0 a1 t341 _ A5.out).mono ?_); rintro e w10 ⟨rfl, hb⟩; refine ⟨_, rfl, ?_⟩; have n0_ := Aside0.mk (below_step (by repeat (first | (with_reducible first | exact HB.out | apply below_alloc | apply pw_below_drewN | apply below_drew1) | exact HB.out)) hb); clear HB; have HB := n0_; clear n0_; (try clear hb); (try clear hb2); (try clear hk); (try clear hi)) | ((with_reducible refine gate_callee (f := 20) rfl ?_); refine goesL_ (some 18) rfl rfl Try.func20 (by kernel_rfl) rfl #[.string a0, .string a1] rfl (by (try simp only [List.map_toArray, List.map_cons, List.map_nil]); first | done | rfl | (simp only [List.length_drop, List.length_take]; rfl)) ?_; (with_reducible refine (impl_DenseLess.calls k a0 a1 t342 _ A6.out).mono ?_); rintro e w11 ⟨rfl, hb⟩; refine ⟨_, rfl, ?_⟩; have n0_ := Aside0.mk (below_step (by repeat (first | (with_reducible first | exact HB.out | apply below_alloc | apply pw_below_drewN | apply below_drew1) | exact HB.out)) hb); clear HB; have HB := n0_; clear n0_; (try clear hb); (try clear hb2); (try clear hk); (try clear hi)))
        go_ret
        exact ⟨by first | rfl | (simp [errW_none, errW_some] <;> rfl) | (simp [errW_none, errW_some]; exact ⟨rfl, rfl⟩) | (simp [errW_none, errW_some]; exact ⟨rfl, rfl, rfl⟩) | (simp [*, errW_none, errW_some] <;> rfl), by repeat (first | (with_reducible first | exact HB.out | apply below_alloc | apply pw_below_drewN | apply below_drew1) | exact HB.out)⟩

/-- THE ONE PURE STATEMENT of laws_FnExactDenseLess: yours. -/
def laws_FnExactDenseLess.Pure : Prop := ∀ (a0 : ByteArray) (a1 : ByteArray), a0.size ≤ 140737488351232 → a1.size ≤ 140737488351232 → ∃ k, laws_FnExactDenseLess.f k a0 a1 = some true
theorem laws_FnExactDenseLess.walk (P : laws_FnExactDenseLess.Pure) (a0 : ByteArray) (a1 : ByteArray) (w : World) (w0 : a0.size ≤ 140737488351232) (w1 : a1.size ≤ 140737488351232) :
    Calls Try.prog 6 #[.string a0, .string a1] w fun e w' => e = .returned (.bool true) ∧ Below w.heap.size w w' := by
  obtain ⟨k, h⟩ := P a0 a1 w0 w1
  refine (laws_FnExactDenseLess.calls k a0 a1 true w h).mono ?_
  rintro e w' ⟨rfl, hd⟩
  exact ⟨rfl, hd⟩

end Go.Proofs.Ytbgapjgfocdjoaa.Q

namespace Go.Proofs.Ytbgapjgfocdjoaa.Q
open Go.RowKit Go.Proofs.YtbgapjgfocdjoaaW.PrintWords Go.Proofs.YtbgapjgfocdjoaaW.PrintLast Go.Proofs.YtbgapjgfocdjoaaW.PrintMore
attribute [local go_sem] max2_int min2_int max_two min_two max_three min_three max_four min_four   -- for this text's walks alone
set_option linter.unusedVariables false
set_option linter.unusedSimpArgs false

end Go.Proofs.Ytbgapjgfocdjoaa.Q

namespace Go.Proofs.Ytbgapjgfocdjoaa.Q
open Go.RowKit Go.Proofs.YtbgapjgfocdjoaaW.PrintWords Go.Proofs.YtbgapjgfocdjoaaW.PrintLast Go.Proofs.YtbgapjgfocdjoaaW.PrintMore
attribute [local go_sem] max2_int min2_int max_two min_two max_three min_three max_four min_four   -- for this text's walks alone
set_option linter.unusedVariables false
set_option linter.unusedSimpArgs false

end Go.Proofs.Ytbgapjgfocdjoaa.Q

namespace Go.Proofs.Ytbgapjgfocdjoaa.Q
open Go.RowKit Go.Proofs.YtbgapjgfocdjoaaW.PrintWords Go.Proofs.YtbgapjgfocdjoaaW.PrintLast Go.Proofs.YtbgapjgfocdjoaaW.PrintMore
attribute [local go_sem] max2_int min2_int max_two min_two max_three min_three max_four min_four   -- for this text's walks alone
set_option linter.unusedVariables false
set_option linter.unusedSimpArgs false

end Go.Proofs.Ytbgapjgfocdjoaa.Q

namespace Go.Proofs.Ytbgapjgfocdjoaa.Q
open Go.RowKit Go.Proofs.YtbgapjgfocdjoaaW.PrintWords Go.Proofs.YtbgapjgfocdjoaaW.PrintLast Go.Proofs.YtbgapjgfocdjoaaW.PrintMore
attribute [local go_sem] max2_int min2_int max_two min_two max_three min_three max_four min_four   -- for this text's walks alone
set_option linter.unusedVariables false
set_option linter.unusedSimpArgs false

end Go.Proofs.Ytbgapjgfocdjoaa.Q

namespace Go.Proofs.Ytbgapjgfocdjoaa.Q
open Go.RowKit Go.Proofs.YtbgapjgfocdjoaaW.PrintWords Go.Proofs.YtbgapjgfocdjoaaW.PrintLast Go.Proofs.YtbgapjgfocdjoaaW.PrintMore
attribute [local go_sem] max2_int min2_int max_two min_two max_three min_three max_four min_four   -- for this text's walks alone
set_option linter.unusedVariables false
set_option linter.unusedSimpArgs false

end Go.Proofs.Ytbgapjgfocdjoaa.Q

namespace Go.Proofs.Ytbgapjgfocdjoaa.Q
open Go.RowKit Go.Proofs.YtbgapjgfocdjoaaW.PrintWords Go.Proofs.YtbgapjgfocdjoaaW.PrintLast Go.Proofs.YtbgapjgfocdjoaaW.PrintMore
attribute [local go_sem] max2_int min2_int max_two min_two max_three min_three max_four min_four   -- for this text's walks alone
set_option linter.unusedVariables false
set_option linter.unusedSimpArgs false

end Go.Proofs.Ytbgapjgfocdjoaa.Q

namespace Go.Proofs.Ytbgapjgfocdjoaa.Q
open Go.RowKit Go.Proofs.YtbgapjgfocdjoaaW.PrintWords Go.Proofs.YtbgapjgfocdjoaaW.PrintLast Go.Proofs.YtbgapjgfocdjoaaW.PrintMore
attribute [local go_sem] max2_int min2_int max_two min_two max_three min_three max_four min_four   -- for this text's walks alone
set_option linter.unusedVariables false
set_option linter.unusedSimpArgs false

end Go.Proofs.Ytbgapjgfocdjoaa.Q

namespace Go.Proofs.Ytbgapjgfocdjoaa.Q
open Go.RowKit Go.Proofs.YtbgapjgfocdjoaaW.PrintWords Go.Proofs.YtbgapjgfocdjoaaW.PrintLast Go.Proofs.YtbgapjgfocdjoaaW.PrintMore
attribute [local go_sem] max2_int min2_int max_two min_two max_three min_three max_four min_four   -- for this text's walks alone
set_option linter.unusedVariables false
set_option linter.unusedSimpArgs false

end Go.Proofs.Ytbgapjgfocdjoaa.Q

namespace Go.Proofs.Ytbgapjgfocdjoaa.Q
open Go.RowKit Go.Proofs.YtbgapjgfocdjoaaW.PrintWords Go.Proofs.YtbgapjgfocdjoaaW.PrintLast Go.Proofs.YtbgapjgfocdjoaaW.PrintMore
attribute [local go_sem] max2_int min2_int max_two min_two max_three min_three max_four min_four   -- for this text's walks alone
set_option linter.unusedVariables false
set_option linter.unusedSimpArgs false

end Go.Proofs.Ytbgapjgfocdjoaa.Q

namespace Go.Proofs.Ytbgapjgfocdjoaa.Q
open Go.RowKit Go.Proofs.YtbgapjgfocdjoaaW.PrintWords Go.Proofs.YtbgapjgfocdjoaaW.PrintLast Go.Proofs.YtbgapjgfocdjoaaW.PrintMore
attribute [local go_sem] max2_int min2_int max_two min_two max_three min_three max_four min_four   -- for this text's walks alone
set_option linter.unusedVariables false
set_option linter.unusedSimpArgs false

end Go.Proofs.Ytbgapjgfocdjoaa.Q

namespace Go.Proofs.Ytbgapjgfocdjoaa.Q
open Go.RowKit Go.Proofs.YtbgapjgfocdjoaaW.PrintWords Go.Proofs.YtbgapjgfocdjoaaW.PrintLast Go.Proofs.YtbgapjgfocdjoaaW.PrintMore
attribute [local go_sem] max2_int min2_int max_two min_two max_three min_three max_four min_four   -- for this text's walks alone
set_option linter.unusedVariables false
set_option linter.unusedSimpArgs false

end Go.Proofs.Ytbgapjgfocdjoaa.Q

namespace Go.Proofs.Ytbgapjgfocdjoaa.Q
open Go.RowKit Go.Proofs.YtbgapjgfocdjoaaW.PrintWords Go.Proofs.YtbgapjgfocdjoaaW.PrintLast Go.Proofs.YtbgapjgfocdjoaaW.PrintMore
attribute [local go_sem] max2_int min2_int max_two min_two max_three min_three max_four min_four   -- for this text's walks alone
set_option linter.unusedVariables false
set_option linter.unusedSimpArgs false

mutual
def spec_l1Less.l0 : Nat → Int → Int → List Bool → List Bool → Option (List Bool × List Bool)
  | 0, _, _, _, _ => none
  | k + 1, x3, x4, x344000, x344001 => if x4 < x3 then (if x4 = 0 then (none) else (spec_l1Less.l1 k x3 x4 ((Int.tmod x3 x4) == 0) x4 x344000 x344001)) else (if (x344000.length : Int) > 0 then (if 0 ≤ (wrap64 ((x344000.length : Int) - 1)) then (if (wrap64 ((x344000.length : Int) - 1)) < (x344000.length : Int) then (if 0 ≤ (wrap64 (x3 - 1)) then (if (wrap64 (x3 - 1)) < (x344001.length : Int) then (if ((rdOf false x344000 (wrap64 ((x344000.length : Int) - 1))) == (rdOf false x344001 (wrap64 (x3 - 1)))) = true then ((some (([rdOf false x344001 (wrap64 (x3 - 1))] : List Bool) : List Bool)).bind fun y348 => (if (wrap64 (x3 - 1)) ≤ (x344001.length : Int) then ((some (x344001.take ((wrap64 (x3 - 1)) : Int).toNat : List Bool)).bind fun y351 => (if y348.length + y351.length < 140737488355328 then (if (wrap64 ((x344000.length : Int) - 1)) ≤ (x344000.length : Int) then ((spec_l1Less.f k (x344000.take ((wrap64 ((x344000.length : Int) - 1)) : Int).toNat) (y348 ++ y351)).bind fun bt364 => (some (bt364.1, bt364.2))) else (none)) else (none))) else (none))) else (some (x344000, x344001))) else (none)) else (none)) else (none)) else (none)) else (some (x344000, x344001)))
def spec_l1Less.l1 : Nat → Int → Int → Bool → Int → List Bool → List Bool → Option (List Bool × List Bool)
  | 0, _, _, _, _, _, _ => none
  | k + 1, x3, x4, x5, x6, x344000, x344001 => if x6 < x3 then (if x5 = true then (if 0 ≤ x6 then (if x6 < (x344001.length : Int) then (if 0 ≤ (wrap64 (x6 - x4)) then (if (wrap64 (x6 - x4)) < (x344001.length : Int) then (spec_l1Less.l1 k x3 x4 ((rdOf false x344001 x6) == (rdOf false x344001 (wrap64 (x6 - x4)))) (wrap64 (x6 + 1)) x344000 x344001) else (none)) else (none)) else (none)) else (none)) else (spec_l1Less.l0 k x3 (wrap64 (x4 + 1)) x344000 x344001)) else (if x5 = true then (if 0 ≤ x4 then (if x4 ≤ (x344001.length : Int) then ((spec_l1Less.f k x344000 (x344001.take (x4 : Int).toNat)).bind fun bt377 => (some (bt377.1, bt377.2))) else (none)) else (none)) else (spec_l1Less.l0 k x3 (wrap64 (x4 + 1)) x344000 x344001))
def spec_l1Less.f : Nat → List Bool → List Bool → Option (List Bool × List Bool)
  | 0, _, _ => none
  | k + 1, l0_0, l0_1 => spec_l1Less.l0 k (l0_1.length : Int) 1 l0_0 l0_1
end
end Go.Proofs.Ytbgapjgfocdjoaa.Q

namespace Go.Proofs.Ytbgapjgfocdjoaa.Q
open Go.RowKit Go.Proofs.YtbgapjgfocdjoaaW.PrintWords Go.Proofs.YtbgapjgfocdjoaaW.PrintLast Go.Proofs.YtbgapjgfocdjoaaW.PrintMore
attribute [local go_sem] max2_int min2_int max_two min_two max_three min_three max_four min_four   -- for this text's walks alone
set_option linter.unusedVariables false
set_option linter.unusedSimpArgs false

def spec_l1Divisor.l0 : Nat → Int → Int → Option (Int)
  | 0, _, _ => none
  | k + 1, x0, x1 => if x1 > 0 then (if x1 = 0 then (none) else (spec_l1Divisor.l0 k x1 (Int.tmod x0 x1))) else (some x0)
def spec_l1Divisor.f (k : Nat) (a0 : Int) (a1 : Int) : Option (Int) := spec_l1Divisor.l0 k a0 a1
end Go.Proofs.Ytbgapjgfocdjoaa.Q

namespace Go.Proofs.Ytbgapjgfocdjoaa.Q
open Go.RowKit Go.Proofs.YtbgapjgfocdjoaaW.PrintWords Go.Proofs.YtbgapjgfocdjoaaW.PrintLast Go.Proofs.YtbgapjgfocdjoaaW.PrintMore
attribute [local go_sem] max2_int min2_int max_two min_two max_three min_three max_four min_four   -- for this text's walks alone
set_option linter.unusedVariables false
set_option linter.unusedSimpArgs false

def spec_DenseOf.f (k : Nat) (a0 : ByteArray) : Option (Int × Int × Bool) := (spec_l1Read.f k a0).bind fun bt383 => (if bt383.2.2 = true then ((spec_l1Less.f k bt383.1 bt383.2.1).bind fun bt391 => ((spec_l10Ones.f k bt391.1 bt391.2).bind fun t398 => ((spec_l1Divisor.f k (bt391.2.length : Int) t398).bind fun t399 => ((spec_l10Ones.f k bt391.1 bt391.2).bind fun t400 => (if t399 = 0 then (none) else (some (wrap64 (Int.tdiv t400 t399), wrap64 ((bt391.2.length : Int) / t399), true))))))) else (some (0, 0, false)))
end Go.Proofs.Ytbgapjgfocdjoaa.Q

namespace Go.Proofs.Ytbgapjgfocdjoaa.Q
open Go.RowKit Go.Proofs.YtbgapjgfocdjoaaW.PrintWords Go.Proofs.YtbgapjgfocdjoaaW.PrintLast Go.Proofs.YtbgapjgfocdjoaaW.PrintMore
attribute [local go_sem] max2_int min2_int max_two min_two max_three min_three max_four min_four   -- for this text's walks alone
set_option linter.unusedVariables false
set_option linter.unusedSimpArgs false

end Go.Proofs.Ytbgapjgfocdjoaa.Q

namespace Go.Proofs.Ytbgapjgfocdjoaa.Q
open Go.RowKit Go.Proofs.YtbgapjgfocdjoaaW.PrintWords Go.Proofs.YtbgapjgfocdjoaaW.PrintLast Go.Proofs.YtbgapjgfocdjoaaW.PrintMore
attribute [local go_sem] max2_int min2_int max_two min_two max_three min_three max_four min_four   -- for this text's walks alone
set_option linter.unusedVariables false
set_option linter.unusedSimpArgs false

end Go.Proofs.Ytbgapjgfocdjoaa.Q

namespace Go.Proofs.Ytbgapjgfocdjoaa.Q
open Go.RowKit Go.Proofs.YtbgapjgfocdjoaaW.PrintWords Go.Proofs.YtbgapjgfocdjoaaW.PrintLast Go.Proofs.YtbgapjgfocdjoaaW.PrintMore
attribute [local go_sem] max2_int min2_int max_two min_two max_three min_three max_four min_four   -- for this text's walks alone
set_option linter.unusedVariables false
set_option linter.unusedSimpArgs false

end Go.Proofs.Ytbgapjgfocdjoaa.Q

namespace Go.Proofs.Ytbgapjgfocdjoaa.Q
open Go.RowKit Go.Proofs.YtbgapjgfocdjoaaW.PrintWords Go.Proofs.YtbgapjgfocdjoaaW.PrintLast Go.Proofs.YtbgapjgfocdjoaaW.PrintMore
open Go.Proofs.Ytbgapjgfocdjoaa.Pl (hasB)
set_option linter.unusedVariables false
set_option linter.unusedSimpArgs false

theorem wr {x : Int} (h0 : -9223372036854775808 ≤ x) (h1 : x ≤ 9223372036854775807) : wrap64 x = x := by unfold wrap64; omega
theorem Ev.end {α : Type} {g : Nat → Option α} {r : α} (h : ∀ k, g (k + 1) = some r) : Ev g r := ⟨1, fun k hk => by obtain ⟨m, rfl⟩ : ∃ m, k = m + 1 := ⟨k - 1, by omega⟩; exact h m⟩
theorem Ev.const {α : Type} {g : Nat → Option α} {r : α} (h : ∀ k, g k = some r) : Ev g r := ⟨0, fun k _ => h k⟩
theorem bt_list (s : ByteArray) (i : Nat) (h : i < s.size) : bt s (i : Int) = ((s.data.toList.getD i 0).toNat : Int) := by
  unfold bt
  rw [dif_pos (by simpa using h)]
  have : s.data.toList.length = s.size := Array.length_toList
  simp [List.getD, h, this]
  rfl
theorem bt_is (s : ByteArray) (i : Nat) (h : i < s.size) (c : UInt8) (n : Int) (hn : n = (c.toNat : Int)) : bt s (i : Int) = n ↔ s.data.toList.getD i 0 = c := by
  rw [bt_list s i h, hn]
  constructor
  · intro h
    exact UInt8.toNat_inj.1 (by exact_mod_cast h)
  · intro h
    rw [h]
theorem drop_getD {α : Type} (l : List α) (i : Nat) (z : α) (h : i < l.length) : l.drop i = l.getD i z :: l.drop (i + 1) := by
  rw [List.drop_eq_getElem_cons h]; simp [List.getD, h]

def okL (l : List UInt8) : Bool := l.all fun c => c == 48 || c == 49
theorem signs_l0 (s : ByteArray) (hs : s.size ≤ 1073741824) (d : Nat) : ∀ (i : Nat) (acc : List Bool), i + d = s.size → acc.length = i →
    Ev (fun k => spec_l1Signs.l0 k s acc i) (if okL (s.data.toList.drop i) then (acc ++ (s.data.toList.drop i).map (· == 49), true) else ([], false)) := by
  have hl : s.data.toList.length = s.size := Array.length_toList
  induction d with
  | zero =>
    intro i acc h1 h2
    refine Ev.end fun k => ?_
    simp only [spec_l1Signs.l0]
    rw [if_neg (by omega), List.drop_of_length_le (by omega)]
    simp [okL]
  | succ d ih =>
    intro i acc h1 h2
    rw [drop_getD _ i 0 (by omega)]
    have hb48 := bt_is s i (by omega) 48 48 rfl
    have hb49 := bt_is s i (by omega) 49 49 rfl
    have hw : wrap64 ((i : Int) + 1) = ((i + 1 : Nat) : Int) := by rw [wr (by omega) (by omega)]; omega
    by_cases c48 : s.data.toList.getD i 0 = 48
    · refine Ev.step (f := fun k => spec_l1Signs.l0 k s (acc ++ [false]) ((i + 1 : Nat) : Int)) (fun k => ?_) ?_
      · simp only [spec_l1Signs.l0]
        have e : bt s (i : Int) = 48 := hb48.2 c48
        rw [if_pos (by omega), if_pos (by omega), if_pos e, if_pos (by omega), hw, e]
        rfl
      · have := ih (i + 1) (acc ++ [false]) (by omega) (by simp [h2])
        rw [c48]
        simpa [okL] using this
    · by_cases c49 : s.data.toList.getD i 0 = 49
      · refine Ev.step (f := fun k => spec_l1Signs.l0 k s (acc ++ [true]) ((i + 1 : Nat) : Int)) (fun k => ?_) ?_
        · simp only [spec_l1Signs.l0]
          have e : bt s (i : Int) = 49 := hb49.2 c49
          rw [if_pos (by omega), if_pos (by omega), if_neg (fun h => c48 (hb48.1 h)), if_pos e, if_pos (by omega), hw]
        · have := ih (i + 1) (acc ++ [true]) (by omega) (by simp [h2])
          rw [c49]
          simpa [okL] using this
      · refine Ev.end fun k => ?_
        simp only [spec_l1Signs.l0]
        rw [if_pos (by omega), if_pos (by omega), if_neg (fun h => c48 (hb48.1 h)), if_neg (fun h => c49 (hb49.1 h))]
        rw [if_neg]
        simp only [okL, List.all_cons, Bool.and_eq_true, Bool.or_eq_true, beq_iff_eq, not_and]
        intro h
        exact absurd h (by simp only [not_or]; exact ⟨c48, c49⟩)
theorem l1Signs_ev (s : ByteArray) (hs : s.size ≤ 1073741824) : Ev (fun k => spec_l1Signs.f k s) (if okL s.data.toList then (s.data.toList.map (· == 49), true) else ([], false)) := by
  have := signs_l0 s hs s.size 0 [] (by omega) rfl
  simpa [spec_l1Signs.f] using this
theorem signs_ev (s : ByteArray) (hs : s.size ≤ 1073741824) : impl_signs.f s = some (if okL s.data.toList then (s.data.toList.map (· == 49), decide ((s.size : Int) ≤ 60)) else ([], false)) := by
  unfold impl_signs.f
  rw [if_pos (by omega)]
  unfold okL impl_signs.ok
  split <;> rfl

theorem index_cases (l : List UInt8) (c : UInt8) : (Lib.indexByte l c = -1 ∧ ∀ i, i < l.length → l.getD i 0 ≠ c) ∨ ∃ i : Nat, i < l.length ∧ Lib.indexByte l c = i ∧ l.getD i 0 = c ∧ ∀ j, j < i → l.getD j 0 ≠ c := by
  induction l with
  | nil => left; exact ⟨rfl, fun i h => absurd h (Nat.not_lt_zero i)⟩
  | cons b l ih =>
    unfold Lib.indexByte
    by_cases hb : b = c
    · right
      exact ⟨0, by simp, by simp [hb], by simp [hb], fun j h => absurd h (Nat.not_lt_zero j)⟩
    · rw [if_neg (by simpa using hb)]
      rcases ih with ⟨h1, h2⟩ | ⟨i, h1, h2, h3, h4⟩
      · left
        refine ⟨by rw [h1]; rfl, fun i hi => ?_⟩
        cases i with
        | zero => simpa using hb
        | succ i => simpa using h2 i (by simpa using hi)
      · right
        refine ⟨i + 1, by simpa using h1, ?_, by simpa using h3, fun j hj => ?_⟩
        · rw [h2, if_neg (by simp only [beq_iff_eq]; omega)]; omega
        · cases j with
          | zero => simpa using hb
          | succ j => simpa using h4 j (by omega)

structure Good (t r : List Bool) : Prop where
  pos : 0 < r.length
  tl : t.length ≤ 60
  rl : r.length ≤ 60
structure IsSet (s : ByteArray) (t r : List Bool) : Prop where
  good : Good t r
  impl : impl_setOf.f s = some (t, r, true)
  spec : Ev (fun k => spec_l1Read.f k s) (t, r, true)
structure NoSet (s : ByteArray) : Prop where
  impl : ∃ a b, impl_setOf.f s = some (a, b, false)
  spec : ∃ a b, Ev (fun k => spec_l1Read.f k s) (a, b, false)

/-- The reader comes to the first bracket, or to the end. -/
theorem read_l0 (s : ByteArray) (hs : s.size ≤ 1073741824) (a b : List Bool) {r : List Bool × List Bool × Bool} (j : Nat) (hj : j ≤ s.size) (hn : ∀ i, i < j → s.data.toList.getD i 0 ≠ 40) (hend : j < s.size → s.data.toList.getD j 0 = 40)
    (h : Ev (fun k => spec_l1Read.j1 k s j a b) r) (d : Nat) : ∀ i, i + d = j → Ev (fun k => spec_l1Read.l0 k s (i : Nat) a b) r := by
  induction d with
  | zero =>
    intro i hi
    obtain rfl : i = j := by omega
    refine Ev.step (fun k => ?_) h
    simp only [spec_l1Read.l0]
    by_cases c : i < s.size
    · rw [if_pos (by omega), if_pos (by omega), if_pos ((bt_is s i c 40 40 rfl).2 (hend c))]
    · rw [if_neg (by omega)]
  | succ d ih =>
    intro i hi
    refine Ev.step (fun k => ?_) (ih (i + 1) (by omega))
    simp only [spec_l1Read.l0]
    have hw : wrap64 ((i : Int) + 1) = ((i + 1 : Nat) : Int) := by rw [wr (by omega) (by omega)]; omega
    rw [if_pos (by omega), if_pos (by omega), if_neg (fun h => hn i (by omega) ((bt_is s i (by omega) 40 40 rfl).1 h)), hw]

theorem size_data (s : ByteArray) : s.data.toList.length = s.size := Array.length_toList
theorem ext_size (s : ByteArray) (a b : Nat) (hb : b ≤ s.size) : (s.extract a b).size = b - a := by simp; omega
theorem ext_list (s : ByteArray) (a b : Nat) : (s.extract a b).data.toList = (s.data.toList.take b).drop a := by
  simp [List.extract_eq_take_drop, List.drop_take]
theorem toList_eq (s : ByteArray) : s.toList = s.data.toList := (Lib.toList_data s).symm ▸ rfl

theorem last_eq {s : ByteArray} {i : Nat} (h : i + 1 < s.size) : ((s.extract (i + 1) s.size).extract ((s.extract (i + 1) s.size).size - 1) (s.extract (i + 1) s.size).size).toList = [s.data.toList.getD (s.size - 1) 0] := by
  rw [toList_eq, ext_list, ext_list, ext_size _ _ _ (Nat.le_refl _)]
  have hl := size_data s
  rw [List.take_of_length_le (l := s.data.toList) (by omega), List.take_of_length_le (by rw [List.length_drop]; omega), List.drop_drop, drop_getD _ _ 0 (by omega), List.drop_of_length_le (by omega)]
  congr 2
  omega
theorem ring_eq {s : ByteArray} {i : Nat} (h : i + 1 < s.size) : (s.extract (i + 1) s.size).extract 0 ((s.extract (i + 1) s.size).size - 1) = s.extract (i + 1) (s.size - 1) := by
  have : ∀ a b : ByteArray, a.data.toList = b.data.toList → a = b := fun a b h => by
    obtain ⟨⟨a⟩⟩ := a; obtain ⟨⟨b⟩⟩ := b; simp at h; simp [h]
  refine this _ _ ?_
  have hl := size_data s
  rw [ext_list, ext_list, ext_list, ext_size _ _ _ (Nat.le_refl _), List.drop_zero, List.take_of_length_le (l := s.data.toList) (by omega), List.drop_take]
  congr 1
  omega

/-- Each text is a set text for both readers, with the same tail and ring, or for none. -/
theorem read_cases (s : ByteArray) (hs : s.size ≤ 1073741824) : NoSet s ∨ ∃ t r, IsSet s t r := by
  have hl := size_data s
  have hsg := fun (x : ByteArray) (hx : x.size ≤ 1073741824) => signs_ev x hx
  rcases index_cases s.data.toList 40 with ⟨h1, h2⟩ | ⟨i, h1, h2, h3, h4⟩
  · left
    refine ⟨?_, ?_⟩
    · have hc : strings_Cut.f s ⟨#[40]⟩ = some (s, ⟨#[]⟩, false) := by
        unfold strings_Cut.f stringslite_Cut.f stringslite_Index.f
        rw [dif_pos (by rfl)]
        show ((some (Lib.indexByte s.data.toList 40)).bind _).bind _ = _
        rw [h1]
        rfl
      have hd : strings_CutSuffix.f ⟨#[]⟩ ⟨#[41]⟩ = some (⟨#[]⟩, false) := by rfl
      refine ⟨(if okL s.data.toList then (s.data.toList.map (· == 49), decide ((s.size : Int) ≤ 60)) else ([], false)).1, [], ?_⟩
      unfold impl_setOf.f
      rw [hc]; simp only [Option.bind_some]
      rw [hd]; simp only [Option.bind_some]
      rw [hsg s hs, hsg ⟨#[]⟩ (by decide)]
      simp only [Option.bind_some]
      rw [if_neg (by simp)]
      rfl
    · refine ⟨[], [false], ?_⟩
      refine read_l0 s hs [] [false] s.size (Nat.le_refl _) (fun i hi => h2 i (by omega)) (fun h => by omega) ?_ s.size 0 (by omega)
      refine Ev.step (f := fun k => spec_l1Read.j2 k s (s.size : Nat) true [] [false]) (fun k => ?_) (Ev.end fun k => ?_)
      · simp only [spec_l1Read.j1]
        rw [if_pos (by rw [wr (by omega) (by omega)]; omega)]
      · simp only [spec_l1Read.j2, if_true]
  · have hi : i < s.size := by omega
    have hc : strings_Cut.f s ⟨#[40]⟩ = some (s.extract 0 i, s.extract (i + 1) s.size, true) := by
      unfold strings_Cut.f stringslite_Cut.f stringslite_Index.f
      rw [dif_pos (by rfl)]
      show ((some (Lib.indexByte s.data.toList 40)).bind _).bind _ = _
      rw [h2]
      simp only [Option.bind_some]
      have hz : ((⟨#[40]⟩ : ByteArray).size : Int) = 1 := rfl
      rw [if_pos (by omega), if_pos (by omega), if_pos (by omega), hz, wr (by omega) (by omega), if_pos (by omega), if_pos (by omega)]
      simp only [Option.bind_some, Int.toNat_natCast]
      rw [show ((i : Int) + 1).toNat = i + 1 from by omega]
    have hz1 : (s.extract (i + 1) s.size).size = s.size - (i + 1) := ext_size _ _ _ (Nat.le_refl _)
    have h41 : ((⟨#[41]⟩ : ByteArray).size : Int) = 1 := rfl
    have hsuf : strings_CutSuffix.f (s.extract (i + 1) s.size) ⟨#[41]⟩ = some (if i + 1 < s.size ∧ s.data.toList.getD (s.size - 1) 0 = 41 then (s.extract (i + 1) (s.size - 1), true) else (s.extract (i + 1) s.size, false)) := by
      unfold strings_CutSuffix.f stringslite_CutSuffix.f stringslite_HasSuffix.f
      rw [h41]
      by_cases c : i + 1 < s.size
      · rw [if_pos (by omega), wr (by omega) (by omega), if_pos (by omega), if_pos (by omega), show (((s.extract (i + 1) s.size).size : Int) - 1).toNat = (s.extract (i + 1) s.size).size - 1 from by omega, last_eq c, ring_eq c]
        simp only [Option.bind_some]
        have hb : ([s.data.toList.getD (s.size - 1) 0] == (⟨#[41]⟩ : ByteArray).toList) = decide (s.data.toList.getD (s.size - 1) 0 = 41) := by
          rw [toList_eq, Bool.eq_iff_iff]; simp
        rw [hb]
        by_cases e : s.data.toList.getD (s.size - 1) 0 = 41
        · rw [decide_eq_true e, if_pos rfl, if_pos (by omega), if_pos (by omega), if_pos ⟨c, e⟩]; rfl
        · rw [decide_eq_false e, if_neg (by simp), if_neg (by intro h; exact e h.2)]; rfl
      · rw [if_neg (by omega)]
        simp only [Option.bind_some, Bool.false_eq_true, if_false]
        rw [if_neg (fun h => c h.1)]
    have hspec : ∀ (r : List Bool × List Bool × Bool), Ev (fun k => spec_l1Read.j1 k s i [] [false]) r → Ev (fun k => spec_l1Read.f k s) r := by
      intro r hr
      exact read_l0 s hs [] [false] i (by omega) (fun j hj => h4 j hj) (fun _ => h3) hr i 0 (by omega)
    have hnull : ∀ x : Bool, x = true → Ev (fun k => spec_l1Read.j2 k s (i : Nat) x [] [false]) (([] : List Bool), [false], false) := by
      intro x hx
      refine Ev.end fun k => ?_
      simp only [spec_l1Read.j2]
      rw [if_pos hx]
    -- for the reader's bracket at the end
    have hj1 : ∀ r, Ev (fun k => spec_l1Read.j2 k s (i : Nat) (decide (s.size ≤ i + 2) || s.data.toList.getD (s.size - 1) 0 != 41) [] [false]) r → Ev (fun k => spec_l1Read.j1 k s i [] [false]) r := by
      intro r hr
      refine Ev.step (fun k => ?_) hr
      simp only [spec_l1Read.j1]
      rw [wr (x := (i : Int) + 2) (by omega) (by omega), wr (x := (s.size : Int) - 1) (by omega) (by omega)]
      by_cases c : s.size ≤ i + 2
      · rw [if_pos (by omega)]; simp [c]
      · rw [if_neg (by omega), if_pos (by omega), if_pos (by omega)]
        rw [show (s.size : Int) - 1 = ((s.size - 1 : Nat) : Int) from by omega]
        congr 1
        simp only [c, decide_false, Bool.false_or]
        have := bt_is s (s.size - 1) (by omega) 41 41 rfl
        rw [Bool.eq_iff_iff]; simp only [bne_iff_ne, ne_eq, this]
    by_cases c : (i + 2 < s.size) ∧ s.data.toList.getD (s.size - 1) 0 = 41
    · obtain ⟨c1, c2⟩ := c
      rw [if_pos ⟨by omega, c2⟩] at hsuf
      have e1 := hsg (s.extract 0 i) (by rw [ext_size _ _ _ (by omega)]; omega)
      have e2 := hsg (s.extract (i + 1) (s.size - 1)) (by rw [ext_size _ _ _ (by omega)]; omega)
      have g1 := l1Signs_ev (s.extract 0 i) (by rw [ext_size _ _ _ (by omega)]; omega)
      have g2 := l1Signs_ev (s.extract (i + 1) (s.size - 1)) (by rw [ext_size _ _ _ (by omega)]; omega)
      have z1 : (s.extract 0 i).size = i := by rw [ext_size _ _ _ (by omega)]; omega
      have z2 : (s.extract (i + 1) (s.size - 1)).size = s.size - i - 2 := by rw [ext_size _ _ _ (by omega)]; omega
      have y1 := size_data (s.extract 0 i)
      have y2 := size_data (s.extract (i + 1) (s.size - 1))
      rw [z1] at e1 y1
      rw [z2] at e2 y2
      have himpl : impl_setOf.f s = (impl_signs.f (s.extract 0 i)).bind fun x => (impl_signs.f (s.extract (i + 1) (s.size - 1))).bind fun y => some (x.1, y.1, x.2 && y.2 && decide ((y.1.length : Int) > 0)) := by
        unfold impl_setOf.f
        rw [hc]; simp only [Option.bind_some]
        rw [hsuf]; simp only [Option.bind_some]
        congr 1; funext x; congr 1; funext y
        cases x.2 <;> cases y.2 <;> simp
      have hj2 : ∀ (x y : List Bool × Bool), Ev (fun k => spec_l1Signs.f k (s.extract 0 i)) x → Ev (fun k => spec_l1Signs.f k (s.extract (i + 1) (s.size - 1))) y →
          Ev (fun k => spec_l1Read.f k s) (if x.2 && y.2 && decide (x.1.length ≤ 60) && decide (y.1.length ≤ 60) then (x.1, y.1, true) else ([], [false], false)) := by
        intro x y hx hy
        refine hspec _ (hj1 _ ?_)
        have : (decide (s.size ≤ i + 2) || s.data.toList.getD (s.size - 1) 0 != 41) = false := by rw [c2]; simp; omega
        rw [this]
        refine Ev.step (f := fun k => (spec_l1Signs.f k (s.extract 0 i)).bind fun bt121 => (spec_l1Signs.f k (s.extract (i + 1) (s.size - 1))).bind fun bt125 => (if bt121.2 = true then (if bt125.2 = true then (if (bt121.1.length : Int) > 60 then (some (([] : List Bool), [false], false)) else (if (bt125.1.length : Int) > 60 then (some ([], [false], false)) else (some (bt121.1, bt125.1, true)))) else (some ([], [false], false))) else (some ([], [false], false)))) (fun k => ?_) ?_
        · simp only [spec_l1Read.j2]
          rw [if_neg (by simp), if_pos (by omega), if_pos (by omega), wr (x := (i : Int) + 1) (by omega) (by omega), wr (x := (s.size : Int) - 1) (by omega) (by omega)]
          simp only [if_pos (show (0 : Int) ≤ (i : Int) + 1 from by omega), if_pos (show (i : Int) + 1 ≤ (s.size : Int) - 1 from by omega), if_pos (show (s.size : Int) - 1 ≤ (s.size : Int) from by omega)]
          rw [Int.toNat_natCast, show ((i : Int) + 1).toNat = i + 1 from by omega, show ((s.size : Int) - 1).toNat = s.size - 1 from by omega]
        · refine Ev.bind hx (Ev.bind hy (Ev.const fun k => ?_))
          obtain ⟨x1, x2⟩ := x
          obtain ⟨y1, y2⟩ := y
          cases x2 <;> cases y2 <;> simp
          by_cases q1 : x1.length ≤ 60
          · by_cases q2 : y1.length ≤ 60
            · rw [if_neg (by omega), if_neg (by omega), if_pos ⟨q1, q2⟩]
            · rw [if_neg (by omega), if_pos (by omega), if_neg (by omega)]
          · rw [if_pos (by omega), if_neg (by omega)]
      have hfin := hj2 _ _ g1 g2
      rw [e1, e2] at himpl
      simp only [Option.bind_some] at himpl
      cases o1 : okL (s.extract 0 i).data.toList with
      | false => left; rw [o1] at himpl hfin; exact ⟨⟨_, _, by rw [himpl]; simp; exact ⟨rfl, rfl⟩⟩, ⟨_, _, by simpa using hfin⟩⟩
      | true =>
        cases o2 : okL (s.extract (i + 1) (s.size - 1)).data.toList with
        | false => left; rw [o1, o2] at himpl hfin; exact ⟨⟨_, _, by rw [himpl]; simp; exact ⟨rfl, rfl⟩⟩, ⟨_, _, by simpa using hfin⟩⟩
        | true =>
          rw [o1, o2] at himpl hfin
          simp only [if_true, List.length_map, Bool.and_self, Bool.true_and] at himpl hfin
          rw [y1, y2] at hfin
          rw [y2] at himpl
          by_cases q : i ≤ 60 ∧ s.size - i - 2 ≤ 60
          · right
            refine ⟨(s.extract 0 i).data.toList.map (· == 49), (s.extract (i + 1) (s.size - 1)).data.toList.map (· == 49), ⟨?_, by rw [List.length_map]; omega, by rw [List.length_map]; omega⟩, himpl.trans ?_, ?_⟩
            · rw [List.length_map]; omega
            · rw [decide_eq_true (show ((i : Nat) : Int) ≤ 60 from by omega), decide_eq_true (show (((s.size - i - 2 : Nat) : Int) ≤ 60) from by omega), decide_eq_true (show (((s.size - i - 2 : Nat) : Int) > 0) from by omega)]
              rfl
            · rw [decide_eq_true q.1, decide_eq_true q.2] at hfin
              exact hfin
          · left
            refine ⟨⟨(s.extract 0 i).data.toList.map (· == 49), (s.extract (i + 1) (s.size - 1)).data.toList.map (· == 49), himpl.trans ?_⟩, ⟨[], [false], ?_⟩⟩
            · congr 3
              by_cases q1 : i ≤ 60
              · rw [decide_eq_false (show ¬ (((s.size - i - 2 : Nat) : Int) ≤ 60) from by omega)]; simp
              · rw [decide_eq_false (show ¬ ((i : Nat) : Int) ≤ 60 from by omega)]; simp
            · by_cases q1 : i ≤ 60
              · rw [decide_eq_false (show ¬ (s.size - i - 2 ≤ 60) from by omega)] at hfin; simpa using hfin
              · rw [decide_eq_false q1] at hfin; simpa using hfin
    · left
      have hcond : (decide (s.size ≤ i + 2) || s.data.toList.getD (s.size - 1) 0 != 41) = true := by
        by_cases q : i + 2 < s.size
        · have : ¬ s.data.toList.getD (s.size - 1) 0 = 41 := fun h => c ⟨q, h⟩
          simp only [Bool.or_eq_true, bne_iff_ne, ne_eq]; exact .inr this
        · simp only [Bool.or_eq_true, decide_eq_true_eq]; exact .inl (by omega)
      refine ⟨?_, ⟨[], [false], hspec _ (hj1 _ (hnull _ hcond))⟩⟩
      have e1 := hsg (s.extract 0 i) (by rw [ext_size _ _ _ (by omega)]; omega)
      unfold impl_setOf.f
      rw [hc]; simp only [Option.bind_some]
      rw [hsuf]; simp only [Option.bind_some]
      by_cases q : i + 1 < s.size ∧ s.data.toList.getD (s.size - 1) 0 = 41
      · rw [if_pos q]
        have hem : (s.extract (i + 1) (s.size - 1)).size = 0 := by
          rw [ext_size _ _ _ (by omega)]
          by_cases q2 : i + 2 < s.size
          · exact absurd ⟨q2, q.2⟩ c
          · omega
        have e2 := hsg (s.extract (i + 1) (s.size - 1)) (by omega)
        have y2 := size_data (s.extract (i + 1) (s.size - 1))
        have hn : (s.extract (i + 1) (s.size - 1)).data.toList = [] := List.length_eq_zero_iff.1 (by omega)
        obtain ⟨p, hp⟩ : ∃ p, impl_signs.f (s.extract 0 i) = some p := ⟨_, e1⟩
        rw [hp, e2, hn]
        simp only [Option.bind_some, okL, List.all_nil, if_true, List.map_nil, List.length_nil]
        refine ⟨p.1, [], ?_⟩
        cases p.2 <;> simp
      · rw [if_neg q, e1]
        simp only [Option.bind_some]
        rw [hsg (s.extract (i + 1) s.size) (by omega)]
        simp only [Option.bind_some]
        exact ⟨_, _, rfl⟩

end Go.Proofs.Ytbgapjgfocdjoaa.Q

namespace Go.Proofs.Ytbgapjgfocdjoaa.Q
open Go.RowKit Go.Proofs.YtbgapjgfocdjoaaW.PrintWords Go.Proofs.YtbgapjgfocdjoaaW.PrintLast Go.Proofs.YtbgapjgfocdjoaaW.PrintMore
open Go.Proofs.Ytbgapjgfocdjoaa.Pl
set_option linter.unusedVariables false
set_option linter.unusedSimpArgs false

theorem rdOf_nat (l : List Bool) (n : Nat) : rdOf false l (n : Int) = l.getD n false := by simp [rdOf]
theorem tmod_nat (a b : Nat) : Int.tmod (a : Int) (b : Int) = ((a % b : Nat) : Int) := by
  rw [Int.tmod_eq_emod_of_nonneg (Int.natCast_nonneg a)]; exact (Int.natCast_emod a b).symm
theorem tdiv_nat (a b : Nat) : Int.tdiv (a : Int) (b : Int) = ((a / b : Nat) : Int) := by
  rw [Int.tdiv_eq_ediv_of_nonneg (Int.natCast_nonneg a)]; exact (Int.natCast_ediv a b).symm
theorem wr1 {n : Nat} (h : n ≤ 4611686018427387904) : wrap64 ((n : Int) + 1) = ((n + 1 : Nat) : Int) := by rw [wr (by omega) (by omega)]; omega

theorem take_succ_count (l : List Bool) (i : Nat) (h : i < l.length) : (l.take (i + 1)).count true = (l.take i).count true + if l.getD i false = true then 1 else 0 := by
  rw [List.take_succ_eq_append_getElem h, List.count_append]
  simp only [List.getD, List.getElem?_eq_getElem h, Option.getD_some]
  cases l[i] <;> simp
theorem count_le (l : List Bool) : l.count true ≤ l.length := List.count_le_length

theorem ones_l0 (r : List Bool) (hr : r.length ≤ 1073741824) (d : Nat) : ∀ i, i + d = r.length → Ev (fun k => impl_set_ones.l0 k (((r.take i).count true : Nat) : Int) r (r.length : Int) (i : Nat)) ((r.count true : Nat) : Int) := by
  induction d with
  | zero =>
    intro i hi
    refine Ev.end fun k => ?_
    simp only [impl_set_ones.l0]
    rw [if_neg (by omega), List.take_of_length_le (by omega)]
  | succ d ih =>
    intro i hi
    have h1 := ih (i + 1) (by omega)
    have hc := take_succ_count r i (by omega)
    have hle : (r.take i).count true ≤ i := Nat.le_trans (count_le _) (List.length_take_le _ _)
    refine Ev.step (fun k => ?_) h1
    simp only [impl_set_ones.l0]
    rw [if_pos (by omega), if_pos (by omega), if_pos (by omega), rdOf_nat, wr1 (by omega), wr1 (by omega), hc]
    by_cases c : r.getD i false = true
    · rw [if_pos c, if_pos c]
    · rw [if_neg c, if_neg c]; rfl
theorem ones_ev (t r : List Bool) (hr : r.length ≤ 1073741824) : Ev (fun k => impl_set_ones.f k t r) ((r.count true : Nat) : Int) := by
  have := ones_l0 r hr r.length 0 (by omega)
  exact this
theorem l10Ones_l0 (t r : List Bool) (hr : r.length ≤ 1073741824) (d : Nat) : ∀ i, i + d = r.length → Ev (fun k => spec_l10Ones.l0 k (((r.take i).count true : Nat) : Int) (i : Nat) t r) ((r.count true : Nat) : Int) := by
  induction d with
  | zero =>
    intro i hi
    refine Ev.end fun k => ?_
    simp only [spec_l10Ones.l0]
    rw [if_neg (by omega), List.take_of_length_le (by omega)]
  | succ d ih =>
    intro i hi
    have h1 := ih (i + 1) (by omega)
    have hc := take_succ_count r i (by omega)
    have hle : (r.take i).count true ≤ i := Nat.le_trans (count_le _) (List.length_take_le _ _)
    refine Ev.step (fun k => ?_) h1
    simp only [spec_l10Ones.l0, spec_l1Bit.f]
    rw [if_pos (by omega), if_pos (by omega), rdOf_nat, wr1 (n := i) (by omega), hc]
    by_cases c : r.getD i false = true
    · rw [if_pos c, if_pos c]; simp only [Option.bind_some]; rw [wr1 (by omega)]
    · rw [if_neg c, if_neg c]; simp only [Option.bind_some]; rw [wr (by omega) (by omega)]; rfl
theorem l10Ones_ev (t r : List Bool) (hr : r.length ≤ 1073741824) : Ev (fun k => spec_l10Ones.f k t r) ((r.count true : Nat) : Int) := by
  have := l10Ones_l0 t r hr r.length 0 (by omega)
  exact this

theorem gcd_ev (b : Nat) : ∀ a : Nat, Ev (fun k => impl_gcd.f k (a : Int) (b : Int)) ((Nat.gcd a b : Nat) : Int) := by
  induction b using Nat.strongRecOn with
  | _ b ih =>
    intro a
    by_cases c : b = 0
    · subst c
      refine Ev.end fun k => ?_
      simp only [impl_gcd.f, impl_gcd.l0]
      rw [if_pos (by omega), Nat.gcd_zero_right]
    · have h1 := ih (a % b) (Nat.mod_lt _ (by omega)) b
      rw [Nat.gcd_comm b, ← Nat.gcd_rec, Nat.gcd_comm] at h1
      refine Ev.step (fun k => ?_) h1
      simp only [impl_gcd.f, impl_gcd.l0]
      rw [if_neg (by omega), tmod_nat]
end Go.Proofs.Ytbgapjgfocdjoaa.Q

namespace Go.Proofs.Ytbgapjgfocdjoaa.Q
open Go.RowKit Go.Proofs.YtbgapjgfocdjoaaW.PrintWords Go.Proofs.YtbgapjgfocdjoaaW.PrintLast Go.Proofs.YtbgapjgfocdjoaaW.PrintMore
open Go.Proofs.Ytbgapjgfocdjoaa.Pl
set_option linter.unusedVariables false
set_option linter.unusedSimpArgs false

theorem wrm1 {n : Nat} (h0 : 1 ≤ n) (h : n ≤ 4611686018427387904) : wrap64 ((n : Int) - 1) = ((n - 1 : Nat) : Int) := by rw [wr (by omega) (by omega)]; omega

theorem turns_l0 (r : List Bool) (hr : r.length ≤ 1073741824) (d : Nat) (hd : 1 ≤ d) (hdl : d ≤ r.length) (m : Nat) : ∀ i, i + m = r.length → (∀ j, j < i → r.getD j false = r.getD (j % d) false) →
    ∃ b : Bool, Ev (fun k => impl_turns.l0 k r d (r.length : Int) (i : Nat)) b ∧ (b = true ↔ per r d) := by
  induction m with
  | zero =>
    intro i hi hall
    refine ⟨decide (r.length % d = 0), Ev.end fun k => ?_, ?_⟩
    · simp only [impl_turns.l0]
      rw [if_neg (by omega), if_neg (by omega), ← Int.natCast_emod]
      congr 1
      rw [Bool.eq_iff_iff]
      simp only [beq_iff_eq, decide_eq_true_eq]
      omega
    · rw [decide_eq_true_eq]
      exact ⟨fun h => ⟨h, fun j hj => hall j (by omega)⟩, fun h => h.1⟩
  | succ m ih =>
    intro i hi hall
    have hm := Nat.mod_lt i (show d > 0 by omega)
    by_cases c : r.getD i false = r.getD (i % d) false
    · obtain ⟨b, h1, h2⟩ := ih (i + 1) (by omega) (fun j hj => by
        rcases Nat.lt_or_ge j i with h | h
        · exact hall j h
        · obtain rfl : j = i := by omega
          exact c)
      refine ⟨b, Ev.step (fun k => ?_) h1, h2⟩
      simp only [impl_turns.l0]
      rw [if_pos (by omega), if_pos (by omega), if_pos (by omega), if_neg (by omega), tmod_nat, if_pos (by omega), if_pos (by omega), rdOf_nat, rdOf_nat, wr1 (by omega), if_neg (by rw [c]; simp)]
    · refine ⟨false, Ev.end fun k => ?_, ?_⟩
      · simp only [impl_turns.l0]
        rw [if_pos (by omega), if_pos (by omega), if_pos (by omega), if_neg (by omega), tmod_nat, if_pos (by omega), if_pos (by omega), rdOf_nat, rdOf_nat, if_pos (by simpa using c)]
      · exact ⟨fun h => absurd h (by simp), fun h => absurd (h.2 i (by omega)) c⟩
theorem turns_ev (r : List Bool) (hr : r.length ≤ 1073741824) (d : Nat) (hd : 1 ≤ d) (hdl : d ≤ r.length) : ∃ b : Bool, Ev (fun k => impl_turns.f k r d) b ∧ (b = true ↔ per r d) :=
  turns_l0 r hr d hd hdl r.length 0 (by omega) (fun j hj => absurd hj (Nat.not_lt_zero j))

theorem rot_append {r : List Bool} : ([r.getD (r.length - 1) false] : List Bool) ++ r.take (r.length - 1) = rot r := by
  simp [rot, List.dropLast_eq_take]

/-- The tail made short. -/
theorem tidy_l1 (n : Nat) : ∀ (t r : List Bool), t.length = n → t.length ≤ 1073741824 → 0 < r.length → r.length ≤ 1073741824 → (∀ d, 1 ≤ d → d < r.length → ¬ per r d) →
    ∃ t' r', Ev (fun k => impl_set_tidy.l1 k (r.length : Int) t r) (t', r') ∧ Canon t' r' ∧ (∀ m, hasB t' r' m = hasB t r m) ∧ t'.length ≤ t.length ∧ r'.length ≤ r.length := by
  induction n with
  | zero =>
    intro t r ht _ h1 h2 h3
    refine ⟨t, r, Ev.end fun k => ?_, ⟨h1, h3, fun m hm => by omega⟩, fun m => rfl, Nat.le_refl _, Nat.le_refl _⟩
    simp only [impl_set_tidy.l1]
    rw [if_neg (by omega)]
  | succ n ih =>
    intro t r ht htl h1 h2 h3
    have e1 : wrap64 ((t.length : Int) - 1) = (n : Nat) := by rw [wrm1 (by omega) (by omega)]; omega
    by_cases c : t.getD n false = r.getD (r.length - 1) false
    · have hl : (t.take n).length = n := by rw [List.length_take]; omega
      obtain ⟨t', r', g1, g2, g3, g4, g5⟩ := ih (t.take n) (rot r) hl (by omega) (by rw [rot_length h1]; exact h1) (by rw [rot_length h1]; exact h2) (fun d hd1 hd2 hp => by rw [rot_length h1] at hd2; exact h3 d hd1 hd2 (per_rot h1 hd1 hp))
      rw [rot_length h1] at g1 g5
      refine ⟨t', r', Ev.step (fun k => ?_) g1, g2, fun m => by rw [g3, has_rot ht h1 c], by omega, g5⟩
      simp only [impl_set_tidy.l1]
      rw [if_pos (by omega), e1, if_pos (by omega), if_pos (by omega), wrm1 h1 (by omega), if_pos (by omega), if_pos (by omega), rdOf_nat, rdOf_nat, if_pos (by rw [c]; simp), if_pos (by omega)]
      simp only [Option.bind_some]
      rw [if_pos (by omega)]
      rw [if_pos (by simp; omega), Int.toNat_natCast, Int.toNat_natCast, rot_append]
    · refine ⟨t, r, Ev.end fun k => ?_, ⟨h1, h3, fun m hm => (show n = m by omega) ▸ c⟩, fun m => rfl, Nat.le_refl _, Nat.le_refl _⟩
      simp only [impl_set_tidy.l1]
      rw [if_pos (by omega), e1, if_pos (by omega), if_pos (by omega), wrm1 h1 (by omega), if_pos (by omega), if_pos (by omega), rdOf_nat, rdOf_nat, if_neg (by simpa using c)]

theorem tidy_l0 (t r : List Bool) (ht : t.length ≤ 1073741824) (h1 : 0 < r.length) (h2 : r.length ≤ 1073741824) (m : Nat) : ∀ d, d + m = r.length → 1 ≤ d → (∀ e, 1 ≤ e → e < d → ¬ per r e) →
    ∃ t' r', Ev (fun k => impl_set_tidy.l0 k (d : Nat) t r) (t', r') ∧ Canon t' r' ∧ (∀ m, hasB t' r' m = hasB t r m) ∧ t'.length ≤ t.length ∧ r'.length ≤ r.length := by
  induction m with
  | zero =>
    intro d hd hd1 hno
    obtain ⟨b, hb, hb2⟩ := turns_ev r h2 d hd1 (by omega)
    have hp : per r d := ⟨by rw [show r.length = d from by omega]; exact Nat.mod_self d, fun i hi => by rw [Nat.mod_eq_of_lt (by omega)]⟩
    have hl : (r.take d).length = d := by rw [List.length_take]; omega
    obtain ⟨t', r', g1, g2, g3, g4, g5⟩ := tidy_l1 t.length t (r.take d) rfl ht (by omega) (by omega) (fun e he1 he2 hpe => hno e he1 (by omega) (per_take hd1 he1 (by omega) hp hpe))
    rw [hl] at g1 g5
    refine ⟨t', r', ?_, g2, fun m => by rw [g3, has_take hd1 h1 hp (by omega)], g4, by omega⟩
    refine Ev.step (f := fun k => (impl_turns.f k r d).bind fun x => if x = true then impl_set_tidy.l1 k d t (r.take d) else impl_set_tidy.l0 k (wrap64 (d + 1)) t r) (fun k => ?_) ?_
    · simp only [impl_set_tidy.l0, slices_Clone_bool_bool.f]
      rw [if_pos (by omega)]
      simp only [Option.bind_some]
      rw [if_pos (by omega), if_pos (by omega), Int.toNat_natCast, if_pos (by omega)]
      simp only [Option.bind_some]
    · exact Ev.bind hb (by simp only [if_pos (hb2.2 hp)]; exact g1)
  | succ m ih =>
    intro d hd hd1 hno
    obtain ⟨b, hb, hb2⟩ := turns_ev r h2 d hd1 (by omega)
    have hl : (r.take d).length = d := by rw [List.length_take]; omega
    have key : ∃ t' r', Ev (fun k => if b = true then impl_set_tidy.l1 k d t (r.take d) else impl_set_tidy.l0 k (wrap64 ((d : Nat) + 1)) t r) (t', r') ∧ Canon t' r' ∧ (∀ m, hasB t' r' m = hasB t r m) ∧ t'.length ≤ t.length ∧ r'.length ≤ r.length := by
      by_cases c : b = true
      · have hp := hb2.1 c
        obtain ⟨t', r', g1, g2, g3, g4, g5⟩ := tidy_l1 t.length t (r.take d) rfl ht (by omega) (by omega) (fun e he1 he2 hpe => hno e he1 (by omega) (per_take hd1 he1 (by omega) hp hpe))
        rw [hl] at g1 g5
        refine ⟨t', r', ?_, g2, fun m => by rw [g3, has_take hd1 h1 hp (by omega)], g4, by omega⟩
        simp only [if_pos c]
        exact g1
      · obtain ⟨t', r', g1, g2, g3, g4, g5⟩ := ih (d + 1) (by omega) (by omega) (fun e he1 he2 hpe => by
          rcases Nat.lt_or_ge e d with h | h
          · exact hno e he1 h hpe
          · obtain rfl : e = d := by omega
            exact c (hb2.2 hpe))
        refine ⟨t', r', ?_, g2, g3, g4, g5⟩
        simp only [if_neg c]
        rw [wr1 (by omega)]
        exact g1
    obtain ⟨t', r', g1, g2⟩ := key
    refine ⟨t', r', ?_, g2⟩
    refine Ev.step (f := fun k => (impl_turns.f k r d).bind fun x => if x = true then impl_set_tidy.l1 k d t (r.take d) else impl_set_tidy.l0 k (wrap64 (d + 1)) t r) (fun k => ?_) (Ev.bind hb g1)
    simp only [impl_set_tidy.l0, slices_Clone_bool_bool.f]
    rw [if_pos (by omega)]
    simp only [Option.bind_some]
    rw [if_pos (by omega), if_pos (by omega), Int.toNat_natCast, if_pos (by omega)]
    simp only [Option.bind_some]

theorem tidy_ev {t r : List Bool} (h : Good t r) : ∃ t' r', Ev (fun k => impl_set_tidy.f k t r) (t', r') ∧ Canon t' r' ∧ (∀ m, hasB t' r' m = hasB t r m) ∧ t'.length ≤ t.length ∧ r'.length ≤ r.length := by
  have h1 := h.pos
  have h2 := h.tl
  have h3 := h.rl
  exact tidy_l0 t r (by omega) h1 (by omega) (r.length - 1) 1 (by omega) (by omega) (fun e he1 he2 => by omega)

/-- 'comes again behind d' in the reference's words. -/
theorem per_steps (r : List Bool) (d : Nat) (hd : 1 ≤ d) : (∀ i, d ≤ i → i < r.length → r.getD i false = r.getD (i - d) false) ↔ ∀ i, i < r.length → r.getD i false = r.getD (i % d) false := by
  constructor
  · intro h i
    induction i using Nat.strongRecOn with
    | _ i ih =>
      intro hi
      rcases Nat.lt_or_ge i d with c | c
      · rw [Nat.mod_eq_of_lt c]
      · rw [h i c hi, ih (i - d) (by omega) (by omega), ← Nat.mod_eq_sub_mod c]
  · intro h i h1 h2
    rw [h i h2, h (i - d) (by omega), ← Nat.mod_eq_sub_mod h1]

/-- The reference's inner loop. -/
theorem less_l1 (t r : List Bool) (hr : r.length ≤ 1073741824) (d : Nat) (hd : 1 ≤ d) (hdl : d < r.length) (g : Bool → Nat → Option (List Bool × List Bool))
    (hgt : ∀ k, g true k = (spec_l1Less.f k t (r.take d)).bind fun x => some (x.1, x.2)) (hgf : ∀ k, g false k = spec_l1Less.l0 k (r.length : Int) ((d + 1 : Nat) : Int) t r) (res : List Bool × List Bool) (m : Nat) :
    ∀ i (b : Bool), i + m = r.length → d ≤ i → (b = true ↔ r.length % d = 0 ∧ ∀ j, d ≤ j → j < i → r.getD j false = r.getD (j - d) false) →
      (∀ c : Bool, (c = true ↔ r.length % d = 0 ∧ ∀ j, d ≤ j → j < r.length → r.getD j false = r.getD (j - d) false) → Ev (g c) res) → Ev (fun k => spec_l1Less.l1 k (r.length : Int) (d : Nat) b (i : Nat) t r) res := by
  induction m with
  | zero =>
    intro i b hi hdi hb hres
    obtain rfl : i = r.length := by omega
    refine Ev.step (fun k => ?_) (hres b hb)
    simp only [spec_l1Less.l1]
    rw [if_neg (by omega)]
    cases b with
    | true => rw [if_pos rfl, if_pos (by omega), if_pos (by omega), Int.toNat_natCast, hgt]
    | false => rw [if_neg (by simp), wr1 (by omega), hgf]
  | succ m ih =>
    intro i b hi hdi hb hres
    cases b with
    | true =>
      have h1 := hb.1 rfl
      have e : wrap64 ((i : Int) - (d : Int)) = ((i - d : Nat) : Int) := by rw [wr (by omega) (by omega)]; omega
      refine Ev.step (fun k => ?_) (ih (i + 1) (r.getD i false == r.getD (i - d) false) (by omega) (by omega) ?_ hres)
      · simp only [spec_l1Less.l1, if_true]
        rw [if_pos (by omega), if_pos (by omega), if_pos (by omega), e, if_pos (by omega), if_pos (by omega), rdOf_nat, rdOf_nat, wr1 (by omega)]
      · rw [beq_iff_eq]
        constructor
        · intro c
          refine ⟨h1.1, fun j hj1 hj2 => ?_⟩
          rcases Nat.lt_or_ge j i with h | h
          · exact h1.2 j hj1 h
          · obtain rfl : j = i := by omega
            exact c
        · intro c
          exact c.2 i hdi (by omega)
    | false =>
      refine Ev.step (fun k => ?_) (hres false ⟨fun h => (by cases h), fun h => (hb.2 ⟨h.1, fun j hj1 hj2 => h.2 j hj1 (by omega)⟩)⟩)
      simp only [spec_l1Less.l1]
      rw [if_pos (by omega), if_neg (by simp), wr1 (by omega), hgf]

theorem less_ev (n : Nat) : ∀ t r : List Bool, t.length + r.length = n → t.length ≤ 1073741824 → 0 < r.length → r.length ≤ 1073741824 →
    ∃ t' r', Ev (fun k => spec_l1Less.f k t r) (t', r') ∧ Canon t' r' ∧ (∀ m, hasB t' r' m = hasB t r m) ∧ t'.length ≤ t.length ∧ r'.length ≤ r.length := by
  induction n using Nat.strongRecOn with
  | _ n ih =>
    intro t r hn ht h1 h2
    have loop : ∀ m d, d + m = r.length → 1 ≤ d → (∀ e, 1 ≤ e → e < d → ¬ per r e) → ∃ t' r', Ev (fun k => spec_l1Less.l0 k (r.length : Int) (d : Nat) t r) (t', r') ∧ Canon t' r' ∧ (∀ m, hasB t' r' m = hasB t r m) ∧ t'.length ≤ t.length ∧ r'.length ≤ r.length := by
      intro m
      induction m with
      | zero =>
        intro d hd hd1 hno
        obtain rfl : d = r.length := by omega
        by_cases ct : t.length = 0
        · refine ⟨t, r, Ev.end fun k => ?_, ⟨h1, hno, fun m hm => by omega⟩, fun m => rfl, Nat.le_refl _, Nat.le_refl _⟩
          simp only [spec_l1Less.l0]
          rw [if_neg (by omega), if_neg (by omega)]
        · obtain ⟨q, hq⟩ : ∃ q, t.length = q + 1 := ⟨t.length - 1, by omega⟩
          have e1 : wrap64 ((t.length : Int) - 1) = (q : Nat) := by rw [wrm1 (by omega) (by omega)]; omega
          by_cases c : t.getD q false = r.getD (r.length - 1) false
          · have hl : (t.take q).length = q := by rw [List.length_take]; omega
            obtain ⟨t', r', g1, g2, g3, g4, g5⟩ := ih (q + r.length) (by omega) (t.take q) (rot r) (by rw [rot_length h1, hl]) (by omega) (by rw [rot_length h1]; exact h1) (by rw [rot_length h1]; exact h2)
            rw [rot_length h1] at g5
            refine ⟨t', r', Ev.step (f := fun k => (spec_l1Less.f k (t.take q) (rot r)).bind fun x => some (x.1, x.2)) (fun k => ?_) (Ev.bind g1 (Ev.now _)), g2, fun m => by rw [g3, has_rot hq h1 c], by omega, g5⟩
            simp only [spec_l1Less.l0]
            rw [if_neg (by omega), if_pos (by omega), e1, if_pos (by omega), if_pos (by omega), wrm1 h1 (by omega), if_pos (by omega), if_pos (by omega), rdOf_nat, rdOf_nat, if_pos (by rw [c]; simp)]
            simp only [Option.bind_some]
            rw [if_pos (by omega)]
            rw [if_pos (by simp; omega), if_pos (by omega), Int.toNat_natCast, Int.toNat_natCast, rot_append]
          · refine ⟨t, r, Ev.end fun k => ?_, ⟨h1, hno, fun m hm => (show q = m by omega) ▸ c⟩, fun m => rfl, Nat.le_refl _, Nat.le_refl _⟩
            simp only [spec_l1Less.l0]
            rw [if_neg (by omega), if_pos (by omega), e1, if_pos (by omega), if_pos (by omega), wrm1 h1 (by omega), if_pos (by omega), if_pos (by omega), rdOf_nat, rdOf_nat, if_neg (by simpa using c)]
      | succ m ihm =>
        intro d hd hd1 hno
        have hl : (r.take d).length = d := by rw [List.length_take]; omega
        have hstep : ∀ res, Ev (fun k => spec_l1Less.l1 k (r.length : Int) (d : Nat) (decide (r.length % d = 0)) (d : Nat) t r) res → Ev (fun k => spec_l1Less.l0 k (r.length : Int) (d : Nat) t r) res := by
          intro res hres
          refine Ev.step (fun k => ?_) hres
          simp only [spec_l1Less.l0]
          rw [if_pos (by omega), if_neg (by omega), tmod_nat]
          congr 1
          rw [Bool.eq_iff_iff]
          simp only [beq_iff_eq, decide_eq_true_eq]
          omega
        by_cases hp : per r d
        · obtain ⟨t', r', g1, g2, g3, g4, g5⟩ := ih (t.length + d) (by omega) t (r.take d) (by rw [hl]) ht (by omega) (by omega)
          refine ⟨t', r', hstep _ ?_, g2, fun m => by rw [g3, has_take hd1 h1 hp (by omega)], g4, by omega⟩
          refine less_l1 t r h2 d hd1 (by omega) (fun b k => if b = true then (spec_l1Less.f k t (r.take d)).bind fun x => some (x.1, x.2) else spec_l1Less.l0 k (r.length : Int) ((d + 1 : Nat) : Int) t r) (fun k => if_pos rfl) (fun k => if_neg (by simp)) (t', r') m.succ d (decide (r.length % d = 0)) (by omega) (Nat.le_refl _) ?_ ?_
          · rw [decide_eq_true_eq]
            exact ⟨fun h => ⟨h, fun j a b => by omega⟩, fun h => h.1⟩
          · intro c hc
            have : c = true := hc.2 ⟨hp.1, (per_steps r d hd1).2 hp.2⟩
            subst this
            simp only [if_true]
            exact Ev.bind g1 (Ev.now _)
        · obtain ⟨t', r', g1, g2, g3, g4, g5⟩ := ihm (d + 1) (by omega) (by omega) (fun e he1 he2 hpe => by
            rcases Nat.lt_or_ge e d with h | h
            · exact hno e he1 h hpe
            · obtain rfl : e = d := by omega
              exact hp hpe)
          refine ⟨t', r', hstep _ ?_, g2, g3, g4, g5⟩
          refine less_l1 t r h2 d hd1 (by omega) (fun b k => if b = true then (spec_l1Less.f k t (r.take d)).bind fun x => some (x.1, x.2) else spec_l1Less.l0 k (r.length : Int) ((d + 1 : Nat) : Int) t r) (fun k => if_pos rfl) (fun k => if_neg (by simp)) (t', r') m.succ d (decide (r.length % d = 0)) (by omega) (Nat.le_refl _) ?_ ?_
          · rw [decide_eq_true_eq]
            exact ⟨fun h => ⟨h, fun j a b => by omega⟩, fun h => h.1⟩
          · intro c hc
            have : ¬ c = true := fun h => hp ⟨(hc.1 h).1, (per_steps r d hd1).1 (hc.1 h).2⟩
            simp only [if_neg this]
            exact g1
    obtain ⟨t', r', g1, g2⟩ := loop (r.length - 1) 1 (by omega) (by omega) (fun e he1 he2 => by omega)
    exact ⟨t', r', Ev.step (fun k => by simp only [spec_l1Less.f]; rfl) g1, g2⟩

/-- The tidy form of a set, for both. -/
structure Tidied (t r t' r' : List Bool) : Prop where
  impl : Ev (fun k => impl_set_tidy.f k t r) (t', r')
  spec : Ev (fun k => spec_l1Less.f k t r) (t', r')
  canon : Canon t' r'
  same : ∀ n, hasB t' r' n = hasB t r n
  good : Good t' r'
  tle : t'.length ≤ t.length
  rle : r'.length ≤ r.length
theorem tidied {t r : List Bool} (h : Good t r) : ∃ t' r', Tidied t r t' r' := by
  have h1 := h.pos
  have h2 := h.tl
  have h3 := h.rl
  obtain ⟨t', r', g1, g2, g3, g4, g5⟩ := tidy_ev h
  obtain ⟨t2, r2, k1, k2, k3, k4, k5⟩ := less_ev (t.length + r.length) t r rfl (by omega) h1 (by omega)
  obtain ⟨rfl, rfl⟩ := canon_unique g2 k2 (fun n => by rw [g3, k3])
  exact ⟨t', r', g1, k1, g2, g3, ⟨g2.pos, by omega, by omega⟩, g4, g5⟩

end Go.Proofs.Ytbgapjgfocdjoaa.Q

namespace Go.Proofs.Ytbgapjgfocdjoaa.Q
open Go.RowKit Go.Proofs.YtbgapjgfocdjoaaW.PrintWords Go.Proofs.YtbgapjgfocdjoaaW.PrintLast Go.Proofs.YtbgapjgfocdjoaaW.PrintMore
open Go.Proofs.Ytbgapjgfocdjoaa.Pl
set_option linter.unusedVariables false
set_option linter.unusedSimpArgs false

theorem denseOf_ev {s : ByteArray} {t r t' r' : List Bool} (h : IsSet s t r) (hT : Tidied t r t' r') :
    Ev (fun k => impl_DenseOf.f k s) (((r'.count true / Nat.gcd (r'.count true) r'.length : Nat) : Int), ((r'.length / Nat.gcd (r'.count true) r'.length : Nat) : Int), true) := by
  have h1 := hT.good.pos
  have h3 := hT.good.rl
  have hg : 0 < Nat.gcd (r'.count true) r'.length := Nat.gcd_pos_of_pos_right _ h1
  have hc := count_le r'
  have hd1 := Nat.div_le_self (r'.count true) (Nat.gcd (r'.count true) r'.length)
  have hd2 := Nat.div_le_self r'.length (Nat.gcd (r'.count true) r'.length)
  unfold impl_DenseOf.f impl_tidied.f
  rw [h.impl]; simp only [Option.bind_some, if_true]
  refine Ev.bind (a := (t', r', true)) (Ev.bind hT.impl (Ev.now _)) ?_
  simp only [if_true]
  refine Ev.bind (ones_ev t' r' (by omega)) (Ev.bind (gcd_ev r'.length (r'.count true)) (Ev.bind (ones_ev t' r' (by omega)) (Ev.const fun k => ?_)))
  rw [if_neg (by omega), tdiv_nat, ← Int.natCast_ediv]
  generalize r'.count true / Nat.gcd (r'.count true) r'.length = x at *
  generalize r'.length / Nat.gcd (r'.count true) r'.length = y at *
  rw [wr (by omega) (by omega), wr (by omega) (by omega)]
theorem denseOf_no {s : ByteArray} (h : NoSet s) : Ev (fun k => impl_DenseOf.f k s) (0, 0, false) ∧ Ev (fun k => spec_DenseOf.f k s) (0, 0, false) := by
  obtain ⟨⟨a, b, ha⟩, ⟨a', b', hb⟩⟩ := h
  constructor
  · unfold impl_DenseOf.f impl_tidied.f
    rw [ha]; simp only [Option.bind_some, Bool.false_eq_true, if_false]
    exact Ev.now _
  · unfold spec_DenseOf.f
    refine Ev.bind hb ?_
    simp only [Bool.false_eq_true, if_false]
    exact Ev.now _

theorem small_mul {a b : Nat} (ha : a ≤ 60) (hb : b ≤ 60) : a * b ≤ 3600 := Nat.mul_le_mul ha hb
theorem wr_mul {a b : Nat} (ha : a ≤ 60) (hb : b ≤ 60) : wrap64 ((a : Int) * (b : Int)) = ((a * b : Nat) : Int) := by
  have := small_mul ha hb
  rw [Int.natCast_mul, wr (by rw [← Int.natCast_mul]; omega) (by rw [← Int.natCast_mul]; omega)]
theorem denseLess_spec {s u : ByteArray} {t r t2 r2 : List Bool} (h : IsSet s t r) (h2 : IsSet u t2 r2) : Ev (fun k => spec_DenseLess.f k s u) (decide (r.count true * r2.length < r2.count true * r.length)) := by
  have g1 := h.good.rl
  have g2 := h2.good.rl
  have c1 := count_le r
  have c2 := count_le r2
  unfold spec_DenseLess.f
  refine Ev.bind h.spec (Ev.bind h2.spec ?_)
  simp only [if_true]
  refine Ev.bind (l10Ones_ev t r (by omega)) (Ev.bind (l10Ones_ev t2 r2 (by omega)) (Ev.const fun k => ?_))
  rw [wr_mul (by omega) (by omega), wr_mul (by omega) (by omega)]
  congr 1
  rw [decide_eq_decide]
  omega
theorem denseLess_ev {s u : ByteArray} {t r t2 r2 : List Bool} (h : IsSet s t r) (h2 : IsSet u t2 r2) : Ev (fun k => impl_DenseLess.f k s u) (decide (r.count true * r2.length < r2.count true * r.length)) := by
  obtain ⟨t', r', hT⟩ := tidied h.good
  obtain ⟨t2', r2', hT2⟩ := tidied h2.good
  have g1 := hT.good.rl
  have g2 := hT2.good.rl
  have p1 := hT.good.pos
  have p2 := hT2.good.pos
  have c1 := count_le r'
  have c2 := count_le r2'
  have f1 := frac_of p1 (density_same hT.same)
  have f2 := frac_of p2 (density_same hT2.same)
  have q1 := Nat.div_le_self (r'.count true) (Nat.gcd (r'.count true) r'.length)
  have q2 := Nat.div_le_self r'.length (Nat.gcd (r'.count true) r'.length)
  have q3 := Nat.div_le_self (r2'.count true) (Nat.gcd (r2'.count true) r2'.length)
  have q4 := Nat.div_le_self r2'.length (Nat.gcd (r2'.count true) r2'.length)
  have b1 : 0 < r'.length / Nat.gcd (r'.count true) r'.length := Nat.div_pos (Nat.gcd_le_right _ p1) (Nat.gcd_pos_of_pos_right _ p1)
  have b2 : 0 < r2'.length / Nat.gcd (r2'.count true) r2'.length := Nat.div_pos (Nat.gcd_le_right _ p2) (Nat.gcd_pos_of_pos_right _ p2)
  unfold impl_DenseLess.f
  refine Ev.bind (denseOf_ev h hT) (Ev.bind (denseOf_ev h2 hT2) (Ev.const fun k => ?_))
  simp only [if_true]
  rw [wr_mul (by omega) (by omega), wr_mul (by omega) (by omega)]
  congr 1
  rw [decide_eq_decide, Int.ofNat_lt]
  exact frac_lt h.good.pos h2.good.pos b1 b2 f1 f2
theorem denseLess_both (s u : ByteArray) (hs : s.size ≤ 1073741824) (hu : u.size ≤ 1073741824) : ∃ b, Ev (fun k => impl_DenseLess.f k s u) b ∧ Ev (fun k => spec_DenseLess.f k s u) b := by
  rcases read_cases s hs with h | ⟨t, r, h⟩
  · refine ⟨false, ?_, ?_⟩
    · unfold impl_DenseLess.f
      refine Ev.bind (denseOf_no h).1 ?_
      rcases read_cases u hu with h2 | ⟨t2, r2, h2⟩
      · refine Ev.bind (denseOf_no h2).1 ?_
        simp only [Bool.false_eq_true, if_false]
        exact Ev.now _
      · obtain ⟨t2', r2', hT2⟩ := tidied h2.good
        refine Ev.bind (denseOf_ev h2 hT2) ?_
        simp only [Bool.false_eq_true, if_false]
        exact Ev.now _
    · obtain ⟨a, b, hb⟩ := h.spec
      unfold spec_DenseLess.f
      refine Ev.bind hb ?_
      rcases read_cases u hu with h2 | ⟨t2, r2, h2⟩
      · obtain ⟨a2, b2, hb2⟩ := h2.spec
        refine Ev.bind hb2 ?_
        simp only [Bool.false_eq_true, if_false]
        exact Ev.now _
      · refine Ev.bind h2.spec ?_
        simp only [Bool.false_eq_true, if_false]
        exact Ev.now _
  · rcases read_cases u hu with h2 | ⟨t2, r2, h2⟩
    · refine ⟨false, ?_, ?_⟩
      · unfold impl_DenseLess.f
        obtain ⟨t', r', hT⟩ := tidied h.good
        refine Ev.bind (denseOf_ev h hT) (Ev.bind (denseOf_no h2).1 ?_)
        simp only [Bool.false_eq_true, if_false, if_true]
        exact Ev.now _
      · obtain ⟨a2, b2, hb2⟩ := h2.spec
        unfold spec_DenseLess.f
        refine Ev.bind h.spec (Ev.bind hb2 ?_)
        simp only [Bool.false_eq_true, if_false, if_true]
        exact Ev.now _
    · exact ⟨_, denseLess_ev h h2, denseLess_spec h h2⟩

end Go.Proofs.Ytbgapjgfocdjoaa.Q

namespace Go.Proofs.Ytbgapjgfocdjoaa.Pure
open Go.RowKit Go.Proofs.Ytbgapjgfocdjoaa.Q Go.Proofs.YtbgapjgfocdjoaaW.PrintWords Go.Proofs.YtbgapjgfocdjoaaW.PrintLast
set_option linter.unusedSimpArgs false

theorem FnExactDenseLess : laws_FnExactDenseLess.Pure := by
  intro s u hs hu
  by_cases hz : (s.size : Int) > 1048576
  · exact ⟨0, by unfold laws_FnExactDenseLess.f; rw [if_pos hz]⟩
  by_cases hz2 : (u.size : Int) > 1048576
  · exact ⟨0, by unfold laws_FnExactDenseLess.f; rw [if_neg hz, if_pos hz2]⟩
  obtain ⟨b, h1, h2⟩ := denseLess_both s u (by omega) (by omega)
  refine Ev.rounds ?_
  unfold laws_FnExactDenseLess.f
  simp only [if_neg hz, if_neg hz2]
  exact Ev.bind h2 (Ev.bind h1 (Ev.const fun q => by simp))

end Go.Proofs.Ytbgapjgfocdjoaa.Pure
