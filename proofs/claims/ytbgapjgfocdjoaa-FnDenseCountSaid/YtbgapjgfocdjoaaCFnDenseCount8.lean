/- What DenseCount counts is what SetCount counts behind n, and the program's DenseCount returns what the reference's does; no condition beyond the statement's own. -/
import Derived.Laws.BitsLemmas
import Derived.Test.YtbgapjgfocdjoaaCFnDenseCount1
import Derived.Test.YtbgapjgfocdjoaaCFnDenseCount6
import Derived.Test.YtbgapjgfocdjoaaCFnDenseCount7
namespace Go.Proofs.Ytbgapjgfocdjoaa.Q
open Go.RowKit Go.Proofs.YtbgapjgfocdjoaaW.PrintWords Go.Proofs.YtbgapjgfocdjoaaW.PrintLast Go.Proofs.YtbgapjgfocdjoaaW.PrintMore
attribute [local go_sem] max2_int min2_int max_two min_two max_three min_three max_four min_four   -- for this text's walks alone
set_option linter.unusedVariables false
set_option linter.unusedSimpArgs false

def spec_DrawDenseCount.f (k : Nat) (l0 : List Int) : Option (ByteArray × Int × Int) := (spec_l6Open.f l0).bind fun bt467 => ((spec_l91Set.f k bt467.1 bt467.2).bind fun bt470 => ((spec_l91Number.f k bt467.1 bt470.2 1000).bind fun bt472 => ((spec_l91Number.f k bt467.1 bt472.2 1000).bind fun bt474 => (some (bt470.1, bt472.1, bt474.1)))))
theorem spec_DrawDenseCount.mono : ∀ a0 k, LeO (spec_DrawDenseCount.f k a0) (spec_DrawDenseCount.f (k + 1) a0) := by
  intro a0 k
  unfold spec_DrawDenseCount.f
  repeat' first
      | (with_reducible exact spec_l91Number.mono _ _ _ _)
      | (with_reducible exact spec_l91Set.mono _ _ _)
      | (with_reducible exact LeO.refl _)
      | (with_reducible exact LeO.none _)
      | (with_reducible refine LeO.ite ?_ ?_)
      | (with_reducible refine LeO.bind ?_ (fun _ => ?_))
      | exact spec_l91Number.mono _ _ _ _
      | exact spec_l91Set.mono _ _ _
      | exact LeO.none _
      | refine LeO.ite ?_ ?_
      | refine LeO.bind ?_ (fun _ => ?_)
set_option maxHeartbeats 8000000 in
set_option maxRecDepth 100000 in
theorem spec_DrawDenseCount.calls (k : Nat) (A0 : Option Addr) (c0 : Nat) (l0 : List Int) (r1 : ByteArray) (r2 : Int) (r3 : Int) (w : World) (hr0 : Kd.C (Kd.int .u8) w A0 l0.length l0) (hc0 : l0.length ≤ c0) (h : spec_DrawDenseCount.f k l0 = some (r1, r2, r3)) :
    Calls Try.prog 25 #[.slice A0 l0.length c0] w fun e w' => e = .returned (.tuple #[.string r1, .int .i64 r2, .int .i64 r3]) ∧ Below w.heap.size w w' := by
  have HR0 := Aside0.mk hr0
  have HC0 := Aside0.mk hc0
  clear hr0 hc0
  have HB := Aside0.mk (Below.refl w.heap.size w)
  have H : ((spec_l6Open.f l0).bind fun bt467 => ((spec_l91Set.f k bt467.1 bt467.2).bind fun bt470 => ((spec_l91Number.f k bt467.1 bt470.2 1000).bind fun bt472 => ((spec_l91Number.f k bt467.1 bt472.2 1000).bind fun bt474 => (some (bt470.1, bt472.1, bt474.1)))))) = some (r1, r2, r3) := h
  clear h
  replace H := Option.bind_eq_some_iff.mp H
  obtain ⟨⟨t467, t468⟩, A20, H⟩ := H
  replace H : ((spec_l91Set.f k t467 t468).bind fun bt470 => ((spec_l91Number.f k t467 bt470.2 1000).bind fun bt472 => ((spec_l91Number.f k t467 bt472.2 1000).bind fun bt474 => (some (bt470.1, bt472.1, bt474.1))))) = some (r1, r2, r3) := H
  have A2 := Aside0.mk A20
  clear A20
  replace H := Option.bind_eq_some_iff.mp H
  obtain ⟨⟨t470, t471⟩, A30, H⟩ := H
  replace H : ((spec_l91Number.f k t467 t471 1000).bind fun bt472 => ((spec_l91Number.f k t467 bt472.2 1000).bind fun bt474 => (some (t470, bt472.1, bt474.1)))) = some (r1, r2, r3) := H
  have A3 := Aside0.mk A30
  clear A30
  replace H := Option.bind_eq_some_iff.mp H
  obtain ⟨⟨t472, t473⟩, A40, H⟩ := H
  replace H : ((spec_l91Number.f k t467 t473 1000).bind fun bt474 => (some (t470, t472, bt474.1))) = some (r1, r2, r3) := H
  have A4 := Aside0.mk A40
  clear A40
  replace H := Option.bind_eq_some_iff.mp H
  obtain ⟨⟨t474, t475⟩, A50, H⟩ := H
  replace H : (some (t470, t472, t474)) = some (r1, r2, r3) := H
  have A5 := Aside0.mk A50
  clear A50
  simp only [Option.some.injEq, Prod.mk.injEq] at H
  obtain ⟨rfl, rfl, rfl⟩ := H
  go_enter Try.func25, Try.ntmps25
  go_wp2_with (first | ((with_reducible refine gate_callee (f := 47) rfl ?_); refine goesL_ (some 7) rfl rfl Try.func47 (by kernel_rfl) rfl #[.slice A0 l0.length c0] rfl (by (try simp only [List.map_toArray, List.map_cons, List.map_nil]); first | done | rfl | (simp only [List.length_drop, List.length_take]; rfl)) ?_; (with_reducible refine (spec_l6Open.calls _ _ l0 t467 t468 w _ ?side1 ?side2 ?side3 A2.out).mono ?_); (case side1 => repeat (first | (with_reducible first | exact HB.out | apply below_alloc | apply pw_below_drewN | apply below_drew1) | exact HB.out)); (case side2 => exact HR0.out); (case side3 => exact HC0.out); rintro e w6 ⟨g469, rfl, hi, hb, hb2⟩; refine ⟨_, rfl, ?_⟩; have n0_ := Aside0.mk (hb); have n1_ := Aside0.mk (hi); clear HB; have HB := n0_; have HI469 := n1_; clear n0_ n1_; (try clear hb); (try clear hb2); (try clear hk); (try clear hi)) | ((with_reducible refine gate_callee (f := 48) rfl ?_); refine goesL_ (some 9) rfl rfl Try.func48 (by kernel_rfl) rfl #[.pointer (some ⟨g469, 0, none⟩)] rfl (by (try simp only [List.map_toArray, List.map_cons, List.map_nil]); first | done | rfl | (simp only [List.length_drop, List.length_take]; rfl)) ?_; (with_reducible refine (spec_l91Set.calls k g469 t467 t468 t470 t471 w _ ?side1 ?side2 A3.out).mono ?_); (case side1 => repeat (first | (with_reducible first | exact HI469.out | apply IsS74.alloc | apply IsS74.drewN | apply IsS74.drew | apply IsS74.set_1) | exact HI469.out)); (case side2 => repeat (first | (with_reducible first | exact HB.out | apply below_alloc | apply pw_below_drewN | apply below_drew1 | refine below_set ?_ (IsS74.ge HI469.out)) | exact HB.out)); rintro e w7 ⟨rfl, hi, hb, hk⟩; refine ⟨_, rfl, ?_⟩; have n0_ := Aside0.mk (hb); have n1_ := Aside0.mk (hi); clear HB; clear HI469; have HB := n0_; have HI469 := n1_; clear n0_ n1_; (try clear hb); (try clear hb2); (try clear hk); (try clear hi)) | ((with_reducible refine gate_callee (f := 50) rfl ?_); refine goesL_ (some 11) rfl rfl Try.func50 (by kernel_rfl) rfl #[.pointer (some ⟨g469, 0, none⟩), .int .i64 1000] rfl (by (try simp only [List.map_toArray, List.map_cons, List.map_nil]); first | done | rfl | (simp only [List.length_drop, List.length_take]; rfl)) ?_; (with_reducible refine (spec_l91Number.calls k g469 t467 t471 1000 t472 t473 w _ ?side1 ?side2 A4.out).mono ?_); (case side1 => repeat (first | (with_reducible first | exact HI469.out | apply IsS74.alloc | apply IsS74.drewN | apply IsS74.drew | apply IsS74.set_1) | exact HI469.out)); (case side2 => repeat (first | (with_reducible first | exact HB.out | apply below_alloc | apply pw_below_drewN | apply below_drew1 | refine below_set ?_ (IsS74.ge HI469.out)) | exact HB.out)); rintro e w8 ⟨rfl, hi, hb, hk⟩; refine ⟨_, rfl, ?_⟩; have n0_ := Aside0.mk (hb); have n1_ := Aside0.mk (hi); clear HB; clear HI469; have HB := n0_; have HI469 := n1_; clear n0_ n1_; (try clear hb); (try clear hb2); (try clear hk); (try clear hi)) | ((with_reducible refine gate_callee (f := 50) rfl ?_); refine goesL_ (some 13) rfl rfl Try.func50 (by kernel_rfl) rfl #[.pointer (some ⟨g469, 0, none⟩), .int .i64 1000] rfl (by (try simp only [List.map_toArray, List.map_cons, List.map_nil]); first | done | rfl | (simp only [List.length_drop, List.length_take]; rfl)) ?_; (with_reducible refine (spec_l91Number.calls k g469 t467 t473 1000 t474 t475 w _ ?side1 ?side2 A5.out).mono ?_); (case side1 => repeat (first | (with_reducible first | exact HI469.out | apply IsS74.alloc | apply IsS74.drewN | apply IsS74.drew | apply IsS74.set_1) | exact HI469.out)); (case side2 => repeat (first | (with_reducible first | exact HB.out | apply below_alloc | apply pw_below_drewN | apply below_drew1 | refine below_set ?_ (IsS74.ge HI469.out)) | exact HB.out)); rintro e w9 ⟨rfl, hi, hb, hk⟩; refine ⟨_, rfl, ?_⟩; have n0_ := Aside0.mk (hb); have n1_ := Aside0.mk (hi); clear HB; clear HI469; have HB := n0_; have HI469 := n1_; clear n0_ n1_; (try clear hb); (try clear hb2); (try clear hk); (try clear hi)))
  go_ret3
  exact ⟨by first | rfl | (simp [errW_none, errW_some] <;> rfl) | (simp [errW_none, errW_some]; exact ⟨rfl, rfl⟩) | (simp [errW_none, errW_some]; exact ⟨rfl, rfl, rfl⟩) | (simp [*, errW_none, errW_some] <;> rfl), by repeat (first | (with_reducible first | exact HB.out | apply below_alloc | apply pw_below_drewN | apply below_drew1 | refine below_set ?_ (IsS74.ge HI469.out)) | exact HB.out)⟩

end Go.Proofs.Ytbgapjgfocdjoaa.Q

namespace Go.Proofs.Ytbgapjgfocdjoaa.Q
open Go.RowKit Go.Proofs.YtbgapjgfocdjoaaW.PrintWords Go.Proofs.YtbgapjgfocdjoaaW.PrintLast Go.Proofs.YtbgapjgfocdjoaaW.PrintMore
attribute [local go_sem] max2_int min2_int max_two min_two max_three min_three max_four min_four   -- for this text's walks alone
set_option linter.unusedVariables false
set_option linter.unusedSimpArgs false

def impl_SetList.f (k : Nat) (a0 : ByteArray) (a1 : Int) : Option (List Int × Bool) := (impl_setOf.f a0).bind fun bt476 => (if bt476.2.2 = true then ((impl_in.f a1 0 1000).bind fun t484 => (if t484 = true then ((impl_set_below.f k bt476.1 bt476.2.1 a1).bind fun t485 => (some (t485, true))) else (some (([] : List Int), false)))) else (some (([] : List Int), false)))
theorem impl_SetList.mono : ∀ a0 a1 k, LeO (impl_SetList.f k a0 a1) (impl_SetList.f (k + 1) a0 a1) := by
  intro a0 a1 k
  unfold impl_SetList.f
  repeat' first
      | (with_reducible exact impl_set_below.mono _ _ _ _)
      | (with_reducible exact LeO.refl _)
      | (with_reducible exact LeO.none _)
      | (with_reducible refine LeO.ite ?_ ?_)
      | (with_reducible refine LeO.bind ?_ (fun _ => ?_))
      | exact impl_set_below.mono _ _ _ _
      | exact LeO.none _
      | refine LeO.ite ?_ ?_
      | refine LeO.bind ?_ (fun _ => ?_)
set_option maxHeartbeats 8000000 in
set_option maxRecDepth 100000 in
theorem impl_SetList.calls (k : Nat) (a0 : ByteArray) (a1 : Int) (r1 : List Int) (r2 : Bool) (w : World) (h : impl_SetList.f k a0 a1 = some (r1, r2)) :
    Calls Try.prog 51 #[.string a0, .int .i64 a1] w fun e w' => ∃ v0_ : Value, e = .returned (.tuple #[v0_, .bool r2]) ∧ Kd.R (Kd.int .i64) 3 w' w.heap.size (fun _ => True) v0_ r1 ∧ Below w.heap.size w w' := by
  have hu48 := Try.underlying48
  have HB := Aside0.mk (Below.refl w.heap.size w)
  have H : ((impl_setOf.f a0).bind fun bt476 => (if bt476.2.2 = true then ((impl_in.f a1 0 1000).bind fun t484 => (if t484 = true then ((impl_set_below.f k bt476.1 bt476.2.1 a1).bind fun t485 => (some (t485, true))) else (some (([] : List Int), false)))) else (some (([] : List Int), false)))) = some (r1, r2) := h
  clear h
  replace H := Option.bind_eq_some_iff.mp H
  obtain ⟨⟨t476, t479, t482⟩, A30, H⟩ := H
  replace H : (if t482 = true then ((impl_in.f a1 0 1000).bind fun t484 => (if t484 = true then ((impl_set_below.f k t476 t479 a1).bind fun t485 => (some (t485, true))) else (some (([] : List Int), false)))) else (some (([] : List Int), false))) = some (r1, r2) := H
  have A3 := Aside0.mk A30
  clear A30
  by_cases c4 : t482 = true
  · subst c4
    have H1 : ((impl_in.f a1 0 1000).bind fun t484 => (if t484 = true then ((impl_set_below.f k t476 t479 a1).bind fun t485 => (some (t485, true))) else (some (([] : List Int), false)))) = some (r1, r2) := by rw [if_pos rfl] at H; exact H
    clear H
    have H := H1
    clear H1
    replace H := Option.bind_eq_some_iff.mp H
    obtain ⟨t484, A50, H⟩ := H
    replace H : (if t484 = true then ((impl_set_below.f k t476 t479 a1).bind fun t485 => (some (t485, true))) else (some (([] : List Int), false))) = some (r1, r2) := H
    have A5 := Aside0.mk A50
    clear A50
    by_cases c6 : t484 = true
    · subst c6
      have H1 : ((impl_set_below.f k t476 t479 a1).bind fun t485 => (some (t485, true))) = some (r1, r2) := by rw [if_pos rfl] at H; exact H
      clear H
      have H := H1
      clear H1
      replace H := Option.bind_eq_some_iff.mp H
      obtain ⟨t485, A70, H⟩ := H
      replace H : (some (t485, true)) = some (r1, r2) := H
      have A7 := Aside0.mk A70
      clear A70
      simp only [Option.some.injEq, Prod.mk.injEq] at H
      obtain ⟨rfl, rfl⟩ := H
      go_enter Try.func51, Try.ntmps51
      go_wp2_with (first | ((with_reducible refine gate_callee (f := 35) rfl ?_); refine goesL_ (some 10) rfl rfl Try.func35 (by kernel_rfl) rfl #[.string a0] rfl (by (try simp only [List.map_toArray, List.map_cons, List.map_nil]); first | done | rfl | (simp only [List.length_drop, List.length_take]; rfl)) ?_; (with_reducible refine (impl_setOf.calls a0 t476 t479 true _ A3.out).mono ?_); rintro e w8 ⟨v477, v480, rfl, ho0, ho1, hb⟩; refine ⟨_, rfl, ?_⟩; have n0_ := Aside0.mk (Kd.R_lower ho0 (below_size (by repeat (first | (with_reducible first | exact HB.out | apply below_alloc | apply pw_below_drewN | apply below_drew1) | exact HB.out)))); have n1_ := Aside0.mk (Kd.R_lower ho1 (below_size (by repeat (first | (with_reducible first | exact HB.out | apply below_alloc | apply pw_below_drewN | apply below_drew1) | exact HB.out)))); have n2_ := Aside0.mk (below_step (by repeat (first | (with_reducible first | exact HB.out | apply below_alloc | apply pw_below_drewN | apply below_drew1) | exact HB.out)) hb); clear HB; have HO478 := n0_; have HO481 := n1_; have HB := n2_; clear n0_ n1_ n2_; (try clear hb); (try clear hb2); (try clear hk); (try clear hi); (try clear ho0); (try clear ho1)) | ((with_reducible refine gate_dst (N := 6) rfl ?_); refine box_event ?hg (N := 6) ?hd (cs := #[.slice none 0 0, .slice none 0 0]) (t := 48) ?hr ?_; (case hd => rfl); (case hg => rfl); (case hr => first | (go_simp; done) | (go_simp; rfl)); intro gb483 hg w9 hbox hb; have n0_ := Aside0.mk (Kd.R_below (by (with_reducible repeat (first | apply Kd.R_alloc | apply Kd.R_drewN | apply Kd.R_drew)); exact HO478.out) hb); have n1_ := Aside0.mk (Kd.R_below (by (with_reducible repeat (first | apply Kd.R_alloc | apply Kd.R_drewN | apply Kd.R_drew)); exact HO481.out) hb); have n2_ := Aside0.mk (below_step (by repeat (first | (with_reducible first | exact HB.out | apply below_alloc | apply pw_below_drewN | apply below_drew1) | exact HB.out)) hb); have n3_ := Aside0.mk (hbox); have n4_ := Aside0.mk ((by rw [hg]; exact (below_size (by repeat (first | (with_reducible first | exact HB.out | apply below_alloc | apply pw_below_drewN | apply below_drew1) | exact HB.out))) : w.heap.size ≤ gb483)); have n5_ := Aside0.mk ((by rw [hg]; exact (below_size (by repeat (first | (with_reducible first | exact HB.out | apply below_alloc | apply pw_below_drewN | apply below_drew1) | exact HB.out))) : w.heap.size ≤ gb483)); clear HO478; clear HO481; clear HB; have HO478 := n0_; have HO481 := n1_; have HB := n2_; have BK483 := n3_; have GW483 := n4_; have GE483 := n5_; clear n0_ n1_ n2_ n3_ n4_ n5_; clear hb hbox hg; obtain ⟨Ao10, co10, eo10⟩ := Kd.R_slice HO478.out; subst eo10; have hcz11_0 : w9.cell? ⟨gb483, 0, none⟩ = some (.slice none 0 0) := (blk_cell BK483.out 0).trans rfl; have hcz11_1 : w9.cell? ⟨gb483, 1, none⟩ = some (.slice none 0 0) := (blk_cell BK483.out 1).trans rfl; have hfz11_0 := blk_frozen BK483.out 0; have hfz11_1 := blk_frozen BK483.out 1; obtain ⟨Ao12, co12, eo12⟩ := Kd.R_slice HO481.out; subst eo12) | (go_at_call 36; (with_reducible refine (impl_in.calls a1 0 1000 true _ A5.out).mono ?_); rintro e w' ⟨rfl, ⟨nd, rfl⟩⟩) | ((with_reducible refine gate_callee (f := 37) rfl ?_); refine goesL_ (some 22) rfl rfl Try.func37 (by kernel_rfl) rfl #[.agg #[.slice Ao10 t476.length co10, .slice Ao12 t479.length co12], .int .i64 a1] rfl (by (try simp only [List.map_toArray, List.map_cons, List.map_nil]); first | done | rfl | (simp only [List.length_drop, List.length_take]; rfl)) ?_; (with_reducible refine (impl_set_below.calls k _ _ t476 _ _ t479 a1 t485 _ ?side1 ?side2 ?side3 ?side4 A7.out).mono ?_); (case side1 => refine (Kd.R_reads' (e := 4) (base := w.heap.size) (ok := fun k_ => some k_ ≠ (.slice Ao12 t479.length co12 : Value).ownBlock) (n := t476.length) (c := co10) ?_).2.2; exact (by (with_reducible repeat (first | apply Kd.R_alloc | apply Kd.R_drewN | apply Kd.R_drew)); exact (Kd.R_mono (Kd.R_far (p := ⟨gb483, 1, none⟩) (Kd.R_far (p := ⟨gb483, 0, none⟩) (Kd.R_types HO478.out BK483.out (by decide)) (fun _ hk => hk.2) (.slice Ao10 t476.length co10)) (fun _ hk => hk.2) (.slice Ao12 t479.length co12)) (fun _ h_ => h_.1)))); (case side2 => exact (Kd.R_reads' HO478.out).2.1); (case side3 => refine (Kd.R_reads' (e := 4) (base := w.heap.size) (ok := fun k_ => some k_ ≠ (.slice Ao10 t476.length co10 : Value).ownBlock) (n := t479.length) (c := co12) ?_).2.2; exact (by (with_reducible repeat (first | apply Kd.R_alloc | apply Kd.R_drewN | apply Kd.R_drew)); exact (Kd.R_mono (Kd.R_far (p := ⟨gb483, 1, none⟩) (Kd.R_far (p := ⟨gb483, 0, none⟩) (Kd.R_types HO481.out BK483.out (by decide)) (fun _ hk => hk.2) (.slice Ao10 t476.length co10)) (fun _ hk => hk.2) (.slice Ao12 t479.length co12)) (fun _ h_ => h_.1)))); (case side4 => exact (Kd.R_reads' HO481.out).2.1); rintro e w13 ⟨v486, rfl, ho0, hb⟩; refine ⟨_, rfl, ?_⟩; have n0_ := Aside0.mk (Kd.R_below (by (with_reducible repeat (first | apply Kd.R_alloc | apply Kd.R_drewN | apply Kd.R_drew)); exact (Kd.R_mono (Kd.R_far (p := ⟨gb483, 1, none⟩) (Kd.R_far (p := ⟨gb483, 0, none⟩) (Kd.R_types HO478.out BK483.out (by decide)) (fun _ hk => hk.2) (.slice Ao10 t476.length co10)) (fun _ hk => hk.2) (.slice Ao12 t479.length co12)) (fun _ h_ => h_.1))) hb); have n1_ := Aside0.mk (Kd.R_below (by (with_reducible repeat (first | apply Kd.R_alloc | apply Kd.R_drewN | apply Kd.R_drew)); exact (Kd.R_mono (Kd.R_far (p := ⟨gb483, 1, none⟩) (Kd.R_far (p := ⟨gb483, 0, none⟩) (Kd.R_types HO481.out BK483.out (by decide)) (fun _ hk => hk.2) (.slice Ao10 t476.length co10)) (fun _ hk => hk.2) (.slice Ao12 t479.length co12)) (fun _ h_ => h_.1))) hb); have n2_ := Aside0.mk (Kd.R_lower ho0 (below_size (by repeat (first | (with_reducible first | exact HB.out | apply below_alloc | apply pw_below_drewN | apply below_drew1 | refine below_set ?_ GE483.out) | exact HB.out)))); have n3_ := Aside0.mk (blk_below (g := gb483) (o := .cells #[.slice Ao10 t476.length co10, .slice Ao12 t479.length co12] 48 (0, 0)) (by (with_reducible repeat (first | refine blk_drewN ?_ _ | refine blk_drew ?_ | refine blk_alloc ?_ _)); refine blk_put (cs := #[.slice Ao10 t476.length co10, .slice none 0 0]) ?_ 1 _ rfl; (with_reducible repeat (first | refine blk_drewN ?_ _ | refine blk_drew ?_ | refine blk_alloc ?_ _)); refine blk_put (cs := #[.slice none 0 0, .slice none 0 0]) ?_ 0 _ rfl; (with_reducible repeat (first | refine blk_drewN ?_ _ | refine blk_drew ?_ | refine blk_alloc ?_ _)); exact BK483.out) hb); have n4_ := Aside0.mk (below_step (by repeat (first | (with_reducible first | exact HB.out | apply below_alloc | apply pw_below_drewN | apply below_drew1 | refine below_set ?_ GE483.out) | exact HB.out)) hb); clear HO478; clear HO481; clear BK483; clear HB; have HO478 := n0_; have HO481 := n1_; have HO487 := n2_; have BK483 := n3_; have HB := n4_; clear n0_ n1_ n2_ n3_ n4_; (try clear hb); (try clear hb2); (try clear hk); (try clear hi); (try clear ho0)))
      go_ret2
      exact ⟨_, by first | rfl | (simp [errW_none, errW_some] <;> rfl) | (simp [errW_none, errW_some]; exact ⟨rfl, rfl⟩) | (simp [errW_none, errW_some]; exact ⟨rfl, rfl, rfl⟩) | (simp [*, errW_none, errW_some] <;> rfl), by (with_reducible repeat (first | apply Kd.R_alloc | apply Kd.R_drewN | apply Kd.R_drew)); exact HO487.out, by repeat (first | (with_reducible first | exact HB.out | apply below_alloc | apply pw_below_drewN | apply below_drew1 | refine below_set ?_ GE483.out) | exact HB.out)⟩
    · replace c6 := Bool.eq_false_iff.mpr c6
      subst c6
      have H1 : (some (([] : List Int), false)) = some (r1, r2) := by rw [if_neg (show ¬ (false = true) by decide)] at H; exact H
      clear H
      have H := H1
      clear H1
      simp only [Option.some.injEq, Prod.mk.injEq] at H
      obtain ⟨rfl, rfl⟩ := H
      go_enter Try.func51, Try.ntmps51
      go_wp2_with (first | ((with_reducible refine gate_callee (f := 35) rfl ?_); refine goesL_ (some 10) rfl rfl Try.func35 (by kernel_rfl) rfl #[.string a0] rfl (by (try simp only [List.map_toArray, List.map_cons, List.map_nil]); first | done | rfl | (simp only [List.length_drop, List.length_take]; rfl)) ?_; (with_reducible refine (impl_setOf.calls a0 t476 t479 true _ A3.out).mono ?_); rintro e w14 ⟨v477, v480, rfl, ho0, ho1, hb⟩; refine ⟨_, rfl, ?_⟩; have n0_ := Aside0.mk (Kd.R_lower ho0 (below_size (by repeat (first | (with_reducible first | exact HB.out | apply below_alloc | apply pw_below_drewN | apply below_drew1) | exact HB.out)))); have n1_ := Aside0.mk (Kd.R_lower ho1 (below_size (by repeat (first | (with_reducible first | exact HB.out | apply below_alloc | apply pw_below_drewN | apply below_drew1) | exact HB.out)))); have n2_ := Aside0.mk (below_step (by repeat (first | (with_reducible first | exact HB.out | apply below_alloc | apply pw_below_drewN | apply below_drew1) | exact HB.out)) hb); clear HB; have HO478 := n0_; have HO481 := n1_; have HB := n2_; clear n0_ n1_ n2_; (try clear hb); (try clear hb2); (try clear hk); (try clear hi); (try clear ho0); (try clear ho1)) | ((with_reducible refine gate_dst (N := 6) rfl ?_); refine box_event ?hg (N := 6) ?hd (cs := #[.slice none 0 0, .slice none 0 0]) (t := 48) ?hr ?_; (case hd => rfl); (case hg => rfl); (case hr => first | (go_simp; done) | (go_simp; rfl)); intro gb483 hg w15 hbox hb; have n0_ := Aside0.mk (Kd.R_below (by (with_reducible repeat (first | apply Kd.R_alloc | apply Kd.R_drewN | apply Kd.R_drew)); exact HO478.out) hb); have n1_ := Aside0.mk (Kd.R_below (by (with_reducible repeat (first | apply Kd.R_alloc | apply Kd.R_drewN | apply Kd.R_drew)); exact HO481.out) hb); have n2_ := Aside0.mk (below_step (by repeat (first | (with_reducible first | exact HB.out | apply below_alloc | apply pw_below_drewN | apply below_drew1) | exact HB.out)) hb); have n3_ := Aside0.mk (hbox); have n4_ := Aside0.mk ((by rw [hg]; exact (below_size (by repeat (first | (with_reducible first | exact HB.out | apply below_alloc | apply pw_below_drewN | apply below_drew1) | exact HB.out))) : w.heap.size ≤ gb483)); have n5_ := Aside0.mk ((by rw [hg]; exact (below_size (by repeat (first | (with_reducible first | exact HB.out | apply below_alloc | apply pw_below_drewN | apply below_drew1) | exact HB.out))) : w.heap.size ≤ gb483)); clear HO478; clear HO481; clear HB; have HO478 := n0_; have HO481 := n1_; have HB := n2_; have BK483 := n3_; have GW483 := n4_; have GE483 := n5_; clear n0_ n1_ n2_ n3_ n4_ n5_; clear hb hbox hg; obtain ⟨Ao16, co16, eo16⟩ := Kd.R_slice HO478.out; subst eo16; have hcz17_0 : w15.cell? ⟨gb483, 0, none⟩ = some (.slice none 0 0) := (blk_cell BK483.out 0).trans rfl; have hcz17_1 : w15.cell? ⟨gb483, 1, none⟩ = some (.slice none 0 0) := (blk_cell BK483.out 1).trans rfl; have hfz17_0 := blk_frozen BK483.out 0; have hfz17_1 := blk_frozen BK483.out 1; obtain ⟨Ao18, co18, eo18⟩ := Kd.R_slice HO481.out; subst eo18) | (go_at_call 36; (with_reducible refine (impl_in.calls a1 0 1000 false _ A5.out).mono ?_); rintro e w' ⟨rfl, ⟨nd, rfl⟩⟩))
      go_ret2
      exact ⟨_, by first | rfl | (simp [errW_none, errW_some] <;> rfl) | (simp [errW_none, errW_some]; exact ⟨rfl, rfl⟩) | (simp [errW_none, errW_some]; exact ⟨rfl, rfl, rfl⟩) | (simp [*, errW_none, errW_some] <;> rfl), by first | exact Kd.R_nil _ _ _ _ _ | exact Kd.N_nil _ _ _ _ _ | exact Kd.V_nil _ _ _ _ _ | exact Kd.Q_nil _ _ _ _ _ | exact Kd.S_nil _ _ _ _ _, by repeat (first | (with_reducible first | exact HB.out | apply below_alloc | apply pw_below_drewN | apply below_drew1 | refine below_set ?_ GE483.out) | exact HB.out)⟩
  · replace c4 := Bool.eq_false_iff.mpr c4
    subst c4
    have H1 : (some (([] : List Int), false)) = some (r1, r2) := by rw [if_neg (show ¬ (false = true) by decide)] at H; exact H
    clear H
    have H := H1
    clear H1
    simp only [Option.some.injEq, Prod.mk.injEq] at H
    obtain ⟨rfl, rfl⟩ := H
    go_enter Try.func51, Try.ntmps51
    go_wp2_with (first | ((with_reducible refine gate_callee (f := 35) rfl ?_); refine goesL_ (some 10) rfl rfl Try.func35 (by kernel_rfl) rfl #[.string a0] rfl (by (try simp only [List.map_toArray, List.map_cons, List.map_nil]); first | done | rfl | (simp only [List.length_drop, List.length_take]; rfl)) ?_; (with_reducible refine (impl_setOf.calls a0 t476 t479 false _ A3.out).mono ?_); rintro e w19 ⟨v477, v480, rfl, ho0, ho1, hb⟩; refine ⟨_, rfl, ?_⟩; have n0_ := Aside0.mk (Kd.R_lower ho0 (below_size (by repeat (first | (with_reducible first | exact HB.out | apply below_alloc | apply pw_below_drewN | apply below_drew1) | exact HB.out)))); have n1_ := Aside0.mk (Kd.R_lower ho1 (below_size (by repeat (first | (with_reducible first | exact HB.out | apply below_alloc | apply pw_below_drewN | apply below_drew1) | exact HB.out)))); have n2_ := Aside0.mk (below_step (by repeat (first | (with_reducible first | exact HB.out | apply below_alloc | apply pw_below_drewN | apply below_drew1) | exact HB.out)) hb); clear HB; have HO478 := n0_; have HO481 := n1_; have HB := n2_; clear n0_ n1_ n2_; (try clear hb); (try clear hb2); (try clear hk); (try clear hi); (try clear ho0); (try clear ho1)) | ((with_reducible refine gate_dst (N := 6) rfl ?_); refine box_event ?hg (N := 6) ?hd (cs := #[.slice none 0 0, .slice none 0 0]) (t := 48) ?hr ?_; (case hd => rfl); (case hg => rfl); (case hr => first | (go_simp; done) | (go_simp; rfl)); intro gb483 hg w20 hbox hb; have n0_ := Aside0.mk (Kd.R_below (by (with_reducible repeat (first | apply Kd.R_alloc | apply Kd.R_drewN | apply Kd.R_drew)); exact HO478.out) hb); have n1_ := Aside0.mk (Kd.R_below (by (with_reducible repeat (first | apply Kd.R_alloc | apply Kd.R_drewN | apply Kd.R_drew)); exact HO481.out) hb); have n2_ := Aside0.mk (below_step (by repeat (first | (with_reducible first | exact HB.out | apply below_alloc | apply pw_below_drewN | apply below_drew1) | exact HB.out)) hb); have n3_ := Aside0.mk (hbox); have n4_ := Aside0.mk ((by rw [hg]; exact (below_size (by repeat (first | (with_reducible first | exact HB.out | apply below_alloc | apply pw_below_drewN | apply below_drew1) | exact HB.out))) : w.heap.size ≤ gb483)); have n5_ := Aside0.mk ((by rw [hg]; exact (below_size (by repeat (first | (with_reducible first | exact HB.out | apply below_alloc | apply pw_below_drewN | apply below_drew1) | exact HB.out))) : w.heap.size ≤ gb483)); clear HO478; clear HO481; clear HB; have HO478 := n0_; have HO481 := n1_; have HB := n2_; have BK483 := n3_; have GW483 := n4_; have GE483 := n5_; clear n0_ n1_ n2_ n3_ n4_ n5_; clear hb hbox hg; obtain ⟨Ao21, co21, eo21⟩ := Kd.R_slice HO478.out; subst eo21; have hcz22_0 : w20.cell? ⟨gb483, 0, none⟩ = some (.slice none 0 0) := (blk_cell BK483.out 0).trans rfl; have hcz22_1 : w20.cell? ⟨gb483, 1, none⟩ = some (.slice none 0 0) := (blk_cell BK483.out 1).trans rfl; have hfz22_0 := blk_frozen BK483.out 0; have hfz22_1 := blk_frozen BK483.out 1; obtain ⟨Ao23, co23, eo23⟩ := Kd.R_slice HO481.out; subst eo23))
    go_ret2
    exact ⟨_, by first | rfl | (simp [errW_none, errW_some] <;> rfl) | (simp [errW_none, errW_some]; exact ⟨rfl, rfl⟩) | (simp [errW_none, errW_some]; exact ⟨rfl, rfl, rfl⟩) | (simp [*, errW_none, errW_some] <;> rfl), by first | exact Kd.R_nil _ _ _ _ _ | exact Kd.N_nil _ _ _ _ _ | exact Kd.V_nil _ _ _ _ _ | exact Kd.Q_nil _ _ _ _ _ | exact Kd.S_nil _ _ _ _ _, by repeat (first | (with_reducible first | exact HB.out | apply below_alloc | apply pw_below_drewN | apply below_drew1 | refine below_set ?_ GE483.out) | exact HB.out)⟩

end Go.Proofs.Ytbgapjgfocdjoaa.Q

namespace Go.Proofs.Ytbgapjgfocdjoaa.Q
open Go.RowKit Go.Proofs.YtbgapjgfocdjoaaW.PrintWords Go.Proofs.YtbgapjgfocdjoaaW.PrintLast Go.Proofs.YtbgapjgfocdjoaaW.PrintMore
attribute [local go_sem] max2_int min2_int max_two min_two max_three min_three max_four min_four   -- for this text's walks alone
set_option linter.unusedVariables false
set_option linter.unusedSimpArgs false

def impl_SetCount.f (k : Nat) (a0 : ByteArray) (a1 : Int) : Option (Int × Bool) := (impl_SetList.f k a0 a1).bind fun bt488 => (some ((bt488.1.length : Int), bt488.2))
theorem impl_SetCount.mono : ∀ a0 a1 k, LeO (impl_SetCount.f k a0 a1) (impl_SetCount.f (k + 1) a0 a1) := by
  intro a0 a1 k
  unfold impl_SetCount.f
  repeat' first
      | (with_reducible exact impl_SetList.mono _ _ _)
      | (with_reducible exact LeO.refl _)
      | (with_reducible exact LeO.none _)
      | (with_reducible refine LeO.ite ?_ ?_)
      | (with_reducible refine LeO.bind ?_ (fun _ => ?_))
      | exact impl_SetList.mono _ _ _
      | exact LeO.none _
      | refine LeO.ite ?_ ?_
      | refine LeO.bind ?_ (fun _ => ?_)
set_option maxHeartbeats 8000000 in
set_option maxRecDepth 100000 in
theorem impl_SetCount.calls (k : Nat) (a0 : ByteArray) (a1 : Int) (r1 : Int) (r2 : Bool) (w : World) (h : impl_SetCount.f k a0 a1 = some (r1, r2)) :
    Calls Try.prog 26 #[.string a0, .int .i64 a1] w fun e w' => e = .returned (.tuple #[.int .i64 r1, .bool r2]) ∧ Below w.heap.size w w' := by
  have HB := Aside0.mk (Below.refl w.heap.size w)
  have H : ((impl_SetList.f k a0 a1).bind fun bt488 => (some ((bt488.1.length : Int), bt488.2))) = some (r1, r2) := h
  clear h
  replace H := Option.bind_eq_some_iff.mp H
  obtain ⟨⟨t488, t489⟩, A30, H⟩ := H
  replace H : (some ((t488.length : Int), t489)) = some (r1, r2) := H
  have A3 := Aside0.mk A30
  clear A30
  simp only [Option.some.injEq, Prod.mk.injEq] at H
  obtain ⟨rfl, rfl⟩ := H
  go_enter Try.func26, Try.ntmps26
  go_wp2_with (first | ((with_reducible refine gate_callee (f := 51) rfl ?_); refine goesL_ (some 11) rfl rfl Try.func51 (by kernel_rfl) rfl #[.string a0, .int .i64 a1] rfl (by (try simp only [List.map_toArray, List.map_cons, List.map_nil]); first | done | rfl | (simp only [List.length_drop, List.length_take]; rfl)) ?_; (with_reducible refine (impl_SetList.calls k a0 a1 t488 t489 _ A3.out).mono ?_); rintro e w4 ⟨v490, rfl, ho0, hb⟩; refine ⟨_, rfl, ?_⟩; have n0_ := Aside0.mk (Kd.R_lower ho0 (below_size (by repeat (first | (with_reducible first | exact HB.out | apply below_alloc | apply pw_below_drewN | apply below_drew1) | exact HB.out)))); have n1_ := Aside0.mk (below_step (by repeat (first | (with_reducible first | exact HB.out | apply below_alloc | apply pw_below_drewN | apply below_drew1) | exact HB.out)) hb); clear HB; have HO491 := n0_; have HB := n1_; clear n0_ n1_; (try clear hb); (try clear hb2); (try clear hk); (try clear hi); (try clear ho0); obtain ⟨Ao5, co5, eo5⟩ := Kd.R_slice HO491.out; subst eo5))
  go_ret2
  exact ⟨by first | rfl | (simp [errW_none, errW_some] <;> rfl) | (simp [errW_none, errW_some]; exact ⟨rfl, rfl⟩) | (simp [errW_none, errW_some]; exact ⟨rfl, rfl, rfl⟩) | (simp [*, errW_none, errW_some] <;> rfl), by repeat (first | (with_reducible first | exact HB.out | apply below_alloc | apply pw_below_drewN | apply below_drew1) | exact HB.out)⟩

end Go.Proofs.Ytbgapjgfocdjoaa.Q

namespace Go.Proofs.Ytbgapjgfocdjoaa.Q
open Go.RowKit Go.Proofs.YtbgapjgfocdjoaaW.PrintWords Go.Proofs.YtbgapjgfocdjoaaW.PrintLast Go.Proofs.YtbgapjgfocdjoaaW.PrintMore
attribute [local go_sem] max2_int min2_int max_two min_two max_three min_three max_four min_four   -- for this text's walks alone
set_option linter.unusedVariables false
set_option linter.unusedSimpArgs false

mutual
def laws_FnDenseCount.j0 : Nat → ByteArray → Int → Int → Int → Bool → Bool → Option (Bool)
  | 0, _, _, _, _, _, _ => none
  | k + 1, x3, x4, x5, x6, x7, x10 => if x10 = true then (laws_FnDenseCount.j1 k x3 x4 x5 x6 x10 (!x7)) else (laws_FnDenseCount.j1 k x3 x4 x5 x6 x10 true)
def laws_FnDenseCount.j1 : Nat → ByteArray → Int → Int → Int → Bool → Bool → Option (Bool)
  | 0, _, _, _, _, _, _ => none
  | k + 1, x3, x4, x5, x6, x10, x51 => if x51 = true then (some x10) else ((impl_SetCount.f k x3 x4).bind fun bt499 => ((impl_SetCount.f k x3 (wrap64 (x4 + x5))).bind fun bt501 => (if bt499.2 = true then (if bt501.2 = true then (some ((wrap64 (bt499.1 + x6)) == bt501.1)) else (some true)) else (some true))))
end
def laws_FnDenseCount.f (k : Nat) (l0 : List Int) : Option (Bool) := if (l0.length : Int) > 1048576 then (some true) else ((spec_DrawDenseCount.f k l0).bind fun bt492 => ((impl_DenseCount.f k bt492.1 bt492.2.1 bt492.2.2).bind fun bt495 => ((spec_DenseCount.f k bt492.1 bt492.2.1 bt492.2.2).bind fun bt497 => (if bt495.1 = bt497.1 then (laws_FnDenseCount.j0 k bt492.1 bt492.2.1 bt492.2.2 bt495.1 bt495.2 (bt495.2 == bt497.2)) else (laws_FnDenseCount.j0 k bt492.1 bt492.2.1 bt492.2.2 bt495.1 bt495.2 false)))))
theorem laws_FnDenseCount.mono_l : ∀ k, (∀ y0 y1 y2 y3 y4 y5, LeO (laws_FnDenseCount.j0 k y0 y1 y2 y3 y4 y5) (laws_FnDenseCount.j0 (k + 1) y0 y1 y2 y3 y4 y5)) ∧ (∀ y0 y1 y2 y3 y4 y5, LeO (laws_FnDenseCount.j1 k y0 y1 y2 y3 y4 y5) (laws_FnDenseCount.j1 (k + 1) y0 y1 y2 y3 y4 y5))
  | 0 => ⟨fun _ _ _ _ _ _ r h => by simp [laws_FnDenseCount.j0] at h, fun _ _ _ _ _ _ r h => by simp [laws_FnDenseCount.j1] at h⟩
  | k + 1 => by
    obtain ⟨ih0, ih1⟩ := laws_FnDenseCount.mono_l k
    refine ⟨?_, ?_⟩
    · intro y0 y1 y2 y3 y4 y5
      unfold laws_FnDenseCount.j0
      repeat' first
      | (with_reducible exact ih0 _ _ _ _ _ _)
      | (with_reducible exact ih1 _ _ _ _ _ _)
      | (with_reducible exact impl_DenseCount.mono _ _ _ _)
      | (with_reducible exact impl_SetCount.mono _ _ _)
      | (with_reducible exact spec_DenseCount.mono _ _ _ _)
      | (with_reducible exact spec_DrawDenseCount.mono _ _)
      | (with_reducible exact LeO.refl _)
      | (with_reducible exact LeO.none _)
      | (with_reducible refine LeO.ite ?_ ?_)
      | (with_reducible refine LeO.bind ?_ (fun _ => ?_))
      | exact ih0 _ _ _ _ _ _
      | exact ih1 _ _ _ _ _ _
      | exact impl_DenseCount.mono _ _ _ _
      | exact impl_SetCount.mono _ _ _
      | exact spec_DenseCount.mono _ _ _ _
      | exact spec_DrawDenseCount.mono _ _
      | exact LeO.none _
      | refine LeO.ite ?_ ?_
      | refine LeO.bind ?_ (fun _ => ?_)
    · intro y0 y1 y2 y3 y4 y5
      unfold laws_FnDenseCount.j1
      repeat' first
      | (with_reducible exact ih0 _ _ _ _ _ _)
      | (with_reducible exact ih1 _ _ _ _ _ _)
      | (with_reducible exact impl_DenseCount.mono _ _ _ _)
      | (with_reducible exact impl_SetCount.mono _ _ _)
      | (with_reducible exact spec_DenseCount.mono _ _ _ _)
      | (with_reducible exact spec_DrawDenseCount.mono _ _)
      | (with_reducible exact LeO.refl _)
      | (with_reducible exact LeO.none _)
      | (with_reducible refine LeO.ite ?_ ?_)
      | (with_reducible refine LeO.bind ?_ (fun _ => ?_))
      | exact ih0 _ _ _ _ _ _
      | exact ih1 _ _ _ _ _ _
      | exact impl_DenseCount.mono _ _ _ _
      | exact impl_SetCount.mono _ _ _
      | exact spec_DenseCount.mono _ _ _ _
      | exact spec_DrawDenseCount.mono _ _
      | exact LeO.none _
      | refine LeO.ite ?_ ?_
      | refine LeO.bind ?_ (fun _ => ?_)
theorem laws_FnDenseCount.mono : ∀ a0 k, LeO (laws_FnDenseCount.f k a0) (laws_FnDenseCount.f (k + 1) a0) := by
  intro a0 k
  obtain ⟨ih0, ih1⟩ := laws_FnDenseCount.mono_l k
  unfold laws_FnDenseCount.f
  repeat' first
      | (with_reducible exact ih0 _ _ _ _ _ _)
      | (with_reducible exact ih1 _ _ _ _ _ _)
      | (with_reducible exact impl_DenseCount.mono _ _ _ _)
      | (with_reducible exact impl_SetCount.mono _ _ _)
      | (with_reducible exact spec_DenseCount.mono _ _ _ _)
      | (with_reducible exact spec_DrawDenseCount.mono _ _)
      | (with_reducible exact LeO.refl _)
      | (with_reducible exact LeO.none _)
      | (with_reducible refine LeO.ite ?_ ?_)
      | (with_reducible refine LeO.bind ?_ (fun _ => ?_))
      | exact ih0 _ _ _ _ _ _
      | exact ih1 _ _ _ _ _ _
      | exact impl_DenseCount.mono _ _ _ _
      | exact impl_SetCount.mono _ _ _
      | exact spec_DenseCount.mono _ _ _ _
      | exact spec_DrawDenseCount.mono _ _
      | exact LeO.none _
      | refine LeO.ite ?_ ?_
      | refine LeO.bind ?_ (fun _ => ?_)
set_option maxHeartbeats 8000000 in
set_option maxRecDepth 100000 in
theorem laws_FnDenseCount.calls (k : Nat) (A0 : Option Addr) (c0 : Nat) (l0 : List Int) (r : Bool) (w : World) (hr0 : Kd.C (Kd.int .u8) w A0 l0.length l0) (hc0 : l0.length ≤ c0) (h : laws_FnDenseCount.f k l0 = some r) :
    Calls Try.prog 9 #[.slice A0 l0.length c0] w fun e w' => e = .returned (.bool r) ∧ Below w.heap.size w w' := by
  have HR0 := Aside0.mk hr0
  have HC0 := Aside0.mk hc0
  clear hr0 hc0
  have HB := Aside0.mk (Below.refl w.heap.size w)
  have H : (if (l0.length : Int) > 1048576 then (some true) else ((spec_DrawDenseCount.f k l0).bind fun bt492 => ((impl_DenseCount.f k bt492.1 bt492.2.1 bt492.2.2).bind fun bt495 => ((spec_DenseCount.f k bt492.1 bt492.2.1 bt492.2.2).bind fun bt497 => (if bt495.1 = bt497.1 then (laws_FnDenseCount.j0 k bt492.1 bt492.2.1 bt492.2.2 bt495.1 bt495.2 (bt495.2 == bt497.2)) else (laws_FnDenseCount.j0 k bt492.1 bt492.2.1 bt492.2.2 bt495.1 bt495.2 false)))))) = some r := h
  clear h
  by_cases c2 : (l0.length : Int) > 1048576
  · rw [if_pos c2] at H
    have c2b0 : decide (1048576 < (l0.length : Int)) = true := decide_eq_true c2
    have c2b1 : decide (1048576 < l0.length) = true := decide_eq_true (by omega)
    clear c2
    obtain rfl := Option.some.inj H
    go_enter Try.func9, Try.ntmps9
    go_wp2
    go_ret
    exact ⟨by first | rfl | (simp [errW_none, errW_some] <;> rfl) | (simp [errW_none, errW_some]; exact ⟨rfl, rfl⟩) | (simp [errW_none, errW_some]; exact ⟨rfl, rfl, rfl⟩) | (simp [*, errW_none, errW_some] <;> rfl), by repeat (first | (with_reducible first | exact HB.out | apply below_alloc | apply pw_below_drewN | apply below_drew1) | exact HB.out)⟩
  · rw [if_neg c2] at H
    have c2b0 : decide (1048576 < (l0.length : Int)) = false := decide_eq_false c2
    have c2b1 : decide (1048576 < l0.length) = false := decide_eq_false (by omega)
    clear c2
    replace H := Option.bind_eq_some_iff.mp H
    obtain ⟨⟨t492, t493, t494⟩, A30, H⟩ := H
    replace H : ((impl_DenseCount.f k t492 t493 t494).bind fun bt495 => ((spec_DenseCount.f k t492 t493 t494).bind fun bt497 => (if bt495.1 = bt497.1 then (laws_FnDenseCount.j0 k t492 t493 t494 bt495.1 bt495.2 (bt495.2 == bt497.2)) else (laws_FnDenseCount.j0 k t492 t493 t494 bt495.1 bt495.2 false)))) = some r := H
    have A3 := Aside0.mk A30
    clear A30
    replace H := Option.bind_eq_some_iff.mp H
    obtain ⟨⟨t495, t496⟩, A40, H⟩ := H
    replace H : ((spec_DenseCount.f k t492 t493 t494).bind fun bt497 => (if t495 = bt497.1 then (laws_FnDenseCount.j0 k t492 t493 t494 t495 t496 (t496 == bt497.2)) else (laws_FnDenseCount.j0 k t492 t493 t494 t495 t496 false))) = some r := H
    have A4 := Aside0.mk A40
    clear A40
    replace H := Option.bind_eq_some_iff.mp H
    obtain ⟨⟨t497, t498⟩, A50, H⟩ := H
    replace H : (if t495 = t497 then (laws_FnDenseCount.j0 k t492 t493 t494 t495 t496 (t496 == t498)) else (laws_FnDenseCount.j0 k t492 t493 t494 t495 t496 false)) = some r := H
    have A5 := Aside0.mk A50
    clear A50
    have HC6 := Aside0.mk H
    clear H
    go_enter Try.func9, Try.ntmps9
    go_upto_region 6 with (first | ((with_reducible refine gate_callee (f := 25) rfl ?_); refine goesL_ (some 20) rfl rfl Try.func25 (by kernel_rfl) rfl #[.slice A0 l0.length c0] rfl (by (try simp only [List.map_toArray, List.map_cons, List.map_nil]); first | done | rfl | (simp only [List.length_drop, List.length_take]; rfl)) ?_; (with_reducible refine (spec_DrawDenseCount.calls k _ _ l0 t492 t493 t494 _ ?side1 ?side2 A3.out).mono ?_); (case side1 => repeat (first | exact HR0.out | (with_reducible refine Kd.C_alloc ?_ _) | (with_reducible refine Kd.C_drewN ?_ _) | (with_reducible refine Kd.C_drew ?_))); (case side2 => exact HC0.out); rintro e w7 ⟨rfl, hb⟩; refine ⟨_, rfl, ?_⟩; have n0_ := Aside0.mk (below_step (by repeat (first | (with_reducible first | exact HB.out | apply below_alloc | apply pw_below_drewN | apply below_drew1) | exact HB.out)) hb); clear HB; have HB := n0_; clear n0_; (try clear hb); (try clear hb2); (try clear hk); (try clear hi)) | ((with_reducible refine gate_callee (f := 14) rfl ?_); refine goesL_ (some 28) rfl rfl Try.func14 (by kernel_rfl) rfl #[.string t492, .int .i64 t493, .int .i64 t494] rfl (by (try simp only [List.map_toArray, List.map_cons, List.map_nil]); first | done | rfl | (simp only [List.length_drop, List.length_take]; rfl)) ?_; (with_reducible refine (impl_DenseCount.calls k t492 t493 t494 t495 t496 _ A4.out).mono ?_); rintro e w8 ⟨rfl, hb⟩; refine ⟨_, rfl, ?_⟩; have n0_ := Aside0.mk (below_step (by repeat (first | (with_reducible first | exact HB.out | apply below_alloc | apply pw_below_drewN | apply below_drew1) | exact HB.out)) hb); clear HB; have HB := n0_; clear n0_; (try clear hb); (try clear hb2); (try clear hk); (try clear hi)) | ((with_reducible refine gate_callee (f := 13) rfl ?_); refine goesL_ (some 35) rfl rfl Try.func13 (by kernel_rfl) rfl #[.string t492, .int .i64 t493, .int .i64 t494] rfl (by (try simp only [List.map_toArray, List.map_cons, List.map_nil]); first | done | rfl | (simp only [List.length_drop, List.length_take]; rfl)) ?_; (with_reducible refine (spec_DenseCount.calls k t492 t493 t494 t497 t498 _ A5.out).mono ?_); rintro e w9 ⟨rfl, hb⟩; refine ⟨_, rfl, ?_⟩; have n0_ := Aside0.mk (below_step (by repeat (first | (with_reducible first | exact HB.out | apply below_alloc | apply pw_below_drewN | apply below_drew1) | exact HB.out)) hb); clear HB; have HB := n0_; clear n0_; (try clear hb); (try clear hb2); (try clear hk); (try clear hi)))
    (try simp only [Act.put, List.setIfInBounds_toArray, List.set_cons_zero, List.set_cons_succ])
    go_cut [10] (fun v10 wc => ∃ (kq : Nat) (x10_5 : Bool), v10 = .bool x10_5 ∧ Aside0 (laws_FnDenseCount.j0 kq t492 t493 t494 t495 t496 x10_5 = some r) ∧ Aside0 (kq ≤ k) ∧ Aside0 (Below w.heap.size w wc))
    case first =>
      have H := HC6.out
      clear HC6
      by_cases c10 : t495 = t497
      · rw [if_pos c10] at H
        have c10b0 : (t495 == t497) = true := beq_iff_eq.mpr c10
        have c10b1 : (t495 != t497) = false := bne_eq_false_iff_eq.mpr c10
        clear c10
        (first | rw [c10b0] | (simp only [i64_w, i32_w]; rw [c10b0]) | skip)
        have H' := Aside0.mk H
        clear H
        go_wp2
        go_meet
        case rel => exact ⟨_, ((t496 == t498)), (by first | rfl | (simp; done) | (simp [*]; done) | (simp [Int.tmod_eq_emod_of_nonneg]; done)), H', ⟨by first | omega | exact Nat.le_refl _⟩, ⟨by repeat (first | (with_reducible first | exact HB.out | apply below_alloc | apply pw_below_drewN | apply below_drew1) | exact HB.out)⟩⟩
      · rw [if_neg c10] at H
        have c10b0 : (t495 == t497) = false := beq_eq_false_iff_ne.mpr c10
        have c10b1 : (t495 != t497) = true := bne_iff_ne.mpr c10
        (first | rw [c10b0] | (simp only [i64_w, i32_w]; rw [c10b0]) | skip)
        have H' := Aside0.mk H
        clear H
        go_wp2
        go_meet
        case rel => exact ⟨_, (false), (by first | rfl | (simp; done) | (simp [*]; done) | (simp [Int.tmod_eq_emod_of_nonneg]; done)), H', ⟨by first | omega | exact Nat.le_refl _⟩, ⟨by repeat (first | (with_reducible first | exact HB.out | apply below_alloc | apply pw_below_drewN | apply below_drew1) | exact HB.out)⟩⟩
    case rest =>
      clear HC6
      try clear c1
      try clear c2
      try clear c2b0
      try clear c2b1
      try clear p2
      try clear c9
      try clear c10
      try clear c10b0
      try clear c10b1
      obtain ⟨kq, x10_5, rfl, HA, HJ5, HB⟩ := hcut
      cases kq with
      | zero => exact absurd HA.out (by simp [laws_FnDenseCount.j0])
      | succ kj5 =>
        have H := HA.out
        clear HA
        simp only [laws_FnDenseCount.j0] at H
        have HC11 := Aside0.mk H
        clear H
        go_upto_region 7 with (fail)
        go_cut [51] (fun v51 wc => ∃ (kq : Nat) (x51_10 : Bool), v51 = .bool x51_10 ∧ Aside0 (laws_FnDenseCount.j1 kq t492 t493 t494 t495 x10_5 x51_10 = some r) ∧ Aside0 (kq ≤ kj5) ∧ Aside0 (Below w.heap.size w wc))
        case first =>
          have H := HC11.out
          clear HC11
          by_cases c12 : x10_5 = true
          · subst c12
            have H1 : (laws_FnDenseCount.j1 kj5 t492 t493 t494 t495 true (!t496)) = some r := by rw [if_pos rfl] at H; exact H
            clear H
            have H := H1
            clear H1
            have H' := Aside0.mk H
            clear H
            go_wp2
            go_meet
            case rel => exact ⟨_, (!t496), (by first | rfl | (simp; done) | (simp [*]; done) | (simp [Int.tmod_eq_emod_of_nonneg]; done)), H', ⟨by have := HJ5.out; first | omega | exact Nat.le_refl _⟩, ⟨by repeat (first | (with_reducible first | exact HB.out | apply below_alloc | apply pw_below_drewN | apply below_drew1) | exact HB.out)⟩⟩
          · replace c12 := Bool.eq_false_iff.mpr c12
            subst c12
            have H1 : (laws_FnDenseCount.j1 kj5 t492 t493 t494 t495 false true) = some r := by rw [if_neg (show ¬ (false = true) by decide)] at H; exact H
            clear H
            have H := H1
            clear H1
            have H' := Aside0.mk H
            clear H
            go_wp2
            go_meet
            case rel => exact ⟨_, (true), (by first | rfl | (simp; done) | (simp [*]; done) | (simp [Int.tmod_eq_emod_of_nonneg]; done)), H', ⟨by have := HJ5.out; first | omega | exact Nat.le_refl _⟩, ⟨by repeat (first | (with_reducible first | exact HB.out | apply below_alloc | apply pw_below_drewN | apply below_drew1) | exact HB.out)⟩⟩
        case rest =>
          clear HC11
          try clear c1
          try clear c2
          try clear c2b0
          try clear c2b1
          try clear p2
          try clear c9
          try clear c10
          try clear c10b0
          try clear c10b1
          try clear c12
          try clear p2
          obtain ⟨kq, x51_10, rfl, HA, HJ10, HB⟩ := hcut
          cases kq with
          | zero => exact absurd HA.out (by simp [laws_FnDenseCount.j1])
          | succ kj10 =>
            have H := HA.out
            clear HA
            simp only [laws_FnDenseCount.j1] at H
            by_cases c13 : x51_10 = true
            · subst c13
              have H1 : (some x10_5) = some r := by rw [if_pos rfl] at H; exact H
              clear H
              have H := H1
              clear H1
              obtain rfl := Option.some.inj H
              go_wp2
              go_ret
              exact ⟨by first | rfl | (simp [errW_none, errW_some] <;> rfl) | (simp [errW_none, errW_some]; exact ⟨rfl, rfl⟩) | (simp [errW_none, errW_some]; exact ⟨rfl, rfl, rfl⟩) | (simp [*, errW_none, errW_some] <;> rfl), by repeat (first | (with_reducible first | exact HB.out | apply below_alloc | apply pw_below_drewN | apply below_drew1) | exact HB.out)⟩
            · replace c13 := Bool.eq_false_iff.mpr c13
              subst c13
              have H1 : ((impl_SetCount.f kj10 t492 t493).bind fun bt499 => ((impl_SetCount.f kj10 t492 (wrap64 (t493 + t494))).bind fun bt501 => (if bt499.2 = true then (if bt501.2 = true then (some ((wrap64 (bt499.1 + t495)) == bt501.1)) else (some true)) else (some true)))) = some r := by rw [if_neg (show ¬ (false = true) by decide)] at H; exact H
              clear H
              have H := H1
              clear H1
              replace H := Option.bind_eq_some_iff.mp H
              obtain ⟨⟨t499, t500⟩, A140, H⟩ := H
              replace H : ((impl_SetCount.f kj10 t492 (wrap64 (t493 + t494))).bind fun bt501 => (if t500 = true then (if bt501.2 = true then (some ((wrap64 (t499 + t495)) == bt501.1)) else (some true)) else (some true))) = some r := H
              have A14 := Aside0.mk A140
              clear A140
              replace H := Option.bind_eq_some_iff.mp H
              obtain ⟨⟨t501, t502⟩, A150, H⟩ := H
              replace H : (if t500 = true then (if t502 = true then (some ((wrap64 (t499 + t495)) == t501)) else (some true)) else (some true)) = some r := H
              have A15 := Aside0.mk A150
              clear A150
              by_cases c16 : t500 = true
              · subst c16
                have H1 : (if t502 = true then (some ((wrap64 (t499 + t495)) == t501)) else (some true)) = some r := by rw [if_pos rfl] at H; exact H
                clear H
                have H := H1
                clear H1
                by_cases c17 : t502 = true
                · subst c17
                  have H1 : (some ((wrap64 (t499 + t495)) == t501)) = some r := by rw [if_pos rfl] at H; exact H
                  clear H
                  have H := H1
                  clear H1
                  obtain rfl := Option.some.inj H
                  go_wp2_with (first | ((with_reducible refine gate_callee (f := 26) rfl ?_); refine goesL_ (some 56) rfl rfl Try.func26 (by kernel_rfl) rfl #[.string t492, .int .i64 t493] rfl (by (try simp only [List.map_toArray, List.map_cons, List.map_nil]); first | done | rfl | (simp only [List.length_drop, List.length_take]; rfl)) ?_; (with_reducible refine (impl_SetCount.calls kj10 t492 t493 t499 true _ A14.out).mono ?_); rintro e w18 ⟨rfl, hb⟩; refine ⟨_, rfl, ?_⟩; have n0_ := Aside0.mk (below_step (by repeat (first | (with_reducible first | exact HB.out | apply below_alloc | apply pw_below_drewN | apply below_drew1) | exact HB.out)) hb); clear HB; have HB := n0_; clear n0_; (try clear hb); (try clear hb2); (try clear hk); (try clear hi)) | ((with_reducible refine gate_callee (f := 26) rfl ?_); refine goesL_ (some 64) rfl rfl Try.func26 (by kernel_rfl) rfl #[.string t492, .int .i64 (wrap64 (t493 + t494))] rfl (by (try simp only [List.map_toArray, List.map_cons, List.map_nil]); first | done | rfl | (simp only [List.length_drop, List.length_take]; rfl)) ?_; (with_reducible refine (impl_SetCount.calls kj10 t492 (wrap64 (t493 + t494)) t501 true _ A15.out).mono ?_); rintro e w19 ⟨rfl, hb⟩; refine ⟨_, rfl, ?_⟩; have n0_ := Aside0.mk (below_step (by repeat (first | (with_reducible first | exact HB.out | apply below_alloc | apply pw_below_drewN | apply below_drew1) | exact HB.out)) hb); clear HB; have HB := n0_; clear n0_; (try clear hb); (try clear hb2); (try clear hk); (try clear hi)))
                  go_ret
                  exact ⟨by first | rfl | (simp [errW_none, errW_some] <;> rfl) | (simp [errW_none, errW_some]; exact ⟨rfl, rfl⟩) | (simp [errW_none, errW_some]; exact ⟨rfl, rfl, rfl⟩) | (simp [*, errW_none, errW_some] <;> rfl), by repeat (first | (with_reducible first | exact HB.out | apply below_alloc | apply pw_below_drewN | apply below_drew1) | exact HB.out)⟩
                · replace c17 := Bool.eq_false_iff.mpr c17
                  subst c17
                  have H1 : (some true) = some r := by rw [if_neg (show ¬ (false = true) by decide)] at H; exact H
                  clear H
                  have H := H1
                  clear H1
                  obtain rfl := Option.some.inj H
                  go_wp2_with (first | ((with_reducible refine gate_callee (f := 26) rfl ?_); refine goesL_ (some 56) rfl rfl Try.func26 (by kernel_rfl) rfl #[.string t492, .int .i64 t493] rfl (by (try simp only [List.map_toArray, List.map_cons, List.map_nil]); first | done | rfl | (simp only [List.length_drop, List.length_take]; rfl)) ?_; (with_reducible refine (impl_SetCount.calls kj10 t492 t493 t499 true _ A14.out).mono ?_); rintro e w20 ⟨rfl, hb⟩; refine ⟨_, rfl, ?_⟩; have n0_ := Aside0.mk (below_step (by repeat (first | (with_reducible first | exact HB.out | apply below_alloc | apply pw_below_drewN | apply below_drew1) | exact HB.out)) hb); clear HB; have HB := n0_; clear n0_; (try clear hb); (try clear hb2); (try clear hk); (try clear hi)) | ((with_reducible refine gate_callee (f := 26) rfl ?_); refine goesL_ (some 64) rfl rfl Try.func26 (by kernel_rfl) rfl #[.string t492, .int .i64 (wrap64 (t493 + t494))] rfl (by (try simp only [List.map_toArray, List.map_cons, List.map_nil]); first | done | rfl | (simp only [List.length_drop, List.length_take]; rfl)) ?_; (with_reducible refine (impl_SetCount.calls kj10 t492 (wrap64 (t493 + t494)) t501 false _ A15.out).mono ?_); rintro e w21 ⟨rfl, hb⟩; refine ⟨_, rfl, ?_⟩; have n0_ := Aside0.mk (below_step (by repeat (first | (with_reducible first | exact HB.out | apply below_alloc | apply pw_below_drewN | apply below_drew1) | exact HB.out)) hb); clear HB; have HB := n0_; clear n0_; (try clear hb); (try clear hb2); (try clear hk); (try clear hi)))
                  go_ret
                  exact ⟨by first | rfl | (simp [errW_none, errW_some] <;> rfl) | (simp [errW_none, errW_some]; exact ⟨rfl, rfl⟩) | (simp [errW_none, errW_some]; exact ⟨rfl, rfl, rfl⟩) | (simp [*, errW_none, errW_some] <;> rfl), by repeat (first | (with_reducible first | exact HB.out | apply below_alloc | apply pw_below_drewN | apply below_drew1) | exact HB.out)⟩
              · replace c16 := Bool.eq_false_iff.mpr c16
                subst c16
                have H1 : (some true) = some r := by rw [if_neg (show ¬ (false = true) by decide)] at H; exact H
                clear H
                have H := H1
                clear H1
                obtain rfl := Option.some.inj H
                go_wp2_with (first | ((with_reducible refine gate_callee (f := 26) rfl ?_); refine goesL_ (some 56) rfl rfl Try.func26 (by kernel_rfl) rfl #[.string t492, .int .i64 t493] rfl (by (try simp only [List.map_toArray, List.map_cons, List.map_nil]); first | done | rfl | (simp only [List.length_drop, List.length_take]; rfl)) ?_; (with_reducible refine (impl_SetCount.calls kj10 t492 t493 t499 false _ A14.out).mono ?_); rintro e w22 ⟨rfl, hb⟩; refine ⟨_, rfl, ?_⟩; have n0_ := Aside0.mk (below_step (by repeat (first | (with_reducible first | exact HB.out | apply below_alloc | apply pw_below_drewN | apply below_drew1) | exact HB.out)) hb); clear HB; have HB := n0_; clear n0_; (try clear hb); (try clear hb2); (try clear hk); (try clear hi)) | ((with_reducible refine gate_callee (f := 26) rfl ?_); refine goesL_ (some 64) rfl rfl Try.func26 (by kernel_rfl) rfl #[.string t492, .int .i64 (wrap64 (t493 + t494))] rfl (by (try simp only [List.map_toArray, List.map_cons, List.map_nil]); first | done | rfl | (simp only [List.length_drop, List.length_take]; rfl)) ?_; (with_reducible refine (impl_SetCount.calls kj10 t492 (wrap64 (t493 + t494)) t501 t502 _ A15.out).mono ?_); rintro e w23 ⟨rfl, hb⟩; refine ⟨_, rfl, ?_⟩; have n0_ := Aside0.mk (below_step (by repeat (first | (with_reducible first | exact HB.out | apply below_alloc | apply pw_below_drewN | apply below_drew1) | exact HB.out)) hb); clear HB; have HB := n0_; clear n0_; (try clear hb); (try clear hb2); (try clear hk); (try clear hi)))
                go_ret
                exact ⟨by first | rfl | (simp [errW_none, errW_some] <;> rfl) | (simp [errW_none, errW_some]; exact ⟨rfl, rfl⟩) | (simp [errW_none, errW_some]; exact ⟨rfl, rfl, rfl⟩) | (simp [*, errW_none, errW_some] <;> rfl), by repeat (first | (with_reducible first | exact HB.out | apply below_alloc | apply pw_below_drewN | apply below_drew1) | exact HB.out)⟩

/-- THE ONE PURE STATEMENT of laws_FnDenseCount: yours. -/
def laws_FnDenseCount.Pure : Prop := ∀ (l0 : List Int), l0.length ≤ maxLen → l0.length * 1 ≤ 140737488351232 → (∀ x ∈ l0, (Lit.int .u8 x).wf = true) → ∃ k, laws_FnDenseCount.f k l0 = some true
theorem laws_FnDenseCount.walk (P : laws_FnDenseCount.Pure) (a0 : Option Addr) (len0 cap0 : Nat) (z0 : List Int) (w : World) (w0 : (a0 = none ∧ len0 = 0 ∧ cap0 = 0 ∧ z0 = []) ∨ ∃ x, a0 = some x ∧ len0 ≤ cap0 ∧ cap0 ≤ maxLen ∧ z0.length = cap0 ∧ (∀ i, i < z0.length → w.cell? (x.add i) = some (.int .u8 (z0.getD i 0))) ∧ ∀ n ∈ z0, (Lit.int .u8 n).wf = true) (y0 : len0 * 1 ≤ 140737488351232) :
    Calls Try.prog 9 #[.slice a0 len0 cap0] w fun e w' => e = .returned (.bool true) ∧ Below w.heap.size w w' := by
  obtain ⟨l0, rfl, hr0, hm0, hw0, hc0⟩ := ReadsInt.ofRowC w0
  obtain ⟨k, h⟩ := P l0 hm0 y0 hw0
  refine (laws_FnDenseCount.calls k _ _ l0 true w (Kd.C_of_reads (d := (0 : Int)) (h1 := fun _ => rfl) hr0) hc0 h).mono ?_
  rintro e w' ⟨rfl, hd⟩
  exact ⟨rfl, hd⟩

end Go.Proofs.Ytbgapjgfocdjoaa.Q

namespace Go.Proofs.Ytbgapjgfocdjoaa.Q
open Go.RowKit Go.Proofs.YtbgapjgfocdjoaaW.PrintWords Go.Proofs.YtbgapjgfocdjoaaW.PrintLast Go.Proofs.YtbgapjgfocdjoaaW.PrintMore
attribute [local go_sem] max2_int min2_int max_two min_two max_three min_three max_four min_four   -- for this text's walks alone
set_option linter.unusedVariables false
set_option linter.unusedSimpArgs false

end Go.Proofs.Ytbgapjgfocdjoaa.Q

namespace Go.Proofs.Ytbgapjgfocdjoaa.Q
open Go.RowKit Go.Proofs.YtbgapjgfocdjoaaW.PrintWords Go.Proofs.YtbgapjgfocdjoaaW.PrintLast Go.Proofs.YtbgapjgfocdjoaaW.PrintMore
attribute [local go_sem] max2_int min2_int max_two min_two max_three min_three max_four min_four   -- for this text's walks alone
set_option linter.unusedVariables false
set_option linter.unusedSimpArgs false

end Go.Proofs.Ytbgapjgfocdjoaa.Q

namespace Go.Proofs.Ytbgapjgfocdjoaa.Q
open Go.RowKit Go.Proofs.YtbgapjgfocdjoaaW.PrintWords Go.Proofs.YtbgapjgfocdjoaaW.PrintLast Go.Proofs.YtbgapjgfocdjoaaW.PrintMore
attribute [local go_sem] max2_int min2_int max_two min_two max_three min_three max_four min_four   -- for this text's walks alone
set_option linter.unusedVariables false
set_option linter.unusedSimpArgs false

end Go.Proofs.Ytbgapjgfocdjoaa.Q

namespace Go.Proofs.Ytbgapjgfocdjoaa.Q
open Go.RowKit Go.Proofs.YtbgapjgfocdjoaaW.PrintWords Go.Proofs.YtbgapjgfocdjoaaW.PrintLast Go.Proofs.YtbgapjgfocdjoaaW.PrintMore
attribute [local go_sem] max2_int min2_int max_two min_two max_three min_three max_four min_four   -- for this text's walks alone
set_option linter.unusedVariables false
set_option linter.unusedSimpArgs false

end Go.Proofs.Ytbgapjgfocdjoaa.Q

namespace Go.Proofs.Ytbgapjgfocdjoaa.Q
open Go.RowKit Go.Proofs.YtbgapjgfocdjoaaW.PrintWords Go.Proofs.YtbgapjgfocdjoaaW.PrintLast Go.Proofs.YtbgapjgfocdjoaaW.PrintMore
attribute [local go_sem] max2_int min2_int max_two min_two max_three min_three max_four min_four   -- for this text's walks alone
set_option linter.unusedVariables false
set_option linter.unusedSimpArgs false

end Go.Proofs.Ytbgapjgfocdjoaa.Q

namespace Go.Proofs.Ytbgapjgfocdjoaa.Q
open Go.RowKit Go.Proofs.YtbgapjgfocdjoaaW.PrintWords Go.Proofs.YtbgapjgfocdjoaaW.PrintLast Go.Proofs.YtbgapjgfocdjoaaW.PrintMore
attribute [local go_sem] max2_int min2_int max_two min_two max_three min_three max_four min_four   -- for this text's walks alone
set_option linter.unusedVariables false
set_option linter.unusedSimpArgs false

end Go.Proofs.Ytbgapjgfocdjoaa.Q

namespace Go.Proofs.Ytbgapjgfocdjoaa.Q
open Go.RowKit Go.Proofs.YtbgapjgfocdjoaaW.PrintWords Go.Proofs.YtbgapjgfocdjoaaW.PrintLast Go.Proofs.YtbgapjgfocdjoaaW.PrintMore
attribute [local go_sem] max2_int min2_int max_two min_two max_three min_three max_four min_four   -- for this text's walks alone
set_option linter.unusedVariables false
set_option linter.unusedSimpArgs false

def impl_turns.l0 : Nat → List Bool → Int → Int → Int → Option (Bool)
  | 0, _, _, _, _ => none
  | k + 1, x0, x1, x7, x8 => if x8 < x7 then (if 0 ≤ x8 then (if x8 < (x0.length : Int) then (if x1 = 0 then (none) else (if 0 ≤ (Int.tmod x8 x1) then (if (Int.tmod x8 x1) < (x0.length : Int) then (if ((rdOf false x0 x8) != (rdOf false x0 (Int.tmod x8 x1))) = true then (some false) else (impl_turns.l0 k x0 x1 x7 (wrap64 (x8 + 1)))) else (none)) else (none))) else (none)) else (none)) else (if x1 = 0 then (none) else (some (((x0.length : Int) % x1) == 0)))
def impl_turns.f (k : Nat) (l0 : List Bool) (a1 : Int) : Option (Bool) := impl_turns.l0 k l0 a1 (l0.length : Int) 0
end Go.Proofs.Ytbgapjgfocdjoaa.Q

namespace Go.Proofs.Ytbgapjgfocdjoaa.Q
open Go.RowKit Go.Proofs.YtbgapjgfocdjoaaW.PrintWords Go.Proofs.YtbgapjgfocdjoaaW.PrintLast Go.Proofs.YtbgapjgfocdjoaaW.PrintMore
attribute [local go_sem] max2_int min2_int max_two min_two max_three min_three max_four min_four   -- for this text's walks alone
set_option linter.unusedVariables false
set_option linter.unusedSimpArgs false

/-- A copy. -/
def slices_Clone_bool_bool.f (l0 : List Bool) : Option (List Bool) := if l0.length < 140737488355328 then some l0 else none
end Go.Proofs.Ytbgapjgfocdjoaa.Q

namespace Go.Proofs.Ytbgapjgfocdjoaa.Q
open Go.RowKit Go.Proofs.YtbgapjgfocdjoaaW.PrintWords Go.Proofs.YtbgapjgfocdjoaaW.PrintLast Go.Proofs.YtbgapjgfocdjoaaW.PrintMore
attribute [local go_sem] max2_int min2_int max_two min_two max_three min_three max_four min_four   -- for this text's walks alone
set_option linter.unusedVariables false
set_option linter.unusedSimpArgs false

mutual
def impl_set_tidy.l0 : Nat → Int → List Bool → List Bool → Option (List Bool × List Bool)
  | 0, _, _, _ => none
  | k + 1, x3, x284000, x284001 => (impl_turns.f k x284001 x3).bind fun t285 => (if t285 = true then ((slices_Clone_bool_bool.f x284000).bind fun t286 => (if 0 ≤ x3 then (if x3 ≤ (x284001.length : Int) then ((slices_Clone_bool_bool.f (x284001.take (x3 : Int).toNat)).bind fun t290 => (impl_set_tidy.l1 k x3 t286 t290)) else (none)) else (none))) else (impl_set_tidy.l0 k (wrap64 (x3 + 1)) x284000 x284001))
def impl_set_tidy.l1 : Nat → Int → List Bool → List Bool → Option (List Bool × List Bool)
  | 0, _, _, _ => none
  | k + 1, x3, x4, x5 => if (x4.length : Int) > 0 then (if 0 ≤ (wrap64 ((x4.length : Int) - 1)) then (if (wrap64 ((x4.length : Int) - 1)) < (x4.length : Int) then (if 0 ≤ (wrap64 (x3 - 1)) then (if (wrap64 (x3 - 1)) < (x5.length : Int) then (if ((rdOf false x4 (wrap64 ((x4.length : Int) - 1))) == (rdOf false x5 (wrap64 (x3 - 1)))) = true then (if (wrap64 ((x4.length : Int) - 1)) ≤ (x4.length : Int) then ((some (([rdOf false x5 (wrap64 (x3 - 1))] : List Bool) : List Bool)).bind fun y299 => (if (wrap64 (x3 - 1)) ≤ (x5.length : Int) then ((some (x5.take ((wrap64 (x3 - 1)) : Int).toNat : List Bool)).bind fun y302 => (if y299.length + y302.length < 140737488355328 then (impl_set_tidy.l1 k x3 (x4.take ((wrap64 ((x4.length : Int) - 1)) : Int).toNat) (y299 ++ y302)) else (none))) else (none))) else (none)) else (some (x4, x5))) else (none)) else (none)) else (none)) else (none)) else (some (x4, x5))
end
def impl_set_tidy.f (k : Nat) (l0_0 : List Bool) (l0_1 : List Bool) : Option (List Bool × List Bool) := impl_set_tidy.l0 k 1 l0_0 l0_1
end Go.Proofs.Ytbgapjgfocdjoaa.Q

namespace Go.Proofs.Ytbgapjgfocdjoaa.Q
open Go.RowKit Go.Proofs.YtbgapjgfocdjoaaW.PrintWords Go.Proofs.YtbgapjgfocdjoaaW.PrintLast Go.Proofs.YtbgapjgfocdjoaaW.PrintMore
attribute [local go_sem] max2_int min2_int max_two min_two max_three min_three max_four min_four   -- for this text's walks alone
set_option linter.unusedVariables false
set_option linter.unusedSimpArgs false

end Go.Proofs.Ytbgapjgfocdjoaa.Q

namespace Go.Proofs.Ytbgapjgfocdjoaa.Q
open Go.RowKit Go.Proofs.YtbgapjgfocdjoaaW.PrintWords Go.Proofs.YtbgapjgfocdjoaaW.PrintLast Go.Proofs.YtbgapjgfocdjoaaW.PrintMore
attribute [local go_sem] max2_int min2_int max_two min_two max_three min_three max_four min_four   -- for this text's walks alone
set_option linter.unusedVariables false
set_option linter.unusedSimpArgs false

end Go.Proofs.Ytbgapjgfocdjoaa.Q

namespace Go.Proofs.Ytbgapjgfocdjoaa.Q
open Go.RowKit Go.Proofs.YtbgapjgfocdjoaaW.PrintWords Go.Proofs.YtbgapjgfocdjoaaW.PrintLast Go.Proofs.YtbgapjgfocdjoaaW.PrintMore
attribute [local go_sem] max2_int min2_int max_two min_two max_three min_three max_four min_four   -- for this text's walks alone
set_option linter.unusedVariables false
set_option linter.unusedSimpArgs false

end Go.Proofs.Ytbgapjgfocdjoaa.Q

namespace Go.Proofs.Ytbgapjgfocdjoaa.Q
open Go.RowKit Go.Proofs.YtbgapjgfocdjoaaW.PrintWords Go.Proofs.YtbgapjgfocdjoaaW.PrintLast Go.Proofs.YtbgapjgfocdjoaaW.PrintMore
attribute [local go_sem] max2_int min2_int max_two min_two max_three min_three max_four min_four   -- for this text's walks alone
set_option linter.unusedVariables false
set_option linter.unusedSimpArgs false

end Go.Proofs.Ytbgapjgfocdjoaa.Q

namespace Go.Proofs.Ytbgapjgfocdjoaa.Q
open Go.RowKit Go.Proofs.YtbgapjgfocdjoaaW.PrintWords Go.Proofs.YtbgapjgfocdjoaaW.PrintLast Go.Proofs.YtbgapjgfocdjoaaW.PrintMore
attribute [local go_sem] max2_int min2_int max_two min_two max_three min_three max_four min_four   -- for this text's walks alone
set_option linter.unusedVariables false
set_option linter.unusedSimpArgs false

end Go.Proofs.Ytbgapjgfocdjoaa.Q

namespace Go.Proofs.Ytbgapjgfocdjoaa.Q
open Go.RowKit Go.Proofs.YtbgapjgfocdjoaaW.PrintWords Go.Proofs.YtbgapjgfocdjoaaW.PrintLast Go.Proofs.YtbgapjgfocdjoaaW.PrintMore
attribute [local go_sem] max2_int min2_int max_two min_two max_three min_three max_four min_four   -- for this text's walks alone
set_option linter.unusedVariables false
set_option linter.unusedSimpArgs false

end Go.Proofs.Ytbgapjgfocdjoaa.Q

namespace Go.Proofs.Ytbgapjgfocdjoaa.Q
open Go.RowKit Go.Proofs.YtbgapjgfocdjoaaW.PrintWords Go.Proofs.YtbgapjgfocdjoaaW.PrintLast Go.Proofs.YtbgapjgfocdjoaaW.PrintMore
attribute [local go_sem] max2_int min2_int max_two min_two max_three min_three max_four min_four   -- for this text's walks alone
set_option linter.unusedVariables false
set_option linter.unusedSimpArgs false

end Go.Proofs.Ytbgapjgfocdjoaa.Q

namespace Go.Proofs.Ytbgapjgfocdjoaa.Q
open Go.RowKit Go.Proofs.YtbgapjgfocdjoaaW.PrintWords Go.Proofs.YtbgapjgfocdjoaaW.PrintLast Go.Proofs.YtbgapjgfocdjoaaW.PrintMore
attribute [local go_sem] max2_int min2_int max_two min_two max_three min_three max_four min_four   -- for this text's walks alone
set_option linter.unusedVariables false
set_option linter.unusedSimpArgs false

end Go.Proofs.Ytbgapjgfocdjoaa.Q

namespace Go.Proofs.Ytbgapjgfocdjoaa.Q
open Go.RowKit Go.Proofs.YtbgapjgfocdjoaaW.PrintWords Go.Proofs.YtbgapjgfocdjoaaW.PrintLast Go.Proofs.YtbgapjgfocdjoaaW.PrintMore
attribute [local go_sem] max2_int min2_int max_two min_two max_three min_three max_four min_four   -- for this text's walks alone
set_option linter.unusedVariables false
set_option linter.unusedSimpArgs false

end Go.Proofs.Ytbgapjgfocdjoaa.Q

namespace Go.Proofs.Ytbgapjgfocdjoaa.Q
open Go.RowKit Go.Proofs.YtbgapjgfocdjoaaW.PrintWords Go.Proofs.YtbgapjgfocdjoaaW.PrintLast Go.Proofs.YtbgapjgfocdjoaaW.PrintMore
attribute [local go_sem] max2_int min2_int max_two min_two max_three min_three max_four min_four   -- for this text's walks alone
set_option linter.unusedVariables false
set_option linter.unusedSimpArgs false

end Go.Proofs.Ytbgapjgfocdjoaa.Q

namespace Go.Proofs.Ytbgapjgfocdjoaa.Q
open Go.RowKit Go.Proofs.YtbgapjgfocdjoaaW.PrintWords Go.Proofs.YtbgapjgfocdjoaaW.PrintLast Go.Proofs.YtbgapjgfocdjoaaW.PrintMore
attribute [local go_sem] max2_int min2_int max_two min_two max_three min_three max_four min_four   -- for this text's walks alone
set_option linter.unusedVariables false
set_option linter.unusedSimpArgs false

end Go.Proofs.Ytbgapjgfocdjoaa.Q

namespace Go.Proofs.Ytbgapjgfocdjoaa.Q
open Go.RowKit Go.Proofs.YtbgapjgfocdjoaaW.PrintWords Go.Proofs.YtbgapjgfocdjoaaW.PrintLast Go.Proofs.YtbgapjgfocdjoaaW.PrintMore
attribute [local go_sem] max2_int min2_int max_two min_two max_three min_three max_four min_four   -- for this text's walks alone
set_option linter.unusedVariables false
set_option linter.unusedSimpArgs false

end Go.Proofs.Ytbgapjgfocdjoaa.Q

namespace Go.Proofs.Ytbgapjgfocdjoaa.Q
open Go.RowKit Go.Proofs.YtbgapjgfocdjoaaW.PrintWords Go.Proofs.YtbgapjgfocdjoaaW.PrintLast Go.Proofs.YtbgapjgfocdjoaaW.PrintMore
attribute [local go_sem] max2_int min2_int max_two min_two max_three min_three max_four min_four   -- for this text's walks alone
set_option linter.unusedVariables false
set_option linter.unusedSimpArgs false

end Go.Proofs.Ytbgapjgfocdjoaa.Q

namespace Go.Proofs.Ytbgapjgfocdjoaa.Q
open Go.RowKit Go.Proofs.YtbgapjgfocdjoaaW.PrintWords Go.Proofs.YtbgapjgfocdjoaaW.PrintLast Go.Proofs.YtbgapjgfocdjoaaW.PrintMore
attribute [local go_sem] max2_int min2_int max_two min_two max_three min_three max_four min_four   -- for this text's walks alone
set_option linter.unusedVariables false
set_option linter.unusedSimpArgs false

end Go.Proofs.Ytbgapjgfocdjoaa.Q

namespace Go.Proofs.Ytbgapjgfocdjoaa.Q
open Go.RowKit Go.Proofs.YtbgapjgfocdjoaaW.PrintWords Go.Proofs.YtbgapjgfocdjoaaW.PrintLast Go.Proofs.YtbgapjgfocdjoaaW.PrintMore
attribute [local go_sem] max2_int min2_int max_two min_two max_three min_three max_four min_four   -- for this text's walks alone
set_option linter.unusedVariables false
set_option linter.unusedSimpArgs false

end Go.Proofs.Ytbgapjgfocdjoaa.Q

namespace Go.Proofs.Ytbgapjgfocdjoaa.Q
open Go.RowKit Go.Proofs.YtbgapjgfocdjoaaW.PrintWords Go.Proofs.YtbgapjgfocdjoaaW.PrintLast Go.Proofs.YtbgapjgfocdjoaaW.PrintMore
attribute [local go_sem] max2_int min2_int max_two min_two max_three min_three max_four min_four   -- for this text's walks alone
set_option linter.unusedVariables false
set_option linter.unusedSimpArgs false

mutual
def spec_l1Less.l0 : Nat → Int → Int → List Bool → List Bool → Option (List Bool × List Bool)
  | 0, _, _, _, _ => none
  | k + 1, x3, x4, x344000, x344001 => if x4 < x3 then (if x4 = 0 then (none) else (spec_l1Less.l1 k x3 x4 ((Int.tmod x3 x4) == 0) x4 x344000 x344001)) else (if (x344000.length : Int) > 0 then (if 0 ≤ (wrap64 ((x344000.length : Int) - 1)) then (if (wrap64 ((x344000.length : Int) - 1)) < (x344000.length : Int) then (if 0 ≤ (wrap64 (x3 - 1)) then (if (wrap64 (x3 - 1)) < (x344001.length : Int) then (if ((rdOf false x344000 (wrap64 ((x344000.length : Int) - 1))) == (rdOf false x344001 (wrap64 (x3 - 1)))) = true then ((some (([rdOf false x344001 (wrap64 (x3 - 1))] : List Bool) : List Bool)).bind fun y348 => (if (wrap64 (x3 - 1)) ≤ (x344001.length : Int) then ((some (x344001.take ((wrap64 (x3 - 1)) : Int).toNat : List Bool)).bind fun y351 => (if y348.length + y351.length < 140737488355328 then (if (wrap64 ((x344000.length : Int) - 1)) ≤ (x344000.length : Int) then ((spec_l1Less.f k (x344000.take ((wrap64 ((x344000.length : Int) - 1)) : Int).toNat) (y348 ++ y351)).bind fun bt364 => (some (bt364.1, bt364.2))) else (none)) else (none))) else (none))) else (some (x344000, x344001))) else (none)) else (none)) else (none)) else (none)) else (some (x344000, x344001)))
def spec_l1Less.l1 : Nat → Int → Int → Bool → Int → List Bool → List Bool → Option (List Bool × List Bool)
  | 0, _, _, _, _, _, _ => none
  | k + 1, x3, x4, x5, x6, x344000, x344001 => if x6 < x3 then (if x5 = true then (if 0 ≤ x6 then (if x6 < (x344001.length : Int) then (if 0 ≤ (wrap64 (x6 - x4)) then (if (wrap64 (x6 - x4)) < (x344001.length : Int) then (spec_l1Less.l1 k x3 x4 ((rdOf false x344001 x6) == (rdOf false x344001 (wrap64 (x6 - x4)))) (wrap64 (x6 + 1)) x344000 x344001) else (none)) else (none)) else (none)) else (none)) else (spec_l1Less.l0 k x3 (wrap64 (x4 + 1)) x344000 x344001)) else (if x5 = true then (if 0 ≤ x4 then (if x4 ≤ (x344001.length : Int) then ((spec_l1Less.f k x344000 (x344001.take (x4 : Int).toNat)).bind fun bt377 => (some (bt377.1, bt377.2))) else (none)) else (none)) else (spec_l1Less.l0 k x3 (wrap64 (x4 + 1)) x344000 x344001))
def spec_l1Less.f : Nat → List Bool → List Bool → Option (List Bool × List Bool)
  | 0, _, _ => none
  | k + 1, l0_0, l0_1 => spec_l1Less.l0 k (l0_1.length : Int) 1 l0_0 l0_1
end
end Go.Proofs.Ytbgapjgfocdjoaa.Q

namespace Go.Proofs.Ytbgapjgfocdjoaa.Q
open Go.RowKit Go.Proofs.YtbgapjgfocdjoaaW.PrintWords Go.Proofs.YtbgapjgfocdjoaaW.PrintLast Go.Proofs.YtbgapjgfocdjoaaW.PrintMore
attribute [local go_sem] max2_int min2_int max_two min_two max_three min_three max_four min_four   -- for this text's walks alone
set_option linter.unusedVariables false
set_option linter.unusedSimpArgs false

end Go.Proofs.Ytbgapjgfocdjoaa.Q

namespace Go.Proofs.Ytbgapjgfocdjoaa.Q
open Go.RowKit Go.Proofs.YtbgapjgfocdjoaaW.PrintWords Go.Proofs.YtbgapjgfocdjoaaW.PrintLast Go.Proofs.YtbgapjgfocdjoaaW.PrintMore
attribute [local go_sem] max2_int min2_int max_two min_two max_three min_three max_four min_four   -- for this text's walks alone
set_option linter.unusedVariables false
set_option linter.unusedSimpArgs false

end Go.Proofs.Ytbgapjgfocdjoaa.Q

namespace Go.Proofs.Ytbgapjgfocdjoaa.Q
open Go.RowKit Go.Proofs.YtbgapjgfocdjoaaW.PrintWords Go.Proofs.YtbgapjgfocdjoaaW.PrintLast Go.Proofs.YtbgapjgfocdjoaaW.PrintMore
open Go.Proofs.Ytbgapjgfocdjoaa.Pl (hasB)
set_option linter.unusedVariables false
set_option linter.unusedSimpArgs false

theorem wr {x : Int} (h0 : -9223372036854775808 ≤ x) (h1 : x ≤ 9223372036854775807) : wrap64 x = x := by unfold wrap64; omega
theorem Ev.end {α : Type} {g : Nat → Option α} {r : α} (h : ∀ k, g (k + 1) = some r) : Ev g r := ⟨1, fun k hk => by obtain ⟨m, rfl⟩ : ∃ m, k = m + 1 := ⟨k - 1, by omega⟩; exact h m⟩
theorem Ev.const {α : Type} {g : Nat → Option α} {r : α} (h : ∀ k, g k = some r) : Ev g r := ⟨0, fun k _ => h k⟩
theorem bt_list (s : ByteArray) (i : Nat) (h : i < s.size) : bt s (i : Int) = ((s.data.toList.getD i 0).toNat : Int) := by
  unfold bt
  rw [dif_pos (by simpa using h)]
  have : s.data.toList.length = s.size := Array.length_toList
  simp [List.getD, h, this]
  rfl
theorem bt_is (s : ByteArray) (i : Nat) (h : i < s.size) (c : UInt8) (n : Int) (hn : n = (c.toNat : Int)) : bt s (i : Int) = n ↔ s.data.toList.getD i 0 = c := by
  rw [bt_list s i h, hn]
  constructor
  · intro h
    exact UInt8.toNat_inj.1 (by exact_mod_cast h)
  · intro h
    rw [h]
theorem drop_getD {α : Type} (l : List α) (i : Nat) (z : α) (h : i < l.length) : l.drop i = l.getD i z :: l.drop (i + 1) := by
  rw [List.drop_eq_getElem_cons h]; simp [List.getD, h]

def okL (l : List UInt8) : Bool := l.all fun c => c == 48 || c == 49
theorem signs_l0 (s : ByteArray) (hs : s.size ≤ 1073741824) (d : Nat) : ∀ (i : Nat) (acc : List Bool), i + d = s.size → acc.length = i →
    Ev (fun k => spec_l1Signs.l0 k s acc i) (if okL (s.data.toList.drop i) then (acc ++ (s.data.toList.drop i).map (· == 49), true) else ([], false)) := by
  have hl : s.data.toList.length = s.size := Array.length_toList
  induction d with
  | zero =>
    intro i acc h1 h2
    refine Ev.end fun k => ?_
    simp only [spec_l1Signs.l0]
    rw [if_neg (by omega), List.drop_of_length_le (by omega)]
    simp [okL]
  | succ d ih =>
    intro i acc h1 h2
    rw [drop_getD _ i 0 (by omega)]
    have hb48 := bt_is s i (by omega) 48 48 rfl
    have hb49 := bt_is s i (by omega) 49 49 rfl
    have hw : wrap64 ((i : Int) + 1) = ((i + 1 : Nat) : Int) := by rw [wr (by omega) (by omega)]; omega
    by_cases c48 : s.data.toList.getD i 0 = 48
    · refine Ev.step (f := fun k => spec_l1Signs.l0 k s (acc ++ [false]) ((i + 1 : Nat) : Int)) (fun k => ?_) ?_
      · simp only [spec_l1Signs.l0]
        have e : bt s (i : Int) = 48 := hb48.2 c48
        rw [if_pos (by omega), if_pos (by omega), if_pos e, if_pos (by omega), hw, e]
        rfl
      · have := ih (i + 1) (acc ++ [false]) (by omega) (by simp [h2])
        rw [c48]
        simpa [okL] using this
    · by_cases c49 : s.data.toList.getD i 0 = 49
      · refine Ev.step (f := fun k => spec_l1Signs.l0 k s (acc ++ [true]) ((i + 1 : Nat) : Int)) (fun k => ?_) ?_
        · simp only [spec_l1Signs.l0]
          have e : bt s (i : Int) = 49 := hb49.2 c49
          rw [if_pos (by omega), if_pos (by omega), if_neg (fun h => c48 (hb48.1 h)), if_pos e, if_pos (by omega), hw]
        · have := ih (i + 1) (acc ++ [true]) (by omega) (by simp [h2])
          rw [c49]
          simpa [okL] using this
      · refine Ev.end fun k => ?_
        simp only [spec_l1Signs.l0]
        rw [if_pos (by omega), if_pos (by omega), if_neg (fun h => c48 (hb48.1 h)), if_neg (fun h => c49 (hb49.1 h))]
        rw [if_neg]
        simp only [okL, List.all_cons, Bool.and_eq_true, Bool.or_eq_true, beq_iff_eq, not_and]
        intro h
        exact absurd h (by simp only [not_or]; exact ⟨c48, c49⟩)
theorem l1Signs_ev (s : ByteArray) (hs : s.size ≤ 1073741824) : Ev (fun k => spec_l1Signs.f k s) (if okL s.data.toList then (s.data.toList.map (· == 49), true) else ([], false)) := by
  have := signs_l0 s hs s.size 0 [] (by omega) rfl
  simpa [spec_l1Signs.f] using this
theorem signs_ev (s : ByteArray) (hs : s.size ≤ 1073741824) : impl_signs.f s = some (if okL s.data.toList then (s.data.toList.map (· == 49), decide ((s.size : Int) ≤ 60)) else ([], false)) := by
  unfold impl_signs.f
  rw [if_pos (by omega)]
  unfold okL impl_signs.ok
  split <;> rfl

theorem index_cases (l : List UInt8) (c : UInt8) : (Lib.indexByte l c = -1 ∧ ∀ i, i < l.length → l.getD i 0 ≠ c) ∨ ∃ i : Nat, i < l.length ∧ Lib.indexByte l c = i ∧ l.getD i 0 = c ∧ ∀ j, j < i → l.getD j 0 ≠ c := by
  induction l with
  | nil => left; exact ⟨rfl, fun i h => absurd h (Nat.not_lt_zero i)⟩
  | cons b l ih =>
    unfold Lib.indexByte
    by_cases hb : b = c
    · right
      exact ⟨0, by simp, by simp [hb], by simp [hb], fun j h => absurd h (Nat.not_lt_zero j)⟩
    · rw [if_neg (by simpa using hb)]
      rcases ih with ⟨h1, h2⟩ | ⟨i, h1, h2, h3, h4⟩
      · left
        refine ⟨by rw [h1]; rfl, fun i hi => ?_⟩
        cases i with
        | zero => simpa using hb
        | succ i => simpa using h2 i (by simpa using hi)
      · right
        refine ⟨i + 1, by simpa using h1, ?_, by simpa using h3, fun j hj => ?_⟩
        · rw [h2, if_neg (by simp only [beq_iff_eq]; omega)]; omega
        · cases j with
          | zero => simpa using hb
          | succ j => simpa using h4 j (by omega)

structure Good (t r : List Bool) : Prop where
  pos : 0 < r.length
  tl : t.length ≤ 60
  rl : r.length ≤ 60
structure IsSet (s : ByteArray) (t r : List Bool) : Prop where
  good : Good t r
  impl : impl_setOf.f s = some (t, r, true)
  spec : Ev (fun k => spec_l1Read.f k s) (t, r, true)
structure NoSet (s : ByteArray) : Prop where
  impl : ∃ a b, impl_setOf.f s = some (a, b, false)
  spec : ∃ a b, Ev (fun k => spec_l1Read.f k s) (a, b, false)

/-- The reader comes to the first bracket, or to the end. -/
theorem read_l0 (s : ByteArray) (hs : s.size ≤ 1073741824) (a b : List Bool) {r : List Bool × List Bool × Bool} (j : Nat) (hj : j ≤ s.size) (hn : ∀ i, i < j → s.data.toList.getD i 0 ≠ 40) (hend : j < s.size → s.data.toList.getD j 0 = 40)
    (h : Ev (fun k => spec_l1Read.j1 k s j a b) r) (d : Nat) : ∀ i, i + d = j → Ev (fun k => spec_l1Read.l0 k s (i : Nat) a b) r := by
  induction d with
  | zero =>
    intro i hi
    obtain rfl : i = j := by omega
    refine Ev.step (fun k => ?_) h
    simp only [spec_l1Read.l0]
    by_cases c : i < s.size
    · rw [if_pos (by omega), if_pos (by omega), if_pos ((bt_is s i c 40 40 rfl).2 (hend c))]
    · rw [if_neg (by omega)]
  | succ d ih =>
    intro i hi
    refine Ev.step (fun k => ?_) (ih (i + 1) (by omega))
    simp only [spec_l1Read.l0]
    have hw : wrap64 ((i : Int) + 1) = ((i + 1 : Nat) : Int) := by rw [wr (by omega) (by omega)]; omega
    rw [if_pos (by omega), if_pos (by omega), if_neg (fun h => hn i (by omega) ((bt_is s i (by omega) 40 40 rfl).1 h)), hw]

theorem size_data (s : ByteArray) : s.data.toList.length = s.size := Array.length_toList
theorem ext_size (s : ByteArray) (a b : Nat) (hb : b ≤ s.size) : (s.extract a b).size = b - a := by simp; omega
theorem ext_list (s : ByteArray) (a b : Nat) : (s.extract a b).data.toList = (s.data.toList.take b).drop a := by
  simp [List.extract_eq_take_drop, List.drop_take]
theorem toList_eq (s : ByteArray) : s.toList = s.data.toList := (Lib.toList_data s).symm ▸ rfl

theorem last_eq {s : ByteArray} {i : Nat} (h : i + 1 < s.size) : ((s.extract (i + 1) s.size).extract ((s.extract (i + 1) s.size).size - 1) (s.extract (i + 1) s.size).size).toList = [s.data.toList.getD (s.size - 1) 0] := by
  rw [toList_eq, ext_list, ext_list, ext_size _ _ _ (Nat.le_refl _)]
  have hl := size_data s
  rw [List.take_of_length_le (l := s.data.toList) (by omega), List.take_of_length_le (by rw [List.length_drop]; omega), List.drop_drop, drop_getD _ _ 0 (by omega), List.drop_of_length_le (by omega)]
  congr 2
  omega
theorem ring_eq {s : ByteArray} {i : Nat} (h : i + 1 < s.size) : (s.extract (i + 1) s.size).extract 0 ((s.extract (i + 1) s.size).size - 1) = s.extract (i + 1) (s.size - 1) := by
  have : ∀ a b : ByteArray, a.data.toList = b.data.toList → a = b := fun a b h => by
    obtain ⟨⟨a⟩⟩ := a; obtain ⟨⟨b⟩⟩ := b; simp at h; simp [h]
  refine this _ _ ?_
  have hl := size_data s
  rw [ext_list, ext_list, ext_list, ext_size _ _ _ (Nat.le_refl _), List.drop_zero, List.take_of_length_le (l := s.data.toList) (by omega), List.drop_take]
  congr 1
  omega

/-- Each text is a set text for both readers, with the same tail and ring, or for none. -/
theorem read_cases (s : ByteArray) (hs : s.size ≤ 1073741824) : NoSet s ∨ ∃ t r, IsSet s t r := by
  have hl := size_data s
  have hsg := fun (x : ByteArray) (hx : x.size ≤ 1073741824) => signs_ev x hx
  rcases index_cases s.data.toList 40 with ⟨h1, h2⟩ | ⟨i, h1, h2, h3, h4⟩
  · left
    refine ⟨?_, ?_⟩
    · have hc : strings_Cut.f s ⟨#[40]⟩ = some (s, ⟨#[]⟩, false) := by
        unfold strings_Cut.f stringslite_Cut.f stringslite_Index.f
        rw [dif_pos (by rfl)]
        show ((some (Lib.indexByte s.data.toList 40)).bind _).bind _ = _
        rw [h1]
        rfl
      have hd : strings_CutSuffix.f ⟨#[]⟩ ⟨#[41]⟩ = some (⟨#[]⟩, false) := by rfl
      refine ⟨(if okL s.data.toList then (s.data.toList.map (· == 49), decide ((s.size : Int) ≤ 60)) else ([], false)).1, [], ?_⟩
      unfold impl_setOf.f
      rw [hc]; simp only [Option.bind_some]
      rw [hd]; simp only [Option.bind_some]
      rw [hsg s hs, hsg ⟨#[]⟩ (by decide)]
      simp only [Option.bind_some]
      rw [if_neg (by simp)]
      rfl
    · refine ⟨[], [false], ?_⟩
      refine read_l0 s hs [] [false] s.size (Nat.le_refl _) (fun i hi => h2 i (by omega)) (fun h => by omega) ?_ s.size 0 (by omega)
      refine Ev.step (f := fun k => spec_l1Read.j2 k s (s.size : Nat) true [] [false]) (fun k => ?_) (Ev.end fun k => ?_)
      · simp only [spec_l1Read.j1]
        rw [if_pos (by rw [wr (by omega) (by omega)]; omega)]
      · simp only [spec_l1Read.j2, if_true]
  · have hi : i < s.size := by omega
    have hc : strings_Cut.f s ⟨#[40]⟩ = some (s.extract 0 i, s.extract (i + 1) s.size, true) := by
      unfold strings_Cut.f stringslite_Cut.f stringslite_Index.f
      rw [dif_pos (by rfl)]
      show ((some (Lib.indexByte s.data.toList 40)).bind _).bind _ = _
      rw [h2]
      simp only [Option.bind_some]
      have hz : ((⟨#[40]⟩ : ByteArray).size : Int) = 1 := rfl
      rw [if_pos (by omega), if_pos (by omega), if_pos (by omega), hz, wr (by omega) (by omega), if_pos (by omega), if_pos (by omega)]
      simp only [Option.bind_some, Int.toNat_natCast]
      rw [show ((i : Int) + 1).toNat = i + 1 from by omega]
    have hz1 : (s.extract (i + 1) s.size).size = s.size - (i + 1) := ext_size _ _ _ (Nat.le_refl _)
    have h41 : ((⟨#[41]⟩ : ByteArray).size : Int) = 1 := rfl
    have hsuf : strings_CutSuffix.f (s.extract (i + 1) s.size) ⟨#[41]⟩ = some (if i + 1 < s.size ∧ s.data.toList.getD (s.size - 1) 0 = 41 then (s.extract (i + 1) (s.size - 1), true) else (s.extract (i + 1) s.size, false)) := by
      unfold strings_CutSuffix.f stringslite_CutSuffix.f stringslite_HasSuffix.f
      rw [h41]
      by_cases c : i + 1 < s.size
      · rw [if_pos (by omega), wr (by omega) (by omega), if_pos (by omega), if_pos (by omega), show (((s.extract (i + 1) s.size).size : Int) - 1).toNat = (s.extract (i + 1) s.size).size - 1 from by omega, last_eq c, ring_eq c]
        simp only [Option.bind_some]
        have hb : ([s.data.toList.getD (s.size - 1) 0] == (⟨#[41]⟩ : ByteArray).toList) = decide (s.data.toList.getD (s.size - 1) 0 = 41) := by
          rw [toList_eq, Bool.eq_iff_iff]; simp
        rw [hb]
        by_cases e : s.data.toList.getD (s.size - 1) 0 = 41
        · rw [decide_eq_true e, if_pos rfl, if_pos (by omega), if_pos (by omega), if_pos ⟨c, e⟩]; rfl
        · rw [decide_eq_false e, if_neg (by simp), if_neg (by intro h; exact e h.2)]; rfl
      · rw [if_neg (by omega)]
        simp only [Option.bind_some, Bool.false_eq_true, if_false]
        rw [if_neg (fun h => c h.1)]
    have hspec : ∀ (r : List Bool × List Bool × Bool), Ev (fun k => spec_l1Read.j1 k s i [] [false]) r → Ev (fun k => spec_l1Read.f k s) r := by
      intro r hr
      exact read_l0 s hs [] [false] i (by omega) (fun j hj => h4 j hj) (fun _ => h3) hr i 0 (by omega)
    have hnull : ∀ x : Bool, x = true → Ev (fun k => spec_l1Read.j2 k s (i : Nat) x [] [false]) (([] : List Bool), [false], false) := by
      intro x hx
      refine Ev.end fun k => ?_
      simp only [spec_l1Read.j2]
      rw [if_pos hx]
    -- for the reader's bracket at the end
    have hj1 : ∀ r, Ev (fun k => spec_l1Read.j2 k s (i : Nat) (decide (s.size ≤ i + 2) || s.data.toList.getD (s.size - 1) 0 != 41) [] [false]) r → Ev (fun k => spec_l1Read.j1 k s i [] [false]) r := by
      intro r hr
      refine Ev.step (fun k => ?_) hr
      simp only [spec_l1Read.j1]
      rw [wr (x := (i : Int) + 2) (by omega) (by omega), wr (x := (s.size : Int) - 1) (by omega) (by omega)]
      by_cases c : s.size ≤ i + 2
      · rw [if_pos (by omega)]; simp [c]
      · rw [if_neg (by omega), if_pos (by omega), if_pos (by omega)]
        rw [show (s.size : Int) - 1 = ((s.size - 1 : Nat) : Int) from by omega]
        congr 1
        simp only [c, decide_false, Bool.false_or]
        have := bt_is s (s.size - 1) (by omega) 41 41 rfl
        rw [Bool.eq_iff_iff]; simp only [bne_iff_ne, ne_eq, this]
    by_cases c : (i + 2 < s.size) ∧ s.data.toList.getD (s.size - 1) 0 = 41
    · obtain ⟨c1, c2⟩ := c
      rw [if_pos ⟨by omega, c2⟩] at hsuf
      have e1 := hsg (s.extract 0 i) (by rw [ext_size _ _ _ (by omega)]; omega)
      have e2 := hsg (s.extract (i + 1) (s.size - 1)) (by rw [ext_size _ _ _ (by omega)]; omega)
      have g1 := l1Signs_ev (s.extract 0 i) (by rw [ext_size _ _ _ (by omega)]; omega)
      have g2 := l1Signs_ev (s.extract (i + 1) (s.size - 1)) (by rw [ext_size _ _ _ (by omega)]; omega)
      have z1 : (s.extract 0 i).size = i := by rw [ext_size _ _ _ (by omega)]; omega
      have z2 : (s.extract (i + 1) (s.size - 1)).size = s.size - i - 2 := by rw [ext_size _ _ _ (by omega)]; omega
      have y1 := size_data (s.extract 0 i)
      have y2 := size_data (s.extract (i + 1) (s.size - 1))
      rw [z1] at e1 y1
      rw [z2] at e2 y2
      have himpl : impl_setOf.f s = (impl_signs.f (s.extract 0 i)).bind fun x => (impl_signs.f (s.extract (i + 1) (s.size - 1))).bind fun y => some (x.1, y.1, x.2 && y.2 && decide ((y.1.length : Int) > 0)) := by
        unfold impl_setOf.f
        rw [hc]; simp only [Option.bind_some]
        rw [hsuf]; simp only [Option.bind_some]
        congr 1; funext x; congr 1; funext y
        cases x.2 <;> cases y.2 <;> simp
      have hj2 : ∀ (x y : List Bool × Bool), Ev (fun k => spec_l1Signs.f k (s.extract 0 i)) x → Ev (fun k => spec_l1Signs.f k (s.extract (i + 1) (s.size - 1))) y →
          Ev (fun k => spec_l1Read.f k s) (if x.2 && y.2 && decide (x.1.length ≤ 60) && decide (y.1.length ≤ 60) then (x.1, y.1, true) else ([], [false], false)) := by
        intro x y hx hy
        refine hspec _ (hj1 _ ?_)
        have : (decide (s.size ≤ i + 2) || s.data.toList.getD (s.size - 1) 0 != 41) = false := by rw [c2]; simp; omega
        rw [this]
        refine Ev.step (f := fun k => (spec_l1Signs.f k (s.extract 0 i)).bind fun bt121 => (spec_l1Signs.f k (s.extract (i + 1) (s.size - 1))).bind fun bt125 => (if bt121.2 = true then (if bt125.2 = true then (if (bt121.1.length : Int) > 60 then (some (([] : List Bool), [false], false)) else (if (bt125.1.length : Int) > 60 then (some ([], [false], false)) else (some (bt121.1, bt125.1, true)))) else (some ([], [false], false))) else (some ([], [false], false)))) (fun k => ?_) ?_
        · simp only [spec_l1Read.j2]
          rw [if_neg (by simp), if_pos (by omega), if_pos (by omega), wr (x := (i : Int) + 1) (by omega) (by omega), wr (x := (s.size : Int) - 1) (by omega) (by omega)]
          simp only [if_pos (show (0 : Int) ≤ (i : Int) + 1 from by omega), if_pos (show (i : Int) + 1 ≤ (s.size : Int) - 1 from by omega), if_pos (show (s.size : Int) - 1 ≤ (s.size : Int) from by omega)]
          rw [Int.toNat_natCast, show ((i : Int) + 1).toNat = i + 1 from by omega, show ((s.size : Int) - 1).toNat = s.size - 1 from by omega]
        · refine Ev.bind hx (Ev.bind hy (Ev.const fun k => ?_))
          obtain ⟨x1, x2⟩ := x
          obtain ⟨y1, y2⟩ := y
          cases x2 <;> cases y2 <;> simp
          by_cases q1 : x1.length ≤ 60
          · by_cases q2 : y1.length ≤ 60
            · rw [if_neg (by omega), if_neg (by omega), if_pos ⟨q1, q2⟩]
            · rw [if_neg (by omega), if_pos (by omega), if_neg (by omega)]
          · rw [if_pos (by omega), if_neg (by omega)]
      have hfin := hj2 _ _ g1 g2
      rw [e1, e2] at himpl
      simp only [Option.bind_some] at himpl
      cases o1 : okL (s.extract 0 i).data.toList with
      | false => left; rw [o1] at himpl hfin; exact ⟨⟨_, _, by rw [himpl]; simp; exact ⟨rfl, rfl⟩⟩, ⟨_, _, by simpa using hfin⟩⟩
      | true =>
        cases o2 : okL (s.extract (i + 1) (s.size - 1)).data.toList with
        | false => left; rw [o1, o2] at himpl hfin; exact ⟨⟨_, _, by rw [himpl]; simp; exact ⟨rfl, rfl⟩⟩, ⟨_, _, by simpa using hfin⟩⟩
        | true =>
          rw [o1, o2] at himpl hfin
          simp only [if_true, List.length_map, Bool.and_self, Bool.true_and] at himpl hfin
          rw [y1, y2] at hfin
          rw [y2] at himpl
          by_cases q : i ≤ 60 ∧ s.size - i - 2 ≤ 60
          · right
            refine ⟨(s.extract 0 i).data.toList.map (· == 49), (s.extract (i + 1) (s.size - 1)).data.toList.map (· == 49), ⟨?_, by rw [List.length_map]; omega, by rw [List.length_map]; omega⟩, himpl.trans ?_, ?_⟩
            · rw [List.length_map]; omega
            · rw [decide_eq_true (show ((i : Nat) : Int) ≤ 60 from by omega), decide_eq_true (show (((s.size - i - 2 : Nat) : Int) ≤ 60) from by omega), decide_eq_true (show (((s.size - i - 2 : Nat) : Int) > 0) from by omega)]
              rfl
            · rw [decide_eq_true q.1, decide_eq_true q.2] at hfin
              exact hfin
          · left
            refine ⟨⟨(s.extract 0 i).data.toList.map (· == 49), (s.extract (i + 1) (s.size - 1)).data.toList.map (· == 49), himpl.trans ?_⟩, ⟨[], [false], ?_⟩⟩
            · congr 3
              by_cases q1 : i ≤ 60
              · rw [decide_eq_false (show ¬ (((s.size - i - 2 : Nat) : Int) ≤ 60) from by omega)]; simp
              · rw [decide_eq_false (show ¬ ((i : Nat) : Int) ≤ 60 from by omega)]; simp
            · by_cases q1 : i ≤ 60
              · rw [decide_eq_false (show ¬ (s.size - i - 2 ≤ 60) from by omega)] at hfin; simpa using hfin
              · rw [decide_eq_false q1] at hfin; simpa using hfin
    · left
      have hcond : (decide (s.size ≤ i + 2) || s.data.toList.getD (s.size - 1) 0 != 41) = true := by
        by_cases q : i + 2 < s.size
        · have : ¬ s.data.toList.getD (s.size - 1) 0 = 41 := fun h => c ⟨q, h⟩
          simp only [Bool.or_eq_true, bne_iff_ne, ne_eq]; exact .inr this
        · simp only [Bool.or_eq_true, decide_eq_true_eq]; exact .inl (by omega)
      refine ⟨?_, ⟨[], [false], hspec _ (hj1 _ (hnull _ hcond))⟩⟩
      have e1 := hsg (s.extract 0 i) (by rw [ext_size _ _ _ (by omega)]; omega)
      unfold impl_setOf.f
      rw [hc]; simp only [Option.bind_some]
      rw [hsuf]; simp only [Option.bind_some]
      by_cases q : i + 1 < s.size ∧ s.data.toList.getD (s.size - 1) 0 = 41
      · rw [if_pos q]
        have hem : (s.extract (i + 1) (s.size - 1)).size = 0 := by
          rw [ext_size _ _ _ (by omega)]
          by_cases q2 : i + 2 < s.size
          · exact absurd ⟨q2, q.2⟩ c
          · omega
        have e2 := hsg (s.extract (i + 1) (s.size - 1)) (by omega)
        have y2 := size_data (s.extract (i + 1) (s.size - 1))
        have hn : (s.extract (i + 1) (s.size - 1)).data.toList = [] := List.length_eq_zero_iff.1 (by omega)
        obtain ⟨p, hp⟩ : ∃ p, impl_signs.f (s.extract 0 i) = some p := ⟨_, e1⟩
        rw [hp, e2, hn]
        simp only [Option.bind_some, okL, List.all_nil, if_true, List.map_nil, List.length_nil]
        refine ⟨p.1, [], ?_⟩
        cases p.2 <;> simp
      · rw [if_neg q, e1]
        simp only [Option.bind_some]
        rw [hsg (s.extract (i + 1) s.size) (by omega)]
        simp only [Option.bind_some]
        exact ⟨_, _, rfl⟩

end Go.Proofs.Ytbgapjgfocdjoaa.Q

namespace Go.Proofs.Ytbgapjgfocdjoaa.Q
open Go.RowKit Go.Proofs.YtbgapjgfocdjoaaW.PrintWords Go.Proofs.YtbgapjgfocdjoaaW.PrintLast Go.Proofs.YtbgapjgfocdjoaaW.PrintMore
open Go.Proofs.Ytbgapjgfocdjoaa.Pl
set_option linter.unusedVariables false
set_option linter.unusedSimpArgs false

theorem rdOf_nat (l : List Bool) (n : Nat) : rdOf false l (n : Int) = l.getD n false := by simp [rdOf]
theorem tmod_nat (a b : Nat) : Int.tmod (a : Int) (b : Int) = ((a % b : Nat) : Int) := by
  rw [Int.tmod_eq_emod_of_nonneg (Int.natCast_nonneg a)]; exact (Int.natCast_emod a b).symm
theorem tdiv_nat (a b : Nat) : Int.tdiv (a : Int) (b : Int) = ((a / b : Nat) : Int) := by
  rw [Int.tdiv_eq_ediv_of_nonneg (Int.natCast_nonneg a)]; exact (Int.natCast_ediv a b).symm
theorem wr1 {n : Nat} (h : n ≤ 4611686018427387904) : wrap64 ((n : Int) + 1) = ((n + 1 : Nat) : Int) := by rw [wr (by omega) (by omega)]; omega

theorem set_has {t r : List Bool} (h : Good t r) (n : Nat) (hn : n ≤ 4611686018427387904) : impl_set_has.f t r n = some (hasB t r n) := by
  have h1 := h.pos
  have h2 := h.tl
  have h3 := h.rl
  unfold impl_set_has.f
  rw [if_neg (by omega)]
  by_cases c : n < t.length
  · rw [if_pos (by omega), if_pos (by omega), rdOf_nat, hasB_lt c]
  · have e : wrap64 ((n : Int) - (t.length : Int)) = ((n - t.length : Nat) : Int) := by rw [wr (by omega) (by omega)]; omega
    have hm := Nat.mod_lt (n - t.length) h1
    rw [if_neg (by omega), if_neg (by omega), e, tmod_nat, if_pos (by omega), if_pos (by omega), rdOf_nat, hasB_ge (by omega)]
theorem l1_has {t r : List Bool} (h : Good t r) (n : Nat) (hn : n ≤ 4611686018427387904) : spec_l1Has.f t r n = some (hasB t r n) := by
  have h1 := h.pos
  have h2 := h.tl
  have h3 := h.rl
  unfold spec_l1Has.f
  by_cases c : n < t.length
  · rw [if_pos (by omega), if_pos (by omega), rdOf_nat, hasB_lt c]
  · have e : wrap64 ((n : Int) - (t.length : Int)) = ((n - t.length : Nat) : Int) := by rw [wr (by omega) (by omega)]; omega
    have hm := Nat.mod_lt (n - t.length) h1
    rw [if_neg (by omega), if_neg (by omega), e, tmod_nat, if_pos (by omega), if_pos (by omega), rdOf_nat, hasB_ge (by omega)]

/-- The numbers less than n of a set. -/
def listM (f : Nat → Bool) (n : Nat) : List Int := ((List.range n).filter f).map fun (x : Nat) => (x : Int)
theorem listM_succ (f : Nat → Bool) (n : Nat) : listM f (n + 1) = if f n = true then listM f n ++ [(n : Int)] else listM f n := by
  unfold listM
  rw [List.range_succ, List.filter_append, List.map_append]
  by_cases c : f n = true <;> simp [c]
theorem listM_length_le (f : Nat → Bool) (n : Nat) : (listM f n).length ≤ n := by
  unfold listM
  rw [List.length_map]
  exact Nat.le_trans (List.length_filter_le _ _) (by simp)

theorem below_l0 {t r : List Bool} (h : Good t r) (n : Nat) (hn : n ≤ 1073741824) (d : Nat) : ∀ i, i + d = n → Ev (fun k => impl_set_below.l0 k (listM (hasB t r) i) n (i : Nat) t r) (listM (hasB t r) n) := by
  induction d with
  | zero =>
    intro i hi
    obtain rfl : i = n := by omega
    refine Ev.end fun k => ?_
    simp only [impl_set_below.l0]
    rw [if_neg (by omega)]
  | succ d ih =>
    intro i hi
    have hle := listM_length_le (hasB t r) i
    have h1 := ih (i + 1) (by omega)
    rw [listM_succ] at h1
    refine Ev.step (fun k => ?_) h1
    simp only [impl_set_below.l0]
    rw [if_pos (by omega), set_has h i (by omega)]
    simp only [Option.bind_some]
    rw [wr1 (by omega)]
    by_cases c : hasB t r i = true
    · rw [if_pos c, if_pos (by omega), if_pos c]
    · rw [if_neg c, if_neg c]
theorem below_ev {t r : List Bool} (h : Good t r) (n : Nat) (hn : n ≤ 1073741824) : Ev (fun k => impl_set_below.f k t r n) (listM (hasB t r) n) := by
  have := below_l0 h n hn n 0 (by omega)
  exact this

theorem l1List_l0 {t r : List Bool} (h : Good t r) (n : Nat) (hn : n ≤ 1073741824) (d : Nat) : ∀ i, i + d = n → Ev (fun k => spec_l1List.l0 k n (listM (hasB t r) i) (i : Nat) t r) (listM (hasB t r) n) := by
  induction d with
  | zero =>
    intro i hi
    obtain rfl : i = n := by omega
    refine Ev.end fun k => ?_
    simp only [spec_l1List.l0]
    rw [if_neg (by omega)]
  | succ d ih =>
    intro i hi
    have hle := listM_length_le (hasB t r) i
    have h1 := ih (i + 1) (by omega)
    rw [listM_succ] at h1
    refine Ev.step (fun k => ?_) h1
    simp only [spec_l1List.l0]
    rw [if_pos (by omega), l1_has h i (by omega)]
    simp only [Option.bind_some]
    rw [wr1 (by omega)]
    by_cases c : hasB t r i = true
    · rw [if_pos c, if_pos (by omega), if_pos c]
    · rw [if_neg c, if_neg c]
theorem l1List_ev {t r : List Bool} (h : Good t r) (n : Nat) (hn : n ≤ 1073741824) : Ev (fun k => spec_l1List.f k t r n) (listM (hasB t r) n) := by
  have := l1List_l0 h n hn n 0 (by omega)
  exact this

end Go.Proofs.Ytbgapjgfocdjoaa.Q

namespace Go.Proofs.Ytbgapjgfocdjoaa.Q
open Go.RowKit Go.Proofs.YtbgapjgfocdjoaaW.PrintWords Go.Proofs.YtbgapjgfocdjoaaW.PrintLast Go.Proofs.YtbgapjgfocdjoaaW.PrintMore
open Go.Proofs.Ytbgapjgfocdjoaa.Pl
set_option linter.unusedVariables false
set_option linter.unusedSimpArgs false

/-- The tidy form of a set, for both. -/
structure Tidied (t r t' r' : List Bool) : Prop where
  impl : Ev (fun k => impl_set_tidy.f k t r) (t', r')
  spec : Ev (fun k => spec_l1Less.f k t r) (t', r')
  canon : Canon t' r'
  same : ∀ n, hasB t' r' n = hasB t r n
  good : Good t' r'
  tle : t'.length ≤ t.length
  rle : r'.length ≤ r.length
end Go.Proofs.Ytbgapjgfocdjoaa.Q

namespace Go.Proofs.Ytbgapjgfocdjoaa.Q
open Go.RowKit Go.Proofs.YtbgapjgfocdjoaaW.PrintWords Go.Proofs.YtbgapjgfocdjoaaW.PrintLast Go.Proofs.YtbgapjgfocdjoaaW.PrintMore
open Go.Proofs.Ytbgapjgfocdjoaa.Pl
set_option linter.unusedVariables false
set_option linter.unusedSimpArgs false

theorem in_eq (a b c : Int) : impl_in.f a b c = some (decide (b ≤ a ∧ a ≤ c)) := by
  unfold impl_in.f
  by_cases h : b ≤ a
  · rw [if_pos h]; simp [h]
  · rw [if_neg (by omega), decide_eq_false (by omega)]
theorem l6In_eq (a b c : Int) : spec_l6In.f a b c = some (decide (b ≤ a ∧ a ≤ c)) := by
  unfold spec_l6In.f
  by_cases h : b ≤ a
  · rw [if_pos h]; simp [h]
  · rw [if_neg (by omega), decide_eq_false (by omega)]
theorem listM_length (f : Nat → Bool) (n : Nat) : (listM f n).length = cnt f n := by simp [listM, cnt]

theorem denseCount_ev {s : ByteArray} {t r : List Bool} (h : IsSet s t r) (n k : Nat) (hn : n ≤ 1000) (hk : k ≤ 1000) :
    Ev (fun q => impl_DenseCount.f q s n k) (((cnt (hasB t r) (n + k) - cnt (hasB t r) n : Nat) : Int), true) := by
  have h1 := cnt_mono (hasB t r) n k
  have h2 := cnt_le (hasB t r) (n + k)
  refine Ev.congr (f := fun q => impl_DenseCount.j0 q n k false t r) (fun q => ?_) ?_
  · unfold impl_DenseCount.f
    rw [h.impl, in_eq, in_eq, decide_eq_true (by omega), decide_eq_true (by omega)]
    simp only [Option.bind_some, if_true, Bool.not_true]
  · refine Ev.step (f := fun q => (impl_set_below.f q t r (wrap64 ((n : Int) + k))).bind fun x => (impl_set_below.f q t r n).bind fun y => some (wrap64 ((x.length : Int) - (y.length : Int)), true)) (fun q => ?_) ?_
    · simp only [impl_DenseCount.j0]
      rw [if_neg (by simp)]
    · rw [show wrap64 ((n : Int) + k) = ((n + k : Nat) : Int) from by rw [wr (by omega) (by omega)]; omega]
      refine Ev.bind (below_ev h.good (n + k) (by omega)) (Ev.bind (below_ev h.good n (by omega)) (Ev.const fun q => ?_))
      rw [listM_length, listM_length, wr (by omega) (by omega)]
      congr 2
      omega
theorem denseCount_spec {s : ByteArray} {t r : List Bool} (h : IsSet s t r) (n k : Nat) (hn : n ≤ 1000) (hk : k ≤ 1000) :
    Ev (fun q => spec_DenseCount.f q s n k) (((cnt (hasB t r) (n + k) - cnt (hasB t r) n : Nat) : Int), true) := by
  have h1 := cnt_mono (hasB t r) n k
  have h2 := cnt_le (hasB t r) (n + k)
  unfold spec_DenseCount.f
  refine Ev.bind h.spec ?_
  refine Ev.congr (f := fun q => spec_DenseCount.j0 q n k false t r) (fun q => ?_) ?_
  · rw [l6In_eq, l6In_eq, decide_eq_true (by omega), decide_eq_true (by omega)]
    simp only [Option.bind_some, if_true, Bool.not_true]
  · refine Ev.step (f := fun q => (spec_l1List.f q t r (wrap64 ((n : Int) + k))).bind fun x => (spec_l1List.f q t r n).bind fun y => some (wrap64 ((x.length : Int) - (y.length : Int)), true)) (fun q => ?_) ?_
    · simp only [spec_DenseCount.j0]
      rw [if_neg (by simp)]
    · rw [show wrap64 ((n : Int) + k) = ((n + k : Nat) : Int) from by rw [wr (by omega) (by omega)]; omega]
      refine Ev.bind (l1List_ev h.good (n + k) (by omega)) (Ev.bind (l1List_ev h.good n (by omega)) (Ev.const fun q => ?_))
      rw [listM_length, listM_length, wr (by omega) (by omega)]
      congr 2
      omega
theorem denseCount_no {s : ByteArray} {n k : Int} (h : NoSet s ∨ ∃ t r, IsSet s t r) (hx : NoSet s ∨ ¬ (0 ≤ n ∧ n ≤ 1000) ∨ ¬ (0 ≤ k ∧ k ≤ 1000)) :
    Ev (fun q => impl_DenseCount.f q s n k) (0, false) ∧ Ev (fun q => spec_DenseCount.f q s n k) (0, false) := by
  have hi : ∀ a b, Ev (fun q => impl_DenseCount.j0 q n k true a b) (0, false) := fun a b => Ev.end fun q => by simp only [impl_DenseCount.j0, if_true]
  have hs : ∀ a b, Ev (fun q => spec_DenseCount.j0 q n k true a b) (0, false) := fun a b => Ev.end fun q => by simp only [spec_DenseCount.j0, if_true]
  by_cases hc : NoSet s
  · obtain ⟨⟨a, b, ha⟩, ⟨a', b', hb⟩⟩ := hc
    constructor
    · unfold impl_DenseCount.f
      rw [ha]; simp only [Option.bind_some, Bool.false_eq_true, if_false]
      exact hi _ _
    · unfold spec_DenseCount.f
      refine Ev.bind hb ?_
      simp only [Bool.false_eq_true, if_false]
      exact hs _ _
  · obtain ⟨t, r, h⟩ := h.resolve_left hc
    have hx := hx.resolve_left hc
    constructor
    · unfold impl_DenseCount.f
      rw [h.impl, in_eq, in_eq]; simp only [Option.bind_some, if_true]
      by_cases c : 0 ≤ n ∧ n ≤ 1000
      · have c2 := hx.resolve_left (fun h => h c)
        rw [decide_eq_true c, decide_eq_false c2]; simp only [if_true, Bool.not_false]; exact hi _ _
      · rw [decide_eq_false c]; simp only [Bool.false_eq_true, if_false]; exact hi _ _
    · unfold spec_DenseCount.f
      refine Ev.bind h.spec ?_
      rw [l6In_eq, l6In_eq]; simp only [Option.bind_some, if_true]
      by_cases c : 0 ≤ n ∧ n ≤ 1000
      · have c2 := hx.resolve_left (fun h => h c)
        rw [decide_eq_true c, decide_eq_false c2]; simp only [if_true, Bool.not_false]; exact hs _ _
      · rw [decide_eq_false c]; simp only [Bool.false_eq_true, if_false]; exact hs _ _

end Go.Proofs.Ytbgapjgfocdjoaa.Q

namespace Go.Proofs.Ytbgapjgfocdjoaa.Q
open Go.RowKit Go.Proofs.YtbgapjgfocdjoaaW.PrintWords Go.Proofs.YtbgapjgfocdjoaaW.PrintLast Go.Proofs.YtbgapjgfocdjoaaW.PrintMore
set_option linter.unusedVariables false
set_option linter.unusedSimpArgs false

structure Bs (bs : List Int) : Prop where
  len : bs.length ≤ 2000
  byte : ∀ x ∈ bs, 0 ≤ x ∧ x ≤ 255
theorem byte_wf {x : Int} (h : (Lit.int .u8 x).wf = true) : 0 ≤ x ∧ x ≤ 255 := by
  have h1 : IntKind.u8.min = 0 := rfl
  have h2 : IntKind.u8.max = 255 := rfl
  simp [Lit.wf] at h
  omega
theorem open_ev (l0 : List Int) (h : ∀ x ∈ l0, (Lit.int .u8 x).wf = true) : ∃ bs, Bs bs ∧ spec_l6Open.f l0 = some (bs, 0) := by
  unfold spec_l6Open.f
  by_cases c : (l0.length : Int) > 2000
  · refine ⟨l0.take 2000, ⟨List.length_take_le _ _, fun x hx => byte_wf (h x (List.mem_of_mem_take hx))⟩, ?_⟩
    rw [if_pos c, if_pos (by omega)]
  · exact ⟨l0, ⟨by omega, fun x hx => byte_wf (h x hx)⟩, by rw [if_neg c]⟩
theorem rd_byte {bs : List Int} (h : Bs bs) (i : Nat) : ∃ b : Nat, b ≤ 255 ∧ rd bs (i : Int) = b := by
  have hx : 0 ≤ rd bs (i : Int) ∧ rd bs (i : Int) ≤ 255 := by
    unfold rd
    rw [Int.toNat_natCast]
    by_cases c : i < bs.length
    · have : bs.getD i 0 = bs[i] := by simp [List.getD, c]
      rw [this]
      exact h.byte _ (List.getElem_mem c)
    · have : bs.getD i 0 = 0 := by simp [List.getD, List.getElem?_eq_none (show bs.length ≤ i by omega)]
      rw [this]; omega
  obtain ⟨b, hb⟩ := Int.eq_ofNat_of_zero_le hx.1
  exact ⟨b, by omega, hb⟩
theorem xor_nat (a b : Nat) (ha : a < 2 ^ 62) (hb : b < 2 ^ 62) : Go.bits .xor .i64 (a : Int) (b : Int) = ((a ^^^ b : Nat) : Int) := by
  have h64 : IntKind.i64.bits = 64 := rfl
  have ha' : a % 2 ^ 64 = a := Nat.mod_eq_of_lt (by omega)
  have hb' : b % 2 ^ 64 = b := Nat.mod_eq_of_lt (by omega)
  have hx : a ^^^ b < 2 ^ 62 := Nat.xor_lt_two_pow ha hb
  simp only [Go.bits, h64, BitVec.ofInt_natCast, BitVec.toNat_xor, BitVec.toNat_ofNat, ha', hb']
  rw [IntKind.wrap_i64]
  omega
theorem pick_ev {bs : List Int} (h : Bs bs) (p n : Nat) (hp : p ≤ 1000000) (hn : 1 ≤ n) (hn2 : n ≤ 1000000) : ∃ v : Nat, v < n ∧ Ev (fun k => spec_l6Rd_pick.f k bs p n) ((v : Int), ((p + 1 : Nat) : Int)) := by
  have hl := h.len
  have e1 : wrap64 (((p + 1 : Nat) : Int) - 1) = (p : Nat) := by rw [wr (by omega) (by omega)]; omega
  have pos : ∀ v : Nat, Ev (fun k => spec_l6Rd_pick.j0 k n ((bs.length : Int) == 0) bs ((p + 1 : Nat) : Int)) ((v : Int), ((p + 1 : Nat) : Int)) → Ev (fun k => spec_l6Rd_pick.f k bs p n) ((v : Int), ((p + 1 : Nat) : Int)) := by
    intro v hv
    refine Ev.congr (fun k => ?_) hv
    unfold spec_l6Rd_pick.f
    rw [if_neg (by omega), wr1 (by omega)]
  by_cases c0 : bs.length = 0
  · refine ⟨0, by omega, pos 0 (Ev.end fun k => ?_)⟩
    simp only [spec_l6Rd_pick.j0]
    rw [if_pos (by rw [c0]; rfl)]
    rfl
  · have hne : ¬ (((bs.length : Int) == 0) = true) := by simp; intro h; exact c0 (by simp [h])
    by_cases c : p < bs.length
    · obtain ⟨b, hb, eb⟩ := rd_byte h p
      refine ⟨b % n, Nat.mod_lt _ (by omega), pos _ (Ev.end fun k => ?_)⟩
      simp only [spec_l6Rd_pick.j0]
      rw [if_neg hne, e1, if_pos (by omega), if_pos (by omega), if_neg (by omega), eb, wr (by omega) (by omega), tmod_nat]
    · have hm1 := Nat.mod_lt p (show bs.length > 0 by omega)
      have hm2 := Nat.mod_lt (p * 7 + 3) (show bs.length > 0 by omega)
      obtain ⟨b1, hb1, eb1⟩ := rd_byte h (p % bs.length)
      obtain ⟨b2, hb2, eb2⟩ := rd_byte h ((p * 7 + 3) % bs.length)
      have hd := Nat.div_le_self p bs.length
      have hx : b1 * 131 + b2 * 1117 + p * 29 + p / bs.length * 53 ≤ 100000000 := by omega
      refine ⟨((b1 * 131 + b2 * 1117 + p * 29 + p / bs.length * 53) ^^^ ((b1 * 131 + b2 * 1117 + p * 29 + p / bs.length * 53) / 64)) % n, Nat.mod_lt _ (by omega), pos _ (Ev.end fun k => ?_)⟩
      simp only [spec_l6Rd_pick.j0]
      have e7 : wrap64 (wrap64 (((p : Nat) : Int) * 7) + 3) = ((p * 7 + 3 : Nat) : Int) := by rw [wr (x := (p : Int) * 7) (by omega) (by omega), wr (by omega) (by omega)]; omega
      rw [if_neg hne, e1, if_neg (by omega), if_neg (by omega), e7, tmod_nat, tmod_nat, if_pos (by omega), if_pos (by omega), if_pos (by omega), if_pos (by omega), if_neg (by omega), eb1, eb2, tdiv_nat]
      have hX : wrap64 (wrap64 (wrap64 (wrap64 (wrap64 (b1 : Int) * 131) + wrap64 (wrap64 (b2 : Int) * 1117)) + wrap64 ((p : Int) * 29)) + wrap64 (wrap64 ((p / bs.length : Nat) : Int) * 53)) = ((b1 * 131 + b2 * 1117 + p * 29 + p / bs.length * 53 : Nat) : Int) := by
        generalize p / bs.length = q at *
        rw [wr (x := (b1 : Int)) (by omega) (by omega), wr (x := (b2 : Int)) (by omega) (by omega), wr (x := (b1 : Int) * 131) (by omega) (by omega), wr (x := (b2 : Int) * 1117) (by omega) (by omega), wr (x := (p : Int) * 29) (by omega) (by omega), wr (x := (q : Int)) (by omega) (by omega), wr (x := (q : Int) * 53) (by omega) (by omega), wr (x := (b1 : Int) * 131 + (b2 : Int) * 1117) (by omega) (by omega), wr (x := (b1 : Int) * 131 + (b2 : Int) * 1117 + (p : Int) * 29) (by omega) (by omega), wr (by omega) (by omega)]
        omega
      rw [hX]
      generalize b1 * 131 + b2 * 1117 + p * 29 + p / bs.length * 53 = X at hx
      have hq : wrap64 (Int.tdiv (X : Int) 64) = ((X / 64 : Nat) : Int) := by
        rw [show (64 : Int) = ((64 : Nat) : Int) from rfl, tdiv_nat, wr (by omega) (by omega)]
      rw [hq, xor_nat _ _ (by omega) (by omega), tmod_nat]

theorem signs_draw_l0 {bs : List Int} (h : Bs bs) (c : Nat) : ∀ (acc : List Int) (p : Nat), p + c ≤ 1000000 → acc.length + c ≤ 1000000 →
    ∃ s : ByteArray, s.size = acc.length + c ∧ Ev (fun k => spec_l91Signs.l0 k acc c bs p) (s, ((p + c : Nat) : Int)) := by
  induction c with
  | zero =>
    intro acc p hp ha
    refine ⟨strOfNums acc, strOfNums_size acc, Ev.end fun k => ?_⟩
    simp only [spec_l91Signs.l0]
    rw [if_neg (by omega)]; rfl
  | succ c ih =>
    intro acc p hp ha
    obtain ⟨v, hv, e⟩ := pick_ev h p 2 (by omega) (by omega) (by omega)
    obtain ⟨s, hs, es⟩ := ih (acc ++ [(wrap64 (48 + (v : Int))) % 256]) (p + 1) (by omega) (by rw [List.length_append, List.length_singleton]; omega)
    rw [List.length_append, List.length_singleton] at hs
    refine ⟨s, by omega, Ev.step (f := fun k => (spec_l6Rd_pick.f k bs p 2).bind fun x => if acc.length < 140737488355328 then spec_l91Signs.l0 k (acc ++ [(wrap64 (48 + x.1)) % 256]) (c : Nat) bs x.2 else none) (fun k => ?_) (Ev.bind e ?_)⟩
    · simp only [spec_l91Signs.l0]
      rw [if_pos (by omega), wr (x := ((c + 1 : Nat) : Int) - 1) (by omega) (by omega), show ((c + 1 : Nat) : Int) - 1 = (c : Int) from by omega]
    · simp only [if_pos (show acc.length < 140737488355328 from by omega)]
      rw [show p + (c + 1) = p + 1 + c from by omega]
      exact es
theorem signs_draw {bs : List Int} (h : Bs bs) (p low many : Nat) (hp : p ≤ 100000) (hl : low ≤ 1000) (hm : 1 ≤ many) (hm2 : many ≤ 1000) :
    ∃ (s : ByteArray) (q : Nat), s.size ≤ low + many ∧ q ≤ p + 1 + low + many ∧ Ev (fun k => spec_l91Signs.f k bs p low many) (s, (q : Int)) := by
  obtain ⟨v, hv, e⟩ := pick_ev h p many (by omega) hm (by omega)
  obtain ⟨s, hs, es⟩ := signs_draw_l0 h (low + v) [] (p + 1) (by omega) (by simp; omega)
  simp only [List.length_nil] at hs
  refine ⟨s, p + 1 + (low + v), by omega, by omega, ?_⟩
  unfold spec_l91Signs.f
  refine Ev.bind e ?_
  simp only [show wrap64 ((low : Int) + (v : Int)) = ((low + v : Nat) : Int) from by rw [wr (by omega) (by omega)]; omega]
  exact es

theorem set_draw {bs : List Int} (h : Bs bs) (p : Nat) (hp : p ≤ 50000) : ∃ (s : ByteArray) (q : Nat), s.size ≤ 100 ∧ q ≤ p + 100 ∧ Ev (fun k => spec_l91Set.f k bs p) (s, (q : Int)) := by
  obtain ⟨s1, p1, hs1, hp1, e1⟩ := signs_draw h p 0 6 (by omega) (by omega) (by omega) (by omega)
  obtain ⟨s2, p2, hs2, hp2, e2⟩ := signs_draw h p1 1 5 (by omega) (by omega) (by omega) (by omega)
  obtain ⟨v, hv, e3⟩ := pick_ev h p2 24 (by omega) (by omega) (by omega)
  have z1 : (⟨#[40]⟩ : ByteArray).size = 1 := rfl
  have z2 : (⟨#[41]⟩ : ByteArray).size = 1 := rfl
  have z3 : (⟨#[40, 48, 41]⟩ : ByteArray).size = 3 := rfl
  have key : ∃ (s : ByteArray) (q : Nat), s.size ≤ 100 ∧ q ≤ p + 100 ∧ Ev (fun k => if (v : Int) = 0 then ((some (([(⟨#[]⟩ : ByteArray), (⟨#[48]⟩ : ByteArray), (⟨#[40, 41]⟩ : ByteArray), (⟨#[49, 40]⟩ : ByteArray), (⟨#[40, 48, 41, 41]⟩ : ByteArray), (⟨#[97, 40, 49, 41]⟩ : ByteArray), (⟨#[40, 49, 41, 48]⟩ : ByteArray), (⟨#[48, 49, 40, 48, 50, 41]⟩ : ByteArray), (⟨#[48, 40, 40, 49, 41]⟩ : ByteArray)] : List ByteArray) : List ByteArray)).bind fun y => ((spec_l6Rd_pick.f k bs ((p2 + 1 : Nat) : Int) 9).bind fun x => (if 0 ≤ x.1 then (if x.1 < (y.length : Int) then (some (rdOf ByteArray.empty y x.1, x.2)) else (none)) else (none)))) else (if (v : Int) = 1 then ((spec_l91Signs.f k bs ((p2 + 1 : Nat) : Int) 0 6).bind fun x => (if x.1.size + 3 ≤ 9223372036854775807 then (some (x.1 ++ (⟨#[40, 48, 41]⟩ : ByteArray), x.2)) else (none))) else (if (v : Int) = 2 then (if 1 ≤ ((((s1 ++ (⟨#[40]⟩ : ByteArray)) ++ s2) ++ (⟨#[41]⟩ : ByteArray)).size : Int) then (if 1 + ((((s1 ++ (⟨#[40]⟩ : ByteArray)) ++ s2) ++ (⟨#[41]⟩ : ByteArray)).extract 1 (((s1 ++ (⟨#[40]⟩ : ByteArray)) ++ s2) ++ (⟨#[41]⟩ : ByteArray)).size).size ≤ 9223372036854775807 then (some ((⟨#[40]⟩ : ByteArray) ++ ((((s1 ++ (⟨#[40]⟩ : ByteArray)) ++ s2) ++ (⟨#[41]⟩ : ByteArray)).extract 1 (((s1 ++ (⟨#[40]⟩ : ByteArray)) ++ s2) ++ (⟨#[41]⟩ : ByteArray)).size), ((p2 + 1 : Nat) : Int))) else (none)) else (none)) else (some (((s1 ++ (⟨#[40]⟩ : ByteArray)) ++ s2) ++ (⟨#[41]⟩ : ByteArray), ((p2 + 1 : Nat) : Int)))))) (s, (q : Int)) := by
    by_cases c0 : v = 0
    · obtain ⟨u, hu, e4⟩ := pick_ev h (p2 + 1) 9 (by omega) (by omega) (by omega)
      refine ⟨rdOf ByteArray.empty [(⟨#[]⟩ : ByteArray), (⟨#[48]⟩ : ByteArray), (⟨#[40, 41]⟩ : ByteArray), (⟨#[49, 40]⟩ : ByteArray), (⟨#[40, 48, 41, 41]⟩ : ByteArray), (⟨#[97, 40, 49, 41]⟩ : ByteArray), (⟨#[40, 49, 41, 48]⟩ : ByteArray), (⟨#[48, 49, 40, 48, 50, 41]⟩ : ByteArray), (⟨#[48, 40, 40, 49, 41]⟩ : ByteArray)] (u : Int), p2 + 1 + 1, ?_, by omega, ?_⟩
      · have : u = 0 ∨ u = 1 ∨ u = 2 ∨ u = 3 ∨ u = 4 ∨ u = 5 ∨ u = 6 ∨ u = 7 ∨ u = 8 := by omega
        rcases this with rfl | rfl | rfl | rfl | rfl | rfl | rfl | rfl | rfl <;> decide
      · simp only [if_pos (show (v : Int) = 0 from by omega), Option.bind_some]
        refine Ev.bind e4 (Ev.const fun k => ?_)
        rw [if_pos (by omega), if_pos (by simp; omega)]
    · simp only [if_neg (show ¬ (v : Int) = 0 from by omega)]
      by_cases c1 : v = 1
      · obtain ⟨s4, p4, hs4, hp4, e4⟩ := signs_draw h (p2 + 1) 0 6 (by omega) (by omega) (by omega) (by omega)
        refine ⟨s4 ++ ⟨#[40, 48, 41]⟩, p4, by rw [ByteArray.size_append, z3]; omega, by omega, ?_⟩
        simp only [if_pos (show (v : Int) = 1 from by omega)]
        refine Ev.bind e4 (Ev.const fun k => ?_)
        rw [if_pos (by show s4.size + 3 ≤ 9223372036854775807; omega)]
      · simp only [if_neg (show ¬ (v : Int) = 1 from by omega)]
        have hsz : (((s1 ++ (⟨#[40]⟩ : ByteArray)) ++ s2) ++ (⟨#[41]⟩ : ByteArray)).size = s1.size + 1 + s2.size + 1 := by
          rw [ByteArray.size_append, ByteArray.size_append, ByteArray.size_append, z1, z2]
        by_cases c2 : v = 2
        · simp only [if_pos (show (v : Int) = 2 from by omega)]
          have hx : ((((s1 ++ (⟨#[40]⟩ : ByteArray)) ++ s2) ++ (⟨#[41]⟩ : ByteArray)).extract 1 (((s1 ++ (⟨#[40]⟩ : ByteArray)) ++ s2) ++ (⟨#[41]⟩ : ByteArray)).size).size = s1.size + 1 + s2.size := by
            rw [ext_size _ _ _ (Nat.le_refl _), hsz]; omega
          refine ⟨(⟨#[40]⟩ : ByteArray) ++ ((((s1 ++ (⟨#[40]⟩ : ByteArray)) ++ s2) ++ (⟨#[41]⟩ : ByteArray)).extract 1 (((s1 ++ (⟨#[40]⟩ : ByteArray)) ++ s2) ++ (⟨#[41]⟩ : ByteArray)).size), p2 + 1, ?_, by omega, Ev.const fun k => ?_⟩
          · rw [ByteArray.size_append, z1, hx]; omega
          · rw [if_pos (by omega), if_pos (by omega)]
        · simp only [if_neg (show ¬ (v : Int) = 2 from by omega)]
          exact ⟨_, p2 + 1, by rw [hsz]; omega, by omega, Ev.now _⟩
  obtain ⟨s, q, g1, g2, g3⟩ := key
  refine ⟨s, q, g1, g2, ?_⟩
  unfold spec_l91Set.f
  refine Ev.bind e1 ?_
  simp only [if_pos (show s1.size + 1 ≤ 9223372036854775807 from by omega)]
  refine Ev.bind e2 ?_
  have w1 : s1.size + 1 + s2.size ≤ 9223372036854775807 := by omega
  have w2 : s1.size + 1 + s2.size + 1 ≤ 9223372036854775807 := by omega
  simp only [if_pos w1, if_pos w2]
  exact Ev.bind e3 g3

end Go.Proofs.Ytbgapjgfocdjoaa.Q

namespace Go.Proofs.Ytbgapjgfocdjoaa.Q
open Go.RowKit Go.Proofs.YtbgapjgfocdjoaaW.PrintWords Go.Proofs.YtbgapjgfocdjoaaW.PrintLast Go.Proofs.YtbgapjgfocdjoaaW.PrintMore
open Go.Proofs.Ytbgapjgfocdjoaa.Pl
set_option linter.unusedVariables false
set_option linter.unusedSimpArgs false

theorem number_draw {bs : List Int} (h : Bs bs) (p n : Nat) (hp : p ≤ 50000) (hn : n ≤ 100000) : ∃ (v : Int) (q : Nat), -1 ≤ v ∧ v ≤ n + 1 ∧ q ≤ p + 2 ∧ Ev (fun k => spec_l91Number.f k bs p n) (v, (q : Int)) := by
  obtain ⟨v, hv, e1⟩ := pick_ev h p 16 (by omega) (by omega) (by omega)
  by_cases c : v = 0
  · obtain ⟨u, hu, e2⟩ := pick_ev h (p + 1) 3 (by omega) (by omega) (by omega)
    have hw : wrap64 ((n : Int) + 1) = n + 1 := wr (by omega) (by omega)
    refine ⟨rd [(-1), (n : Int), wrap64 ((n : Int) + 1)] (u : Int), p + 1 + 1, ?_, ?_, by omega, ?_⟩
    · have : u = 0 ∨ u = 1 ∨ u = 2 := by omega
      rw [hw]
      rcases this with rfl | rfl | rfl <;> simp [rd] <;> omega
    · have : u = 0 ∨ u = 1 ∨ u = 2 := by omega
      rw [hw]
      rcases this with rfl | rfl | rfl <;> simp [rd] <;> omega
    · unfold spec_l91Number.f
      refine Ev.bind e1 ?_
      simp only [if_pos (show (v : Int) = 0 from by omega), Option.bind_some]
      refine Ev.bind e2 (Ev.const fun k => ?_)
      rw [if_pos (by omega), if_pos (by simp; omega)]
  · have hm : wrap64 (mn (n : Int) 30 + 1) = ((min n 30 + 1 : Nat) : Int) := by
      have : mn (n : Int) 30 = ((min n 30 : Nat) : Int) := by unfold mn; split <;> omega
      rw [this, wr1 (by omega)]
    obtain ⟨u, hu, e2⟩ := pick_ev h (p + 1) (min n 30 + 1) (by omega) (by omega) (by omega)
    refine ⟨u, p + 1 + 1, by omega, by omega, by omega, ?_⟩
    unfold spec_l91Number.f
    refine Ev.bind e1 ?_
    simp only [if_neg (show ¬ (v : Int) = 0 from by omega), hm]
    exact Ev.bind e2 (Ev.now _)

theorem drawDenseCount_ev (l0 : List Int) (h : ∀ x ∈ l0, (Lit.int .u8 x).wf = true) : ∃ (s : ByteArray) (n m : Int), s.size ≤ 1000 ∧ -1 ≤ n ∧ n ≤ 1001 ∧ -1 ≤ m ∧ m ≤ 1001 ∧ Ev (fun k => spec_DrawDenseCount.f k l0) (s, n, m) := by
  obtain ⟨bs, hb, eo⟩ := open_ev l0 h
  obtain ⟨s, q, g1, g2, g3⟩ := set_draw hb 0 (by omega)
  obtain ⟨n, q2, k1, k2, k3, k4⟩ := number_draw hb q 1000 (by omega) (by omega)
  obtain ⟨m, q3, j1, j2, j3, j4⟩ := number_draw hb q2 1000 (by omega) (by omega)
  refine ⟨s, n, m, by omega, by omega, by omega, by omega, by omega, ?_⟩
  unfold spec_DrawDenseCount.f
  rw [eo]; simp only [Option.bind_some]
  exact Ev.bind g3 (Ev.bind k4 (Ev.bind j4 (Ev.now _)))

theorem setCount_ev {s : ByteArray} {t r : List Bool} (h : IsSet s t r) (n : Int) (hn : n ≤ 1073741824) : Ev (fun k => impl_SetCount.f k s n) (if 0 ≤ n ∧ n ≤ 1000 then ((cnt (hasB t r) n.toNat : Nat), true) else (0, false)) := by
  unfold impl_SetCount.f impl_SetList.f
  rw [h.impl, in_eq]; simp only [Option.bind_some, if_true]
  by_cases c : 0 ≤ n ∧ n ≤ 1000
  · rw [if_pos c, decide_eq_true c]; simp only [if_true]
    obtain ⟨m, rfl⟩ := Int.eq_ofNat_of_zero_le c.1
    refine Ev.bind (a := (listM (hasB t r) m, true)) (Ev.bind (below_ev h.good m (by omega)) (Ev.now _)) (Ev.const fun k => ?_)
    rw [listM_length, Int.toNat_natCast]
  · rw [if_neg c, decide_eq_false c]; simp only [Bool.false_eq_true, if_false]
    exact Ev.now _
end Go.Proofs.Ytbgapjgfocdjoaa.Q

namespace Go.Proofs.Ytbgapjgfocdjoaa.Pure
open Go.RowKit Go.Proofs.Ytbgapjgfocdjoaa.Q Go.Proofs.YtbgapjgfocdjoaaW.PrintWords Go.Proofs.YtbgapjgfocdjoaaW.PrintLast Go.Proofs.YtbgapjgfocdjoaaW.PrintMore
open Go.Proofs.Ytbgapjgfocdjoaa.Pl
set_option linter.unusedSimpArgs false
set_option linter.unusedVariables false

theorem FnDenseCount : laws_FnDenseCount.Pure := by
  intro l0 hl hl2 hw
  by_cases hz : (l0.length : Int) > 1048576
  · exact ⟨0, by unfold laws_FnDenseCount.f; rw [if_pos hz]⟩
  obtain ⟨s, n, m, hs, hn1, hn2, hm1, hm2, hd⟩ := drawDenseCount_ev l0 hw
  refine Ev.rounds ?_
  unfold laws_FnDenseCount.f
  simp only [if_neg hz]
  refine Ev.bind hd ?_
  have hc := read_cases s (by omega)
  by_cases hx : NoSet s ∨ ¬ (0 ≤ n ∧ n ≤ 1000) ∨ ¬ (0 ≤ m ∧ m ≤ 1000)
  · obtain ⟨h1, h2⟩ := denseCount_no hc hx
    refine Ev.bind h1 (Ev.bind h2 ?_)
    simp only [if_true, BEq.rfl]
    refine Ev.step (f := fun k => laws_FnDenseCount.j1 k s n m 0 true (!false)) (fun k => by simp only [laws_FnDenseCount.j0, if_true]) ?_
    exact Ev.end fun k => by simp only [laws_FnDenseCount.j1, Bool.not_false, if_true]
  · simp only [not_or, Decidable.not_not] at hx
    obtain ⟨t, r, h⟩ := hc.resolve_left hx.1
    obtain ⟨a, rfl⟩ := Int.eq_ofNat_of_zero_le hx.2.1.1
    obtain ⟨b, rfl⟩ := Int.eq_ofNat_of_zero_le hx.2.2.1
    have hmn := cnt_mono (hasB t r) a b
    have hle := cnt_le (hasB t r) (a + b)
    refine Ev.bind (denseCount_ev h a b (by omega) (by omega)) (Ev.bind (denseCount_spec h a b (by omega) (by omega)) ?_)
    simp only [if_true, BEq.rfl]
    refine Ev.step (f := fun k => laws_FnDenseCount.j1 k s a b ((cnt (hasB t r) (a + b) - cnt (hasB t r) a : Nat) : Int) true (!true)) (fun k => by simp only [laws_FnDenseCount.j0, if_true]) ?_
    refine Ev.step (f := fun k => (impl_SetCount.f k s a).bind fun x => (impl_SetCount.f k s (wrap64 ((a : Int) + b))).bind fun y => if x.2 = true then (if y.2 = true then some ((wrap64 (x.1 + ((cnt (hasB t r) (a + b) - cnt (hasB t r) a : Nat) : Int))) == y.1) else some true) else some true) (fun k => by simp only [laws_FnDenseCount.j1, Bool.not_true, Bool.false_eq_true, if_false]) ?_
    rw [wr (x := (a : Int) + b) (by omega) (by omega)]
    refine Ev.bind (setCount_ev h a (by omega)) (Ev.bind (setCount_ev h ((a : Int) + b) (by omega)) (Ev.const fun k => ?_))
    rw [if_pos (show 0 ≤ (a : Int) ∧ (a : Int) ≤ 1000 from by omega), if_pos (rfl : true = true)]
    by_cases c : 0 ≤ (a : Int) + b ∧ (a : Int) + b ≤ 1000
    · rw [if_pos c, if_pos (rfl : true = true), Int.toNat_natCast, show ((a : Int) + b).toNat = a + b from by omega]
      simp only
      rw [wr (by omega) (by omega)]
      congr 1
      rw [beq_iff_eq]
      omega
    · rw [if_neg c]; rfl

end Go.Proofs.Ytbgapjgfocdjoaa.Pure
