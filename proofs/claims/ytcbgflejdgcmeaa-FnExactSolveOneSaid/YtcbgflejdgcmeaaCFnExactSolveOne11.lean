/- The program's SolveOne returns what the reference's returns, for all arguments; no condition beyond the statement's own. -/
import Derived.Test.YtcbgflejdgcmeaaCFnExactSolveOne1
import Derived.Test.YtcbgflejdgcmeaaCFnExactSolveOne6
import Derived.Test.YtcbgflejdgcmeaaCFnExactSolveOne7
import Derived.Test.YtcbgflejdgcmeaaCFnExactSolveOne8
import Derived.Test.YtcbgflejdgcmeaaCFnExactSolveOne9
import Derived.Test.YtcbgflejdgcmeaaCFnExactSolveOne10
namespace Go.Proofs.Ytcbgflejdgcmeaa.Q
open Go.RowKit Go.Proofs.YtcbgflejdgcmeaaW.PrintWords Go.Proofs.YtcbgflejdgcmeaaW.PrintLast Go.Proofs.YtcbgflejdgcmeaaW.PrintMore
attribute [local go_sem] max2_int min2_int max_two min_two max_three min_three max_four min_four   -- for this text's walks alone
set_option linter.unusedVariables false
set_option linter.unusedSimpArgs false

def impl_SolveOne.f (k : Nat) (a0 : ByteArray) (a1 : ByteArray) : Option (Bool) := (impl_two.f k a0 a1).bind fun bt635 => (if bt635.2.2.2.2 = true then ((impl_set_has.f bt635.1 bt635.2.1 0).bind fun t650 => (if t650 = true then ((impl_solved.f k bt635.1 bt635.2.1 bt635.2.2.1 bt635.2.2.2.1 1000).bind fun t651 => ((impl_all.f k t651).bind fun t654 => (some t654))) else (some true))) else (some false))
theorem impl_SolveOne.mono : ∀ a0 a1 k, LeO (impl_SolveOne.f k a0 a1) (impl_SolveOne.f (k + 1) a0 a1) := by
  intro a0 a1 k
  unfold impl_SolveOne.f
  repeat' first
      | (with_reducible exact impl_all.mono _ _)
      | (with_reducible exact impl_solved.mono _ _ _ _ _ _)
      | (with_reducible exact impl_two.mono _ _ _)
      | (with_reducible exact LeO.refl _)
      | (with_reducible exact LeO.none _)
      | (with_reducible refine LeO.ite ?_ ?_)
      | (with_reducible refine LeO.bind ?_ (fun _ => ?_))
      | exact impl_all.mono _ _
      | exact impl_solved.mono _ _ _ _ _ _
      | exact impl_two.mono _ _ _
      | exact LeO.none _
      | refine LeO.ite ?_ ?_
      | refine LeO.bind ?_ (fun _ => ?_)
set_option maxHeartbeats 8000000 in
set_option maxRecDepth 100000 in
theorem impl_SolveOne.calls (k : Nat) (a0 : ByteArray) (a1 : ByteArray) (r : Bool) (w : World) (h : impl_SolveOne.f k a0 a1 = some r) :
    Calls Try.prog 38 #[.string a0, .string a1] w fun e w' => e = .returned (.bool r) ∧ Below w.heap.size w w' := by
  have hu52 := Try.underlying52
  have HB := Aside0.mk (Below.refl w.heap.size w)
  have H : ((impl_two.f k a0 a1).bind fun bt635 => (if bt635.2.2.2.2 = true then ((impl_set_has.f bt635.1 bt635.2.1 0).bind fun t650 => (if t650 = true then ((impl_solved.f k bt635.1 bt635.2.1 bt635.2.2.1 bt635.2.2.2.1 1000).bind fun t651 => ((impl_all.f k t651).bind fun t654 => (some t654))) else (some true))) else (some false))) = some r := h
  clear h
  replace H := Option.bind_eq_some_iff.mp H
  obtain ⟨⟨t635, t638, t641, t644, t647⟩, A30, H⟩ := H
  replace H : (if t647 = true then ((impl_set_has.f t635 t638 0).bind fun t650 => (if t650 = true then ((impl_solved.f k t635 t638 t641 t644 1000).bind fun t651 => ((impl_all.f k t651).bind fun t654 => (some t654))) else (some true))) else (some false)) = some r := H
  have A3 := Aside0.mk A30
  clear A30
  by_cases c4 : t647 = true
  · subst c4
    have H1 : ((impl_set_has.f t635 t638 0).bind fun t650 => (if t650 = true then ((impl_solved.f k t635 t638 t641 t644 1000).bind fun t651 => ((impl_all.f k t651).bind fun t654 => (some t654))) else (some true))) = some r := by rw [if_pos rfl] at H; exact H
    clear H
    have H := H1
    clear H1
    replace H := Option.bind_eq_some_iff.mp H
    obtain ⟨t650, A50, H⟩ := H
    replace H : (if t650 = true then ((impl_solved.f k t635 t638 t641 t644 1000).bind fun t651 => ((impl_all.f k t651).bind fun t654 => (some t654))) else (some true)) = some r := H
    have A5 := Aside0.mk A50
    clear A50
    by_cases c6 : t650 = true
    · subst c6
      have H1 : ((impl_solved.f k t635 t638 t641 t644 1000).bind fun t651 => ((impl_all.f k t651).bind fun t654 => (some t654))) = some r := by rw [if_pos rfl] at H; exact H
      clear H
      have H := H1
      clear H1
      replace H := Option.bind_eq_some_iff.mp H
      obtain ⟨t651, A70, H⟩ := H
      replace H : ((impl_all.f k t651).bind fun t654 => (some t654)) = some r := H
      have A7 := Aside0.mk A70
      clear A70
      replace H := Option.bind_eq_some_iff.mp H
      obtain ⟨t654, A80, H⟩ := H
      replace H : (some t654) = some r := H
      have A8 := Aside0.mk A80
      clear A80
      obtain rfl := Option.some.inj H
      go_enter Try.func38, Try.ntmps38
      go_wp2_with (first | ((with_reducible refine gate_callee (f := 68) rfl ?_); refine goesL_ (some 11) rfl rfl Try.func68 (by kernel_rfl) rfl #[.string a0, .string a1] rfl (by (try simp only [List.map_toArray, List.map_cons, List.map_nil]); first | done | rfl | (simp only [List.length_drop, List.length_take]; rfl)) ?_; (with_reducible refine (impl_two.calls k a0 a1 t635 t638 t641 t644 true _ A3.out).mono ?_); rintro e w9 ⟨v636, v639, v642, v645, rfl, ho0, ho1, ho2, ho3, hb⟩; refine ⟨_, rfl, ?_⟩; have n0_ := Aside0.mk (Kd.R_lower ho0 (below_size (by repeat (first | (with_reducible first | exact HB.out | apply below_alloc | apply pw_below_drewN | apply below_drew1) | exact HB.out)))); have n1_ := Aside0.mk (Kd.R_lower ho1 (below_size (by repeat (first | (with_reducible first | exact HB.out | apply below_alloc | apply pw_below_drewN | apply below_drew1) | exact HB.out)))); have n2_ := Aside0.mk (Kd.R_lower ho2 (below_size (by repeat (first | (with_reducible first | exact HB.out | apply below_alloc | apply pw_below_drewN | apply below_drew1) | exact HB.out)))); have n3_ := Aside0.mk (Kd.R_lower ho3 (below_size (by repeat (first | (with_reducible first | exact HB.out | apply below_alloc | apply pw_below_drewN | apply below_drew1) | exact HB.out)))); have n4_ := Aside0.mk (below_step (by repeat (first | (with_reducible first | exact HB.out | apply below_alloc | apply pw_below_drewN | apply below_drew1) | exact HB.out)) hb); clear HB; have HO637 := n0_; have HO640 := n1_; have HO643 := n2_; have HO646 := n3_; have HB := n4_; clear n0_ n1_ n2_ n3_ n4_; (try clear hb); (try clear hb2); (try clear hk); (try clear hi); (try clear ho0); (try clear ho1); (try clear ho2); (try clear ho3)) | ((with_reducible refine gate_dst (N := 5) rfl ?_); refine box_event ?hg (N := 5) ?hd (cs := #[.slice none 0 0, .slice none 0 0]) (t := 52) ?hr ?_; (case hd => rfl); (case hg => rfl); (case hr => first | (go_simp; done) | (go_simp; rfl)); intro gb648 hg w10 hbox hb; have n0_ := Aside0.mk (Kd.R_below (by (with_reducible repeat (first | apply Kd.R_alloc | apply Kd.R_drewN | apply Kd.R_drew)); exact HO637.out) hb); have n1_ := Aside0.mk (Kd.R_below (by (with_reducible repeat (first | apply Kd.R_alloc | apply Kd.R_drewN | apply Kd.R_drew)); exact HO640.out) hb); have n2_ := Aside0.mk (Kd.R_below (by (with_reducible repeat (first | apply Kd.R_alloc | apply Kd.R_drewN | apply Kd.R_drew)); exact HO643.out) hb); have n3_ := Aside0.mk (Kd.R_below (by (with_reducible repeat (first | apply Kd.R_alloc | apply Kd.R_drewN | apply Kd.R_drew)); exact HO646.out) hb); have n4_ := Aside0.mk (below_step (by repeat (first | (with_reducible first | exact HB.out | apply below_alloc | apply pw_below_drewN | apply below_drew1) | exact HB.out)) hb); have n5_ := Aside0.mk (hbox); have n6_ := Aside0.mk ((by rw [hg]; exact (below_size (by repeat (first | (with_reducible first | exact HB.out | apply below_alloc | apply pw_below_drewN | apply below_drew1) | exact HB.out))) : w.heap.size ≤ gb648)); have n7_ := Aside0.mk ((by rw [hg]; exact (below_size (by repeat (first | (with_reducible first | exact HB.out | apply below_alloc | apply pw_below_drewN | apply below_drew1) | exact HB.out))) : w.heap.size ≤ gb648)); clear HO637; clear HO640; clear HO643; clear HO646; clear HB; have HO637 := n0_; have HO640 := n1_; have HO643 := n2_; have HO646 := n3_; have HB := n4_; have BK648 := n5_; have GW648 := n6_; have GE648 := n7_; clear n0_ n1_ n2_ n3_ n4_ n5_ n6_ n7_; clear hb hbox hg) | ((with_reducible refine gate_dst (N := 6) rfl ?_); refine box_event ?hg (N := 6) ?hd (cs := #[.slice none 0 0, .slice none 0 0]) (t := 52) ?hr ?_; (case hd => rfl); (case hg => rfl); (case hr => first | (go_simp; done) | (go_simp; rfl)); intro gb649 hg w11 hbox hb; have n0_ := Aside0.mk (Kd.R_below (by (with_reducible repeat (first | apply Kd.R_alloc | apply Kd.R_drewN | apply Kd.R_drew)); exact HO637.out) hb); have n1_ := Aside0.mk (Kd.R_below (by (with_reducible repeat (first | apply Kd.R_alloc | apply Kd.R_drewN | apply Kd.R_drew)); exact HO640.out) hb); have n2_ := Aside0.mk (Kd.R_below (by (with_reducible repeat (first | apply Kd.R_alloc | apply Kd.R_drewN | apply Kd.R_drew)); exact HO643.out) hb); have n3_ := Aside0.mk (Kd.R_below (by (with_reducible repeat (first | apply Kd.R_alloc | apply Kd.R_drewN | apply Kd.R_drew)); exact HO646.out) hb); have n4_ := Aside0.mk (blk_below (g := gb648) (o := .cells #[.slice none 0 0, .slice none 0 0] 52 (0, 0)) (by (with_reducible repeat (first | refine blk_drewN ?_ _ | refine blk_drew ?_ | refine blk_alloc ?_ _)); exact BK648.out) hb); have n5_ := Aside0.mk (below_step (by repeat (first | (with_reducible first | exact HB.out | apply below_alloc | apply pw_below_drewN | apply below_drew1 | refine below_set ?_ GE648.out) | exact HB.out)) hb); have n6_ := Aside0.mk (hbox); have n7_ := Aside0.mk ((by rw [hg]; exact (below_size (by repeat (first | (with_reducible first | exact HB.out | apply below_alloc | apply pw_below_drewN | apply below_drew1 | refine below_set ?_ GE648.out) | exact HB.out))) : w.heap.size ≤ gb649)); have n8_ := Aside0.mk ((by rw [hg]; exact (below_size (by repeat (first | (with_reducible first | exact HB.out | apply below_alloc | apply pw_below_drewN | apply below_drew1 | refine below_set ?_ GE648.out) | exact HB.out))) : w.heap.size ≤ gb649)); have n9_ := Aside0.mk ((by rw [hg]; exact Nat.ne_of_lt (blk_lt (g := gb648) (o := .cells #[.slice none 0 0, .slice none 0 0] 52 (0, 0)) (by (with_reducible repeat (first | refine blk_drewN ?_ _ | refine blk_drew ?_ | refine blk_alloc ?_ _)); exact BK648.out)) : gb648 ≠ gb649)); have n10_ := Aside0.mk ((by rw [hg]; exact Nat.ne_of_gt (blk_lt (g := gb648) (o := .cells #[.slice none 0 0, .slice none 0 0] 52 (0, 0)) (by (with_reducible repeat (first | refine blk_drewN ?_ _ | refine blk_drew ?_ | refine blk_alloc ?_ _)); exact BK648.out)) : gb649 ≠ gb648)); clear HO637; clear HO640; clear HO643; clear HO646; clear BK648; clear HB; have HO637 := n0_; have HO640 := n1_; have HO643 := n2_; have HO646 := n3_; have BK648 := n4_; have HB := n5_; have BK649 := n6_; have GW649 := n7_; have GE649 := n8_; have NB648_649 := n9_; have NB649_648 := n10_; clear n0_ n1_ n2_ n3_ n4_ n5_ n6_ n7_ n8_ n9_ n10_; clear hb hbox hg; obtain ⟨Ao12, co12, eo12⟩ := Kd.R_slice HO637.out; subst eo12; have hnb13 := NB648_649.out; have hnc13 := NB649_648.out; have hcz14_0 : w11.cell? ⟨gb648, 0, none⟩ = some (.slice none 0 0) := (blk_cell BK648.out 0).trans rfl; have hcz14_1 : w11.cell? ⟨gb648, 1, none⟩ = some (.slice none 0 0) := (blk_cell BK648.out 1).trans rfl; have hfz14_0 := blk_frozen BK648.out 0; have hfz14_1 := blk_frozen BK648.out 1; obtain ⟨Ao15, co15, eo15⟩ := Kd.R_slice HO640.out; subst eo15; obtain ⟨Ao16, co16, eo16⟩ := Kd.R_slice HO643.out; subst eo16; have hcz17_0 : w11.cell? ⟨gb649, 0, none⟩ = some (.slice none 0 0) := (blk_cell BK649.out 0).trans rfl; have hcz17_1 : w11.cell? ⟨gb649, 1, none⟩ = some (.slice none 0 0) := (blk_cell BK649.out 1).trans rfl; have hfz17_0 := blk_frozen BK649.out 0; have hfz17_1 := blk_frozen BK649.out 1; obtain ⟨Ao18, co18, eo18⟩ := Kd.R_slice HO646.out; subst eo18) | (go_at_call 76; (with_reducible refine (impl_set_has.calls _ _ t635 _ _ t638 0 true _ ?side1 ?side2 ?side3 ?side4 A5.out).mono ?_); (case side1 => refine (Kd.R_reads' (e := 4) (base := w.heap.size) (ok := fun k_ => (some k_ ≠ (.slice Ao15 t638.length co15 : Value).ownBlock ∧ (some k_ ≠ (.slice Ao16 t641.length co16 : Value).ownBlock ∧ some k_ ≠ (.slice Ao18 t644.length co18 : Value).ownBlock))) (n := t635.length) (c := co12) ?_).2.2; exact (by (with_reducible repeat (first | apply Kd.R_alloc | apply Kd.R_drewN | apply Kd.R_drew)); exact (Kd.R_mono (Kd.R_mono (Kd.R_far (p := ⟨gb649, 1, none⟩) (Kd.R_far (p := ⟨gb649, 0, none⟩) (Kd.R_far (p := ⟨gb648, 1, none⟩) (Kd.R_far (p := ⟨gb648, 0, none⟩) (Kd.R_types (Kd.R_types HO637.out BK648.out (by decide)) BK649.out (by decide)) (fun _ hk => hk.1.2) (.slice Ao12 t635.length co12)) (fun _ hk => hk.1.2) (.slice Ao15 t638.length co15)) (fun _ hk => hk.2) (.slice Ao16 t641.length co16)) (fun _ hk => hk.2) (.slice Ao18 t644.length co18)) (fun _ h_ => h_.1)) (fun _ h_ => h_.1)))); (case side2 => exact (Kd.R_reads' HO637.out).2.1); (case side3 => refine (Kd.R_reads' (e := 4) (base := w.heap.size) (ok := fun k_ => (some k_ ≠ (.slice Ao12 t635.length co12 : Value).ownBlock ∧ (some k_ ≠ (.slice Ao16 t641.length co16 : Value).ownBlock ∧ some k_ ≠ (.slice Ao18 t644.length co18 : Value).ownBlock))) (n := t638.length) (c := co15) ?_).2.2; exact (by (with_reducible repeat (first | apply Kd.R_alloc | apply Kd.R_drewN | apply Kd.R_drew)); exact (Kd.R_mono (Kd.R_mono (Kd.R_far (p := ⟨gb649, 1, none⟩) (Kd.R_far (p := ⟨gb649, 0, none⟩) (Kd.R_far (p := ⟨gb648, 1, none⟩) (Kd.R_far (p := ⟨gb648, 0, none⟩) (Kd.R_types (Kd.R_types HO640.out BK648.out (by decide)) BK649.out (by decide)) (fun _ hk => hk.1.2) (.slice Ao12 t635.length co12)) (fun _ hk => hk.1.2) (.slice Ao15 t638.length co15)) (fun _ hk => hk.2) (.slice Ao16 t641.length co16)) (fun _ hk => hk.2) (.slice Ao18 t644.length co18)) (fun _ h_ => h_.1)) (fun _ h_ => h_.1)))); (case side4 => exact (Kd.R_reads' HO640.out).2.1); rintro e w19 ⟨rfl, hb⟩; have n0_ := Aside0.mk (Kd.R_below (by (with_reducible repeat (first | apply Kd.R_alloc | apply Kd.R_drewN | apply Kd.R_drew)); exact (Kd.R_mono (Kd.R_mono (Kd.R_far (p := ⟨gb649, 1, none⟩) (Kd.R_far (p := ⟨gb649, 0, none⟩) (Kd.R_far (p := ⟨gb648, 1, none⟩) (Kd.R_far (p := ⟨gb648, 0, none⟩) (Kd.R_types (Kd.R_types HO637.out BK648.out (by decide)) BK649.out (by decide)) (fun _ hk => hk.1.2) (.slice Ao12 t635.length co12)) (fun _ hk => hk.1.2) (.slice Ao15 t638.length co15)) (fun _ hk => hk.2) (.slice Ao16 t641.length co16)) (fun _ hk => hk.2) (.slice Ao18 t644.length co18)) (fun _ h_ => h_.1)) (fun _ h_ => h_.1))) hb); have n1_ := Aside0.mk (Kd.R_below (by (with_reducible repeat (first | apply Kd.R_alloc | apply Kd.R_drewN | apply Kd.R_drew)); exact (Kd.R_mono (Kd.R_mono (Kd.R_far (p := ⟨gb649, 1, none⟩) (Kd.R_far (p := ⟨gb649, 0, none⟩) (Kd.R_far (p := ⟨gb648, 1, none⟩) (Kd.R_far (p := ⟨gb648, 0, none⟩) (Kd.R_types (Kd.R_types HO640.out BK648.out (by decide)) BK649.out (by decide)) (fun _ hk => hk.1.2) (.slice Ao12 t635.length co12)) (fun _ hk => hk.1.2) (.slice Ao15 t638.length co15)) (fun _ hk => hk.2) (.slice Ao16 t641.length co16)) (fun _ hk => hk.2) (.slice Ao18 t644.length co18)) (fun _ h_ => h_.1)) (fun _ h_ => h_.1))) hb); have n2_ := Aside0.mk (Kd.R_below (by (with_reducible repeat (first | apply Kd.R_alloc | apply Kd.R_drewN | apply Kd.R_drew)); exact (Kd.R_mono (Kd.R_mono (Kd.R_far (p := ⟨gb649, 1, none⟩) (Kd.R_far (p := ⟨gb649, 0, none⟩) (Kd.R_far (p := ⟨gb648, 1, none⟩) (Kd.R_far (p := ⟨gb648, 0, none⟩) (Kd.R_types (Kd.R_types HO643.out BK648.out (by decide)) BK649.out (by decide)) (fun _ hk => hk.1.2) (.slice Ao12 t635.length co12)) (fun _ hk => hk.1.2) (.slice Ao15 t638.length co15)) (fun _ hk => hk.2) (.slice Ao16 t641.length co16)) (fun _ hk => hk.2) (.slice Ao18 t644.length co18)) (fun _ h_ => h_.1)) (fun _ h_ => h_.1))) hb); have n3_ := Aside0.mk (Kd.R_below (by (with_reducible repeat (first | apply Kd.R_alloc | apply Kd.R_drewN | apply Kd.R_drew)); exact (Kd.R_mono (Kd.R_mono (Kd.R_far (p := ⟨gb649, 1, none⟩) (Kd.R_far (p := ⟨gb649, 0, none⟩) (Kd.R_far (p := ⟨gb648, 1, none⟩) (Kd.R_far (p := ⟨gb648, 0, none⟩) (Kd.R_types (Kd.R_types HO646.out BK648.out (by decide)) BK649.out (by decide)) (fun _ hk => hk.1.2) (.slice Ao12 t635.length co12)) (fun _ hk => hk.1.2) (.slice Ao15 t638.length co15)) (fun _ hk => hk.2) (.slice Ao16 t641.length co16)) (fun _ hk => hk.2) (.slice Ao18 t644.length co18)) (fun _ h_ => h_.1)) (fun _ h_ => h_.1))) hb); have n4_ := Aside0.mk (blk_below (g := gb648) (o := .cells #[.slice Ao12 t635.length co12, .slice Ao15 t638.length co15] 52 (0, 0)) (by (with_reducible repeat (first | refine blk_drewN ?_ _ | refine blk_drew ?_ | refine blk_alloc ?_ _)); refine blk_far ?_ NB648_649.out _; (with_reducible repeat (first | refine blk_drewN ?_ _ | refine blk_drew ?_ | refine blk_alloc ?_ _)); refine blk_far ?_ NB648_649.out _; (with_reducible repeat (first | refine blk_drewN ?_ _ | refine blk_drew ?_ | refine blk_alloc ?_ _)); refine blk_put (cs := #[.slice Ao12 t635.length co12, .slice none 0 0]) ?_ 1 _ rfl; (with_reducible repeat (first | refine blk_drewN ?_ _ | refine blk_drew ?_ | refine blk_alloc ?_ _)); refine blk_put (cs := #[.slice none 0 0, .slice none 0 0]) ?_ 0 _ rfl; (with_reducible repeat (first | refine blk_drewN ?_ _ | refine blk_drew ?_ | refine blk_alloc ?_ _)); exact BK648.out) hb); have n5_ := Aside0.mk (blk_below (g := gb649) (o := .cells #[.slice Ao16 t641.length co16, .slice Ao18 t644.length co18] 52 (0, 0)) (by (with_reducible repeat (first | refine blk_drewN ?_ _ | refine blk_drew ?_ | refine blk_alloc ?_ _)); refine blk_put (cs := #[.slice Ao16 t641.length co16, .slice none 0 0]) ?_ 1 _ rfl; (with_reducible repeat (first | refine blk_drewN ?_ _ | refine blk_drew ?_ | refine blk_alloc ?_ _)); refine blk_put (cs := #[.slice none 0 0, .slice none 0 0]) ?_ 0 _ rfl; (with_reducible repeat (first | refine blk_drewN ?_ _ | refine blk_drew ?_ | refine blk_alloc ?_ _)); refine blk_far ?_ NB649_648.out _; (with_reducible repeat (first | refine blk_drewN ?_ _ | refine blk_drew ?_ | refine blk_alloc ?_ _)); refine blk_far ?_ NB649_648.out _; (with_reducible repeat (first | refine blk_drewN ?_ _ | refine blk_drew ?_ | refine blk_alloc ?_ _)); exact BK649.out) hb); have n6_ := Aside0.mk (below_step (by repeat (first | (with_reducible first | exact HB.out | apply below_alloc | apply pw_below_drewN | apply below_drew1 | refine below_set ?_ GE648.out | refine below_set ?_ GE649.out) | exact HB.out)) hb); clear HO637; clear HO640; clear HO643; clear HO646; clear BK648; clear BK649; clear HB; have HO637 := n0_; have HO640 := n1_; have HO643 := n2_; have HO646 := n3_; have BK648 := n4_; have BK649 := n5_; have HB := n6_; clear n0_ n1_ n2_ n3_ n4_ n5_ n6_; (try clear hb); (try clear hb2); (try clear hk); (try clear hi); have hcz20_0 : w19.cell? ⟨gb648, 0, none⟩ = some (.slice Ao12 t635.length co12) := (blk_cell BK648.out 0).trans rfl; have hcz20_1 : w19.cell? ⟨gb648, 1, none⟩ = some (.slice Ao15 t638.length co15) := (blk_cell BK648.out 1).trans rfl; have hfz20_0 := blk_frozen BK648.out 0; have hfz20_1 := blk_frozen BK648.out 1; have hcz21_0 : w19.cell? ⟨gb649, 0, none⟩ = some (.slice Ao16 t641.length co16) := (blk_cell BK649.out 0).trans rfl; have hcz21_1 : w19.cell? ⟨gb649, 1, none⟩ = some (.slice Ao18 t644.length co18) := (blk_cell BK649.out 1).trans rfl; have hfz21_0 := blk_frozen BK649.out 0; have hfz21_1 := blk_frozen BK649.out 1) | (go_at_call 70; (with_reducible refine (impl_solved.calls k _ _ t635 _ _ t638 _ _ t641 _ _ t644 1000 t651 _ ?side1 ?side2 ?side3 ?side4 ?side5 ?side6 ?side7 ?side8 A7.out).mono ?_); (case side1 => repeat (first | exact (Kd.R_reads' HO637.out).2.2 | (with_reducible refine Kd.C_alloc ?_ _) | (with_reducible refine Kd.C_drewN ?_ _) | (with_reducible refine Kd.C_drew ?_))); (case side2 => exact (Kd.R_reads' HO637.out).2.1); (case side3 => repeat (first | exact (Kd.R_reads' HO640.out).2.2 | (with_reducible refine Kd.C_alloc ?_ _) | (with_reducible refine Kd.C_drewN ?_ _) | (with_reducible refine Kd.C_drew ?_))); (case side4 => exact (Kd.R_reads' HO640.out).2.1); (case side5 => repeat (first | exact (Kd.R_reads' HO643.out).2.2 | (with_reducible refine Kd.C_alloc ?_ _) | (with_reducible refine Kd.C_drewN ?_ _) | (with_reducible refine Kd.C_drew ?_))); (case side6 => exact (Kd.R_reads' HO643.out).2.1); (case side7 => repeat (first | exact (Kd.R_reads' HO646.out).2.2 | (with_reducible refine Kd.C_alloc ?_ _) | (with_reducible refine Kd.C_drewN ?_ _) | (with_reducible refine Kd.C_drew ?_))); (case side8 => exact (Kd.R_reads' HO646.out).2.1); rintro e w22 ⟨v652, rfl, ho0, hb⟩; have n0_ := Aside0.mk (Kd.R_elder' (by (with_reducible repeat (first | apply Kd.R_alloc | apply Kd.R_drewN | apply Kd.R_drew)); exact HO637.out) (Kd.R_base ho0) hb); have n1_ := Aside0.mk (Kd.R_elder' (by (with_reducible repeat (first | apply Kd.R_alloc | apply Kd.R_drewN | apply Kd.R_drew)); exact HO640.out) (Kd.R_base ho0) hb); have n2_ := Aside0.mk (Kd.R_elder' (by (with_reducible repeat (first | apply Kd.R_alloc | apply Kd.R_drewN | apply Kd.R_drew)); exact HO643.out) (Kd.R_base ho0) hb); have n3_ := Aside0.mk (Kd.R_elder' (by (with_reducible repeat (first | apply Kd.R_alloc | apply Kd.R_drewN | apply Kd.R_drew)); exact HO646.out) (Kd.R_base ho0) hb); have n4_ := Aside0.mk (Kd.R_lower (Kd.R_new' (Kd.R_new' (Kd.R_new' (Kd.R_new' ho0 (Kd.R_lt (by (with_reducible repeat (first | apply Kd.R_alloc | apply Kd.R_drewN | apply Kd.R_drew)); exact HO637.out))) (Kd.R_lt (by (with_reducible repeat (first | apply Kd.R_alloc | apply Kd.R_drewN | apply Kd.R_drew)); exact HO640.out))) (Kd.R_lt (by (with_reducible repeat (first | apply Kd.R_alloc | apply Kd.R_drewN | apply Kd.R_drew)); exact HO643.out))) (Kd.R_lt (by (with_reducible repeat (first | apply Kd.R_alloc | apply Kd.R_drewN | apply Kd.R_drew)); exact HO646.out))) (below_size (by repeat (first | (with_reducible first | exact HB.out | apply below_alloc | apply pw_below_drewN | apply below_drew1 | refine below_set ?_ GE648.out | refine below_set ?_ GE649.out) | exact HB.out)))); have n5_ := Aside0.mk (blk_below (g := gb648) (o := .cells #[.slice Ao12 t635.length co12, .slice Ao15 t638.length co15] 52 (0, 0)) (by (with_reducible repeat (first | refine blk_drewN ?_ _ | refine blk_drew ?_ | refine blk_alloc ?_ _)); exact BK648.out) hb); have n6_ := Aside0.mk (blk_below (g := gb649) (o := .cells #[.slice Ao16 t641.length co16, .slice Ao18 t644.length co18] 52 (0, 0)) (by (with_reducible repeat (first | refine blk_drewN ?_ _ | refine blk_drew ?_ | refine blk_alloc ?_ _)); exact BK649.out) hb); have n7_ := Aside0.mk (below_step (by repeat (first | (with_reducible first | exact HB.out | apply below_alloc | apply pw_below_drewN | apply below_drew1 | refine below_set ?_ GE648.out | refine below_set ?_ GE649.out) | exact HB.out)) hb); clear HO637; clear HO640; clear HO643; clear HO646; clear BK648; clear BK649; clear HB; have HO637 := n0_; have HO640 := n1_; have HO643 := n2_; have HO646 := n3_; have HO653 := n4_; have BK648 := n5_; have BK649 := n6_; have HB := n7_; clear n0_ n1_ n2_ n3_ n4_ n5_ n6_ n7_; (try clear hb); (try clear hb2); (try clear hk); (try clear hi); (try clear ho0); obtain ⟨Ao23, co23, eo23⟩ := Kd.R_slice HO653.out; subst eo23) | (go_at_call 79; (with_reducible refine (impl_all.calls k _ _ t651 t654 _ ?side1 ?side2 A8.out).mono ?_); (case side1 => repeat (first | exact (Kd.R_reads' HO653.out).2.2 | (with_reducible refine Kd.C_alloc ?_ _) | (with_reducible refine Kd.C_drewN ?_ _) | (with_reducible refine Kd.C_drew ?_))); (case side2 => exact (Kd.R_reads' HO653.out).2.1); rintro e w' ⟨rfl, ⟨nd, rfl⟩⟩))
      go_ret
      exact ⟨by first | rfl | (simp [errW_none, errW_some] <;> rfl) | (simp [errW_none, errW_some]; exact ⟨rfl, rfl⟩) | (simp [errW_none, errW_some]; exact ⟨rfl, rfl, rfl⟩) | (simp [*, errW_none, errW_some] <;> rfl), by repeat (first | (with_reducible first | exact HB.out | apply below_alloc | apply pw_below_drewN | apply below_drew1 | refine below_set ?_ GE648.out | refine below_set ?_ GE649.out) | exact HB.out)⟩
    · replace c6 := Bool.eq_false_iff.mpr c6
      subst c6
      have H1 : (some true) = some r := by rw [if_neg (show ¬ (false = true) by decide)] at H; exact H
      clear H
      have H := H1
      clear H1
      obtain rfl := Option.some.inj H
      go_enter Try.func38, Try.ntmps38
      go_wp2_with (first | ((with_reducible refine gate_callee (f := 68) rfl ?_); refine goesL_ (some 11) rfl rfl Try.func68 (by kernel_rfl) rfl #[.string a0, .string a1] rfl (by (try simp only [List.map_toArray, List.map_cons, List.map_nil]); first | done | rfl | (simp only [List.length_drop, List.length_take]; rfl)) ?_; (with_reducible refine (impl_two.calls k a0 a1 t635 t638 t641 t644 true _ A3.out).mono ?_); rintro e w24 ⟨v636, v639, v642, v645, rfl, ho0, ho1, ho2, ho3, hb⟩; refine ⟨_, rfl, ?_⟩; have n0_ := Aside0.mk (Kd.R_lower ho0 (below_size (by repeat (first | (with_reducible first | exact HB.out | apply below_alloc | apply pw_below_drewN | apply below_drew1) | exact HB.out)))); have n1_ := Aside0.mk (Kd.R_lower ho1 (below_size (by repeat (first | (with_reducible first | exact HB.out | apply below_alloc | apply pw_below_drewN | apply below_drew1) | exact HB.out)))); have n2_ := Aside0.mk (Kd.R_lower ho2 (below_size (by repeat (first | (with_reducible first | exact HB.out | apply below_alloc | apply pw_below_drewN | apply below_drew1) | exact HB.out)))); have n3_ := Aside0.mk (Kd.R_lower ho3 (below_size (by repeat (first | (with_reducible first | exact HB.out | apply below_alloc | apply pw_below_drewN | apply below_drew1) | exact HB.out)))); have n4_ := Aside0.mk (below_step (by repeat (first | (with_reducible first | exact HB.out | apply below_alloc | apply pw_below_drewN | apply below_drew1) | exact HB.out)) hb); clear HB; have HO637 := n0_; have HO640 := n1_; have HO643 := n2_; have HO646 := n3_; have HB := n4_; clear n0_ n1_ n2_ n3_ n4_; (try clear hb); (try clear hb2); (try clear hk); (try clear hi); (try clear ho0); (try clear ho1); (try clear ho2); (try clear ho3)) | ((with_reducible refine gate_dst (N := 5) rfl ?_); refine box_event ?hg (N := 5) ?hd (cs := #[.slice none 0 0, .slice none 0 0]) (t := 52) ?hr ?_; (case hd => rfl); (case hg => rfl); (case hr => first | (go_simp; done) | (go_simp; rfl)); intro gb648 hg w25 hbox hb; have n0_ := Aside0.mk (Kd.R_below (by (with_reducible repeat (first | apply Kd.R_alloc | apply Kd.R_drewN | apply Kd.R_drew)); exact HO637.out) hb); have n1_ := Aside0.mk (Kd.R_below (by (with_reducible repeat (first | apply Kd.R_alloc | apply Kd.R_drewN | apply Kd.R_drew)); exact HO640.out) hb); have n2_ := Aside0.mk (Kd.R_below (by (with_reducible repeat (first | apply Kd.R_alloc | apply Kd.R_drewN | apply Kd.R_drew)); exact HO643.out) hb); have n3_ := Aside0.mk (Kd.R_below (by (with_reducible repeat (first | apply Kd.R_alloc | apply Kd.R_drewN | apply Kd.R_drew)); exact HO646.out) hb); have n4_ := Aside0.mk (below_step (by repeat (first | (with_reducible first | exact HB.out | apply below_alloc | apply pw_below_drewN | apply below_drew1) | exact HB.out)) hb); have n5_ := Aside0.mk (hbox); have n6_ := Aside0.mk ((by rw [hg]; exact (below_size (by repeat (first | (with_reducible first | exact HB.out | apply below_alloc | apply pw_below_drewN | apply below_drew1) | exact HB.out))) : w.heap.size ≤ gb648)); have n7_ := Aside0.mk ((by rw [hg]; exact (below_size (by repeat (first | (with_reducible first | exact HB.out | apply below_alloc | apply pw_below_drewN | apply below_drew1) | exact HB.out))) : w.heap.size ≤ gb648)); clear HO637; clear HO640; clear HO643; clear HO646; clear HB; have HO637 := n0_; have HO640 := n1_; have HO643 := n2_; have HO646 := n3_; have HB := n4_; have BK648 := n5_; have GW648 := n6_; have GE648 := n7_; clear n0_ n1_ n2_ n3_ n4_ n5_ n6_ n7_; clear hb hbox hg) | ((with_reducible refine gate_dst (N := 6) rfl ?_); refine box_event ?hg (N := 6) ?hd (cs := #[.slice none 0 0, .slice none 0 0]) (t := 52) ?hr ?_; (case hd => rfl); (case hg => rfl); (case hr => first | (go_simp; done) | (go_simp; rfl)); intro gb649 hg w26 hbox hb; have n0_ := Aside0.mk (Kd.R_below (by (with_reducible repeat (first | apply Kd.R_alloc | apply Kd.R_drewN | apply Kd.R_drew)); exact HO637.out) hb); have n1_ := Aside0.mk (Kd.R_below (by (with_reducible repeat (first | apply Kd.R_alloc | apply Kd.R_drewN | apply Kd.R_drew)); exact HO640.out) hb); have n2_ := Aside0.mk (Kd.R_below (by (with_reducible repeat (first | apply Kd.R_alloc | apply Kd.R_drewN | apply Kd.R_drew)); exact HO643.out) hb); have n3_ := Aside0.mk (Kd.R_below (by (with_reducible repeat (first | apply Kd.R_alloc | apply Kd.R_drewN | apply Kd.R_drew)); exact HO646.out) hb); have n4_ := Aside0.mk (blk_below (g := gb648) (o := .cells #[.slice none 0 0, .slice none 0 0] 52 (0, 0)) (by (with_reducible repeat (first | refine blk_drewN ?_ _ | refine blk_drew ?_ | refine blk_alloc ?_ _)); exact BK648.out) hb); have n5_ := Aside0.mk (below_step (by repeat (first | (with_reducible first | exact HB.out | apply below_alloc | apply pw_below_drewN | apply below_drew1 | refine below_set ?_ GE648.out) | exact HB.out)) hb); have n6_ := Aside0.mk (hbox); have n7_ := Aside0.mk ((by rw [hg]; exact (below_size (by repeat (first | (with_reducible first | exact HB.out | apply below_alloc | apply pw_below_drewN | apply below_drew1 | refine below_set ?_ GE648.out) | exact HB.out))) : w.heap.size ≤ gb649)); have n8_ := Aside0.mk ((by rw [hg]; exact (below_size (by repeat (first | (with_reducible first | exact HB.out | apply below_alloc | apply pw_below_drewN | apply below_drew1 | refine below_set ?_ GE648.out) | exact HB.out))) : w.heap.size ≤ gb649)); have n9_ := Aside0.mk ((by rw [hg]; exact Nat.ne_of_lt (blk_lt (g := gb648) (o := .cells #[.slice none 0 0, .slice none 0 0] 52 (0, 0)) (by (with_reducible repeat (first | refine blk_drewN ?_ _ | refine blk_drew ?_ | refine blk_alloc ?_ _)); exact BK648.out)) : gb648 ≠ gb649)); have n10_ := Aside0.mk ((by rw [hg]; exact Nat.ne_of_gt (blk_lt (g := gb648) (o := .cells #[.slice none 0 0, .slice none 0 0] 52 (0, 0)) (by (with_reducible repeat (first | refine blk_drewN ?_ _ | refine blk_drew ?_ | refine blk_alloc ?_ _)); exact BK648.out)) : gb649 ≠ gb648)); clear HO637; clear HO640; clear HO643; clear HO646; clear BK648; clear HB; have HO637 := n0_; have HO640 := n1_; have HO643 := n2_; have HO646 := n3_; have BK648 := n4_; have HB := n5_; have BK649 := n6_; have GW649 := n7_; have GE649 := n8_; have NB648_649 := n9_; have NB649_648 := n10_; clear n0_ n1_ n2_ n3_ n4_ n5_ n6_ n7_ n8_ n9_ n10_; clear hb hbox hg; obtain ⟨Ao27, co27, eo27⟩ := Kd.R_slice HO637.out; subst eo27; have hnb28 := NB648_649.out; have hnc28 := NB649_648.out; have hcz29_0 : w26.cell? ⟨gb648, 0, none⟩ = some (.slice none 0 0) := (blk_cell BK648.out 0).trans rfl; have hcz29_1 : w26.cell? ⟨gb648, 1, none⟩ = some (.slice none 0 0) := (blk_cell BK648.out 1).trans rfl; have hfz29_0 := blk_frozen BK648.out 0; have hfz29_1 := blk_frozen BK648.out 1; obtain ⟨Ao30, co30, eo30⟩ := Kd.R_slice HO640.out; subst eo30; obtain ⟨Ao31, co31, eo31⟩ := Kd.R_slice HO643.out; subst eo31; have hcz32_0 : w26.cell? ⟨gb649, 0, none⟩ = some (.slice none 0 0) := (blk_cell BK649.out 0).trans rfl; have hcz32_1 : w26.cell? ⟨gb649, 1, none⟩ = some (.slice none 0 0) := (blk_cell BK649.out 1).trans rfl; have hfz32_0 := blk_frozen BK649.out 0; have hfz32_1 := blk_frozen BK649.out 1; obtain ⟨Ao33, co33, eo33⟩ := Kd.R_slice HO646.out; subst eo33) | (go_at_call 76; (with_reducible refine (impl_set_has.calls _ _ t635 _ _ t638 0 false _ ?side1 ?side2 ?side3 ?side4 A5.out).mono ?_); (case side1 => refine (Kd.R_reads' (e := 4) (base := w.heap.size) (ok := fun k_ => (some k_ ≠ (.slice Ao30 t638.length co30 : Value).ownBlock ∧ (some k_ ≠ (.slice Ao31 t641.length co31 : Value).ownBlock ∧ some k_ ≠ (.slice Ao33 t644.length co33 : Value).ownBlock))) (n := t635.length) (c := co27) ?_).2.2; exact (by (with_reducible repeat (first | apply Kd.R_alloc | apply Kd.R_drewN | apply Kd.R_drew)); exact (Kd.R_mono (Kd.R_mono (Kd.R_far (p := ⟨gb649, 1, none⟩) (Kd.R_far (p := ⟨gb649, 0, none⟩) (Kd.R_far (p := ⟨gb648, 1, none⟩) (Kd.R_far (p := ⟨gb648, 0, none⟩) (Kd.R_types (Kd.R_types HO637.out BK648.out (by decide)) BK649.out (by decide)) (fun _ hk => hk.1.2) (.slice Ao27 t635.length co27)) (fun _ hk => hk.1.2) (.slice Ao30 t638.length co30)) (fun _ hk => hk.2) (.slice Ao31 t641.length co31)) (fun _ hk => hk.2) (.slice Ao33 t644.length co33)) (fun _ h_ => h_.1)) (fun _ h_ => h_.1)))); (case side2 => exact (Kd.R_reads' HO637.out).2.1); (case side3 => refine (Kd.R_reads' (e := 4) (base := w.heap.size) (ok := fun k_ => (some k_ ≠ (.slice Ao27 t635.length co27 : Value).ownBlock ∧ (some k_ ≠ (.slice Ao31 t641.length co31 : Value).ownBlock ∧ some k_ ≠ (.slice Ao33 t644.length co33 : Value).ownBlock))) (n := t638.length) (c := co30) ?_).2.2; exact (by (with_reducible repeat (first | apply Kd.R_alloc | apply Kd.R_drewN | apply Kd.R_drew)); exact (Kd.R_mono (Kd.R_mono (Kd.R_far (p := ⟨gb649, 1, none⟩) (Kd.R_far (p := ⟨gb649, 0, none⟩) (Kd.R_far (p := ⟨gb648, 1, none⟩) (Kd.R_far (p := ⟨gb648, 0, none⟩) (Kd.R_types (Kd.R_types HO640.out BK648.out (by decide)) BK649.out (by decide)) (fun _ hk => hk.1.2) (.slice Ao27 t635.length co27)) (fun _ hk => hk.1.2) (.slice Ao30 t638.length co30)) (fun _ hk => hk.2) (.slice Ao31 t641.length co31)) (fun _ hk => hk.2) (.slice Ao33 t644.length co33)) (fun _ h_ => h_.1)) (fun _ h_ => h_.1)))); (case side4 => exact (Kd.R_reads' HO640.out).2.1); rintro e w34 ⟨rfl, hb⟩; have n0_ := Aside0.mk (Kd.R_below (by (with_reducible repeat (first | apply Kd.R_alloc | apply Kd.R_drewN | apply Kd.R_drew)); exact (Kd.R_mono (Kd.R_mono (Kd.R_far (p := ⟨gb649, 1, none⟩) (Kd.R_far (p := ⟨gb649, 0, none⟩) (Kd.R_far (p := ⟨gb648, 1, none⟩) (Kd.R_far (p := ⟨gb648, 0, none⟩) (Kd.R_types (Kd.R_types HO637.out BK648.out (by decide)) BK649.out (by decide)) (fun _ hk => hk.1.2) (.slice Ao27 t635.length co27)) (fun _ hk => hk.1.2) (.slice Ao30 t638.length co30)) (fun _ hk => hk.2) (.slice Ao31 t641.length co31)) (fun _ hk => hk.2) (.slice Ao33 t644.length co33)) (fun _ h_ => h_.1)) (fun _ h_ => h_.1))) hb); have n1_ := Aside0.mk (Kd.R_below (by (with_reducible repeat (first | apply Kd.R_alloc | apply Kd.R_drewN | apply Kd.R_drew)); exact (Kd.R_mono (Kd.R_mono (Kd.R_far (p := ⟨gb649, 1, none⟩) (Kd.R_far (p := ⟨gb649, 0, none⟩) (Kd.R_far (p := ⟨gb648, 1, none⟩) (Kd.R_far (p := ⟨gb648, 0, none⟩) (Kd.R_types (Kd.R_types HO640.out BK648.out (by decide)) BK649.out (by decide)) (fun _ hk => hk.1.2) (.slice Ao27 t635.length co27)) (fun _ hk => hk.1.2) (.slice Ao30 t638.length co30)) (fun _ hk => hk.2) (.slice Ao31 t641.length co31)) (fun _ hk => hk.2) (.slice Ao33 t644.length co33)) (fun _ h_ => h_.1)) (fun _ h_ => h_.1))) hb); have n2_ := Aside0.mk (Kd.R_below (by (with_reducible repeat (first | apply Kd.R_alloc | apply Kd.R_drewN | apply Kd.R_drew)); exact (Kd.R_mono (Kd.R_mono (Kd.R_far (p := ⟨gb649, 1, none⟩) (Kd.R_far (p := ⟨gb649, 0, none⟩) (Kd.R_far (p := ⟨gb648, 1, none⟩) (Kd.R_far (p := ⟨gb648, 0, none⟩) (Kd.R_types (Kd.R_types HO643.out BK648.out (by decide)) BK649.out (by decide)) (fun _ hk => hk.1.2) (.slice Ao27 t635.length co27)) (fun _ hk => hk.1.2) (.slice Ao30 t638.length co30)) (fun _ hk => hk.2) (.slice Ao31 t641.length co31)) (fun _ hk => hk.2) (.slice Ao33 t644.length co33)) (fun _ h_ => h_.1)) (fun _ h_ => h_.1))) hb); have n3_ := Aside0.mk (Kd.R_below (by (with_reducible repeat (first | apply Kd.R_alloc | apply Kd.R_drewN | apply Kd.R_drew)); exact (Kd.R_mono (Kd.R_mono (Kd.R_far (p := ⟨gb649, 1, none⟩) (Kd.R_far (p := ⟨gb649, 0, none⟩) (Kd.R_far (p := ⟨gb648, 1, none⟩) (Kd.R_far (p := ⟨gb648, 0, none⟩) (Kd.R_types (Kd.R_types HO646.out BK648.out (by decide)) BK649.out (by decide)) (fun _ hk => hk.1.2) (.slice Ao27 t635.length co27)) (fun _ hk => hk.1.2) (.slice Ao30 t638.length co30)) (fun _ hk => hk.2) (.slice Ao31 t641.length co31)) (fun _ hk => hk.2) (.slice Ao33 t644.length co33)) (fun _ h_ => h_.1)) (fun _ h_ => h_.1))) hb); have n4_ := Aside0.mk (blk_below (g := gb648) (o := .cells #[.slice Ao27 t635.length co27, .slice Ao30 t638.length co30] 52 (0, 0)) (by (with_reducible repeat (first | refine blk_drewN ?_ _ | refine blk_drew ?_ | refine blk_alloc ?_ _)); refine blk_far ?_ NB648_649.out _; (with_reducible repeat (first | refine blk_drewN ?_ _ | refine blk_drew ?_ | refine blk_alloc ?_ _)); refine blk_far ?_ NB648_649.out _; (with_reducible repeat (first | refine blk_drewN ?_ _ | refine blk_drew ?_ | refine blk_alloc ?_ _)); refine blk_put (cs := #[.slice Ao27 t635.length co27, .slice none 0 0]) ?_ 1 _ rfl; (with_reducible repeat (first | refine blk_drewN ?_ _ | refine blk_drew ?_ | refine blk_alloc ?_ _)); refine blk_put (cs := #[.slice none 0 0, .slice none 0 0]) ?_ 0 _ rfl; (with_reducible repeat (first | refine blk_drewN ?_ _ | refine blk_drew ?_ | refine blk_alloc ?_ _)); exact BK648.out) hb); have n5_ := Aside0.mk (blk_below (g := gb649) (o := .cells #[.slice Ao31 t641.length co31, .slice Ao33 t644.length co33] 52 (0, 0)) (by (with_reducible repeat (first | refine blk_drewN ?_ _ | refine blk_drew ?_ | refine blk_alloc ?_ _)); refine blk_put (cs := #[.slice Ao31 t641.length co31, .slice none 0 0]) ?_ 1 _ rfl; (with_reducible repeat (first | refine blk_drewN ?_ _ | refine blk_drew ?_ | refine blk_alloc ?_ _)); refine blk_put (cs := #[.slice none 0 0, .slice none 0 0]) ?_ 0 _ rfl; (with_reducible repeat (first | refine blk_drewN ?_ _ | refine blk_drew ?_ | refine blk_alloc ?_ _)); refine blk_far ?_ NB649_648.out _; (with_reducible repeat (first | refine blk_drewN ?_ _ | refine blk_drew ?_ | refine blk_alloc ?_ _)); refine blk_far ?_ NB649_648.out _; (with_reducible repeat (first | refine blk_drewN ?_ _ | refine blk_drew ?_ | refine blk_alloc ?_ _)); exact BK649.out) hb); have n6_ := Aside0.mk (below_step (by repeat (first | (with_reducible first | exact HB.out | apply below_alloc | apply pw_below_drewN | apply below_drew1 | refine below_set ?_ GE648.out | refine below_set ?_ GE649.out) | exact HB.out)) hb); clear HO637; clear HO640; clear HO643; clear HO646; clear BK648; clear BK649; clear HB; have HO637 := n0_; have HO640 := n1_; have HO643 := n2_; have HO646 := n3_; have BK648 := n4_; have BK649 := n5_; have HB := n6_; clear n0_ n1_ n2_ n3_ n4_ n5_ n6_; (try clear hb); (try clear hb2); (try clear hk); (try clear hi)))
      go_ret
      exact ⟨by first | rfl | (simp [errW_none, errW_some] <;> rfl) | (simp [errW_none, errW_some]; exact ⟨rfl, rfl⟩) | (simp [errW_none, errW_some]; exact ⟨rfl, rfl, rfl⟩) | (simp [*, errW_none, errW_some] <;> rfl), by repeat (first | (with_reducible first | exact HB.out | apply below_alloc | apply pw_below_drewN | apply below_drew1 | refine below_set ?_ GE648.out | refine below_set ?_ GE649.out) | exact HB.out)⟩
  · replace c4 := Bool.eq_false_iff.mpr c4
    subst c4
    have H1 : (some false) = some r := by rw [if_neg (show ¬ (false = true) by decide)] at H; exact H
    clear H
    have H := H1
    clear H1
    obtain rfl := Option.some.inj H
    go_enter Try.func38, Try.ntmps38
    go_wp2_with (first | ((with_reducible refine gate_callee (f := 68) rfl ?_); refine goesL_ (some 11) rfl rfl Try.func68 (by kernel_rfl) rfl #[.string a0, .string a1] rfl (by (try simp only [List.map_toArray, List.map_cons, List.map_nil]); first | done | rfl | (simp only [List.length_drop, List.length_take]; rfl)) ?_; (with_reducible refine (impl_two.calls k a0 a1 t635 t638 t641 t644 false _ A3.out).mono ?_); rintro e w35 ⟨v636, v639, v642, v645, rfl, ho0, ho1, ho2, ho3, hb⟩; refine ⟨_, rfl, ?_⟩; have n0_ := Aside0.mk (Kd.R_lower ho0 (below_size (by repeat (first | (with_reducible first | exact HB.out | apply below_alloc | apply pw_below_drewN | apply below_drew1) | exact HB.out)))); have n1_ := Aside0.mk (Kd.R_lower ho1 (below_size (by repeat (first | (with_reducible first | exact HB.out | apply below_alloc | apply pw_below_drewN | apply below_drew1) | exact HB.out)))); have n2_ := Aside0.mk (Kd.R_lower ho2 (below_size (by repeat (first | (with_reducible first | exact HB.out | apply below_alloc | apply pw_below_drewN | apply below_drew1) | exact HB.out)))); have n3_ := Aside0.mk (Kd.R_lower ho3 (below_size (by repeat (first | (with_reducible first | exact HB.out | apply below_alloc | apply pw_below_drewN | apply below_drew1) | exact HB.out)))); have n4_ := Aside0.mk (below_step (by repeat (first | (with_reducible first | exact HB.out | apply below_alloc | apply pw_below_drewN | apply below_drew1) | exact HB.out)) hb); clear HB; have HO637 := n0_; have HO640 := n1_; have HO643 := n2_; have HO646 := n3_; have HB := n4_; clear n0_ n1_ n2_ n3_ n4_; (try clear hb); (try clear hb2); (try clear hk); (try clear hi); (try clear ho0); (try clear ho1); (try clear ho2); (try clear ho3)) | ((with_reducible refine gate_dst (N := 5) rfl ?_); refine box_event ?hg (N := 5) ?hd (cs := #[.slice none 0 0, .slice none 0 0]) (t := 52) ?hr ?_; (case hd => rfl); (case hg => rfl); (case hr => first | (go_simp; done) | (go_simp; rfl)); intro gb648 hg w36 hbox hb; have n0_ := Aside0.mk (Kd.R_below (by (with_reducible repeat (first | apply Kd.R_alloc | apply Kd.R_drewN | apply Kd.R_drew)); exact HO637.out) hb); have n1_ := Aside0.mk (Kd.R_below (by (with_reducible repeat (first | apply Kd.R_alloc | apply Kd.R_drewN | apply Kd.R_drew)); exact HO640.out) hb); have n2_ := Aside0.mk (Kd.R_below (by (with_reducible repeat (first | apply Kd.R_alloc | apply Kd.R_drewN | apply Kd.R_drew)); exact HO643.out) hb); have n3_ := Aside0.mk (Kd.R_below (by (with_reducible repeat (first | apply Kd.R_alloc | apply Kd.R_drewN | apply Kd.R_drew)); exact HO646.out) hb); have n4_ := Aside0.mk (below_step (by repeat (first | (with_reducible first | exact HB.out | apply below_alloc | apply pw_below_drewN | apply below_drew1) | exact HB.out)) hb); have n5_ := Aside0.mk (hbox); have n6_ := Aside0.mk ((by rw [hg]; exact (below_size (by repeat (first | (with_reducible first | exact HB.out | apply below_alloc | apply pw_below_drewN | apply below_drew1) | exact HB.out))) : w.heap.size ≤ gb648)); have n7_ := Aside0.mk ((by rw [hg]; exact (below_size (by repeat (first | (with_reducible first | exact HB.out | apply below_alloc | apply pw_below_drewN | apply below_drew1) | exact HB.out))) : w.heap.size ≤ gb648)); clear HO637; clear HO640; clear HO643; clear HO646; clear HB; have HO637 := n0_; have HO640 := n1_; have HO643 := n2_; have HO646 := n3_; have HB := n4_; have BK648 := n5_; have GW648 := n6_; have GE648 := n7_; clear n0_ n1_ n2_ n3_ n4_ n5_ n6_ n7_; clear hb hbox hg) | ((with_reducible refine gate_dst (N := 6) rfl ?_); refine box_event ?hg (N := 6) ?hd (cs := #[.slice none 0 0, .slice none 0 0]) (t := 52) ?hr ?_; (case hd => rfl); (case hg => rfl); (case hr => first | (go_simp; done) | (go_simp; rfl)); intro gb649 hg w37 hbox hb; have n0_ := Aside0.mk (Kd.R_below (by (with_reducible repeat (first | apply Kd.R_alloc | apply Kd.R_drewN | apply Kd.R_drew)); exact HO637.out) hb); have n1_ := Aside0.mk (Kd.R_below (by (with_reducible repeat (first | apply Kd.R_alloc | apply Kd.R_drewN | apply Kd.R_drew)); exact HO640.out) hb); have n2_ := Aside0.mk (Kd.R_below (by (with_reducible repeat (first | apply Kd.R_alloc | apply Kd.R_drewN | apply Kd.R_drew)); exact HO643.out) hb); have n3_ := Aside0.mk (Kd.R_below (by (with_reducible repeat (first | apply Kd.R_alloc | apply Kd.R_drewN | apply Kd.R_drew)); exact HO646.out) hb); have n4_ := Aside0.mk (blk_below (g := gb648) (o := .cells #[.slice none 0 0, .slice none 0 0] 52 (0, 0)) (by (with_reducible repeat (first | refine blk_drewN ?_ _ | refine blk_drew ?_ | refine blk_alloc ?_ _)); exact BK648.out) hb); have n5_ := Aside0.mk (below_step (by repeat (first | (with_reducible first | exact HB.out | apply below_alloc | apply pw_below_drewN | apply below_drew1 | refine below_set ?_ GE648.out) | exact HB.out)) hb); have n6_ := Aside0.mk (hbox); have n7_ := Aside0.mk ((by rw [hg]; exact (below_size (by repeat (first | (with_reducible first | exact HB.out | apply below_alloc | apply pw_below_drewN | apply below_drew1 | refine below_set ?_ GE648.out) | exact HB.out))) : w.heap.size ≤ gb649)); have n8_ := Aside0.mk ((by rw [hg]; exact (below_size (by repeat (first | (with_reducible first | exact HB.out | apply below_alloc | apply pw_below_drewN | apply below_drew1 | refine below_set ?_ GE648.out) | exact HB.out))) : w.heap.size ≤ gb649)); have n9_ := Aside0.mk ((by rw [hg]; exact Nat.ne_of_lt (blk_lt (g := gb648) (o := .cells #[.slice none 0 0, .slice none 0 0] 52 (0, 0)) (by (with_reducible repeat (first | refine blk_drewN ?_ _ | refine blk_drew ?_ | refine blk_alloc ?_ _)); exact BK648.out)) : gb648 ≠ gb649)); have n10_ := Aside0.mk ((by rw [hg]; exact Nat.ne_of_gt (blk_lt (g := gb648) (o := .cells #[.slice none 0 0, .slice none 0 0] 52 (0, 0)) (by (with_reducible repeat (first | refine blk_drewN ?_ _ | refine blk_drew ?_ | refine blk_alloc ?_ _)); exact BK648.out)) : gb649 ≠ gb648)); clear HO637; clear HO640; clear HO643; clear HO646; clear BK648; clear HB; have HO637 := n0_; have HO640 := n1_; have HO643 := n2_; have HO646 := n3_; have BK648 := n4_; have HB := n5_; have BK649 := n6_; have GW649 := n7_; have GE649 := n8_; have NB648_649 := n9_; have NB649_648 := n10_; clear n0_ n1_ n2_ n3_ n4_ n5_ n6_ n7_ n8_ n9_ n10_; clear hb hbox hg; obtain ⟨Ao38, co38, eo38⟩ := Kd.R_slice HO637.out; subst eo38; have hnb39 := NB648_649.out; have hnc39 := NB649_648.out; have hcz40_0 : w37.cell? ⟨gb648, 0, none⟩ = some (.slice none 0 0) := (blk_cell BK648.out 0).trans rfl; have hcz40_1 : w37.cell? ⟨gb648, 1, none⟩ = some (.slice none 0 0) := (blk_cell BK648.out 1).trans rfl; have hfz40_0 := blk_frozen BK648.out 0; have hfz40_1 := blk_frozen BK648.out 1; obtain ⟨Ao41, co41, eo41⟩ := Kd.R_slice HO640.out; subst eo41; obtain ⟨Ao42, co42, eo42⟩ := Kd.R_slice HO643.out; subst eo42; have hcz43_0 : w37.cell? ⟨gb649, 0, none⟩ = some (.slice none 0 0) := (blk_cell BK649.out 0).trans rfl; have hcz43_1 : w37.cell? ⟨gb649, 1, none⟩ = some (.slice none 0 0) := (blk_cell BK649.out 1).trans rfl; have hfz43_0 := blk_frozen BK649.out 0; have hfz43_1 := blk_frozen BK649.out 1; obtain ⟨Ao44, co44, eo44⟩ := Kd.R_slice HO646.out; subst eo44))
    go_ret
    exact ⟨by first | rfl | (simp [errW_none, errW_some] <;> rfl) | (simp [errW_none, errW_some]; exact ⟨rfl, rfl⟩) | (simp [errW_none, errW_some]; exact ⟨rfl, rfl, rfl⟩) | (simp [*, errW_none, errW_some] <;> rfl), by repeat (first | (with_reducible first | exact HB.out | apply below_alloc | apply pw_below_drewN | apply below_drew1 | refine below_set ?_ GE648.out | refine below_set ?_ GE649.out) | exact HB.out)⟩

end Go.Proofs.Ytcbgflejdgcmeaa.Q

namespace Go.Proofs.Ytcbgflejdgcmeaa.Q
open Go.RowKit Go.Proofs.YtcbgflejdgcmeaaW.PrintWords Go.Proofs.YtcbgflejdgcmeaaW.PrintLast Go.Proofs.YtcbgflejdgcmeaaW.PrintMore
attribute [local go_sem] max2_int min2_int max_two min_two max_three min_three max_four min_four   -- for this text's walks alone
set_option linter.unusedVariables false
set_option linter.unusedSimpArgs false

def laws_FnExactSolveOne.f (k : Nat) (a0 : ByteArray) (a1 : ByteArray) : Option (Bool) := if (a0.size : Int) > 1048576 then (some true) else (if (a1.size : Int) > 1048576 then (some true) else ((spec_SolveOne.f k a0 a1).bind fun t655 => ((impl_SolveOne.f k a0 a1).bind fun t656 => (if (t656 != t655) = true then (some false) else (some true)))))
theorem laws_FnExactSolveOne.mono : ∀ a0 a1 k, LeO (laws_FnExactSolveOne.f k a0 a1) (laws_FnExactSolveOne.f (k + 1) a0 a1) := by
  intro a0 a1 k
  unfold laws_FnExactSolveOne.f
  repeat' first
      | (with_reducible exact impl_SolveOne.mono _ _ _)
      | (with_reducible exact spec_SolveOne.mono _ _ _)
      | (with_reducible exact LeO.refl _)
      | (with_reducible exact LeO.none _)
      | (with_reducible refine LeO.ite ?_ ?_)
      | (with_reducible refine LeO.bind ?_ (fun _ => ?_))
      | exact impl_SolveOne.mono _ _ _
      | exact spec_SolveOne.mono _ _ _
      | exact LeO.none _
      | refine LeO.ite ?_ ?_
      | refine LeO.bind ?_ (fun _ => ?_)
set_option maxHeartbeats 8000000 in
set_option maxRecDepth 100000 in
theorem laws_FnExactSolveOne.calls (k : Nat) (a0 : ByteArray) (a1 : ByteArray) (r : Bool) (w : World) (h : laws_FnExactSolveOne.f k a0 a1 = some r) :
    Calls Try.prog 9 #[.string a0, .string a1] w fun e w' => e = .returned (.bool r) ∧ Below w.heap.size w w' := by
  have HB := Aside0.mk (Below.refl w.heap.size w)
  have H : (if (a0.size : Int) > 1048576 then (some true) else (if (a1.size : Int) > 1048576 then (some true) else ((spec_SolveOne.f k a0 a1).bind fun t655 => ((impl_SolveOne.f k a0 a1).bind fun t656 => (if (t656 != t655) = true then (some false) else (some true)))))) = some r := h
  clear h
  by_cases c3 : (a0.size : Int) > 1048576
  · rw [if_pos c3] at H
    have c3b0 : decide (1048576 < (a0.size : Int)) = true := decide_eq_true c3
    have c3b1 : decide (1048576 < a0.size) = true := decide_eq_true (by omega)
    clear c3
    obtain rfl := Option.some.inj H
    go_enter Try.func9, Try.ntmps9
    go_wp2
    go_ret
    exact ⟨by first | rfl | (simp [errW_none, errW_some] <;> rfl) | (simp [errW_none, errW_some]; exact ⟨rfl, rfl⟩) | (simp [errW_none, errW_some]; exact ⟨rfl, rfl, rfl⟩) | (simp [*, errW_none, errW_some] <;> rfl), by repeat (first | (with_reducible first | exact HB.out | apply below_alloc | apply pw_below_drewN | apply below_drew1) | exact HB.out)⟩
  · rw [if_neg c3] at H
    have c3b0 : decide (1048576 < (a0.size : Int)) = false := decide_eq_false c3
    have c3b1 : decide (1048576 < a0.size) = false := decide_eq_false (by omega)
    clear c3
    by_cases c4 : (a1.size : Int) > 1048576
    · rw [if_pos c4] at H
      have c4b0 : decide (1048576 < (a1.size : Int)) = true := decide_eq_true c4
      have c4b1 : decide (1048576 < a1.size) = true := decide_eq_true (by omega)
      clear c4
      obtain rfl := Option.some.inj H
      go_enter Try.func9, Try.ntmps9
      go_wp2
      go_ret
      exact ⟨by first | rfl | (simp [errW_none, errW_some] <;> rfl) | (simp [errW_none, errW_some]; exact ⟨rfl, rfl⟩) | (simp [errW_none, errW_some]; exact ⟨rfl, rfl, rfl⟩) | (simp [*, errW_none, errW_some] <;> rfl), by repeat (first | (with_reducible first | exact HB.out | apply below_alloc | apply pw_below_drewN | apply below_drew1) | exact HB.out)⟩
    · rw [if_neg c4] at H
      have c4b0 : decide (1048576 < (a1.size : Int)) = false := decide_eq_false c4
      have c4b1 : decide (1048576 < a1.size) = false := decide_eq_false (by omega)
      clear c4
      replace H := Option.bind_eq_some_iff.mp H
      obtain ⟨t655, A50, H⟩ := H
      replace H : ((impl_SolveOne.f k a0 a1).bind fun t656 => (if (t656 != t655) = true then (some false) else (some true))) = some r := H
      have A5 := Aside0.mk A50
      clear A50
      replace H := Option.bind_eq_some_iff.mp H
      obtain ⟨t656, A60, H⟩ := H
      replace H : (if (t656 != t655) = true then (some false) else (some true)) = some r := H
      have A6 := Aside0.mk A60
      clear A60
      by_cases c7 : (t656 != t655) = true
      · rw [if_pos c7] at H
        have c7b0 : (t656 != t655) = true := c7
        (try (have c7b1 : decide (t656 = t655) = false := by simpa using c7))
        (try (have c7b2 : (t656 == t655) = false := by simpa using c7))
        (try (have c7b3 : ¬ (t656 = t655) := by simpa using c7))
        clear c7
        obtain rfl := Option.some.inj H
        go_enter Try.func9, Try.ntmps9
        go_wp2_with (first | ((with_reducible refine gate_callee (f := 37) rfl ?_); refine goesL_ (some 15) rfl rfl Try.func37 (by kernel_rfl) rfl #[.string a0, .string a1] rfl (by (try simp only [List.map_toArray, List.map_cons, List.map_nil]); first | done | rfl | (simp only [List.length_drop, List.length_take]; rfl)) ?_; (with_reducible refine (spec_SolveOne.calls k a0 a1 t655 _ A5.out).mono ?_); rintro e w8 ⟨rfl, hb⟩; refine ⟨_, rfl, ?_⟩; have n0_ := Aside0.mk (below_step (by repeat (first | (with_reducible first | exact HB.out | apply below_alloc | apply pw_below_drewN | apply below_drew1) | exact HB.out)) hb); clear HB; have HB := n0_; clear n0_; (try clear hb); (try clear hb2); (try clear hk); (try clear hi)) | ((with_reducible refine gate_callee (f := 38) rfl ?_); refine goesL_ (some 18) rfl rfl Try.func38 (by kernel_rfl) rfl #[.string a0, .string a1] rfl (by (try simp only [List.map_toArray, List.map_cons, List.map_nil]); first | done | rfl | (simp only [List.length_drop, List.length_take]; rfl)) ?_; (with_reducible refine (impl_SolveOne.calls k a0 a1 t656 _ A6.out).mono ?_); rintro e w9 ⟨rfl, hb⟩; refine ⟨_, rfl, ?_⟩; have n0_ := Aside0.mk (below_step (by repeat (first | (with_reducible first | exact HB.out | apply below_alloc | apply pw_below_drewN | apply below_drew1) | exact HB.out)) hb); clear HB; have HB := n0_; clear n0_; (try clear hb); (try clear hb2); (try clear hk); (try clear hi)))
        go_ret
        exact ⟨by first | rfl | (simp [errW_none, errW_some] <;> rfl) | (simp [errW_none, errW_some]; exact ⟨rfl, rfl⟩) | (simp [errW_none, errW_some]; exact ⟨rfl, rfl, rfl⟩) | (simp [*, errW_none, errW_some] <;> rfl), by repeat (first | (with_reducible first | exact HB.out | apply below_alloc | apply pw_below_drewN | apply below_drew1) | exact HB.out)⟩
      · rw [if_neg c7] at H
        have c7b0 : (t656 != t655) = false := by simpa using c7
        (try (have c7b1 : decide (t656 = t655) = true := by simpa using c7))
        (try (have c7b2 : (t656 == t655) = true := by simpa using c7))
        clear c7
        obtain rfl := Option.some.inj H
        go_enter Try.func9, Try.ntmps9
        go_wp2_with (first | ((with_reducible refine gate_callee (f := 37) rfl ?_); refine goesL_ (some 15) rfl rfl Try.func37 (by kernel_rfl) rfl #[.string a0, .string a1] rfl (by (try simp only [List.map_toArray, List.map_cons, List.map_nil]); first | done | rfl | (simp only [List.length_drop, List.length_take]; rfl)) ?_; (with_reducible refine (spec_SolveOne.calls k a0 a1 t655 _ A5.out).mono ?_); rintro e w10 ⟨rfl, hb⟩; refine ⟨_, rfl, ?_⟩; have n0_ := Aside0.mk (below_step (by repeat (first | (with_reducible first | exact HB.out | apply below_alloc | apply pw_below_drewN | apply below_drew1) | exact HB.out)) hb); clear HB; have HB := n0_; clear n0_; (try clear hb); (try clear hb2); (try clear hk); (try clear hi)) | ((with_reducible refine gate_callee (f := 38) rfl ?_); refine goesL_ (some 18) rfl rfl Try.func38 (by kernel_rfl) rfl #[.string a0, .string a1] rfl (by (try simp only [List.map_toArray, List.map_cons, List.map_nil]); first | done | rfl | (simp only [List.length_drop, List.length_take]; rfl)) ?_; (with_reducible refine (impl_SolveOne.calls k a0 a1 t656 _ A6.out).mono ?_); rintro e w11 ⟨rfl, hb⟩; refine ⟨_, rfl, ?_⟩; have n0_ := Aside0.mk (below_step (by repeat (first | (with_reducible first | exact HB.out | apply below_alloc | apply pw_below_drewN | apply below_drew1) | exact HB.out)) hb); clear HB; have HB := n0_; clear n0_; (try clear hb); (try clear hb2); (try clear hk); (try clear hi)))
        go_ret
        exact ⟨by first | rfl | (simp [errW_none, errW_some] <;> rfl) | (simp [errW_none, errW_some]; exact ⟨rfl, rfl⟩) | (simp [errW_none, errW_some]; exact ⟨rfl, rfl, rfl⟩) | (simp [*, errW_none, errW_some] <;> rfl), by repeat (first | (with_reducible first | exact HB.out | apply below_alloc | apply pw_below_drewN | apply below_drew1) | exact HB.out)⟩

/-- THE ONE PURE STATEMENT of laws_FnExactSolveOne: yours. -/
def laws_FnExactSolveOne.Pure : Prop := ∀ (a0 : ByteArray) (a1 : ByteArray), a0.size ≤ 140737488351232 → a1.size ≤ 140737488351232 → ∃ k, laws_FnExactSolveOne.f k a0 a1 = some true
theorem laws_FnExactSolveOne.walk (P : laws_FnExactSolveOne.Pure) (a0 : ByteArray) (a1 : ByteArray) (w : World) (w0 : a0.size ≤ 140737488351232) (w1 : a1.size ≤ 140737488351232) :
    Calls Try.prog 9 #[.string a0, .string a1] w fun e w' => e = .returned (.bool true) ∧ Below w.heap.size w w' := by
  obtain ⟨k, h⟩ := P a0 a1 w0 w1
  refine (laws_FnExactSolveOne.calls k a0 a1 true w h).mono ?_
  rintro e w' ⟨rfl, hd⟩
  exact ⟨rfl, hd⟩

end Go.Proofs.Ytcbgflejdgcmeaa.Q

namespace Go.Proofs.Ytcbgflejdgcmeaa.Q
open Go.RowKit Go.Proofs.YtcbgflejdgcmeaaW.PrintWords Go.Proofs.YtcbgflejdgcmeaaW.PrintLast Go.Proofs.YtcbgflejdgcmeaaW.PrintMore
attribute [local go_sem] max2_int min2_int max_two min_two max_three min_three max_four min_four   -- for this text's walks alone
set_option linter.unusedVariables false
set_option linter.unusedSimpArgs false

end Go.Proofs.Ytcbgflejdgcmeaa.Q

namespace Go.Proofs.Ytcbgflejdgcmeaa.Q
open Go.RowKit Go.Proofs.YtcbgflejdgcmeaaW.PrintWords Go.Proofs.YtcbgflejdgcmeaaW.PrintLast Go.Proofs.YtcbgflejdgcmeaaW.PrintMore
attribute [local go_sem] max2_int min2_int max_two min_two max_three min_three max_four min_four   -- for this text's walks alone
set_option linter.unusedVariables false
set_option linter.unusedSimpArgs false

end Go.Proofs.Ytcbgflejdgcmeaa.Q

namespace Go.Proofs.Ytcbgflejdgcmeaa.Q
open Go.RowKit Go.Proofs.YtcbgflejdgcmeaaW.PrintWords Go.Proofs.YtcbgflejdgcmeaaW.PrintLast Go.Proofs.YtcbgflejdgcmeaaW.PrintMore
attribute [local go_sem] max2_int min2_int max_two min_two max_three min_three max_four min_four   -- for this text's walks alone
set_option linter.unusedVariables false
set_option linter.unusedSimpArgs false

end Go.Proofs.Ytcbgflejdgcmeaa.Q

namespace Go.Proofs.Ytcbgflejdgcmeaa.Q
open Go.RowKit Go.Proofs.YtcbgflejdgcmeaaW.PrintWords Go.Proofs.YtcbgflejdgcmeaaW.PrintLast Go.Proofs.YtcbgflejdgcmeaaW.PrintMore
attribute [local go_sem] max2_int min2_int max_two min_two max_three min_three max_four min_four   -- for this text's walks alone
set_option linter.unusedVariables false
set_option linter.unusedSimpArgs false

end Go.Proofs.Ytcbgflejdgcmeaa.Q

namespace Go.Proofs.Ytcbgflejdgcmeaa.Q
open Go.RowKit Go.Proofs.YtcbgflejdgcmeaaW.PrintWords Go.Proofs.YtcbgflejdgcmeaaW.PrintLast Go.Proofs.YtcbgflejdgcmeaaW.PrintMore
attribute [local go_sem] max2_int min2_int max_two min_two max_three min_three max_four min_four   -- for this text's walks alone
set_option linter.unusedVariables false
set_option linter.unusedSimpArgs false

end Go.Proofs.Ytcbgflejdgcmeaa.Q

namespace Go.Proofs.Ytcbgflejdgcmeaa.Q
open Go.RowKit Go.Proofs.YtcbgflejdgcmeaaW.PrintWords Go.Proofs.YtcbgflejdgcmeaaW.PrintLast Go.Proofs.YtcbgflejdgcmeaaW.PrintMore
attribute [local go_sem] max2_int min2_int max_two min_two max_three min_three max_four min_four   -- for this text's walks alone
set_option linter.unusedVariables false
set_option linter.unusedSimpArgs false

end Go.Proofs.Ytcbgflejdgcmeaa.Q

namespace Go.Proofs.Ytcbgflejdgcmeaa.Q
open Go.RowKit Go.Proofs.YtcbgflejdgcmeaaW.PrintWords Go.Proofs.YtcbgflejdgcmeaaW.PrintLast Go.Proofs.YtcbgflejdgcmeaaW.PrintMore
attribute [local go_sem] max2_int min2_int max_two min_two max_three min_three max_four min_four   -- for this text's walks alone
set_option linter.unusedVariables false
set_option linter.unusedSimpArgs false

end Go.Proofs.Ytcbgflejdgcmeaa.Q

namespace Go.Proofs.Ytcbgflejdgcmeaa.Q
open Go.RowKit Go.Proofs.YtcbgflejdgcmeaaW.PrintWords Go.Proofs.YtcbgflejdgcmeaaW.PrintLast Go.Proofs.YtcbgflejdgcmeaaW.PrintMore
attribute [local go_sem] max2_int min2_int max_two min_two max_three min_three max_four min_four   -- for this text's walks alone
set_option linter.unusedVariables false
set_option linter.unusedSimpArgs false

end Go.Proofs.Ytcbgflejdgcmeaa.Q

namespace Go.Proofs.Ytcbgflejdgcmeaa.Q
open Go.RowKit Go.Proofs.YtcbgflejdgcmeaaW.PrintWords Go.Proofs.YtcbgflejdgcmeaaW.PrintLast Go.Proofs.YtcbgflejdgcmeaaW.PrintMore
attribute [local go_sem] max2_int min2_int max_two min_two max_three min_three max_four min_four   -- for this text's walks alone
set_option linter.unusedVariables false
set_option linter.unusedSimpArgs false

end Go.Proofs.Ytcbgflejdgcmeaa.Q

namespace Go.Proofs.Ytcbgflejdgcmeaa.Q
open Go.RowKit Go.Proofs.YtcbgflejdgcmeaaW.PrintWords Go.Proofs.YtcbgflejdgcmeaaW.PrintLast Go.Proofs.YtcbgflejdgcmeaaW.PrintMore
attribute [local go_sem] max2_int min2_int max_two min_two max_three min_three max_four min_four   -- for this text's walks alone
set_option linter.unusedVariables false
set_option linter.unusedSimpArgs false

end Go.Proofs.Ytcbgflejdgcmeaa.Q

namespace Go.Proofs.Ytcbgflejdgcmeaa.Q
open Go.RowKit Go.Proofs.YtcbgflejdgcmeaaW.PrintWords Go.Proofs.YtcbgflejdgcmeaaW.PrintLast Go.Proofs.YtcbgflejdgcmeaaW.PrintMore
attribute [local go_sem] max2_int min2_int max_two min_two max_three min_three max_four min_four   -- for this text's walks alone
set_option linter.unusedVariables false
set_option linter.unusedSimpArgs false

end Go.Proofs.Ytcbgflejdgcmeaa.Q

namespace Go.Proofs.Ytcbgflejdgcmeaa.Q
open Go.RowKit Go.Proofs.YtcbgflejdgcmeaaW.PrintWords Go.Proofs.YtcbgflejdgcmeaaW.PrintLast Go.Proofs.YtcbgflejdgcmeaaW.PrintMore
open Go.Proofs.Ytcbgflejdgcmeaa.Pl (hasB)
set_option linter.unusedVariables false
set_option linter.unusedSimpArgs false

theorem wr {x : Int} (h0 : -9223372036854775808 ≤ x) (h1 : x ≤ 9223372036854775807) : wrap64 x = x := by unfold wrap64; omega
theorem Ev.end {α : Type} {g : Nat → Option α} {r : α} (h : ∀ k, g (k + 1) = some r) : Ev g r := ⟨1, fun k hk => by obtain ⟨m, rfl⟩ : ∃ m, k = m + 1 := ⟨k - 1, by omega⟩; exact h m⟩
theorem Ev.const {α : Type} {g : Nat → Option α} {r : α} (h : ∀ k, g k = some r) : Ev g r := ⟨0, fun k _ => h k⟩
theorem Ev.unique {α : Type} {g : Nat → Option α} {r q : α} (h : Ev g r) (k : Ev g q) : r = q := by
  obtain ⟨a, ha⟩ := h
  obtain ⟨b, hb⟩ := k
  have h1 := ha (max a b) (Nat.le_max_left _ _)
  rw [hb (max a b) (Nat.le_max_right _ _)] at h1
  exact (Option.some.inj h1).symm

theorem bt_list (s : ByteArray) (i : Nat) (h : i < s.size) : bt s (i : Int) = ((s.data.toList.getD i 0).toNat : Int) := by
  unfold bt
  rw [dif_pos (by simpa using h)]
  have : s.data.toList.length = s.size := Array.length_toList
  simp [List.getD, h, this]
  rfl
theorem bt_is (s : ByteArray) (i : Nat) (h : i < s.size) (c : UInt8) (n : Int) (hn : n = (c.toNat : Int)) : bt s (i : Int) = n ↔ s.data.toList.getD i 0 = c := by
  rw [bt_list s i h, hn]
  constructor
  · intro h
    exact UInt8.toNat_inj.1 (by exact_mod_cast h)
  · intro h
    rw [h]
theorem drop_getD {α : Type} (l : List α) (i : Nat) (z : α) (h : i < l.length) : l.drop i = l.getD i z :: l.drop (i + 1) := by
  rw [List.drop_eq_getElem_cons h]; simp [List.getD, h]

def okL (l : List UInt8) : Bool := l.all fun c => c == 48 || c == 49
theorem signs_l0 (s : ByteArray) (hs : s.size ≤ 1073741824) (d : Nat) : ∀ (i : Nat) (acc : List Bool), i + d = s.size → acc.length = i →
    Ev (fun k => spec_l1Signs.l0 k s acc i) (if okL (s.data.toList.drop i) then (acc ++ (s.data.toList.drop i).map (· == 49), true) else ([], false)) := by
  have hl : s.data.toList.length = s.size := Array.length_toList
  induction d with
  | zero =>
    intro i acc h1 h2
    refine Ev.end fun k => ?_
    simp only [spec_l1Signs.l0]
    rw [if_neg (by omega), List.drop_of_length_le (by omega)]
    simp [okL]
  | succ d ih =>
    intro i acc h1 h2
    rw [drop_getD _ i 0 (by omega)]
    have hb48 := bt_is s i (by omega) 48 48 rfl
    have hb49 := bt_is s i (by omega) 49 49 rfl
    have hw : wrap64 ((i : Int) + 1) = ((i + 1 : Nat) : Int) := by rw [wr (by omega) (by omega)]; omega
    by_cases c48 : s.data.toList.getD i 0 = 48
    · refine Ev.step (f := fun k => spec_l1Signs.l0 k s (acc ++ [false]) ((i + 1 : Nat) : Int)) (fun k => ?_) ?_
      · simp only [spec_l1Signs.l0]
        have e : bt s (i : Int) = 48 := hb48.2 c48
        rw [if_pos (by omega), if_pos (by omega), if_pos e, if_pos (by omega), hw, e]
        rfl
      · have := ih (i + 1) (acc ++ [false]) (by omega) (by simp [h2])
        rw [c48]
        simpa [okL] using this
    · by_cases c49 : s.data.toList.getD i 0 = 49
      · refine Ev.step (f := fun k => spec_l1Signs.l0 k s (acc ++ [true]) ((i + 1 : Nat) : Int)) (fun k => ?_) ?_
        · simp only [spec_l1Signs.l0]
          have e : bt s (i : Int) = 49 := hb49.2 c49
          rw [if_pos (by omega), if_pos (by omega), if_neg (fun h => c48 (hb48.1 h)), if_pos e, if_pos (by omega), hw]
        · have := ih (i + 1) (acc ++ [true]) (by omega) (by simp [h2])
          rw [c49]
          simpa [okL] using this
      · refine Ev.end fun k => ?_
        simp only [spec_l1Signs.l0]
        rw [if_pos (by omega), if_pos (by omega), if_neg (fun h => c48 (hb48.1 h)), if_neg (fun h => c49 (hb49.1 h))]
        rw [if_neg]
        simp only [okL, List.all_cons, Bool.and_eq_true, Bool.or_eq_true, beq_iff_eq, not_and]
        intro h
        exact absurd h (by simp only [not_or]; exact ⟨c48, c49⟩)
theorem l1Signs_ev (s : ByteArray) (hs : s.size ≤ 1073741824) : Ev (fun k => spec_l1Signs.f k s) (if okL s.data.toList then (s.data.toList.map (· == 49), true) else ([], false)) := by
  have := signs_l0 s hs s.size 0 [] (by omega) rfl
  simpa [spec_l1Signs.f] using this
theorem signs_ev (s : ByteArray) (hs : s.size ≤ 1073741824) : impl_signs.f s = some (if okL s.data.toList then (s.data.toList.map (· == 49), decide ((s.size : Int) ≤ 60)) else ([], false)) := by
  unfold impl_signs.f
  rw [if_pos (by omega)]
  unfold okL impl_signs.ok
  split <;> rfl

theorem index_cases (l : List UInt8) (c : UInt8) : (Lib.indexByte l c = -1 ∧ ∀ i, i < l.length → l.getD i 0 ≠ c) ∨ ∃ i : Nat, i < l.length ∧ Lib.indexByte l c = i ∧ l.getD i 0 = c ∧ ∀ j, j < i → l.getD j 0 ≠ c := by
  induction l with
  | nil => left; exact ⟨rfl, fun i h => absurd h (Nat.not_lt_zero i)⟩
  | cons b l ih =>
    unfold Lib.indexByte
    by_cases hb : b = c
    · right
      exact ⟨0, by simp, by simp [hb], by simp [hb], fun j h => absurd h (Nat.not_lt_zero j)⟩
    · rw [if_neg (by simpa using hb)]
      rcases ih with ⟨h1, h2⟩ | ⟨i, h1, h2, h3, h4⟩
      · left
        refine ⟨by rw [h1]; rfl, fun i hi => ?_⟩
        cases i with
        | zero => simpa using hb
        | succ i => simpa using h2 i (by simpa using hi)
      · right
        refine ⟨i + 1, by simpa using h1, ?_, by simpa using h3, fun j hj => ?_⟩
        · rw [h2, if_neg (by simp only [beq_iff_eq]; omega)]; omega
        · cases j with
          | zero => simpa using hb
          | succ j => simpa using h4 j (by omega)

structure Good (t r : List Bool) : Prop where
  pos : 0 < r.length
  tl : t.length ≤ 60
  rl : r.length ≤ 60
structure IsSet (s : ByteArray) (t r : List Bool) : Prop where
  good : Good t r
  impl : impl_setOf.f s = some (t, r, true)
  spec : Ev (fun k => spec_l1Read.f k s) (t, r, true)
structure NoSet (s : ByteArray) : Prop where
  impl : ∃ a b, impl_setOf.f s = some (a, b, false)
  spec : ∃ a b, Ev (fun k => spec_l1Read.f k s) (a, b, false)

/-- The reader comes to the first bracket, or to the end. -/
theorem read_l0 (s : ByteArray) (hs : s.size ≤ 1073741824) (a b : List Bool) {r : List Bool × List Bool × Bool} (j : Nat) (hj : j ≤ s.size) (hn : ∀ i, i < j → s.data.toList.getD i 0 ≠ 40) (hend : j < s.size → s.data.toList.getD j 0 = 40)
    (h : Ev (fun k => spec_l1Read.j1 k s j a b) r) (d : Nat) : ∀ i, i + d = j → Ev (fun k => spec_l1Read.l0 k s (i : Nat) a b) r := by
  induction d with
  | zero =>
    intro i hi
    obtain rfl : i = j := by omega
    refine Ev.step (fun k => ?_) h
    simp only [spec_l1Read.l0]
    by_cases c : i < s.size
    · rw [if_pos (by omega), if_pos (by omega), if_pos ((bt_is s i c 40 40 rfl).2 (hend c))]
    · rw [if_neg (by omega)]
  | succ d ih =>
    intro i hi
    refine Ev.step (fun k => ?_) (ih (i + 1) (by omega))
    simp only [spec_l1Read.l0]
    have hw : wrap64 ((i : Int) + 1) = ((i + 1 : Nat) : Int) := by rw [wr (by omega) (by omega)]; omega
    rw [if_pos (by omega), if_pos (by omega), if_neg (fun h => hn i (by omega) ((bt_is s i (by omega) 40 40 rfl).1 h)), hw]

theorem size_data (s : ByteArray) : s.data.toList.length = s.size := Array.length_toList
theorem ext_size (s : ByteArray) (a b : Nat) (hb : b ≤ s.size) : (s.extract a b).size = b - a := by simp; omega
theorem ext_list (s : ByteArray) (a b : Nat) : (s.extract a b).data.toList = (s.data.toList.take b).drop a := by
  simp [List.extract_eq_take_drop, List.drop_take]
theorem toList_eq (s : ByteArray) : s.toList = s.data.toList := (Lib.toList_data s).symm ▸ rfl

theorem last_eq {s : ByteArray} {i : Nat} (h : i + 1 < s.size) : ((s.extract (i + 1) s.size).extract ((s.extract (i + 1) s.size).size - 1) (s.extract (i + 1) s.size).size).toList = [s.data.toList.getD (s.size - 1) 0] := by
  rw [toList_eq, ext_list, ext_list, ext_size _ _ _ (Nat.le_refl _)]
  have hl := size_data s
  rw [List.take_of_length_le (l := s.data.toList) (by omega), List.take_of_length_le (by rw [List.length_drop]; omega), List.drop_drop, drop_getD _ _ 0 (by omega), List.drop_of_length_le (by omega)]
  congr 2
  omega
theorem ring_eq {s : ByteArray} {i : Nat} (h : i + 1 < s.size) : (s.extract (i + 1) s.size).extract 0 ((s.extract (i + 1) s.size).size - 1) = s.extract (i + 1) (s.size - 1) := by
  have : ∀ a b : ByteArray, a.data.toList = b.data.toList → a = b := fun a b h => by
    obtain ⟨⟨a⟩⟩ := a; obtain ⟨⟨b⟩⟩ := b; simp at h; simp [h]
  refine this _ _ ?_
  have hl := size_data s
  rw [ext_list, ext_list, ext_list, ext_size _ _ _ (Nat.le_refl _), List.drop_zero, List.take_of_length_le (l := s.data.toList) (by omega), List.drop_take]
  congr 1
  omega

/-- Each text is a set text for both readers, with the same tail and ring, or for none. -/
theorem read_cases (s : ByteArray) (hs : s.size ≤ 1073741824) : NoSet s ∨ ∃ t r, IsSet s t r := by
  have hl := size_data s
  have hsg := fun (x : ByteArray) (hx : x.size ≤ 1073741824) => signs_ev x hx
  rcases index_cases s.data.toList 40 with ⟨h1, h2⟩ | ⟨i, h1, h2, h3, h4⟩
  · left
    refine ⟨?_, ?_⟩
    · have hc : strings_Cut.f s ⟨#[40]⟩ = some (s, ⟨#[]⟩, false) := by
        unfold strings_Cut.f stringslite_Cut.f stringslite_Index.f
        rw [dif_pos (by rfl)]
        show ((some (Lib.indexByte s.data.toList 40)).bind _).bind _ = _
        rw [h1]
        rfl
      have hd : strings_CutSuffix.f ⟨#[]⟩ ⟨#[41]⟩ = some (⟨#[]⟩, false) := by rfl
      refine ⟨(if okL s.data.toList then (s.data.toList.map (· == 49), decide ((s.size : Int) ≤ 60)) else ([], false)).1, [], ?_⟩
      unfold impl_setOf.f
      rw [hc]; simp only [Option.bind_some]
      rw [hd]; simp only [Option.bind_some]
      rw [hsg s hs, hsg ⟨#[]⟩ (by decide)]
      simp only [Option.bind_some]
      rw [if_neg (by simp)]
      rfl
    · refine ⟨[], [false], ?_⟩
      refine read_l0 s hs [] [false] s.size (Nat.le_refl _) (fun i hi => h2 i (by omega)) (fun h => by omega) ?_ s.size 0 (by omega)
      refine Ev.step (f := fun k => spec_l1Read.j2 k s (s.size : Nat) true [] [false]) (fun k => ?_) (Ev.end fun k => ?_)
      · simp only [spec_l1Read.j1]
        rw [if_pos (by rw [wr (by omega) (by omega)]; omega)]
      · simp only [spec_l1Read.j2, if_true]
  · have hi : i < s.size := by omega
    have hc : strings_Cut.f s ⟨#[40]⟩ = some (s.extract 0 i, s.extract (i + 1) s.size, true) := by
      unfold strings_Cut.f stringslite_Cut.f stringslite_Index.f
      rw [dif_pos (by rfl)]
      show ((some (Lib.indexByte s.data.toList 40)).bind _).bind _ = _
      rw [h2]
      simp only [Option.bind_some]
      have hz : ((⟨#[40]⟩ : ByteArray).size : Int) = 1 := rfl
      rw [if_pos (by omega), if_pos (by omega), if_pos (by omega), hz, wr (by omega) (by omega), if_pos (by omega), if_pos (by omega)]
      simp only [Option.bind_some, Int.toNat_natCast]
      rw [show ((i : Int) + 1).toNat = i + 1 from by omega]
    have hz1 : (s.extract (i + 1) s.size).size = s.size - (i + 1) := ext_size _ _ _ (Nat.le_refl _)
    have h41 : ((⟨#[41]⟩ : ByteArray).size : Int) = 1 := rfl
    have hsuf : strings_CutSuffix.f (s.extract (i + 1) s.size) ⟨#[41]⟩ = some (if i + 1 < s.size ∧ s.data.toList.getD (s.size - 1) 0 = 41 then (s.extract (i + 1) (s.size - 1), true) else (s.extract (i + 1) s.size, false)) := by
      unfold strings_CutSuffix.f stringslite_CutSuffix.f stringslite_HasSuffix.f
      rw [h41]
      by_cases c : i + 1 < s.size
      · rw [if_pos (by omega), wr (by omega) (by omega), if_pos (by omega), if_pos (by omega), show (((s.extract (i + 1) s.size).size : Int) - 1).toNat = (s.extract (i + 1) s.size).size - 1 from by omega, last_eq c, ring_eq c]
        simp only [Option.bind_some]
        have hb : ([s.data.toList.getD (s.size - 1) 0] == (⟨#[41]⟩ : ByteArray).toList) = decide (s.data.toList.getD (s.size - 1) 0 = 41) := by
          rw [toList_eq, Bool.eq_iff_iff]; simp
        rw [hb]
        by_cases e : s.data.toList.getD (s.size - 1) 0 = 41
        · rw [decide_eq_true e, if_pos rfl, if_pos (by omega), if_pos (by omega), if_pos ⟨c, e⟩]; rfl
        · rw [decide_eq_false e, if_neg (by simp), if_neg (by intro h; exact e h.2)]; rfl
      · rw [if_neg (by omega)]
        simp only [Option.bind_some, Bool.false_eq_true, if_false]
        rw [if_neg (fun h => c h.1)]
    have hspec : ∀ (r : List Bool × List Bool × Bool), Ev (fun k => spec_l1Read.j1 k s i [] [false]) r → Ev (fun k => spec_l1Read.f k s) r := by
      intro r hr
      exact read_l0 s hs [] [false] i (by omega) (fun j hj => h4 j hj) (fun _ => h3) hr i 0 (by omega)
    have hnull : ∀ x : Bool, x = true → Ev (fun k => spec_l1Read.j2 k s (i : Nat) x [] [false]) (([] : List Bool), [false], false) := by
      intro x hx
      refine Ev.end fun k => ?_
      simp only [spec_l1Read.j2]
      rw [if_pos hx]
    -- for the reader's bracket at the end
    have hj1 : ∀ r, Ev (fun k => spec_l1Read.j2 k s (i : Nat) (decide (s.size ≤ i + 2) || s.data.toList.getD (s.size - 1) 0 != 41) [] [false]) r → Ev (fun k => spec_l1Read.j1 k s i [] [false]) r := by
      intro r hr
      refine Ev.step (fun k => ?_) hr
      simp only [spec_l1Read.j1]
      rw [wr (x := (i : Int) + 2) (by omega) (by omega), wr (x := (s.size : Int) - 1) (by omega) (by omega)]
      by_cases c : s.size ≤ i + 2
      · rw [if_pos (by omega)]; simp [c]
      · rw [if_neg (by omega), if_pos (by omega), if_pos (by omega)]
        rw [show (s.size : Int) - 1 = ((s.size - 1 : Nat) : Int) from by omega]
        congr 1
        simp only [c, decide_false, Bool.false_or]
        have := bt_is s (s.size - 1) (by omega) 41 41 rfl
        rw [Bool.eq_iff_iff]; simp only [bne_iff_ne, ne_eq, this]
    by_cases c : (i + 2 < s.size) ∧ s.data.toList.getD (s.size - 1) 0 = 41
    · obtain ⟨c1, c2⟩ := c
      rw [if_pos ⟨by omega, c2⟩] at hsuf
      have e1 := hsg (s.extract 0 i) (by rw [ext_size _ _ _ (by omega)]; omega)
      have e2 := hsg (s.extract (i + 1) (s.size - 1)) (by rw [ext_size _ _ _ (by omega)]; omega)
      have g1 := l1Signs_ev (s.extract 0 i) (by rw [ext_size _ _ _ (by omega)]; omega)
      have g2 := l1Signs_ev (s.extract (i + 1) (s.size - 1)) (by rw [ext_size _ _ _ (by omega)]; omega)
      have z1 : (s.extract 0 i).size = i := by rw [ext_size _ _ _ (by omega)]; omega
      have z2 : (s.extract (i + 1) (s.size - 1)).size = s.size - i - 2 := by rw [ext_size _ _ _ (by omega)]; omega
      have y1 := size_data (s.extract 0 i)
      have y2 := size_data (s.extract (i + 1) (s.size - 1))
      rw [z1] at e1 y1
      rw [z2] at e2 y2
      have himpl : impl_setOf.f s = (impl_signs.f (s.extract 0 i)).bind fun x => (impl_signs.f (s.extract (i + 1) (s.size - 1))).bind fun y => some (x.1, y.1, x.2 && y.2 && decide ((y.1.length : Int) > 0)) := by
        unfold impl_setOf.f
        rw [hc]; simp only [Option.bind_some]
        rw [hsuf]; simp only [Option.bind_some]
        congr 1; funext x; congr 1; funext y
        cases x.2 <;> cases y.2 <;> simp
      have hj2 : ∀ (x y : List Bool × Bool), Ev (fun k => spec_l1Signs.f k (s.extract 0 i)) x → Ev (fun k => spec_l1Signs.f k (s.extract (i + 1) (s.size - 1))) y →
          Ev (fun k => spec_l1Read.f k s) (if x.2 && y.2 && decide (x.1.length ≤ 60) && decide (y.1.length ≤ 60) then (x.1, y.1, true) else ([], [false], false)) := by
        intro x y hx hy
        refine hspec _ (hj1 _ ?_)
        have : (decide (s.size ≤ i + 2) || s.data.toList.getD (s.size - 1) 0 != 41) = false := by rw [c2]; simp; omega
        rw [this]
        refine Ev.step (f := fun k => (spec_l1Signs.f k (s.extract 0 i)).bind fun bt121 => (spec_l1Signs.f k (s.extract (i + 1) (s.size - 1))).bind fun bt125 => (if bt121.2 = true then (if bt125.2 = true then (if (bt121.1.length : Int) > 60 then (some (([] : List Bool), [false], false)) else (if (bt125.1.length : Int) > 60 then (some ([], [false], false)) else (some (bt121.1, bt125.1, true)))) else (some ([], [false], false))) else (some ([], [false], false)))) (fun k => ?_) ?_
        · simp only [spec_l1Read.j2]
          rw [if_neg (by simp), if_pos (by omega), if_pos (by omega), wr (x := (i : Int) + 1) (by omega) (by omega), wr (x := (s.size : Int) - 1) (by omega) (by omega)]
          simp only [if_pos (show (0 : Int) ≤ (i : Int) + 1 from by omega), if_pos (show (i : Int) + 1 ≤ (s.size : Int) - 1 from by omega), if_pos (show (s.size : Int) - 1 ≤ (s.size : Int) from by omega)]
          rw [Int.toNat_natCast, show ((i : Int) + 1).toNat = i + 1 from by omega, show ((s.size : Int) - 1).toNat = s.size - 1 from by omega]
        · refine Ev.bind hx (Ev.bind hy (Ev.const fun k => ?_))
          obtain ⟨x1, x2⟩ := x
          obtain ⟨y1, y2⟩ := y
          cases x2 <;> cases y2 <;> simp
          by_cases q1 : x1.length ≤ 60
          · by_cases q2 : y1.length ≤ 60
            · rw [if_neg (by omega), if_neg (by omega), if_pos ⟨q1, q2⟩]
            · rw [if_neg (by omega), if_pos (by omega), if_neg (by omega)]
          · rw [if_pos (by omega), if_neg (by omega)]
      have hfin := hj2 _ _ g1 g2
      rw [e1, e2] at himpl
      simp only [Option.bind_some] at himpl
      cases o1 : okL (s.extract 0 i).data.toList with
      | false => left; rw [o1] at himpl hfin; exact ⟨⟨_, _, by rw [himpl]; simp; exact ⟨rfl, rfl⟩⟩, ⟨_, _, by simpa using hfin⟩⟩
      | true =>
        cases o2 : okL (s.extract (i + 1) (s.size - 1)).data.toList with
        | false => left; rw [o1, o2] at himpl hfin; exact ⟨⟨_, _, by rw [himpl]; simp; exact ⟨rfl, rfl⟩⟩, ⟨_, _, by simpa using hfin⟩⟩
        | true =>
          rw [o1, o2] at himpl hfin
          simp only [if_true, List.length_map, Bool.and_self, Bool.true_and] at himpl hfin
          rw [y1, y2] at hfin
          rw [y2] at himpl
          by_cases q : i ≤ 60 ∧ s.size - i - 2 ≤ 60
          · right
            refine ⟨(s.extract 0 i).data.toList.map (· == 49), (s.extract (i + 1) (s.size - 1)).data.toList.map (· == 49), ⟨?_, by rw [List.length_map]; omega, by rw [List.length_map]; omega⟩, himpl.trans ?_, ?_⟩
            · rw [List.length_map]; omega
            · rw [decide_eq_true (show ((i : Nat) : Int) ≤ 60 from by omega), decide_eq_true (show (((s.size - i - 2 : Nat) : Int) ≤ 60) from by omega), decide_eq_true (show (((s.size - i - 2 : Nat) : Int) > 0) from by omega)]
              rfl
            · rw [decide_eq_true q.1, decide_eq_true q.2] at hfin
              exact hfin
          · left
            refine ⟨⟨(s.extract 0 i).data.toList.map (· == 49), (s.extract (i + 1) (s.size - 1)).data.toList.map (· == 49), himpl.trans ?_⟩, ⟨[], [false], ?_⟩⟩
            · congr 3
              by_cases q1 : i ≤ 60
              · rw [decide_eq_false (show ¬ (((s.size - i - 2 : Nat) : Int) ≤ 60) from by omega)]; simp
              · rw [decide_eq_false (show ¬ ((i : Nat) : Int) ≤ 60 from by omega)]; simp
            · by_cases q1 : i ≤ 60
              · rw [decide_eq_false (show ¬ (s.size - i - 2 ≤ 60) from by omega)] at hfin; simpa using hfin
              · rw [decide_eq_false q1] at hfin; simpa using hfin
    · left
      have hcond : (decide (s.size ≤ i + 2) || s.data.toList.getD (s.size - 1) 0 != 41) = true := by
        by_cases q : i + 2 < s.size
        · have : ¬ s.data.toList.getD (s.size - 1) 0 = 41 := fun h => c ⟨q, h⟩
          simp only [Bool.or_eq_true, bne_iff_ne, ne_eq]; exact .inr this
        · simp only [Bool.or_eq_true, decide_eq_true_eq]; exact .inl (by omega)
      refine ⟨?_, ⟨[], [false], hspec _ (hj1 _ (hnull _ hcond))⟩⟩
      have e1 := hsg (s.extract 0 i) (by rw [ext_size _ _ _ (by omega)]; omega)
      unfold impl_setOf.f
      rw [hc]; simp only [Option.bind_some]
      rw [hsuf]; simp only [Option.bind_some]
      by_cases q : i + 1 < s.size ∧ s.data.toList.getD (s.size - 1) 0 = 41
      · rw [if_pos q]
        have hem : (s.extract (i + 1) (s.size - 1)).size = 0 := by
          rw [ext_size _ _ _ (by omega)]
          by_cases q2 : i + 2 < s.size
          · exact absurd ⟨q2, q.2⟩ c
          · omega
        have e2 := hsg (s.extract (i + 1) (s.size - 1)) (by omega)
        have y2 := size_data (s.extract (i + 1) (s.size - 1))
        have hn : (s.extract (i + 1) (s.size - 1)).data.toList = [] := List.length_eq_zero_iff.1 (by omega)
        obtain ⟨p, hp⟩ : ∃ p, impl_signs.f (s.extract 0 i) = some p := ⟨_, e1⟩
        rw [hp, e2, hn]
        simp only [Option.bind_some, okL, List.all_nil, if_true, List.map_nil, List.length_nil]
        refine ⟨p.1, [], ?_⟩
        cases p.2 <;> simp
      · rw [if_neg q, e1]
        simp only [Option.bind_some]
        rw [hsg (s.extract (i + 1) s.size) (by omega)]
        simp only [Option.bind_some]
        exact ⟨_, _, rfl⟩

end Go.Proofs.Ytcbgflejdgcmeaa.Q

namespace Go.Proofs.Ytcbgflejdgcmeaa.Q
open Go.RowKit Go.Proofs.YtcbgflejdgcmeaaW.PrintWords Go.Proofs.YtcbgflejdgcmeaaW.PrintLast Go.Proofs.YtcbgflejdgcmeaaW.PrintMore
open Go.Proofs.Ytcbgflejdgcmeaa.Pl
set_option linter.unusedVariables false
set_option linter.unusedSimpArgs false

theorem rdOf_nat (l : List Bool) (n : Nat) : rdOf false l (n : Int) = l.getD n false := by simp [rdOf]
theorem tmod_nat (a b : Nat) : Int.tmod (a : Int) (b : Int) = ((a % b : Nat) : Int) := by
  rw [Int.tmod_eq_emod_of_nonneg (Int.natCast_nonneg a)]; exact (Int.natCast_emod a b).symm
theorem wr1 {n : Nat} (h : n ≤ 4611686018427387904) : wrap64 ((n : Int) + 1) = ((n + 1 : Nat) : Int) := by rw [wr (by omega) (by omega)]; omega

theorem set_has {t r : List Bool} (h : Good t r) (n : Nat) (hn : n ≤ 4611686018427387904) : impl_set_has.f t r n = some (hasB t r n) := by
  have h1 := h.pos
  have h2 := h.tl
  have h3 := h.rl
  unfold impl_set_has.f
  rw [if_neg (by omega)]
  by_cases c : n < t.length
  · rw [if_pos (by omega), if_pos (by omega), rdOf_nat, hasB_lt c]
  · have e : wrap64 ((n : Int) - (t.length : Int)) = ((n - t.length : Nat) : Int) := by rw [wr (by omega) (by omega)]; omega
    have hm := Nat.mod_lt (n - t.length) h1
    rw [if_neg (by omega), if_neg (by omega), e, tmod_nat, if_pos (by omega), if_pos (by omega), rdOf_nat, hasB_ge (by omega)]
theorem l1_has {t r : List Bool} (h : Good t r) (n : Nat) (hn : n ≤ 4611686018427387904) : spec_l1Has.f t r n = some (hasB t r n) := by
  have h1 := h.pos
  have h2 := h.tl
  have h3 := h.rl
  unfold spec_l1Has.f
  by_cases c : n < t.length
  · rw [if_pos (by omega), if_pos (by omega), rdOf_nat, hasB_lt c]
  · have e : wrap64 ((n : Int) - (t.length : Int)) = ((n - t.length : Nat) : Int) := by rw [wr (by omega) (by omega)]; omega
    have hm := Nat.mod_lt (n - t.length) h1
    rw [if_neg (by omega), if_neg (by omega), e, tmod_nat, if_pos (by omega), if_pos (by omega), rdOf_nat, hasB_ge (by omega)]

end Go.Proofs.Ytcbgflejdgcmeaa.Q

namespace Go.Proofs.Ytcbgflejdgcmeaa.Q
open Go.RowKit Go.Proofs.YtcbgflejdgcmeaaW.PrintWords Go.Proofs.YtcbgflejdgcmeaaW.PrintLast Go.Proofs.YtcbgflejdgcmeaaW.PrintMore
open Go.Proofs.Ytcbgflejdgcmeaa.Pl
set_option linter.unusedVariables false
set_option linter.unusedSimpArgs false

theorem wrm1 {n : Nat} (h0 : 1 ≤ n) (h : n ≤ 4611686018427387904) : wrap64 ((n : Int) - 1) = ((n - 1 : Nat) : Int) := by rw [wr (by omega) (by omega)]; omega

theorem turns_l0 (r : List Bool) (hr : r.length ≤ 1073741824) (d : Nat) (hd : 1 ≤ d) (hdl : d ≤ r.length) (m : Nat) : ∀ i, i + m = r.length → (∀ j, j < i → r.getD j false = r.getD (j % d) false) →
    ∃ b : Bool, Ev (fun k => impl_turns.l0 k r d (r.length : Int) (i : Nat)) b ∧ (b = true ↔ per r d) := by
  induction m with
  | zero =>
    intro i hi hall
    refine ⟨decide (r.length % d = 0), Ev.end fun k => ?_, ?_⟩
    · simp only [impl_turns.l0]
      rw [if_neg (by omega), if_neg (by omega), ← Int.natCast_emod]
      congr 1
      rw [Bool.eq_iff_iff]
      simp only [beq_iff_eq, decide_eq_true_eq]
      omega
    · rw [decide_eq_true_eq]
      exact ⟨fun h => ⟨h, fun j hj => hall j (by omega)⟩, fun h => h.1⟩
  | succ m ih =>
    intro i hi hall
    have hm := Nat.mod_lt i (show d > 0 by omega)
    by_cases c : r.getD i false = r.getD (i % d) false
    · obtain ⟨b, h1, h2⟩ := ih (i + 1) (by omega) (fun j hj => by
        rcases Nat.lt_or_ge j i with h | h
        · exact hall j h
        · obtain rfl : j = i := by omega
          exact c)
      refine ⟨b, Ev.step (fun k => ?_) h1, h2⟩
      simp only [impl_turns.l0]
      rw [if_pos (by omega), if_pos (by omega), if_pos (by omega), if_neg (by omega), tmod_nat, if_pos (by omega), if_pos (by omega), rdOf_nat, rdOf_nat, wr1 (by omega), if_neg (by rw [c]; simp)]
    · refine ⟨false, Ev.end fun k => ?_, ?_⟩
      · simp only [impl_turns.l0]
        rw [if_pos (by omega), if_pos (by omega), if_pos (by omega), if_neg (by omega), tmod_nat, if_pos (by omega), if_pos (by omega), rdOf_nat, rdOf_nat, if_pos (by simpa using c)]
      · exact ⟨fun h => absurd h (by simp), fun h => absurd (h.2 i (by omega)) c⟩
theorem turns_ev (r : List Bool) (hr : r.length ≤ 1073741824) (d : Nat) (hd : 1 ≤ d) (hdl : d ≤ r.length) : ∃ b : Bool, Ev (fun k => impl_turns.f k r d) b ∧ (b = true ↔ per r d) :=
  turns_l0 r hr d hd hdl r.length 0 (by omega) (fun j hj => absurd hj (Nat.not_lt_zero j))

theorem rot_append {r : List Bool} : ([r.getD (r.length - 1) false] : List Bool) ++ r.take (r.length - 1) = rot r := by
  simp [rot, List.dropLast_eq_take]

/-- The tail made short. -/
theorem tidy_l1 (n : Nat) : ∀ (t r : List Bool), t.length = n → t.length ≤ 1073741824 → 0 < r.length → r.length ≤ 1073741824 → (∀ d, 1 ≤ d → d < r.length → ¬ per r d) →
    ∃ t' r', Ev (fun k => impl_set_tidy.l1 k (r.length : Int) t r) (t', r') ∧ Canon t' r' ∧ (∀ m, hasB t' r' m = hasB t r m) ∧ t'.length ≤ t.length ∧ r'.length ≤ r.length := by
  induction n with
  | zero =>
    intro t r ht _ h1 h2 h3
    refine ⟨t, r, Ev.end fun k => ?_, ⟨h1, h3, fun m hm => by omega⟩, fun m => rfl, Nat.le_refl _, Nat.le_refl _⟩
    simp only [impl_set_tidy.l1]
    rw [if_neg (by omega)]
  | succ n ih =>
    intro t r ht htl h1 h2 h3
    have e1 : wrap64 ((t.length : Int) - 1) = (n : Nat) := by rw [wrm1 (by omega) (by omega)]; omega
    by_cases c : t.getD n false = r.getD (r.length - 1) false
    · have hl : (t.take n).length = n := by rw [List.length_take]; omega
      obtain ⟨t', r', g1, g2, g3, g4, g5⟩ := ih (t.take n) (rot r) hl (by omega) (by rw [rot_length h1]; exact h1) (by rw [rot_length h1]; exact h2) (fun d hd1 hd2 hp => by rw [rot_length h1] at hd2; exact h3 d hd1 hd2 (per_rot h1 hd1 hp))
      rw [rot_length h1] at g1 g5
      refine ⟨t', r', Ev.step (fun k => ?_) g1, g2, fun m => by rw [g3, has_rot ht h1 c], by omega, g5⟩
      simp only [impl_set_tidy.l1]
      rw [if_pos (by omega), e1, if_pos (by omega), if_pos (by omega), wrm1 h1 (by omega), if_pos (by omega), if_pos (by omega), rdOf_nat, rdOf_nat, if_pos (by rw [c]; simp), if_pos (by omega)]
      simp only [Option.bind_some]
      rw [if_pos (by omega)]
      rw [if_pos (by simp; omega), Int.toNat_natCast, Int.toNat_natCast, rot_append]
    · refine ⟨t, r, Ev.end fun k => ?_, ⟨h1, h3, fun m hm => (show n = m by omega) ▸ c⟩, fun m => rfl, Nat.le_refl _, Nat.le_refl _⟩
      simp only [impl_set_tidy.l1]
      rw [if_pos (by omega), e1, if_pos (by omega), if_pos (by omega), wrm1 h1 (by omega), if_pos (by omega), if_pos (by omega), rdOf_nat, rdOf_nat, if_neg (by simpa using c)]

theorem tidy_l0 (t r : List Bool) (ht : t.length ≤ 1073741824) (h1 : 0 < r.length) (h2 : r.length ≤ 1073741824) (m : Nat) : ∀ d, d + m = r.length → 1 ≤ d → (∀ e, 1 ≤ e → e < d → ¬ per r e) →
    ∃ t' r', Ev (fun k => impl_set_tidy.l0 k (d : Nat) t r) (t', r') ∧ Canon t' r' ∧ (∀ m, hasB t' r' m = hasB t r m) ∧ t'.length ≤ t.length ∧ r'.length ≤ r.length := by
  induction m with
  | zero =>
    intro d hd hd1 hno
    obtain ⟨b, hb, hb2⟩ := turns_ev r h2 d hd1 (by omega)
    have hp : per r d := ⟨by rw [show r.length = d from by omega]; exact Nat.mod_self d, fun i hi => by rw [Nat.mod_eq_of_lt (by omega)]⟩
    have hl : (r.take d).length = d := by rw [List.length_take]; omega
    obtain ⟨t', r', g1, g2, g3, g4, g5⟩ := tidy_l1 t.length t (r.take d) rfl ht (by omega) (by omega) (fun e he1 he2 hpe => hno e he1 (by omega) (per_take hd1 he1 (by omega) hp hpe))
    rw [hl] at g1 g5
    refine ⟨t', r', ?_, g2, fun m => by rw [g3, has_take hd1 h1 hp (by omega)], g4, by omega⟩
    refine Ev.step (f := fun k => (impl_turns.f k r d).bind fun x => if x = true then impl_set_tidy.l1 k d t (r.take d) else impl_set_tidy.l0 k (wrap64 (d + 1)) t r) (fun k => ?_) ?_
    · simp only [impl_set_tidy.l0, slices_Clone_bool_bool.f]
      rw [if_pos (by omega)]
      simp only [Option.bind_some]
      rw [if_pos (by omega), if_pos (by omega), Int.toNat_natCast, if_pos (by omega)]
      simp only [Option.bind_some]
    · exact Ev.bind hb (by simp only [if_pos (hb2.2 hp)]; exact g1)
  | succ m ih =>
    intro d hd hd1 hno
    obtain ⟨b, hb, hb2⟩ := turns_ev r h2 d hd1 (by omega)
    have hl : (r.take d).length = d := by rw [List.length_take]; omega
    have key : ∃ t' r', Ev (fun k => if b = true then impl_set_tidy.l1 k d t (r.take d) else impl_set_tidy.l0 k (wrap64 ((d : Nat) + 1)) t r) (t', r') ∧ Canon t' r' ∧ (∀ m, hasB t' r' m = hasB t r m) ∧ t'.length ≤ t.length ∧ r'.length ≤ r.length := by
      by_cases c : b = true
      · have hp := hb2.1 c
        obtain ⟨t', r', g1, g2, g3, g4, g5⟩ := tidy_l1 t.length t (r.take d) rfl ht (by omega) (by omega) (fun e he1 he2 hpe => hno e he1 (by omega) (per_take hd1 he1 (by omega) hp hpe))
        rw [hl] at g1 g5
        refine ⟨t', r', ?_, g2, fun m => by rw [g3, has_take hd1 h1 hp (by omega)], g4, by omega⟩
        simp only [if_pos c]
        exact g1
      · obtain ⟨t', r', g1, g2, g3, g4, g5⟩ := ih (d + 1) (by omega) (by omega) (fun e he1 he2 hpe => by
          rcases Nat.lt_or_ge e d with h | h
          · exact hno e he1 h hpe
          · obtain rfl : e = d := by omega
            exact c (hb2.2 hpe))
        refine ⟨t', r', ?_, g2, g3, g4, g5⟩
        simp only [if_neg c]
        rw [wr1 (by omega)]
        exact g1
    obtain ⟨t', r', g1, g2⟩ := key
    refine ⟨t', r', ?_, g2⟩
    refine Ev.step (f := fun k => (impl_turns.f k r d).bind fun x => if x = true then impl_set_tidy.l1 k d t (r.take d) else impl_set_tidy.l0 k (wrap64 (d + 1)) t r) (fun k => ?_) (Ev.bind hb g1)
    simp only [impl_set_tidy.l0, slices_Clone_bool_bool.f]
    rw [if_pos (by omega)]
    simp only [Option.bind_some]
    rw [if_pos (by omega), if_pos (by omega), Int.toNat_natCast, if_pos (by omega)]
    simp only [Option.bind_some]

theorem tidy_ev {t r : List Bool} (h : Good t r) : ∃ t' r', Ev (fun k => impl_set_tidy.f k t r) (t', r') ∧ Canon t' r' ∧ (∀ m, hasB t' r' m = hasB t r m) ∧ t'.length ≤ t.length ∧ r'.length ≤ r.length := by
  have h1 := h.pos
  have h2 := h.tl
  have h3 := h.rl
  exact tidy_l0 t r (by omega) h1 (by omega) (r.length - 1) 1 (by omega) (by omega) (fun e he1 he2 => by omega)

/-- 'comes again behind d' in the reference's words. -/
theorem per_steps (r : List Bool) (d : Nat) (hd : 1 ≤ d) : (∀ i, d ≤ i → i < r.length → r.getD i false = r.getD (i - d) false) ↔ ∀ i, i < r.length → r.getD i false = r.getD (i % d) false := by
  constructor
  · intro h i
    induction i using Nat.strongRecOn with
    | _ i ih =>
      intro hi
      rcases Nat.lt_or_ge i d with c | c
      · rw [Nat.mod_eq_of_lt c]
      · rw [h i c hi, ih (i - d) (by omega) (by omega), ← Nat.mod_eq_sub_mod c]
  · intro h i h1 h2
    rw [h i h2, h (i - d) (by omega), ← Nat.mod_eq_sub_mod h1]

/-- The reference's inner loop. -/
theorem less_l1 (t r : List Bool) (hr : r.length ≤ 1073741824) (d : Nat) (hd : 1 ≤ d) (hdl : d < r.length) (g : Bool → Nat → Option (List Bool × List Bool))
    (hgt : ∀ k, g true k = (spec_l1Less.f k t (r.take d)).bind fun x => some (x.1, x.2)) (hgf : ∀ k, g false k = spec_l1Less.l0 k (r.length : Int) ((d + 1 : Nat) : Int) t r) (res : List Bool × List Bool) (m : Nat) :
    ∀ i (b : Bool), i + m = r.length → d ≤ i → (b = true ↔ r.length % d = 0 ∧ ∀ j, d ≤ j → j < i → r.getD j false = r.getD (j - d) false) →
      (∀ c : Bool, (c = true ↔ r.length % d = 0 ∧ ∀ j, d ≤ j → j < r.length → r.getD j false = r.getD (j - d) false) → Ev (g c) res) → Ev (fun k => spec_l1Less.l1 k (r.length : Int) (d : Nat) b (i : Nat) t r) res := by
  induction m with
  | zero =>
    intro i b hi hdi hb hres
    obtain rfl : i = r.length := by omega
    refine Ev.step (fun k => ?_) (hres b hb)
    simp only [spec_l1Less.l1]
    rw [if_neg (by omega)]
    cases b with
    | true => rw [if_pos rfl, if_pos (by omega), if_pos (by omega), Int.toNat_natCast, hgt]
    | false => rw [if_neg (by simp), wr1 (by omega), hgf]
  | succ m ih =>
    intro i b hi hdi hb hres
    cases b with
    | true =>
      have h1 := hb.1 rfl
      have e : wrap64 ((i : Int) - (d : Int)) = ((i - d : Nat) : Int) := by rw [wr (by omega) (by omega)]; omega
      refine Ev.step (fun k => ?_) (ih (i + 1) (r.getD i false == r.getD (i - d) false) (by omega) (by omega) ?_ hres)
      · simp only [spec_l1Less.l1, if_true]
        rw [if_pos (by omega), if_pos (by omega), if_pos (by omega), e, if_pos (by omega), if_pos (by omega), rdOf_nat, rdOf_nat, wr1 (by omega)]
      · rw [beq_iff_eq]
        constructor
        · intro c
          refine ⟨h1.1, fun j hj1 hj2 => ?_⟩
          rcases Nat.lt_or_ge j i with h | h
          · exact h1.2 j hj1 h
          · obtain rfl : j = i := by omega
            exact c
        · intro c
          exact c.2 i hdi (by omega)
    | false =>
      refine Ev.step (fun k => ?_) (hres false ⟨fun h => (by cases h), fun h => (hb.2 ⟨h.1, fun j hj1 hj2 => h.2 j hj1 (by omega)⟩)⟩)
      simp only [spec_l1Less.l1]
      rw [if_pos (by omega), if_neg (by simp), wr1 (by omega), hgf]

theorem less_ev (n : Nat) : ∀ t r : List Bool, t.length + r.length = n → t.length ≤ 1073741824 → 0 < r.length → r.length ≤ 1073741824 →
    ∃ t' r', Ev (fun k => spec_l1Less.f k t r) (t', r') ∧ Canon t' r' ∧ (∀ m, hasB t' r' m = hasB t r m) ∧ t'.length ≤ t.length ∧ r'.length ≤ r.length := by
  induction n using Nat.strongRecOn with
  | _ n ih =>
    intro t r hn ht h1 h2
    have loop : ∀ m d, d + m = r.length → 1 ≤ d → (∀ e, 1 ≤ e → e < d → ¬ per r e) → ∃ t' r', Ev (fun k => spec_l1Less.l0 k (r.length : Int) (d : Nat) t r) (t', r') ∧ Canon t' r' ∧ (∀ m, hasB t' r' m = hasB t r m) ∧ t'.length ≤ t.length ∧ r'.length ≤ r.length := by
      intro m
      induction m with
      | zero =>
        intro d hd hd1 hno
        obtain rfl : d = r.length := by omega
        by_cases ct : t.length = 0
        · refine ⟨t, r, Ev.end fun k => ?_, ⟨h1, hno, fun m hm => by omega⟩, fun m => rfl, Nat.le_refl _, Nat.le_refl _⟩
          simp only [spec_l1Less.l0]
          rw [if_neg (by omega), if_neg (by omega)]
        · obtain ⟨q, hq⟩ : ∃ q, t.length = q + 1 := ⟨t.length - 1, by omega⟩
          have e1 : wrap64 ((t.length : Int) - 1) = (q : Nat) := by rw [wrm1 (by omega) (by omega)]; omega
          by_cases c : t.getD q false = r.getD (r.length - 1) false
          · have hl : (t.take q).length = q := by rw [List.length_take]; omega
            obtain ⟨t', r', g1, g2, g3, g4, g5⟩ := ih (q + r.length) (by omega) (t.take q) (rot r) (by rw [rot_length h1, hl]) (by omega) (by rw [rot_length h1]; exact h1) (by rw [rot_length h1]; exact h2)
            rw [rot_length h1] at g5
            refine ⟨t', r', Ev.step (f := fun k => (spec_l1Less.f k (t.take q) (rot r)).bind fun x => some (x.1, x.2)) (fun k => ?_) (Ev.bind g1 (Ev.now _)), g2, fun m => by rw [g3, has_rot hq h1 c], by omega, g5⟩
            simp only [spec_l1Less.l0]
            rw [if_neg (by omega), if_pos (by omega), e1, if_pos (by omega), if_pos (by omega), wrm1 h1 (by omega), if_pos (by omega), if_pos (by omega), rdOf_nat, rdOf_nat, if_pos (by rw [c]; simp)]
            simp only [Option.bind_some]
            rw [if_pos (by omega)]
            rw [if_pos (by simp; omega), if_pos (by omega), Int.toNat_natCast, Int.toNat_natCast, rot_append]
          · refine ⟨t, r, Ev.end fun k => ?_, ⟨h1, hno, fun m hm => (show q = m by omega) ▸ c⟩, fun m => rfl, Nat.le_refl _, Nat.le_refl _⟩
            simp only [spec_l1Less.l0]
            rw [if_neg (by omega), if_pos (by omega), e1, if_pos (by omega), if_pos (by omega), wrm1 h1 (by omega), if_pos (by omega), if_pos (by omega), rdOf_nat, rdOf_nat, if_neg (by simpa using c)]
      | succ m ihm =>
        intro d hd hd1 hno
        have hl : (r.take d).length = d := by rw [List.length_take]; omega
        have hstep : ∀ res, Ev (fun k => spec_l1Less.l1 k (r.length : Int) (d : Nat) (decide (r.length % d = 0)) (d : Nat) t r) res → Ev (fun k => spec_l1Less.l0 k (r.length : Int) (d : Nat) t r) res := by
          intro res hres
          refine Ev.step (fun k => ?_) hres
          simp only [spec_l1Less.l0]
          rw [if_pos (by omega), if_neg (by omega), tmod_nat]
          congr 1
          rw [Bool.eq_iff_iff]
          simp only [beq_iff_eq, decide_eq_true_eq]
          omega
        by_cases hp : per r d
        · obtain ⟨t', r', g1, g2, g3, g4, g5⟩ := ih (t.length + d) (by omega) t (r.take d) (by rw [hl]) ht (by omega) (by omega)
          refine ⟨t', r', hstep _ ?_, g2, fun m => by rw [g3, has_take hd1 h1 hp (by omega)], g4, by omega⟩
          refine less_l1 t r h2 d hd1 (by omega) (fun b k => if b = true then (spec_l1Less.f k t (r.take d)).bind fun x => some (x.1, x.2) else spec_l1Less.l0 k (r.length : Int) ((d + 1 : Nat) : Int) t r) (fun k => if_pos rfl) (fun k => if_neg (by simp)) (t', r') m.succ d (decide (r.length % d = 0)) (by omega) (Nat.le_refl _) ?_ ?_
          · rw [decide_eq_true_eq]
            exact ⟨fun h => ⟨h, fun j a b => by omega⟩, fun h => h.1⟩
          · intro c hc
            have : c = true := hc.2 ⟨hp.1, (per_steps r d hd1).2 hp.2⟩
            subst this
            simp only [if_true]
            exact Ev.bind g1 (Ev.now _)
        · obtain ⟨t', r', g1, g2, g3, g4, g5⟩ := ihm (d + 1) (by omega) (by omega) (fun e he1 he2 hpe => by
            rcases Nat.lt_or_ge e d with h | h
            · exact hno e he1 h hpe
            · obtain rfl : e = d := by omega
              exact hp hpe)
          refine ⟨t', r', hstep _ ?_, g2, g3, g4, g5⟩
          refine less_l1 t r h2 d hd1 (by omega) (fun b k => if b = true then (spec_l1Less.f k t (r.take d)).bind fun x => some (x.1, x.2) else spec_l1Less.l0 k (r.length : Int) ((d + 1 : Nat) : Int) t r) (fun k => if_pos rfl) (fun k => if_neg (by simp)) (t', r') m.succ d (decide (r.length % d = 0)) (by omega) (Nat.le_refl _) ?_ ?_
          · rw [decide_eq_true_eq]
            exact ⟨fun h => ⟨h, fun j a b => by omega⟩, fun h => h.1⟩
          · intro c hc
            have : ¬ c = true := fun h => hp ⟨(hc.1 h).1, (per_steps r d hd1).1 (hc.1 h).2⟩
            simp only [if_neg this]
            exact g1
    obtain ⟨t', r', g1, g2⟩ := loop (r.length - 1) 1 (by omega) (by omega) (fun e he1 he2 => by omega)
    exact ⟨t', r', Ev.step (fun k => by simp only [spec_l1Less.f]; rfl) g1, g2⟩

/-- The tidy form of a set, for both. -/
structure Tidied (t r t' r' : List Bool) : Prop where
  impl : Ev (fun k => impl_set_tidy.f k t r) (t', r')
  spec : Ev (fun k => spec_l1Less.f k t r) (t', r')
  canon : Canon t' r'
  same : ∀ n, hasB t' r' n = hasB t r n
  good : Good t' r'
  tle : t'.length ≤ t.length
  rle : r'.length ≤ r.length
theorem tidied {t r : List Bool} (h : Good t r) : ∃ t' r', Tidied t r t' r' := by
  have h1 := h.pos
  have h2 := h.tl
  have h3 := h.rl
  obtain ⟨t', r', g1, g2, g3, g4, g5⟩ := tidy_ev h
  obtain ⟨t2, r2, k1, k2, k3, k4, k5⟩ := less_ev (t.length + r.length) t r rfl (by omega) h1 (by omega)
  obtain ⟨rfl, rfl⟩ := canon_unique g2 k2 (fun n => by rw [g3, k3])
  exact ⟨t', r', g1, k1, g2, g3, ⟨g2.pos, by omega, by omega⟩, g4, g5⟩

end Go.Proofs.Ytcbgflejdgcmeaa.Q

namespace Go.Proofs.Ytcbgflejdgcmeaa.Q
open Go.RowKit Go.Proofs.YtcbgflejdgcmeaaW.PrintWords Go.Proofs.YtcbgflejdgcmeaaW.PrintLast Go.Proofs.YtcbgflejdgcmeaaW.PrintMore
open Go.Proofs.Ytcbgflejdgcmeaa.Pl
set_option linter.unusedVariables false
set_option linter.unusedSimpArgs false

structure IsSmall (s : ByteArray) (t r : List Bool) : Prop where
  orig : ∃ t0 r0, IsSet s t0 r0 ∧ Tidied t0 r0 t r
  good : Good t r
  tl : t.length ≤ 8
  rl : r.length ≤ 8
  impl : Ev (fun k => impl_small.f k s) (t, r, true)
  spec : Ev (fun k => spec_l4Small.f k s) (t, r, true)
structure NoSmall (s : ByteArray) : Prop where
  impl : ∃ a b, Ev (fun k => impl_small.f k s) (a, b, false)
  spec : ∃ a b, Ev (fun k => spec_l4Small.f k s) (a, b, false)
theorem small_cases (s : ByteArray) (hs : s.size ≤ 1073741824) : NoSmall s ∨ ∃ t r, IsSmall s t r := by
  rcases read_cases s hs with h | ⟨t0, r0, h⟩
  · left
    obtain ⟨⟨a, b, ha⟩, ⟨a', b', hb⟩⟩ := h
    refine ⟨⟨[], [], ?_⟩, ⟨a', b', ?_⟩⟩
    · unfold impl_small.f impl_tidied.f
      rw [ha]; simp only [Option.bind_some, Bool.false_eq_true, if_false]
      exact Ev.now _
    · unfold spec_l4Small.f
      refine Ev.bind hb ?_
      simp only [Bool.false_eq_true, if_false]
      exact Ev.now _
  · obtain ⟨t, r, hT⟩ := tidied h.good
    have hi : Ev (fun k => impl_small.f k s) (t, r, decide ((t.length : Int) ≤ 8) && decide ((r.length : Int) ≤ 8)) := by
      unfold impl_small.f impl_tidied.f
      rw [h.impl]; simp only [Option.bind_some, if_true]
      refine Ev.bind (a := (t, r, true)) (Ev.bind hT.impl (Ev.now _)) (Ev.const fun k => ?_)
      rw [if_pos rfl]
      by_cases c : (t.length : Int) ≤ 8
      · rw [if_pos c, decide_eq_true c]; rfl
      · rw [if_neg c, decide_eq_false c]; rfl
    have hs : Ev (fun k => spec_l4Small.f k s) (t, r, decide ((t.length : Int) ≤ 8) && decide ((r.length : Int) ≤ 8)) := by
      unfold spec_l4Small.f
      refine Ev.bind h.spec ?_
      simp only [if_true]
      refine Ev.bind hT.spec (Ev.const fun k => ?_)
      by_cases c : (t.length : Int) ≤ 8
      · rw [if_pos c, decide_eq_true c]; rfl
      · rw [if_neg c, decide_eq_false c]; rfl
    by_cases c : t.length ≤ 8 ∧ r.length ≤ 8
    · right
      rw [decide_eq_true (by omega), decide_eq_true (by omega)] at hi hs
      exact ⟨t, r, ⟨t0, r0, h, hT⟩, hT.good, c.1, c.2, hi, hs⟩
    · left
      have : (decide ((t.length : Int) ≤ 8) && decide ((r.length : Int) ≤ 8)) = false := by
        by_cases c1 : t.length ≤ 8
        · rw [decide_eq_false (show ¬ (r.length : Int) ≤ 8 by omega), Bool.and_false]
        · rw [decide_eq_false (show ¬ (t.length : Int) ≤ 8 by omega), Bool.false_and]
      rw [this] at hi hs
      exact ⟨⟨t, r, hi⟩, ⟨t, r, hs⟩⟩
theorem getD_set_self (l : List Bool) (i : Nat) (v : Bool) (h : i < l.length) : (l.set i v).getD i false = v := by simp [List.getD, h]
theorem getD_set_ne (l : List Bool) {i j : Nat} (v : Bool) (h : i ≠ j) : (l.set i v).getD j false = l.getD j false := by simp [List.getD, h]
end Go.Proofs.Ytcbgflejdgcmeaa.Q

namespace Go.Proofs.Ytcbgflejdgcmeaa.Q
open Go.RowKit Go.Proofs.YtcbgflejdgcmeaaW.PrintWords Go.Proofs.YtcbgflejdgcmeaaW.PrintLast Go.Proofs.YtcbgflejdgcmeaaW.PrintMore
open Go.Proofs.Ytcbgflejdgcmeaa.Pl
set_option linter.unusedVariables false
set_option linter.unusedSimpArgs false

theorem wrs {a b : Nat} (h : b ≤ a) (ha : a ≤ 4611686018427387904) : wrap64 ((a : Int) - (b : Int)) = ((a - b : Nat) : Int) := by rw [wr (by omega) (by omega)]; omega

theorem star_l1 {t r : List Bool} (h : Good t r) (m : Nat) (hm : m ≤ 1000000) (i : Nat) (hi : i < m) (P : List Bool → Prop)
    (hend : ∀ l, l.length = m → (∀ j, j < i + 1 → l.getD j false = star (hasB t r) j) → ∃ l', Ev (fun k => impl_star.l0 k l m ((i + 1 : Nat) : Int) t r) l' ∧ P l') (d : Nat) :
    ∀ (q : Nat) (l : List Bool), q + d = i + 1 → 1 ≤ q → l.length = m → (∀ j, j < i → l.getD j false = star (hasB t r) j) → (l.getD i false = true → star (hasB t r) i = true) → (l.getD i false = false → 1 ≤ i ∧ ∀ y, 1 ≤ y → y < q → ¬ (hasB t r y = true ∧ star (hasB t r) (i - y) = true)) →
      ∃ l', Ev (fun k => impl_star.l1 k l (i : Nat) (q : Nat) m (i : Nat) t r) l' ∧ P l' := by
  have fin : ∀ l : List Bool, l.length = m → (∀ j, j < i → l.getD j false = star (hasB t r) j) → l.getD i false = star (hasB t r) i → ∃ l', Ev (fun k => impl_star.l0 k l m ((i + 1 : Nat) : Int) t r) l' ∧ P l' := by
    intro l hl ha hb
    refine hend l hl fun j hj => ?_
    rcases Nat.lt_or_ge j i with c | c
    · exact ha j c
    · obtain rfl : j = i := by omega
      exact hb
  induction d with
  | zero =>
    intro q l hq h1 hl ha hb hc
    have hb' : l.getD i false = star (hasB t r) i := by
      cases e : l.getD i false with
      | true => exact (hb e).symm
      | false =>
        obtain ⟨g1, g2⟩ := hc e
        cases es : star (hasB t r) i with
        | false => rfl
        | true =>
          obtain ⟨y, p1, p2, p3, p4⟩ := (star_iff _ g1).1 es
          exact absurd ⟨p3, p4⟩ (g2 y p1 (by omega))
    obtain ⟨l', k1, k2⟩ := fin l hl ha hb'
    refine ⟨l', Ev.step (fun k => ?_) k1, k2⟩
    simp only [impl_star.l1]
    rw [if_neg (by omega), wr1 (by omega)]
  | succ d ih =>
    intro q l hq h1 hl ha hb hc
    cases e : l.getD i false with
    | true =>
      obtain ⟨l', k1, k2⟩ := fin l hl ha (by rw [e, hb e])
      refine ⟨l', Ev.step (fun k => ?_) k1, k2⟩
      simp only [impl_star.l1]
      rw [if_pos (by omega), if_pos (by omega), if_pos (by omega), rdOf_nat, if_pos e, wr1 (by omega)]
    | false =>
      obtain ⟨g1, g2⟩ := hc e
      have nx : ∀ v : Bool, (v = true ↔ hasB t r q = true ∧ star (hasB t r) (i - q) = true) → ∃ l', Ev (fun k => impl_star.l1 k (l.set i v) (i : Nat) ((q + 1 : Nat) : Int) m (i : Nat) t r) l' ∧ P l' := by
        intro v hv
        refine ih (q + 1) (l.set i v) (by omega) (by omega) (by rw [List.length_set, hl]) (fun j hj => by rw [getD_set_ne _ _ (by omega)]; exact ha j hj) ?_ ?_
        · rw [getD_set_self _ _ _ (by omega)]
          intro hv1
          obtain ⟨p1, p2⟩ := hv.1 hv1
          exact (star_iff _ g1).2 ⟨q, h1, by omega, p1, p2⟩
        · rw [getD_set_self _ _ _ (by omega)]
          intro hv1
          refine ⟨g1, fun y a b => ?_⟩
          rcases Nat.lt_or_ge y q with c | c
          · exact g2 y a c
          · obtain rfl : y = q := by omega
            intro hx
            rw [hv.2 hx] at hv1
            cases hv1
      by_cases c : hasB t r q = true
      · obtain ⟨l', k1, k2⟩ := nx (l.getD (i - q) false) (by rw [ha (i - q) (by omega)]; exact ⟨fun h => ⟨c, h⟩, fun h => h.2⟩)
        refine ⟨l', Ev.step (fun k => ?_) k1, k2⟩
        simp only [impl_star.l1]
        rw [if_pos (by omega), if_pos (by omega), if_pos (by omega), rdOf_nat, if_neg (by rw [e]; simp), set_has h q (by omega)]
        simp only [Option.bind_some]
        rw [if_pos c, wrs (by omega) (by omega), if_pos (by omega), if_pos (by omega), rdOf_nat, wr1 (by omega), Int.toNat_natCast]
      · obtain ⟨l', k1, k2⟩ := nx false (by simp [c])
        refine ⟨l', Ev.step (fun k => ?_) k1, k2⟩
        simp only [impl_star.l1]
        rw [if_pos (by omega), if_pos (by omega), if_pos (by omega), rdOf_nat, if_neg (by rw [e]; simp), set_has h q (by omega)]
        simp only [Option.bind_some]
        rw [if_neg c, wr1 (by omega), Int.toNat_natCast]
/-- A list that tells f up to its length. -/
structure Tells (l : List Bool) (f : Nat → Bool) (m : Nat) : Prop where
  len : l.length = m
  get : ∀ j, j < m → l.getD j false = f j
theorem star_l0 {t r : List Bool} (h : Good t r) (m : Nat) (hm : m ≤ 1000000) (d : Nat) : ∀ (i : Nat) (l : List Bool), i + d = m → l.length = m → (∀ j, j < i → l.getD j false = star (hasB t r) j) → ∃ l', Ev (fun k => impl_star.l0 k l m (i : Nat) t r) l' ∧ Tells l' (star (hasB t r)) m := by
  induction d with
  | zero =>
    intro i l hi hl ha
    obtain rfl : i = m := by omega
    refine ⟨l, Ev.end fun k => ?_, hl, ha⟩
    simp only [impl_star.l0]
    rw [if_neg (by omega)]
  | succ d ih =>
    intro i l hi hl ha
    obtain ⟨l', k1, k2⟩ := star_l1 h m hm i (by omega) (fun l' => Tells l' (star (hasB t r)) m) (fun l hl ha => ih (i + 1) l (by omega) hl ha) i 1 (l.set i (decide (i = 0))) (by omega) (by omega) (by rw [List.length_set, hl]) (fun j hj => by rw [getD_set_ne _ _ (by omega)]; exact ha j hj)
      (by rw [getD_set_self _ _ _ (by omega)]; intro h0; have := of_decide_eq_true h0; subst this; exact star_zero _)
      (by rw [getD_set_self _ _ _ (by omega)]; intro h0; have := of_decide_eq_false h0; exact ⟨by omega, fun y a b => by omega⟩)
    refine ⟨l', Ev.step (fun k => ?_) k1, k2⟩
    simp only [impl_star.l0]
    rw [if_pos (by omega), if_pos (by omega), if_pos (by omega), Int.toNat_natCast]
    congr 2
    rw [Bool.eq_iff_iff, beq_iff_eq, decide_eq_true_eq]; omega
theorem star_ev {t r : List Bool} (h : Good t r) (m : Nat) (hm : m ≤ 1000000) : ∃ l, Ev (fun k => impl_star.f k t r m) l ∧ Tells l (star (hasB t r)) m := by
  obtain ⟨l, k1, k2⟩ := star_l0 h m hm m 0 (List.replicate m false) (by omega) (List.length_replicate ..) (fun j hj => absurd hj (Nat.not_lt_zero j))
  refine ⟨l, ?_, k2⟩
  unfold impl_star.f
  simp only [if_pos (show (0 : Int) ≤ (m : Int) by omega), Int.toNat_natCast, if_pos (show m ≤ 281474976710656 by omega), Option.bind_some, List.length_replicate]
  exact k1

theorem solved_l1 {ta ra tb rb : List Bool} (hb : Good tb rb) (m : Nat) (hm : m ≤ 1000000) (st : List Bool) (hst : Tells st (star (hasB ta ra)) m) (i : Nat) (hi : i < m) (P : List Bool → Prop)
    (hend : ∀ l, l.length = m → (∀ j, j < i + 1 → l.getD j false = lst (hasB ta ra) (hasB tb rb) j) → (∀ j, i < j → l.getD j false = false) → ∃ l', Ev (fun k => impl_solved.l0 k st l m ((i + 1 : Nat) : Int) tb rb) l' ∧ P l') (d : Nat) :
    ∀ (q : Nat) (l : List Bool), q + d = i + 1 → l.length = m → (∀ j, j < i → l.getD j false = lst (hasB ta ra) (hasB tb rb) j) → (∀ j, i < j → l.getD j false = false) → (l.getD i false = true → lst (hasB ta ra) (hasB tb rb) i = true) → (l.getD i false = false → ∀ y, y < q → ¬ (star (hasB ta ra) y = true ∧ hasB tb rb (i - y) = true)) →
      ∃ l', Ev (fun k => impl_solved.l1 k st l (i : Nat) (q : Nat) m (i : Nat) tb rb) l' ∧ P l' := by
  have fin : ∀ l : List Bool, l.length = m → (∀ j, j < i → l.getD j false = lst (hasB ta ra) (hasB tb rb) j) → (∀ j, i < j → l.getD j false = false) → l.getD i false = lst (hasB ta ra) (hasB tb rb) i → ∃ l', Ev (fun k => impl_solved.l0 k st l m ((i + 1 : Nat) : Int) tb rb) l' ∧ P l' := by
    intro l hl ha hz hb
    refine hend l hl (fun j hj => ?_) hz
    rcases Nat.lt_or_ge j i with c | c
    · exact ha j c
    · obtain rfl : j = i := by omega
      exact hb
  have sl := hst.len
  induction d with
  | zero =>
    intro q l hq hl ha hz hb1 hc
    have hb' : l.getD i false = lst (hasB ta ra) (hasB tb rb) i := by
      cases e : l.getD i false with
      | true => exact (hb1 e).symm
      | false =>
        have g2 := hc e
        cases es : lst (hasB ta ra) (hasB tb rb) i with
        | false => rfl
        | true =>
          obtain ⟨y, p1, p2, p3⟩ := (sumB_iff _ _ _).1 es
          exact absurd ⟨p2, p3⟩ (g2 y (by omega))
    obtain ⟨l', k1, k2⟩ := fin l hl ha hz hb'
    refine ⟨l', Ev.step (fun k => ?_) k1, k2⟩
    simp only [impl_solved.l1]
    rw [if_neg (by omega), wr1 (by omega)]
  | succ d ih =>
    intro q l hq hl ha hz hb1 hc
    cases e : l.getD i false with
    | true =>
      obtain ⟨l', k1, k2⟩ := fin l hl ha hz (by rw [e, hb1 e])
      refine ⟨l', Ev.step (fun k => ?_) k1, k2⟩
      simp only [impl_solved.l1]
      rw [if_pos (by omega), if_pos (by omega), if_pos (by omega), rdOf_nat, if_pos e, wr1 (by omega)]
    | false =>
      have g2 := hc e
      have nx : ∀ v : Bool, (v = true ↔ star (hasB ta ra) q = true ∧ hasB tb rb (i - q) = true) → ∃ l', Ev (fun k => impl_solved.l1 k st (l.set i v) (i : Nat) ((q + 1 : Nat) : Int) m (i : Nat) tb rb) l' ∧ P l' := by
        intro v hv
        refine ih (q + 1) (l.set i v) (by omega) (by rw [List.length_set, hl]) (fun j hj => by rw [getD_set_ne _ _ (by omega)]; exact ha j hj) (fun j hj => by rw [getD_set_ne _ _ (by omega)]; exact hz j hj) ?_ ?_
        · rw [getD_set_self _ _ _ (by omega)]
          intro hv1
          obtain ⟨p1, p2⟩ := hv.1 hv1
          exact (sumB_iff _ _ _).2 ⟨q, by omega, p1, p2⟩
        · rw [getD_set_self _ _ _ (by omega)]
          intro hv1 y b
          rcases Nat.lt_or_ge y q with c | c
          · exact g2 y c
          · obtain rfl : y = q := by omega
            intro hx
            rw [hv.2 hx] at hv1
            cases hv1
      have hq2 := hst.get q (by omega)
      by_cases c : st.getD q false = true
      · obtain ⟨l', k1, k2⟩ := nx (hasB tb rb (i - q)) ⟨fun h => ⟨by rw [← hq2]; exact c, h⟩, fun h => h.2⟩
        refine ⟨l', Ev.step (fun k => ?_) k1, k2⟩
        simp only [impl_solved.l1]
        rw [if_pos (by omega), if_pos (by omega), if_pos (by omega), rdOf_nat, if_neg (by rw [e]; simp), if_pos (by omega), if_pos (by omega), rdOf_nat, if_pos c, wrs (by omega) (by omega), set_has hb (i - q) (by omega)]
        simp only [Option.bind_some]
        rw [wr1 (by omega), Int.toNat_natCast]
      · obtain ⟨l', k1, k2⟩ := nx false ⟨fun h => absurd h (by simp), fun h => absurd (by rw [hq2]; exact h.1) c⟩
        refine ⟨l', Ev.step (fun k => ?_) k1, k2⟩
        simp only [impl_solved.l1]
        rw [if_pos (by omega), if_pos (by omega), if_pos (by omega), rdOf_nat, if_neg (by rw [e]; simp), if_pos (by omega), if_pos (by omega), rdOf_nat, if_neg c, wr1 (by omega), Int.toNat_natCast]
theorem solved_l0 {ta ra tb rb : List Bool} (hb : Good tb rb) (m : Nat) (hm : m ≤ 1000000) (st : List Bool) (hst : Tells st (star (hasB ta ra)) m) (d : Nat) : ∀ (i : Nat) (l : List Bool), i + d = m → l.length = m → (∀ j, j < i → l.getD j false = lst (hasB ta ra) (hasB tb rb) j) → (∀ j, i ≤ j → l.getD j false = false) → ∃ l', Ev (fun k => impl_solved.l0 k st l m (i : Nat) tb rb) l' ∧ Tells l' (lst (hasB ta ra) (hasB tb rb)) m := by
  induction d with
  | zero =>
    intro i l hi hl ha _
    obtain rfl : i = m := by omega
    refine ⟨l, Ev.end fun k => ?_, hl, ha⟩
    simp only [impl_solved.l0]
    rw [if_neg (by omega)]
  | succ d ih =>
    intro i l hi hl ha hf
    obtain ⟨l', k1, k2⟩ := solved_l1 hb m hm st hst i (by omega) (fun l' => Tells l' (lst (hasB ta ra) (hasB tb rb)) m) (fun l hl ha hz => ih (i + 1) l (by omega) hl ha (fun j hj => hz j (by omega))) (i + 1) 0 l (by omega) hl ha (fun j hj => hf j (by omega)) (fun h => by rw [hf i (Nat.le_refl _)] at h; cases h) (fun _ y hy => by omega)
    refine ⟨l', Ev.step (fun k => ?_) k1, k2⟩
    simp only [impl_solved.l0]
    rw [if_pos (by omega)]
    rfl
theorem solved_ev {ta ra tb rb : List Bool} (ha : Good ta ra) (hb : Good tb rb) (m : Nat) (hm : m ≤ 1000000) : ∃ l, Ev (fun k => impl_solved.f k ta ra tb rb m) l ∧ Tells l (lst (hasB ta ra) (hasB tb rb)) m := by
  obtain ⟨st, s1, s2⟩ := star_ev ha m hm
  obtain ⟨l, k1, k2⟩ := solved_l0 hb m hm st s2 m 0 (List.replicate m false) (by omega) (List.length_replicate ..) (fun j hj => absurd hj (Nat.not_lt_zero j)) (fun j _ => by simp only [List.getD, List.getElem?_replicate]; split <;> rfl)
  refine ⟨l, ?_, k2⟩
  unfold impl_solved.f
  refine Ev.bind s1 ?_
  simp only [if_pos (show (0 : Int) ≤ (m : Int) by omega), Int.toNat_natCast, if_pos (show m ≤ 281474976710656 by omega), Option.bind_some, List.length_replicate]
  exact k1

theorem least_l1 {ta ra tb rb : List Bool} (hA : Good ta ra) (hb : Good tb rb) (m : Nat) (hm : m ≤ 1000000) (i : Nat) (hi : i < m) (P : List Bool → Prop)
    (hend : ∀ l, l.length = m → (∀ j, j < i + 1 → l.getD j false = lst (hasB ta ra) (hasB tb rb) j) → ∃ l', Ev (fun k => spec_l8Least.l0 k m l ((i + 1 : Nat) : Int) ta ra tb rb) l' ∧ P l') (d : Nat) :
    ∀ (q : Nat) (l : List Bool), q + d = i + 1 → 1 ≤ q → l.length = m → (∀ j, j < i → l.getD j false = lst (hasB ta ra) (hasB tb rb) j) → (l.getD i false = true ↔ hasB tb rb i = true ∨ ∃ y, 1 ≤ y ∧ y < q ∧ hasB ta ra y = true ∧ lst (hasB ta ra) (hasB tb rb) (i - y) = true) →
      ∃ l', Ev (fun k => spec_l8Least.l1 k m l (i : Nat) (q : Nat) ta ra tb rb) l' ∧ P l' := by
  induction d with
  | zero =>
    intro q l hq h1 hl ha hb1
    obtain ⟨l', k1, k2⟩ := hend l hl fun j hj => by
      rcases Nat.lt_or_ge j i with c | c
      · exact ha j c
      · obtain rfl : j = i := by omega
        rw [Bool.eq_iff_iff, hb1, lst_iff]
        constructor
        · rintro (h | ⟨y, a, b, c⟩)
          · exact .inl h
          · exact .inr ⟨y, a, by omega, c⟩
        · rintro (h | ⟨y, a, b, c⟩)
          · exact .inl h
          · exact .inr ⟨y, a, by omega, c⟩
    refine ⟨l', Ev.step (fun k => ?_) k1, k2⟩
    simp only [spec_l8Least.l1]
    rw [if_neg (by omega), wr1 (by omega)]
  | succ d ih =>
    intro q l hq h1 hl ha hb1
    have nx : ∀ v : Bool, (v = true ↔ l.getD i false = true ∨ (hasB ta ra q = true ∧ lst (hasB ta ra) (hasB tb rb) (i - q) = true)) → ∃ l', Ev (fun k => spec_l8Least.l1 k m (l.set i v) (i : Nat) ((q + 1 : Nat) : Int) ta ra tb rb) l' ∧ P l' := by
      intro v hv
      refine ih (q + 1) (l.set i v) (by omega) (by omega) (by rw [List.length_set, hl]) (fun j hj => by rw [getD_set_ne _ _ (by omega)]; exact ha j hj) ?_
      rw [getD_set_self _ _ _ (by omega), hv, hb1]
      constructor
      · rintro ((h | ⟨y, a, b, c⟩) | h)
        · exact .inl h
        · exact .inr ⟨y, a, by omega, c⟩
        · exact .inr ⟨q, h1, by omega, h⟩
      · rintro (h | ⟨y, a, b, c⟩)
        · exact .inl (.inl h)
        · rcases Nat.lt_or_ge y q with e | e
          · exact .inl (.inr ⟨y, a, e, c⟩)
          · obtain rfl : y = q := by omega
            exact .inr c
    cases e : l.getD i false with
    | true =>
      obtain ⟨l', k1, k2⟩ := nx true ⟨fun _ => .inl e, fun _ => rfl⟩
      refine ⟨l', Ev.step (fun k => ?_) k1, k2⟩
      simp only [spec_l8Least.l1]
      rw [if_pos (by omega), if_pos (by omega), if_pos (by omega), rdOf_nat, if_pos e, wr1 (by omega), Int.toNat_natCast]
    | false =>
      by_cases c : hasB ta ra q = true
      · obtain ⟨l', k1, k2⟩ := nx (l.getD (i - q) false) (by rw [ha (i - q) (by omega), e]; simp [c])
        refine ⟨l', Ev.step (fun k => ?_) k1, k2⟩
        simp only [spec_l8Least.l1]
        rw [if_pos (by omega), if_pos (by omega), if_pos (by omega), rdOf_nat, if_neg (by rw [e]; simp), l1_has hA q (by omega)]
        simp only [Option.bind_some]
        rw [if_pos c, wrs (by omega) (by omega), if_pos (by omega), if_pos (by omega), rdOf_nat, wr1 (by omega), Int.toNat_natCast]
      · obtain ⟨l', k1, k2⟩ := nx false (by rw [e]; simp [c])
        refine ⟨l', Ev.step (fun k => ?_) k1, k2⟩
        simp only [spec_l8Least.l1]
        rw [if_pos (by omega), if_pos (by omega), if_pos (by omega), rdOf_nat, if_neg (by rw [e]; simp), l1_has hA q (by omega)]
        simp only [Option.bind_some]
        rw [if_neg c, wr1 (by omega), Int.toNat_natCast]
theorem least_l0 {ta ra tb rb : List Bool} (hA : Good ta ra) (hb : Good tb rb) (m : Nat) (hm : m ≤ 1000000) (d : Nat) : ∀ (i : Nat) (l : List Bool), i + d = m → l.length = m → (∀ j, j < i → l.getD j false = lst (hasB ta ra) (hasB tb rb) j) → ∃ l', Ev (fun k => spec_l8Least.l0 k m l (i : Nat) ta ra tb rb) l' ∧ Tells l' (lst (hasB ta ra) (hasB tb rb)) m := by
  induction d with
  | zero =>
    intro i l hi hl ha
    obtain rfl : i = m := by omega
    refine ⟨l, Ev.end fun k => ?_, hl, ha⟩
    simp only [spec_l8Least.l0]
    rw [if_neg (by omega)]
  | succ d ih =>
    intro i l hi hl ha
    obtain ⟨l', k1, k2⟩ := least_l1 hA hb m hm i (by omega) (fun l' => Tells l' (lst (hasB ta ra) (hasB tb rb)) m) (fun l hl ha => ih (i + 1) l (by omega) hl ha) i 1 (l.set i (hasB tb rb i)) (by omega) (by omega) (by rw [List.length_set, hl]) (fun j hj => by rw [getD_set_ne _ _ (by omega)]; exact ha j hj)
      (by rw [getD_set_self _ _ _ (by omega)]
          constructor
          · exact .inl
          · rintro (h | ⟨y, a, b, c⟩)
            · exact h
            · omega)
    refine ⟨l', Ev.step (fun k => ?_) k1, k2⟩
    simp only [spec_l8Least.l0]
    rw [if_pos (by omega), l1_has hb i (by omega)]
    simp only [Option.bind_some]
    rw [if_pos (by omega), if_pos (by omega), Int.toNat_natCast]
    rfl
theorem least_ev {ta ra tb rb : List Bool} (hA : Good ta ra) (hb : Good tb rb) (m : Nat) (hm : m ≤ 1000000) : ∃ l, Ev (fun k => spec_l8Least.f k ta ra tb rb m) l ∧ Tells l (lst (hasB ta ra) (hasB tb rb)) m := by
  obtain ⟨l, k1, k2⟩ := least_l0 hA hb m hm m 0 (List.replicate m false) (by omega) (List.length_replicate ..) (fun j hj => absurd hj (Nat.not_lt_zero j))
  refine ⟨l, ?_, k2⟩
  unfold spec_l8Least.f
  simp only [if_pos (show (0 : Int) ≤ (m : Int) by omega), Int.toNat_natCast, if_pos (show m ≤ 281474976710656 by omega)]
  exact k1

theorem two_yes {s u : ByteArray} {ta ra tb rb : List Bool} (h : IsSmall s ta ra) (h2 : IsSmall u tb rb) : Ev (fun k => impl_two.f k s u) (ta, ra, tb, rb, true) := by
  unfold impl_two.f
  exact Ev.bind h.impl (Ev.bind h2.impl (Ev.now _))
theorem two_no {s u : ByteArray} (hs : NoSmall s ∨ ∃ t r, IsSmall s t r) (hu : NoSmall u ∨ ∃ t r, IsSmall u t r) (h : NoSmall s ∨ NoSmall u) : ∃ a b c d, Ev (fun k => impl_two.f k s u) (a, b, c, d, false) := by
  unfold impl_two.f
  rcases hs with hs | ⟨t, r, hs⟩
  · obtain ⟨a, b, ha⟩ := hs.impl
    rcases hu with hu | ⟨t2, r2, hu⟩
    · obtain ⟨c, d, hc⟩ := hu.impl
      exact ⟨a, b, c, d, Ev.bind ha (Ev.bind hc (Ev.now _))⟩
    · exact ⟨a, b, t2, r2, Ev.bind ha (Ev.bind hu.impl (Ev.now _))⟩
  · rcases h with h | h
    · obtain ⟨a, b, ha⟩ := h.impl
      have := Ev.unique ha hs.impl
      simp at this
    · obtain ⟨c, d, hc⟩ := h.impl
      exact ⟨t, r, c, d, Ev.bind hs.impl (Ev.bind hc (Ev.now _))⟩
end Go.Proofs.Ytcbgflejdgcmeaa.Q

namespace Go.Proofs.Ytcbgflejdgcmeaa.Q
open Go.RowKit Go.Proofs.YtcbgflejdgcmeaaW.PrintWords Go.Proofs.YtcbgflejdgcmeaaW.PrintLast Go.Proofs.YtcbgflejdgcmeaaW.PrintMore
open Go.Proofs.Ytcbgflejdgcmeaa.Pl
set_option linter.unusedVariables false
set_option linter.unusedSimpArgs false

theorem all_l0 {l : List Bool} {f : Nat → Bool} {m : Nat} (h : Tells l f m) (hm : m ≤ 1000000) (d : Nat) : ∀ i, i + d = m → ∃ b : Bool, Ev (fun k => impl_all.l0 k l m (i : Nat)) b ∧ (b = true ↔ ∀ n, i ≤ n → n < m → f n = true) := by
  have hl := h.len
  induction d with
  | zero =>
    intro i hi
    refine ⟨true, Ev.end fun k => ?_, fun _ n a b => by omega, fun _ => rfl⟩
    simp only [impl_all.l0]
    rw [if_neg (by omega)]
  | succ d ih =>
    intro i hi
    have e := h.get i (by omega)
    by_cases c : f i = true
    · obtain ⟨b, k1, k2⟩ := ih (i + 1) (by omega)
      refine ⟨b, Ev.step (fun k => ?_) k1, k2.trans ⟨fun g n a b => ?_, fun g n a b => g n (by omega) b⟩⟩
      · simp only [impl_all.l0]
        rw [if_pos (by omega), if_pos (by omega), if_pos (by omega), rdOf_nat, if_pos (by rw [e]; exact c), wr1 (by omega)]
      · rcases Nat.lt_or_ge i n with q | q
        · exact g n q b
        · obtain rfl : n = i := by omega
          exact c
    · refine ⟨false, Ev.end fun k => ?_, fun g => absurd g (by simp), fun g => absurd (g i (Nat.le_refl _) (by omega)) c⟩
      simp only [impl_all.l0]
      rw [if_pos (by omega), if_pos (by omega), if_pos (by omega), rdOf_nat, if_neg (by rw [e]; exact c)]
theorem one_l0 {l : List Bool} {f : Nat → Bool} (h : Tells l f 500) (d : Nat) : ∀ i, i + d = 500 → ∃ b : Bool, Ev (fun k => spec_SolveOne.l0 k l (i : Nat)) b ∧ (b = true ↔ ∀ n, i ≤ n → n < 500 → f n = true) := by
  have hl := h.len
  induction d with
  | zero =>
    intro i hi
    refine ⟨true, Ev.end fun k => ?_, fun _ n a b => by omega, fun _ => rfl⟩
    simp only [spec_SolveOne.l0]
    rw [if_neg (by omega)]
  | succ d ih =>
    intro i hi
    have e := h.get i (by omega)
    by_cases c : f i = true
    · obtain ⟨b, k1, k2⟩ := ih (i + 1) (by omega)
      refine ⟨b, Ev.step (fun k => ?_) k1, k2.trans ⟨fun g n a b => ?_, fun g n a b => g n (by omega) b⟩⟩
      · simp only [spec_SolveOne.l0]
        rw [if_pos (by omega), if_pos (by omega), if_pos (by omega), rdOf_nat, if_pos (by rw [e]; exact c), wr1 (by omega)]
      · rcases Nat.lt_or_ge i n with q | q
        · exact g n q b
        · obtain rfl : n = i := by omega
          exact c
    · refine ⟨false, Ev.end fun k => ?_, fun g => absurd g (by simp), fun g => absurd (g i (Nat.le_refl _) (by omega)) c⟩
      simp only [spec_SolveOne.l0]
      rw [if_pos (by omega), if_pos (by omega), if_pos (by omega), rdOf_nat, if_neg (by rw [e]; exact c)]
theorem solveOne_yes {s u : ByteArray} {ta ra tb rb : List Bool} (h : IsSmall s ta ra) (h2 : IsSmall u tb rb) : ∃ b : Bool, Ev (fun k => impl_SolveOne.f k s u) b ∧ Ev (fun k => spec_SolveOne.f k s u) b := by
  have e0 := set_has h.good 0 (by omega)
  have e1 := l1_has h.good 0 (by omega)
  have hp1 : ∀ x : Option Bool, Ev (fun k => spec_l4Small.f k s) (ta, ra, true) := fun _ => h.spec
  by_cases c : hasB ta ra 0 = true
  · obtain ⟨l, s1, s2⟩ := solved_ev h.good h2.good 1000 (by omega)
    obtain ⟨l', s3, s4⟩ := least_ev h.good h2.good 500 (by omega)
    obtain ⟨b1, k1, k2⟩ := all_l0 s2 (by omega) 1000 0 (by omega)
    obtain ⟨b2, j1, j2⟩ := one_l0 s4 500 0 (by omega)
    have htl := h.tl
    have e : b1 = b2 := by
      rw [Bool.eq_iff_iff, k2, j2]
      constructor
      · exact fun hx n a b => hx n a (by omega)
      · exact fun hx n _ _ => least_far h.good.pos h2.good.pos h.rl h2.rl h.tl h2.tl (fun n hn => hx n (Nat.zero_le _) hn) n
    subst e
    refine ⟨b1, ?_, ?_⟩
    · unfold impl_SolveOne.f
      refine Ev.bind (two_yes h h2) ?_
      simp only [if_true, show impl_set_has.f ta ra 0 = some (hasB ta ra 0) from e0, Option.bind_some, c]
      refine Ev.bind s1 (Ev.bind ?_ (Ev.now _))
      unfold impl_all.f
      rw [s2.len]
      exact k1
    · unfold spec_SolveOne.f
      refine Ev.bind h.spec (Ev.bind h2.spec ?_)
      simp only [if_true]
      refine Ev.step (f := fun k => (spec_l8Least.f k ta ra tb rb 500).bind fun t630 => (spec_SolveOne.l0 k t630 0)) (fun k => by simp only [spec_SolveOne.j0, Bool.not_true, Bool.false_eq_true, if_false, show spec_l1Has.f ta ra 0 = some (hasB ta ra 0) from e1, Option.bind_some, c, if_true]) ?_
      exact Ev.bind s3 j1
  · refine ⟨true, ?_, ?_⟩
    · unfold impl_SolveOne.f
      refine Ev.bind (two_yes h h2) ?_
      simp only [if_true, show impl_set_has.f ta ra 0 = some (hasB ta ra 0) from e0, Option.bind_some, c]
      exact Ev.now _
    · unfold spec_SolveOne.f
      refine Ev.bind h.spec (Ev.bind h2.spec ?_)
      simp only [if_true]
      exact Ev.end fun k => by simp only [spec_SolveOne.j0, Bool.not_true, Bool.false_eq_true, if_false, show spec_l1Has.f ta ra 0 = some (hasB ta ra 0) from e1, Option.bind_some, c]
theorem spec_ok (w : ByteArray) : (NoSmall w ∨ ∃ t r, IsSmall w t r) → ∃ a b ok, Ev (fun k => spec_l4Small.f k w) (a, b, ok) ∧ (ok = true → ¬ NoSmall w) := by
  rintro (hw | ⟨t, r, hw⟩)
  · obtain ⟨a, b, h⟩ := hw.spec
    exact ⟨a, b, false, h, fun h => absurd h (by simp)⟩
  · refine ⟨t, r, true, hw.spec, fun _ hn => ?_⟩
    obtain ⟨a, b, h⟩ := hn.spec
    have := Ev.unique h hw.spec
    simp at this
theorem solveOne_no {s u : ByteArray} (hs : NoSmall s ∨ ∃ t r, IsSmall s t r) (hu : NoSmall u ∨ ∃ t r, IsSmall u t r) (h : NoSmall s ∨ NoSmall u) : Ev (fun k => impl_SolveOne.f k s u) false ∧ Ev (fun k => spec_SolveOne.f k s u) false := by
  have s0 : ∀ a b c d, Ev (fun k => spec_SolveOne.j0 k true a b c d) false := fun a b c d => Ev.end fun k => by simp only [spec_SolveOne.j0, if_true]
  constructor
  · obtain ⟨a, b, c, d, h1⟩ := two_no hs hu h
    unfold impl_SolveOne.f
    refine Ev.bind h1 ?_
    simp only [Bool.false_eq_true, if_false]
    exact Ev.now _
  · obtain ⟨a, b, o1, g1, n1⟩ := spec_ok s hs
    obtain ⟨c, d, o2, g2, n2⟩ := spec_ok u hu
    unfold spec_SolveOne.f
    refine Ev.bind g1 (Ev.bind g2 ?_)
    cases o1 with
    | false => simp only [Bool.false_eq_true, if_false]; exact s0 _ _ _ _
    | true =>
      cases o2 with
      | false => simp only [if_true, Bool.not_false]; exact s0 _ _ _ _
      | true => exact absurd h (fun h => by rcases h with h | h; exact n1 rfl h; exact n2 rfl h)

end Go.Proofs.Ytcbgflejdgcmeaa.Q

namespace Go.Proofs.Ytcbgflejdgcmeaa.Pure
open Go.RowKit Go.Proofs.Ytcbgflejdgcmeaa.Q Go.Proofs.YtcbgflejdgcmeaaW.PrintWords Go.Proofs.YtcbgflejdgcmeaaW.PrintLast
set_option linter.unusedSimpArgs false

theorem FnExactSolveOne : laws_FnExactSolveOne.Pure := by
  intro s u hs hu
  by_cases hz : (s.size : Int) > 1048576
  · exact ⟨0, by unfold laws_FnExactSolveOne.f; rw [if_pos hz]⟩
  by_cases hz2 : (u.size : Int) > 1048576
  · exact ⟨0, by unfold laws_FnExactSolveOne.f; rw [if_neg hz, if_pos hz2]⟩
  have fin : ∀ b : Bool, Ev (fun q => impl_SolveOne.f q s u) b → Ev (fun q => spec_SolveOne.f q s u) b → ∃ q, laws_FnExactSolveOne.f q s u = some true := by
    intro x h1 h2
    refine Ev.rounds ?_
    unfold laws_FnExactSolveOne.f
    simp only [if_neg hz, if_neg hz2]
    exact Ev.bind h2 (Ev.bind h1 (Ev.const fun q => by simp))
  have cs := small_cases s (by omega)
  have cu := small_cases u (by omega)
  by_cases hx : NoSmall s ∨ NoSmall u
  · obtain ⟨h1, h2⟩ := solveOne_no cs cu hx
    exact fin _ h1 h2
  · rcases cs with h | ⟨t, r, h⟩
    · exact absurd (Or.inl h) hx
    · rcases cu with g | ⟨t', r', g⟩
      · exact absurd (Or.inr g) hx
      · obtain ⟨b, k1, k2⟩ := solveOne_yes h g
        exact fin b k1 k2

end Go.Proofs.Ytcbgflejdgcmeaa.Pure
