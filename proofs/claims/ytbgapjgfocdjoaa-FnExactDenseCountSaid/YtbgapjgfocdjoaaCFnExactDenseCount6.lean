/- The program's DenseCount returns what the reference's returns, for all arguments; no condition beyond the statement's own. -/
import Derived.Test.YtbgapjgfocdjoaaCFnExactDenseCount1
import Derived.Test.YtbgapjgfocdjoaaCFnExactDenseCount5
namespace Go.Proofs.Ytbgapjgfocdjoaa.Q
open Go.RowKit Go.Proofs.YtbgapjgfocdjoaaW.PrintWords Go.Proofs.YtbgapjgfocdjoaaW.PrintLast Go.Proofs.YtbgapjgfocdjoaaW.PrintMore
attribute [local go_sem] max2_int min2_int max_two min_two max_three min_three max_four min_four   -- for this text's walks alone
set_option linter.unusedVariables false
set_option linter.unusedSimpArgs false

def impl_setOf.f (a0 : ByteArray) : Option (List Bool × List Bool × Bool) := (strings_Cut.f a0 (⟨#[40]⟩ : ByteArray)).bind fun bt164 => ((strings_CutSuffix.f bt164.2.1 (⟨#[41]⟩ : ByteArray)).bind fun bt167 => ((impl_signs.f bt164.1).bind fun bt169 => ((impl_signs.f bt167.1).bind fun bt173 => (if bt164.2.2 = true then (if bt167.2 = true then (if bt169.2 = true then (if bt173.2 = true then (some (bt169.1, bt173.1, decide ((bt173.1.length : Int) > 0))) else (some (bt169.1, bt173.1, false))) else (some (bt169.1, bt173.1, false))) else (some (bt169.1, bt173.1, false))) else (some (bt169.1, bt173.1, false))))))
set_option maxHeartbeats 8000000 in
set_option maxRecDepth 100000 in
theorem impl_setOf.calls (a0 : ByteArray) (r1 : List Bool) (r2 : List Bool) (r3 : Bool) (w : World) (h : impl_setOf.f a0 = some (r1, r2, r3)) :
    Calls Try.prog 35 #[.string a0] w fun e w' => ∃ v0_ v1_ : Value, e = .returned (.tuple #[.agg #[v0_, v1_], .bool r3]) ∧ Kd.R Kd.bool 4 w' w.heap.size (fun k_ => some k_ ≠ (v1_ : Value).ownBlock) v0_ r1 ∧ Kd.R Kd.bool 4 w' w.heap.size (fun k_ => some k_ ≠ (v0_ : Value).ownBlock) v1_ r2 ∧ Below w.heap.size w w' := by
  have hu48 := Try.underlying48
  have HB := Aside0.mk (Below.refl w.heap.size w)
  have H : ((strings_Cut.f a0 (⟨#[40]⟩ : ByteArray)).bind fun bt164 => ((strings_CutSuffix.f bt164.2.1 (⟨#[41]⟩ : ByteArray)).bind fun bt167 => ((impl_signs.f bt164.1).bind fun bt169 => ((impl_signs.f bt167.1).bind fun bt173 => (if bt164.2.2 = true then (if bt167.2 = true then (if bt169.2 = true then (if bt173.2 = true then (some (bt169.1, bt173.1, decide ((bt173.1.length : Int) > 0))) else (some (bt169.1, bt173.1, false))) else (some (bt169.1, bt173.1, false))) else (some (bt169.1, bt173.1, false))) else (some (bt169.1, bt173.1, false))))))) = some (r1, r2, r3) := h
  clear h
  replace H := Option.bind_eq_some_iff.mp H
  obtain ⟨⟨t164, t165, t166⟩, A20, H⟩ := H
  replace H : ((strings_CutSuffix.f t165 (⟨#[41]⟩ : ByteArray)).bind fun bt167 => ((impl_signs.f t164).bind fun bt169 => ((impl_signs.f bt167.1).bind fun bt173 => (if t166 = true then (if bt167.2 = true then (if bt169.2 = true then (if bt173.2 = true then (some (bt169.1, bt173.1, decide ((bt173.1.length : Int) > 0))) else (some (bt169.1, bt173.1, false))) else (some (bt169.1, bt173.1, false))) else (some (bt169.1, bt173.1, false))) else (some (bt169.1, bt173.1, false)))))) = some (r1, r2, r3) := H
  have A2 := Aside0.mk A20
  clear A20
  replace H := Option.bind_eq_some_iff.mp H
  obtain ⟨⟨t167, t168⟩, A30, H⟩ := H
  replace H : ((impl_signs.f t164).bind fun bt169 => ((impl_signs.f t167).bind fun bt173 => (if t166 = true then (if t168 = true then (if bt169.2 = true then (if bt173.2 = true then (some (bt169.1, bt173.1, decide ((bt173.1.length : Int) > 0))) else (some (bt169.1, bt173.1, false))) else (some (bt169.1, bt173.1, false))) else (some (bt169.1, bt173.1, false))) else (some (bt169.1, bt173.1, false))))) = some (r1, r2, r3) := H
  have A3 := Aside0.mk A30
  clear A30
  replace H := Option.bind_eq_some_iff.mp H
  obtain ⟨⟨t169, t170⟩, A40, H⟩ := H
  replace H : ((impl_signs.f t167).bind fun bt173 => (if t166 = true then (if t168 = true then (if t170 = true then (if bt173.2 = true then (some (t169, bt173.1, decide ((bt173.1.length : Int) > 0))) else (some (t169, bt173.1, false))) else (some (t169, bt173.1, false))) else (some (t169, bt173.1, false))) else (some (t169, bt173.1, false)))) = some (r1, r2, r3) := H
  have A4 := Aside0.mk A40
  clear A40
  replace H := Option.bind_eq_some_iff.mp H
  obtain ⟨⟨t173, t174⟩, A50, H⟩ := H
  replace H : (if t166 = true then (if t168 = true then (if t170 = true then (if t174 = true then (some (t169, t173, decide ((t173.length : Int) > 0))) else (some (t169, t173, false))) else (some (t169, t173, false))) else (some (t169, t173, false))) else (some (t169, t173, false))) = some (r1, r2, r3) := H
  have A5 := Aside0.mk A50
  clear A50
  by_cases c6 : t166 = true
  · subst c6
    have H1 : (if t168 = true then (if t170 = true then (if t174 = true then (some (t169, t173, decide ((t173.length : Int) > 0))) else (some (t169, t173, false))) else (some (t169, t173, false))) else (some (t169, t173, false))) = some (r1, r2, r3) := by rw [if_pos rfl] at H; exact H
    clear H
    have H := H1
    clear H1
    by_cases c7 : t168 = true
    · subst c7
      have H1 : (if t170 = true then (if t174 = true then (some (t169, t173, decide ((t173.length : Int) > 0))) else (some (t169, t173, false))) else (some (t169, t173, false))) = some (r1, r2, r3) := by rw [if_pos rfl] at H; exact H
      clear H
      have H := H1
      clear H1
      by_cases c8 : t170 = true
      · subst c8
        have H1 : (if t174 = true then (some (t169, t173, decide ((t173.length : Int) > 0))) else (some (t169, t173, false))) = some (r1, r2, r3) := by rw [if_pos rfl] at H; exact H
        clear H
        have H := H1
        clear H1
        by_cases c9 : t174 = true
        · subst c9
          have H1 : (some (t169, t173, decide ((t173.length : Int) > 0))) = some (r1, r2, r3) := by rw [if_pos rfl] at H; exact H
          clear H
          have H := H1
          clear H1
          simp only [Option.some.injEq, Prod.mk.injEq] at H
          obtain ⟨rfl, rfl, rfl⟩ := H
          go_enter Try.func35, Try.ntmps35
          go_wp2_with (first | ((with_reducible refine gate_dst (N := 2) rfl ?_); (try (refine gate_guard (by rfl) ?_; dsimp only)); refine box_event ?hg (N := 2) ?hd (cs := #[.slice none 0 0, .slice none 0 0]) (t := 48) ?hr ?_; (case hd => rfl); (case hg => rfl); (case hr => first | (go_simp; done) | (go_simp; rfl)); intro gb163 hg w10 hbox hb; have n0_ := Aside0.mk (below_step (by repeat (first | (with_reducible first | exact HB.out | apply below_alloc | apply pw_below_drewN | apply below_drew1) | exact HB.out)) hb); have n1_ := Aside0.mk (hbox); have n2_ := Aside0.mk ((by rw [hg]; exact (below_size (by repeat (first | (with_reducible first | exact HB.out | apply below_alloc | apply pw_below_drewN | apply below_drew1) | exact HB.out))) : w.heap.size ≤ gb163)); have n3_ := Aside0.mk ((by rw [hg]; exact (below_size (by repeat (first | (with_reducible first | exact HB.out | apply below_alloc | apply pw_below_drewN | apply below_drew1) | exact HB.out))) : w.heap.size ≤ gb163)); clear HB; have HB := n0_; have BK163 := n1_; have GW163 := n2_; have GE163 := n3_; clear n0_ n1_ n2_ n3_; clear hb hbox hg) | ((with_reducible refine gate_callee (f := 54) rfl ?_); refine goesL_ (some 15) rfl rfl Try.func54 (by kernel_rfl) rfl #[.string a0, .string (⟨#[40]⟩ : ByteArray)] rfl (by (try simp only [List.map_toArray, List.map_cons, List.map_nil]); first | done | rfl | (simp only [List.length_drop, List.length_take]; rfl)) ?_; (with_reducible refine (strings_Cut.calls a0 (⟨#[40]⟩ : ByteArray) t164 t165 true _ A2.out).mono ?_); rintro e w' ⟨rfl, ⟨nd, rfl⟩⟩; refine ⟨_, rfl, ?_⟩; (try (rw [drewN_self w10]; generalize hq_ : World.drewN w10 _ = w10; have n0_ : Aside0 (w10.heap[gb163]? = some (.cells #[.slice none 0 0, .slice none 0 0] 48 (0, 0))) := ⟨by rw [← hq_]; exact (by (with_reducible repeat (first | refine blk_drewN ?_ _ | refine blk_drew ?_ | refine blk_alloc ?_ _)); exact BK163.out)⟩; have n1_ : Aside0 (Below w.heap.size w w10) := ⟨by rw [← hq_]; exact (by repeat (first | (with_reducible first | exact HB.out | apply below_alloc | apply pw_below_drewN | apply below_drew1 | refine below_set ?_ GE163.out) | exact HB.out))⟩; clear BK163 HB hq_; have BK163 := n0_; have HB := n1_; clear n0_ n1_))) | ((with_reducible refine gate_callee (f := 55) rfl ?_); refine goesL_ (some 21) rfl rfl Try.func55 (by kernel_rfl) rfl #[.string t165, .string (⟨#[41]⟩ : ByteArray)] rfl (by (try simp only [List.map_toArray, List.map_cons, List.map_nil]); first | done | rfl | (simp only [List.length_drop, List.length_take]; rfl)) ?_; (with_reducible refine (strings_CutSuffix.calls t165 (⟨#[41]⟩ : ByteArray) t167 true _ A3.out).mono ?_); rintro e w' ⟨rfl, ⟨nd, rfl⟩⟩; refine ⟨_, rfl, ?_⟩; (try (rw [drewN_self w10]; generalize hq_ : World.drewN w10 _ = w10; have n0_ : Aside0 (w10.heap[gb163]? = some (.cells #[.slice none 0 0, .slice none 0 0] 48 (0, 0))) := ⟨by rw [← hq_]; exact (by (with_reducible repeat (first | refine blk_drewN ?_ _ | refine blk_drew ?_ | refine blk_alloc ?_ _)); exact BK163.out)⟩; have n1_ : Aside0 (Below w.heap.size w w10) := ⟨by rw [← hq_]; exact (by repeat (first | (with_reducible first | exact HB.out | apply below_alloc | apply pw_below_drewN | apply below_drew1 | refine below_set ?_ GE163.out) | exact HB.out))⟩; clear BK163 HB hq_; have BK163 := n0_; have HB := n1_; clear n0_ n1_))) | ((with_reducible refine gate_callee (f := 56) rfl ?_); refine goesL_ (some 26) rfl rfl Try.func56 (by kernel_rfl) rfl #[.string t164] rfl (by (try simp only [List.map_toArray, List.map_cons, List.map_nil]); first | done | rfl | (simp only [List.length_drop, List.length_take]; rfl)) ?_; (with_reducible refine (impl_signs.calls t164 t169 true _ A4.out).mono ?_); rintro e w11 ⟨v171, rfl, ho0, hb⟩; refine ⟨_, rfl, ?_⟩; have n0_ := Aside0.mk (Kd.R_lower ho0 (below_size (by repeat (first | (with_reducible first | exact HB.out | apply below_alloc | apply pw_below_drewN | apply below_drew1 | refine below_set ?_ GE163.out) | exact HB.out)))); have n1_ := Aside0.mk (blk_below (g := gb163) (o := .cells #[.slice none 0 0, .slice none 0 0] 48 (0, 0)) (by (with_reducible repeat (first | refine blk_drewN ?_ _ | refine blk_drew ?_ | refine blk_alloc ?_ _)); exact BK163.out) hb); have n2_ := Aside0.mk (below_step (by repeat (first | (with_reducible first | exact HB.out | apply below_alloc | apply pw_below_drewN | apply below_drew1 | refine below_set ?_ GE163.out) | exact HB.out)) hb); clear BK163; clear HB; have HO172 := n0_; have BK163 := n1_; have HB := n2_; clear n0_ n1_ n2_; (try clear hb); (try clear hb2); (try clear hk); (try clear hi); (try clear ho0)) | ((with_reducible refine gate_callee (f := 56) rfl ?_); refine goesL_ (some 31) rfl rfl Try.func56 (by kernel_rfl) rfl #[.string t167] rfl (by (try simp only [List.map_toArray, List.map_cons, List.map_nil]); first | done | rfl | (simp only [List.length_drop, List.length_take]; rfl)) ?_; (with_reducible refine (impl_signs.calls t167 t173 true _ A5.out).mono ?_); rintro e w12 ⟨v175, rfl, ho0, hb⟩; refine ⟨_, rfl, ?_⟩; have n0_ := Aside0.mk (Kd.R_elder' (by (with_reducible repeat (first | apply Kd.R_alloc | apply Kd.R_drewN | apply Kd.R_drew)); exact HO172.out) (Kd.R_base ho0) hb); have n1_ := Aside0.mk (Kd.R_lower (Kd.R_new' ho0 (Kd.R_lt (by (with_reducible repeat (first | apply Kd.R_alloc | apply Kd.R_drewN | apply Kd.R_drew)); exact HO172.out))) (below_size (by repeat (first | (with_reducible first | exact HB.out | apply below_alloc | apply pw_below_drewN | apply below_drew1 | refine below_set ?_ GE163.out) | exact HB.out)))); have n2_ := Aside0.mk (blk_below (g := gb163) (o := .cells #[.slice none 0 0, .slice none 0 0] 48 (0, 0)) (by (with_reducible repeat (first | refine blk_drewN ?_ _ | refine blk_drew ?_ | refine blk_alloc ?_ _)); exact BK163.out) hb); have n3_ := Aside0.mk (below_step (by repeat (first | (with_reducible first | exact HB.out | apply below_alloc | apply pw_below_drewN | apply below_drew1 | refine below_set ?_ GE163.out) | exact HB.out)) hb); clear HO172; clear BK163; clear HB; have HO172 := n0_; have HO176 := n1_; have BK163 := n2_; have HB := n3_; clear n0_ n1_ n2_ n3_; (try clear hb); (try clear hb2); (try clear hk); (try clear hi); (try clear ho0); obtain ⟨Ao13, co13, eo13⟩ := Kd.R_slice HO176.out; subst eo13; obtain ⟨Ao14, co14, eo14⟩ := Kd.R_slice HO172.out; subst eo14; have hcz15_0 : w12.cell? ⟨gb163, 0, none⟩ = some (.slice none 0 0) := (blk_cell BK163.out 0).trans rfl; have hcz15_1 : w12.cell? ⟨gb163, 1, none⟩ = some (.slice none 0 0) := (blk_cell BK163.out 1).trans rfl; have hfz15_0 := blk_frozen BK163.out 0; have hfz15_1 := blk_frozen BK163.out 1))
          refine bodyPost_ret (results_ct rfl _ _ gb163 48 #[.slice Ao14 t169.length co14, .slice Ao13 t173.length co13] (0, 0) _ rfl (by (with_reducible repeat (first | refine blk_drewN ?_ _ | refine blk_drew ?_ | refine blk_alloc ?_ _)); refine blk_put (cs := #[.slice Ao14 t169.length co14, .slice none 0 0]) ?_ 1 _ rfl; (with_reducible repeat (first | refine blk_drewN ?_ _ | refine blk_drew ?_ | refine blk_alloc ?_ _)); refine blk_put (cs := #[.slice none 0 0, .slice none 0 0]) ?_ 0 _ rfl; (with_reducible repeat (first | refine blk_drewN ?_ _ | refine blk_drew ?_ | refine blk_alloc ?_ _)); exact BK163.out) Try.underlying48 rfl (by kernel_rfl)) rfl ?_
          exact ⟨_, _, by first | rfl | (simp [errW_none, errW_some] <;> rfl) | (simp [errW_none, errW_some]; exact ⟨rfl, rfl⟩) | (simp [errW_none, errW_some]; exact ⟨rfl, rfl, rfl⟩) | (simp [*, errW_none, errW_some] <;> rfl), by (with_reducible repeat (first | apply Kd.R_alloc | apply Kd.R_drewN | apply Kd.R_drew)); exact Kd.R_mono (Kd.R_far (p := ⟨gb163, 1, none⟩) (Kd.R_far (p := ⟨gb163, 0, none⟩) (Kd.R_types HO172.out BK163.out (by decide)) (fun _ hk => hk.2) (.slice Ao14 t169.length co14)) (fun _ hk => hk.2) (.slice Ao13 t173.length co13)) (fun _ hk => hk.1.2), by (with_reducible repeat (first | apply Kd.R_alloc | apply Kd.R_drewN | apply Kd.R_drew)); exact Kd.R_mono (Kd.R_far (p := ⟨gb163, 1, none⟩) (Kd.R_far (p := ⟨gb163, 0, none⟩) (Kd.R_types HO176.out BK163.out (by decide)) (fun _ hk => hk.2) (.slice Ao14 t169.length co14)) (fun _ hk => hk.2) (.slice Ao13 t173.length co13)) (fun _ hk => hk.1.2), by repeat (first | (with_reducible first | exact HB.out | apply below_alloc | apply pw_below_drewN | apply below_drew1 | refine below_set ?_ GE163.out) | exact HB.out)⟩
        · replace c9 := Bool.eq_false_iff.mpr c9
          subst c9
          have H1 : (some (t169, t173, false)) = some (r1, r2, r3) := by rw [if_neg (show ¬ (false = true) by decide)] at H; exact H
          clear H
          have H := H1
          clear H1
          simp only [Option.some.injEq, Prod.mk.injEq] at H
          obtain ⟨rfl, rfl, rfl⟩ := H
          go_enter Try.func35, Try.ntmps35
          go_wp2_with (first | ((with_reducible refine gate_dst (N := 2) rfl ?_); (try (refine gate_guard (by rfl) ?_; dsimp only)); refine box_event ?hg (N := 2) ?hd (cs := #[.slice none 0 0, .slice none 0 0]) (t := 48) ?hr ?_; (case hd => rfl); (case hg => rfl); (case hr => first | (go_simp; done) | (go_simp; rfl)); intro gb163 hg w16 hbox hb; have n0_ := Aside0.mk (below_step (by repeat (first | (with_reducible first | exact HB.out | apply below_alloc | apply pw_below_drewN | apply below_drew1) | exact HB.out)) hb); have n1_ := Aside0.mk (hbox); have n2_ := Aside0.mk ((by rw [hg]; exact (below_size (by repeat (first | (with_reducible first | exact HB.out | apply below_alloc | apply pw_below_drewN | apply below_drew1) | exact HB.out))) : w.heap.size ≤ gb163)); have n3_ := Aside0.mk ((by rw [hg]; exact (below_size (by repeat (first | (with_reducible first | exact HB.out | apply below_alloc | apply pw_below_drewN | apply below_drew1) | exact HB.out))) : w.heap.size ≤ gb163)); clear HB; have HB := n0_; have BK163 := n1_; have GW163 := n2_; have GE163 := n3_; clear n0_ n1_ n2_ n3_; clear hb hbox hg) | ((with_reducible refine gate_callee (f := 54) rfl ?_); refine goesL_ (some 15) rfl rfl Try.func54 (by kernel_rfl) rfl #[.string a0, .string (⟨#[40]⟩ : ByteArray)] rfl (by (try simp only [List.map_toArray, List.map_cons, List.map_nil]); first | done | rfl | (simp only [List.length_drop, List.length_take]; rfl)) ?_; (with_reducible refine (strings_Cut.calls a0 (⟨#[40]⟩ : ByteArray) t164 t165 true _ A2.out).mono ?_); rintro e w' ⟨rfl, ⟨nd, rfl⟩⟩; refine ⟨_, rfl, ?_⟩; (try (rw [drewN_self w16]; generalize hq_ : World.drewN w16 _ = w16; have n0_ : Aside0 (w16.heap[gb163]? = some (.cells #[.slice none 0 0, .slice none 0 0] 48 (0, 0))) := ⟨by rw [← hq_]; exact (by (with_reducible repeat (first | refine blk_drewN ?_ _ | refine blk_drew ?_ | refine blk_alloc ?_ _)); exact BK163.out)⟩; have n1_ : Aside0 (Below w.heap.size w w16) := ⟨by rw [← hq_]; exact (by repeat (first | (with_reducible first | exact HB.out | apply below_alloc | apply pw_below_drewN | apply below_drew1 | refine below_set ?_ GE163.out) | exact HB.out))⟩; clear BK163 HB hq_; have BK163 := n0_; have HB := n1_; clear n0_ n1_))) | ((with_reducible refine gate_callee (f := 55) rfl ?_); refine goesL_ (some 21) rfl rfl Try.func55 (by kernel_rfl) rfl #[.string t165, .string (⟨#[41]⟩ : ByteArray)] rfl (by (try simp only [List.map_toArray, List.map_cons, List.map_nil]); first | done | rfl | (simp only [List.length_drop, List.length_take]; rfl)) ?_; (with_reducible refine (strings_CutSuffix.calls t165 (⟨#[41]⟩ : ByteArray) t167 true _ A3.out).mono ?_); rintro e w' ⟨rfl, ⟨nd, rfl⟩⟩; refine ⟨_, rfl, ?_⟩; (try (rw [drewN_self w16]; generalize hq_ : World.drewN w16 _ = w16; have n0_ : Aside0 (w16.heap[gb163]? = some (.cells #[.slice none 0 0, .slice none 0 0] 48 (0, 0))) := ⟨by rw [← hq_]; exact (by (with_reducible repeat (first | refine blk_drewN ?_ _ | refine blk_drew ?_ | refine blk_alloc ?_ _)); exact BK163.out)⟩; have n1_ : Aside0 (Below w.heap.size w w16) := ⟨by rw [← hq_]; exact (by repeat (first | (with_reducible first | exact HB.out | apply below_alloc | apply pw_below_drewN | apply below_drew1 | refine below_set ?_ GE163.out) | exact HB.out))⟩; clear BK163 HB hq_; have BK163 := n0_; have HB := n1_; clear n0_ n1_))) | ((with_reducible refine gate_callee (f := 56) rfl ?_); refine goesL_ (some 26) rfl rfl Try.func56 (by kernel_rfl) rfl #[.string t164] rfl (by (try simp only [List.map_toArray, List.map_cons, List.map_nil]); first | done | rfl | (simp only [List.length_drop, List.length_take]; rfl)) ?_; (with_reducible refine (impl_signs.calls t164 t169 true _ A4.out).mono ?_); rintro e w17 ⟨v171, rfl, ho0, hb⟩; refine ⟨_, rfl, ?_⟩; have n0_ := Aside0.mk (Kd.R_lower ho0 (below_size (by repeat (first | (with_reducible first | exact HB.out | apply below_alloc | apply pw_below_drewN | apply below_drew1 | refine below_set ?_ GE163.out) | exact HB.out)))); have n1_ := Aside0.mk (blk_below (g := gb163) (o := .cells #[.slice none 0 0, .slice none 0 0] 48 (0, 0)) (by (with_reducible repeat (first | refine blk_drewN ?_ _ | refine blk_drew ?_ | refine blk_alloc ?_ _)); exact BK163.out) hb); have n2_ := Aside0.mk (below_step (by repeat (first | (with_reducible first | exact HB.out | apply below_alloc | apply pw_below_drewN | apply below_drew1 | refine below_set ?_ GE163.out) | exact HB.out)) hb); clear BK163; clear HB; have HO172 := n0_; have BK163 := n1_; have HB := n2_; clear n0_ n1_ n2_; (try clear hb); (try clear hb2); (try clear hk); (try clear hi); (try clear ho0)) | ((with_reducible refine gate_callee (f := 56) rfl ?_); refine goesL_ (some 31) rfl rfl Try.func56 (by kernel_rfl) rfl #[.string t167] rfl (by (try simp only [List.map_toArray, List.map_cons, List.map_nil]); first | done | rfl | (simp only [List.length_drop, List.length_take]; rfl)) ?_; (with_reducible refine (impl_signs.calls t167 t173 false _ A5.out).mono ?_); rintro e w18 ⟨v175, rfl, ho0, hb⟩; refine ⟨_, rfl, ?_⟩; have n0_ := Aside0.mk (Kd.R_elder' (by (with_reducible repeat (first | apply Kd.R_alloc | apply Kd.R_drewN | apply Kd.R_drew)); exact HO172.out) (Kd.R_base ho0) hb); have n1_ := Aside0.mk (Kd.R_lower (Kd.R_new' ho0 (Kd.R_lt (by (with_reducible repeat (first | apply Kd.R_alloc | apply Kd.R_drewN | apply Kd.R_drew)); exact HO172.out))) (below_size (by repeat (first | (with_reducible first | exact HB.out | apply below_alloc | apply pw_below_drewN | apply below_drew1 | refine below_set ?_ GE163.out) | exact HB.out)))); have n2_ := Aside0.mk (blk_below (g := gb163) (o := .cells #[.slice none 0 0, .slice none 0 0] 48 (0, 0)) (by (with_reducible repeat (first | refine blk_drewN ?_ _ | refine blk_drew ?_ | refine blk_alloc ?_ _)); exact BK163.out) hb); have n3_ := Aside0.mk (below_step (by repeat (first | (with_reducible first | exact HB.out | apply below_alloc | apply pw_below_drewN | apply below_drew1 | refine below_set ?_ GE163.out) | exact HB.out)) hb); clear HO172; clear BK163; clear HB; have HO172 := n0_; have HO176 := n1_; have BK163 := n2_; have HB := n3_; clear n0_ n1_ n2_ n3_; (try clear hb); (try clear hb2); (try clear hk); (try clear hi); (try clear ho0); obtain ⟨Ao19, co19, eo19⟩ := Kd.R_slice HO176.out; subst eo19; obtain ⟨Ao20, co20, eo20⟩ := Kd.R_slice HO172.out; subst eo20; have hcz21_0 : w18.cell? ⟨gb163, 0, none⟩ = some (.slice none 0 0) := (blk_cell BK163.out 0).trans rfl; have hcz21_1 : w18.cell? ⟨gb163, 1, none⟩ = some (.slice none 0 0) := (blk_cell BK163.out 1).trans rfl; have hfz21_0 := blk_frozen BK163.out 0; have hfz21_1 := blk_frozen BK163.out 1))
          refine bodyPost_ret (results_ct rfl _ _ gb163 48 #[.slice Ao20 t169.length co20, .slice Ao19 t173.length co19] (0, 0) _ rfl (by (with_reducible repeat (first | refine blk_drewN ?_ _ | refine blk_drew ?_ | refine blk_alloc ?_ _)); refine blk_put (cs := #[.slice Ao20 t169.length co20, .slice none 0 0]) ?_ 1 _ rfl; (with_reducible repeat (first | refine blk_drewN ?_ _ | refine blk_drew ?_ | refine blk_alloc ?_ _)); refine blk_put (cs := #[.slice none 0 0, .slice none 0 0]) ?_ 0 _ rfl; (with_reducible repeat (first | refine blk_drewN ?_ _ | refine blk_drew ?_ | refine blk_alloc ?_ _)); exact BK163.out) Try.underlying48 rfl (by kernel_rfl)) rfl ?_
          exact ⟨_, _, by first | rfl | (simp [errW_none, errW_some] <;> rfl) | (simp [errW_none, errW_some]; exact ⟨rfl, rfl⟩) | (simp [errW_none, errW_some]; exact ⟨rfl, rfl, rfl⟩) | (simp [*, errW_none, errW_some] <;> rfl), by (with_reducible repeat (first | apply Kd.R_alloc | apply Kd.R_drewN | apply Kd.R_drew)); exact Kd.R_mono (Kd.R_far (p := ⟨gb163, 1, none⟩) (Kd.R_far (p := ⟨gb163, 0, none⟩) (Kd.R_types HO172.out BK163.out (by decide)) (fun _ hk => hk.2) (.slice Ao20 t169.length co20)) (fun _ hk => hk.2) (.slice Ao19 t173.length co19)) (fun _ hk => hk.1.2), by (with_reducible repeat (first | apply Kd.R_alloc | apply Kd.R_drewN | apply Kd.R_drew)); exact Kd.R_mono (Kd.R_far (p := ⟨gb163, 1, none⟩) (Kd.R_far (p := ⟨gb163, 0, none⟩) (Kd.R_types HO176.out BK163.out (by decide)) (fun _ hk => hk.2) (.slice Ao20 t169.length co20)) (fun _ hk => hk.2) (.slice Ao19 t173.length co19)) (fun _ hk => hk.1.2), by repeat (first | (with_reducible first | exact HB.out | apply below_alloc | apply pw_below_drewN | apply below_drew1 | refine below_set ?_ GE163.out) | exact HB.out)⟩
      · replace c8 := Bool.eq_false_iff.mpr c8
        subst c8
        have H1 : (some (t169, t173, false)) = some (r1, r2, r3) := by rw [if_neg (show ¬ (false = true) by decide)] at H; exact H
        clear H
        have H := H1
        clear H1
        simp only [Option.some.injEq, Prod.mk.injEq] at H
        obtain ⟨rfl, rfl, rfl⟩ := H
        go_enter Try.func35, Try.ntmps35
        go_wp2_with (first | ((with_reducible refine gate_dst (N := 2) rfl ?_); (try (refine gate_guard (by rfl) ?_; dsimp only)); refine box_event ?hg (N := 2) ?hd (cs := #[.slice none 0 0, .slice none 0 0]) (t := 48) ?hr ?_; (case hd => rfl); (case hg => rfl); (case hr => first | (go_simp; done) | (go_simp; rfl)); intro gb163 hg w22 hbox hb; have n0_ := Aside0.mk (below_step (by repeat (first | (with_reducible first | exact HB.out | apply below_alloc | apply pw_below_drewN | apply below_drew1) | exact HB.out)) hb); have n1_ := Aside0.mk (hbox); have n2_ := Aside0.mk ((by rw [hg]; exact (below_size (by repeat (first | (with_reducible first | exact HB.out | apply below_alloc | apply pw_below_drewN | apply below_drew1) | exact HB.out))) : w.heap.size ≤ gb163)); have n3_ := Aside0.mk ((by rw [hg]; exact (below_size (by repeat (first | (with_reducible first | exact HB.out | apply below_alloc | apply pw_below_drewN | apply below_drew1) | exact HB.out))) : w.heap.size ≤ gb163)); clear HB; have HB := n0_; have BK163 := n1_; have GW163 := n2_; have GE163 := n3_; clear n0_ n1_ n2_ n3_; clear hb hbox hg) | ((with_reducible refine gate_callee (f := 54) rfl ?_); refine goesL_ (some 15) rfl rfl Try.func54 (by kernel_rfl) rfl #[.string a0, .string (⟨#[40]⟩ : ByteArray)] rfl (by (try simp only [List.map_toArray, List.map_cons, List.map_nil]); first | done | rfl | (simp only [List.length_drop, List.length_take]; rfl)) ?_; (with_reducible refine (strings_Cut.calls a0 (⟨#[40]⟩ : ByteArray) t164 t165 true _ A2.out).mono ?_); rintro e w' ⟨rfl, ⟨nd, rfl⟩⟩; refine ⟨_, rfl, ?_⟩; (try (rw [drewN_self w22]; generalize hq_ : World.drewN w22 _ = w22; have n0_ : Aside0 (w22.heap[gb163]? = some (.cells #[.slice none 0 0, .slice none 0 0] 48 (0, 0))) := ⟨by rw [← hq_]; exact (by (with_reducible repeat (first | refine blk_drewN ?_ _ | refine blk_drew ?_ | refine blk_alloc ?_ _)); exact BK163.out)⟩; have n1_ : Aside0 (Below w.heap.size w w22) := ⟨by rw [← hq_]; exact (by repeat (first | (with_reducible first | exact HB.out | apply below_alloc | apply pw_below_drewN | apply below_drew1 | refine below_set ?_ GE163.out) | exact HB.out))⟩; clear BK163 HB hq_; have BK163 := n0_; have HB := n1_; clear n0_ n1_))) | ((with_reducible refine gate_callee (f := 55) rfl ?_); refine goesL_ (some 21) rfl rfl Try.func55 (by kernel_rfl) rfl #[.string t165, .string (⟨#[41]⟩ : ByteArray)] rfl (by (try simp only [List.map_toArray, List.map_cons, List.map_nil]); first | done | rfl | (simp only [List.length_drop, List.length_take]; rfl)) ?_; (with_reducible refine (strings_CutSuffix.calls t165 (⟨#[41]⟩ : ByteArray) t167 true _ A3.out).mono ?_); rintro e w' ⟨rfl, ⟨nd, rfl⟩⟩; refine ⟨_, rfl, ?_⟩; (try (rw [drewN_self w22]; generalize hq_ : World.drewN w22 _ = w22; have n0_ : Aside0 (w22.heap[gb163]? = some (.cells #[.slice none 0 0, .slice none 0 0] 48 (0, 0))) := ⟨by rw [← hq_]; exact (by (with_reducible repeat (first | refine blk_drewN ?_ _ | refine blk_drew ?_ | refine blk_alloc ?_ _)); exact BK163.out)⟩; have n1_ : Aside0 (Below w.heap.size w w22) := ⟨by rw [← hq_]; exact (by repeat (first | (with_reducible first | exact HB.out | apply below_alloc | apply pw_below_drewN | apply below_drew1 | refine below_set ?_ GE163.out) | exact HB.out))⟩; clear BK163 HB hq_; have BK163 := n0_; have HB := n1_; clear n0_ n1_))) | ((with_reducible refine gate_callee (f := 56) rfl ?_); refine goesL_ (some 26) rfl rfl Try.func56 (by kernel_rfl) rfl #[.string t164] rfl (by (try simp only [List.map_toArray, List.map_cons, List.map_nil]); first | done | rfl | (simp only [List.length_drop, List.length_take]; rfl)) ?_; (with_reducible refine (impl_signs.calls t164 t169 false _ A4.out).mono ?_); rintro e w23 ⟨v171, rfl, ho0, hb⟩; refine ⟨_, rfl, ?_⟩; have n0_ := Aside0.mk (Kd.R_lower ho0 (below_size (by repeat (first | (with_reducible first | exact HB.out | apply below_alloc | apply pw_below_drewN | apply below_drew1 | refine below_set ?_ GE163.out) | exact HB.out)))); have n1_ := Aside0.mk (blk_below (g := gb163) (o := .cells #[.slice none 0 0, .slice none 0 0] 48 (0, 0)) (by (with_reducible repeat (first | refine blk_drewN ?_ _ | refine blk_drew ?_ | refine blk_alloc ?_ _)); exact BK163.out) hb); have n2_ := Aside0.mk (below_step (by repeat (first | (with_reducible first | exact HB.out | apply below_alloc | apply pw_below_drewN | apply below_drew1 | refine below_set ?_ GE163.out) | exact HB.out)) hb); clear BK163; clear HB; have HO172 := n0_; have BK163 := n1_; have HB := n2_; clear n0_ n1_ n2_; (try clear hb); (try clear hb2); (try clear hk); (try clear hi); (try clear ho0)) | ((with_reducible refine gate_callee (f := 56) rfl ?_); refine goesL_ (some 31) rfl rfl Try.func56 (by kernel_rfl) rfl #[.string t167] rfl (by (try simp only [List.map_toArray, List.map_cons, List.map_nil]); first | done | rfl | (simp only [List.length_drop, List.length_take]; rfl)) ?_; (with_reducible refine (impl_signs.calls t167 t173 t174 _ A5.out).mono ?_); rintro e w24 ⟨v175, rfl, ho0, hb⟩; refine ⟨_, rfl, ?_⟩; have n0_ := Aside0.mk (Kd.R_elder' (by (with_reducible repeat (first | apply Kd.R_alloc | apply Kd.R_drewN | apply Kd.R_drew)); exact HO172.out) (Kd.R_base ho0) hb); have n1_ := Aside0.mk (Kd.R_lower (Kd.R_new' ho0 (Kd.R_lt (by (with_reducible repeat (first | apply Kd.R_alloc | apply Kd.R_drewN | apply Kd.R_drew)); exact HO172.out))) (below_size (by repeat (first | (with_reducible first | exact HB.out | apply below_alloc | apply pw_below_drewN | apply below_drew1 | refine below_set ?_ GE163.out) | exact HB.out)))); have n2_ := Aside0.mk (blk_below (g := gb163) (o := .cells #[.slice none 0 0, .slice none 0 0] 48 (0, 0)) (by (with_reducible repeat (first | refine blk_drewN ?_ _ | refine blk_drew ?_ | refine blk_alloc ?_ _)); exact BK163.out) hb); have n3_ := Aside0.mk (below_step (by repeat (first | (with_reducible first | exact HB.out | apply below_alloc | apply pw_below_drewN | apply below_drew1 | refine below_set ?_ GE163.out) | exact HB.out)) hb); clear HO172; clear BK163; clear HB; have HO172 := n0_; have HO176 := n1_; have BK163 := n2_; have HB := n3_; clear n0_ n1_ n2_ n3_; (try clear hb); (try clear hb2); (try clear hk); (try clear hi); (try clear ho0); obtain ⟨Ao25, co25, eo25⟩ := Kd.R_slice HO176.out; subst eo25; obtain ⟨Ao26, co26, eo26⟩ := Kd.R_slice HO172.out; subst eo26; have hcz27_0 : w24.cell? ⟨gb163, 0, none⟩ = some (.slice none 0 0) := (blk_cell BK163.out 0).trans rfl; have hcz27_1 : w24.cell? ⟨gb163, 1, none⟩ = some (.slice none 0 0) := (blk_cell BK163.out 1).trans rfl; have hfz27_0 := blk_frozen BK163.out 0; have hfz27_1 := blk_frozen BK163.out 1))
        refine bodyPost_ret (results_ct rfl _ _ gb163 48 #[.slice Ao26 t169.length co26, .slice Ao25 t173.length co25] (0, 0) _ rfl (by (with_reducible repeat (first | refine blk_drewN ?_ _ | refine blk_drew ?_ | refine blk_alloc ?_ _)); refine blk_put (cs := #[.slice Ao26 t169.length co26, .slice none 0 0]) ?_ 1 _ rfl; (with_reducible repeat (first | refine blk_drewN ?_ _ | refine blk_drew ?_ | refine blk_alloc ?_ _)); refine blk_put (cs := #[.slice none 0 0, .slice none 0 0]) ?_ 0 _ rfl; (with_reducible repeat (first | refine blk_drewN ?_ _ | refine blk_drew ?_ | refine blk_alloc ?_ _)); exact BK163.out) Try.underlying48 rfl (by kernel_rfl)) rfl ?_
        exact ⟨_, _, by first | rfl | (simp [errW_none, errW_some] <;> rfl) | (simp [errW_none, errW_some]; exact ⟨rfl, rfl⟩) | (simp [errW_none, errW_some]; exact ⟨rfl, rfl, rfl⟩) | (simp [*, errW_none, errW_some] <;> rfl), by (with_reducible repeat (first | apply Kd.R_alloc | apply Kd.R_drewN | apply Kd.R_drew)); exact Kd.R_mono (Kd.R_far (p := ⟨gb163, 1, none⟩) (Kd.R_far (p := ⟨gb163, 0, none⟩) (Kd.R_types HO172.out BK163.out (by decide)) (fun _ hk => hk.2) (.slice Ao26 t169.length co26)) (fun _ hk => hk.2) (.slice Ao25 t173.length co25)) (fun _ hk => hk.1.2), by (with_reducible repeat (first | apply Kd.R_alloc | apply Kd.R_drewN | apply Kd.R_drew)); exact Kd.R_mono (Kd.R_far (p := ⟨gb163, 1, none⟩) (Kd.R_far (p := ⟨gb163, 0, none⟩) (Kd.R_types HO176.out BK163.out (by decide)) (fun _ hk => hk.2) (.slice Ao26 t169.length co26)) (fun _ hk => hk.2) (.slice Ao25 t173.length co25)) (fun _ hk => hk.1.2), by repeat (first | (with_reducible first | exact HB.out | apply below_alloc | apply pw_below_drewN | apply below_drew1 | refine below_set ?_ GE163.out) | exact HB.out)⟩
    · replace c7 := Bool.eq_false_iff.mpr c7
      subst c7
      have H1 : (some (t169, t173, false)) = some (r1, r2, r3) := by rw [if_neg (show ¬ (false = true) by decide)] at H; exact H
      clear H
      have H := H1
      clear H1
      simp only [Option.some.injEq, Prod.mk.injEq] at H
      obtain ⟨rfl, rfl, rfl⟩ := H
      go_enter Try.func35, Try.ntmps35
      go_wp2_with (first | ((with_reducible refine gate_dst (N := 2) rfl ?_); (try (refine gate_guard (by rfl) ?_; dsimp only)); refine box_event ?hg (N := 2) ?hd (cs := #[.slice none 0 0, .slice none 0 0]) (t := 48) ?hr ?_; (case hd => rfl); (case hg => rfl); (case hr => first | (go_simp; done) | (go_simp; rfl)); intro gb163 hg w28 hbox hb; have n0_ := Aside0.mk (below_step (by repeat (first | (with_reducible first | exact HB.out | apply below_alloc | apply pw_below_drewN | apply below_drew1) | exact HB.out)) hb); have n1_ := Aside0.mk (hbox); have n2_ := Aside0.mk ((by rw [hg]; exact (below_size (by repeat (first | (with_reducible first | exact HB.out | apply below_alloc | apply pw_below_drewN | apply below_drew1) | exact HB.out))) : w.heap.size ≤ gb163)); have n3_ := Aside0.mk ((by rw [hg]; exact (below_size (by repeat (first | (with_reducible first | exact HB.out | apply below_alloc | apply pw_below_drewN | apply below_drew1) | exact HB.out))) : w.heap.size ≤ gb163)); clear HB; have HB := n0_; have BK163 := n1_; have GW163 := n2_; have GE163 := n3_; clear n0_ n1_ n2_ n3_; clear hb hbox hg) | ((with_reducible refine gate_callee (f := 54) rfl ?_); refine goesL_ (some 15) rfl rfl Try.func54 (by kernel_rfl) rfl #[.string a0, .string (⟨#[40]⟩ : ByteArray)] rfl (by (try simp only [List.map_toArray, List.map_cons, List.map_nil]); first | done | rfl | (simp only [List.length_drop, List.length_take]; rfl)) ?_; (with_reducible refine (strings_Cut.calls a0 (⟨#[40]⟩ : ByteArray) t164 t165 true _ A2.out).mono ?_); rintro e w' ⟨rfl, ⟨nd, rfl⟩⟩; refine ⟨_, rfl, ?_⟩; (try (rw [drewN_self w28]; generalize hq_ : World.drewN w28 _ = w28; have n0_ : Aside0 (w28.heap[gb163]? = some (.cells #[.slice none 0 0, .slice none 0 0] 48 (0, 0))) := ⟨by rw [← hq_]; exact (by (with_reducible repeat (first | refine blk_drewN ?_ _ | refine blk_drew ?_ | refine blk_alloc ?_ _)); exact BK163.out)⟩; have n1_ : Aside0 (Below w.heap.size w w28) := ⟨by rw [← hq_]; exact (by repeat (first | (with_reducible first | exact HB.out | apply below_alloc | apply pw_below_drewN | apply below_drew1 | refine below_set ?_ GE163.out) | exact HB.out))⟩; clear BK163 HB hq_; have BK163 := n0_; have HB := n1_; clear n0_ n1_))) | ((with_reducible refine gate_callee (f := 55) rfl ?_); refine goesL_ (some 21) rfl rfl Try.func55 (by kernel_rfl) rfl #[.string t165, .string (⟨#[41]⟩ : ByteArray)] rfl (by (try simp only [List.map_toArray, List.map_cons, List.map_nil]); first | done | rfl | (simp only [List.length_drop, List.length_take]; rfl)) ?_; (with_reducible refine (strings_CutSuffix.calls t165 (⟨#[41]⟩ : ByteArray) t167 false _ A3.out).mono ?_); rintro e w' ⟨rfl, ⟨nd, rfl⟩⟩; refine ⟨_, rfl, ?_⟩; (try (rw [drewN_self w28]; generalize hq_ : World.drewN w28 _ = w28; have n0_ : Aside0 (w28.heap[gb163]? = some (.cells #[.slice none 0 0, .slice none 0 0] 48 (0, 0))) := ⟨by rw [← hq_]; exact (by (with_reducible repeat (first | refine blk_drewN ?_ _ | refine blk_drew ?_ | refine blk_alloc ?_ _)); exact BK163.out)⟩; have n1_ : Aside0 (Below w.heap.size w w28) := ⟨by rw [← hq_]; exact (by repeat (first | (with_reducible first | exact HB.out | apply below_alloc | apply pw_below_drewN | apply below_drew1 | refine below_set ?_ GE163.out) | exact HB.out))⟩; clear BK163 HB hq_; have BK163 := n0_; have HB := n1_; clear n0_ n1_))) | ((with_reducible refine gate_callee (f := 56) rfl ?_); refine goesL_ (some 26) rfl rfl Try.func56 (by kernel_rfl) rfl #[.string t164] rfl (by (try simp only [List.map_toArray, List.map_cons, List.map_nil]); first | done | rfl | (simp only [List.length_drop, List.length_take]; rfl)) ?_; (with_reducible refine (impl_signs.calls t164 t169 t170 _ A4.out).mono ?_); rintro e w29 ⟨v171, rfl, ho0, hb⟩; refine ⟨_, rfl, ?_⟩; have n0_ := Aside0.mk (Kd.R_lower ho0 (below_size (by repeat (first | (with_reducible first | exact HB.out | apply below_alloc | apply pw_below_drewN | apply below_drew1 | refine below_set ?_ GE163.out) | exact HB.out)))); have n1_ := Aside0.mk (blk_below (g := gb163) (o := .cells #[.slice none 0 0, .slice none 0 0] 48 (0, 0)) (by (with_reducible repeat (first | refine blk_drewN ?_ _ | refine blk_drew ?_ | refine blk_alloc ?_ _)); exact BK163.out) hb); have n2_ := Aside0.mk (below_step (by repeat (first | (with_reducible first | exact HB.out | apply below_alloc | apply pw_below_drewN | apply below_drew1 | refine below_set ?_ GE163.out) | exact HB.out)) hb); clear BK163; clear HB; have HO172 := n0_; have BK163 := n1_; have HB := n2_; clear n0_ n1_ n2_; (try clear hb); (try clear hb2); (try clear hk); (try clear hi); (try clear ho0)) | ((with_reducible refine gate_callee (f := 56) rfl ?_); refine goesL_ (some 31) rfl rfl Try.func56 (by kernel_rfl) rfl #[.string t167] rfl (by (try simp only [List.map_toArray, List.map_cons, List.map_nil]); first | done | rfl | (simp only [List.length_drop, List.length_take]; rfl)) ?_; (with_reducible refine (impl_signs.calls t167 t173 t174 _ A5.out).mono ?_); rintro e w30 ⟨v175, rfl, ho0, hb⟩; refine ⟨_, rfl, ?_⟩; have n0_ := Aside0.mk (Kd.R_elder' (by (with_reducible repeat (first | apply Kd.R_alloc | apply Kd.R_drewN | apply Kd.R_drew)); exact HO172.out) (Kd.R_base ho0) hb); have n1_ := Aside0.mk (Kd.R_lower (Kd.R_new' ho0 (Kd.R_lt (by (with_reducible repeat (first | apply Kd.R_alloc | apply Kd.R_drewN | apply Kd.R_drew)); exact HO172.out))) (below_size (by repeat (first | (with_reducible first | exact HB.out | apply below_alloc | apply pw_below_drewN | apply below_drew1 | refine below_set ?_ GE163.out) | exact HB.out)))); have n2_ := Aside0.mk (blk_below (g := gb163) (o := .cells #[.slice none 0 0, .slice none 0 0] 48 (0, 0)) (by (with_reducible repeat (first | refine blk_drewN ?_ _ | refine blk_drew ?_ | refine blk_alloc ?_ _)); exact BK163.out) hb); have n3_ := Aside0.mk (below_step (by repeat (first | (with_reducible first | exact HB.out | apply below_alloc | apply pw_below_drewN | apply below_drew1 | refine below_set ?_ GE163.out) | exact HB.out)) hb); clear HO172; clear BK163; clear HB; have HO172 := n0_; have HO176 := n1_; have BK163 := n2_; have HB := n3_; clear n0_ n1_ n2_ n3_; (try clear hb); (try clear hb2); (try clear hk); (try clear hi); (try clear ho0); obtain ⟨Ao31, co31, eo31⟩ := Kd.R_slice HO176.out; subst eo31; obtain ⟨Ao32, co32, eo32⟩ := Kd.R_slice HO172.out; subst eo32; have hcz33_0 : w30.cell? ⟨gb163, 0, none⟩ = some (.slice none 0 0) := (blk_cell BK163.out 0).trans rfl; have hcz33_1 : w30.cell? ⟨gb163, 1, none⟩ = some (.slice none 0 0) := (blk_cell BK163.out 1).trans rfl; have hfz33_0 := blk_frozen BK163.out 0; have hfz33_1 := blk_frozen BK163.out 1))
      refine bodyPost_ret (results_ct rfl _ _ gb163 48 #[.slice Ao32 t169.length co32, .slice Ao31 t173.length co31] (0, 0) _ rfl (by (with_reducible repeat (first | refine blk_drewN ?_ _ | refine blk_drew ?_ | refine blk_alloc ?_ _)); refine blk_put (cs := #[.slice Ao32 t169.length co32, .slice none 0 0]) ?_ 1 _ rfl; (with_reducible repeat (first | refine blk_drewN ?_ _ | refine blk_drew ?_ | refine blk_alloc ?_ _)); refine blk_put (cs := #[.slice none 0 0, .slice none 0 0]) ?_ 0 _ rfl; (with_reducible repeat (first | refine blk_drewN ?_ _ | refine blk_drew ?_ | refine blk_alloc ?_ _)); exact BK163.out) Try.underlying48 rfl (by kernel_rfl)) rfl ?_
      exact ⟨_, _, by first | rfl | (simp [errW_none, errW_some] <;> rfl) | (simp [errW_none, errW_some]; exact ⟨rfl, rfl⟩) | (simp [errW_none, errW_some]; exact ⟨rfl, rfl, rfl⟩) | (simp [*, errW_none, errW_some] <;> rfl), by (with_reducible repeat (first | apply Kd.R_alloc | apply Kd.R_drewN | apply Kd.R_drew)); exact Kd.R_mono (Kd.R_far (p := ⟨gb163, 1, none⟩) (Kd.R_far (p := ⟨gb163, 0, none⟩) (Kd.R_types HO172.out BK163.out (by decide)) (fun _ hk => hk.2) (.slice Ao32 t169.length co32)) (fun _ hk => hk.2) (.slice Ao31 t173.length co31)) (fun _ hk => hk.1.2), by (with_reducible repeat (first | apply Kd.R_alloc | apply Kd.R_drewN | apply Kd.R_drew)); exact Kd.R_mono (Kd.R_far (p := ⟨gb163, 1, none⟩) (Kd.R_far (p := ⟨gb163, 0, none⟩) (Kd.R_types HO176.out BK163.out (by decide)) (fun _ hk => hk.2) (.slice Ao32 t169.length co32)) (fun _ hk => hk.2) (.slice Ao31 t173.length co31)) (fun _ hk => hk.1.2), by repeat (first | (with_reducible first | exact HB.out | apply below_alloc | apply pw_below_drewN | apply below_drew1 | refine below_set ?_ GE163.out) | exact HB.out)⟩
  · replace c6 := Bool.eq_false_iff.mpr c6
    subst c6
    have H1 : (some (t169, t173, false)) = some (r1, r2, r3) := by rw [if_neg (show ¬ (false = true) by decide)] at H; exact H
    clear H
    have H := H1
    clear H1
    simp only [Option.some.injEq, Prod.mk.injEq] at H
    obtain ⟨rfl, rfl, rfl⟩ := H
    go_enter Try.func35, Try.ntmps35
    go_wp2_with (first | ((with_reducible refine gate_dst (N := 2) rfl ?_); (try (refine gate_guard (by rfl) ?_; dsimp only)); refine box_event ?hg (N := 2) ?hd (cs := #[.slice none 0 0, .slice none 0 0]) (t := 48) ?hr ?_; (case hd => rfl); (case hg => rfl); (case hr => first | (go_simp; done) | (go_simp; rfl)); intro gb163 hg w34 hbox hb; have n0_ := Aside0.mk (below_step (by repeat (first | (with_reducible first | exact HB.out | apply below_alloc | apply pw_below_drewN | apply below_drew1) | exact HB.out)) hb); have n1_ := Aside0.mk (hbox); have n2_ := Aside0.mk ((by rw [hg]; exact (below_size (by repeat (first | (with_reducible first | exact HB.out | apply below_alloc | apply pw_below_drewN | apply below_drew1) | exact HB.out))) : w.heap.size ≤ gb163)); have n3_ := Aside0.mk ((by rw [hg]; exact (below_size (by repeat (first | (with_reducible first | exact HB.out | apply below_alloc | apply pw_below_drewN | apply below_drew1) | exact HB.out))) : w.heap.size ≤ gb163)); clear HB; have HB := n0_; have BK163 := n1_; have GW163 := n2_; have GE163 := n3_; clear n0_ n1_ n2_ n3_; clear hb hbox hg) | ((with_reducible refine gate_callee (f := 54) rfl ?_); refine goesL_ (some 15) rfl rfl Try.func54 (by kernel_rfl) rfl #[.string a0, .string (⟨#[40]⟩ : ByteArray)] rfl (by (try simp only [List.map_toArray, List.map_cons, List.map_nil]); first | done | rfl | (simp only [List.length_drop, List.length_take]; rfl)) ?_; (with_reducible refine (strings_Cut.calls a0 (⟨#[40]⟩ : ByteArray) t164 t165 false _ A2.out).mono ?_); rintro e w' ⟨rfl, ⟨nd, rfl⟩⟩; refine ⟨_, rfl, ?_⟩; (try (rw [drewN_self w34]; generalize hq_ : World.drewN w34 _ = w34; have n0_ : Aside0 (w34.heap[gb163]? = some (.cells #[.slice none 0 0, .slice none 0 0] 48 (0, 0))) := ⟨by rw [← hq_]; exact (by (with_reducible repeat (first | refine blk_drewN ?_ _ | refine blk_drew ?_ | refine blk_alloc ?_ _)); exact BK163.out)⟩; have n1_ : Aside0 (Below w.heap.size w w34) := ⟨by rw [← hq_]; exact (by repeat (first | (with_reducible first | exact HB.out | apply below_alloc | apply pw_below_drewN | apply below_drew1 | refine below_set ?_ GE163.out) | exact HB.out))⟩; clear BK163 HB hq_; have BK163 := n0_; have HB := n1_; clear n0_ n1_))) | ((with_reducible refine gate_callee (f := 55) rfl ?_); refine goesL_ (some 21) rfl rfl Try.func55 (by kernel_rfl) rfl #[.string t165, .string (⟨#[41]⟩ : ByteArray)] rfl (by (try simp only [List.map_toArray, List.map_cons, List.map_nil]); first | done | rfl | (simp only [List.length_drop, List.length_take]; rfl)) ?_; (with_reducible refine (strings_CutSuffix.calls t165 (⟨#[41]⟩ : ByteArray) t167 t168 _ A3.out).mono ?_); rintro e w' ⟨rfl, ⟨nd, rfl⟩⟩; refine ⟨_, rfl, ?_⟩; (try (rw [drewN_self w34]; generalize hq_ : World.drewN w34 _ = w34; have n0_ : Aside0 (w34.heap[gb163]? = some (.cells #[.slice none 0 0, .slice none 0 0] 48 (0, 0))) := ⟨by rw [← hq_]; exact (by (with_reducible repeat (first | refine blk_drewN ?_ _ | refine blk_drew ?_ | refine blk_alloc ?_ _)); exact BK163.out)⟩; have n1_ : Aside0 (Below w.heap.size w w34) := ⟨by rw [← hq_]; exact (by repeat (first | (with_reducible first | exact HB.out | apply below_alloc | apply pw_below_drewN | apply below_drew1 | refine below_set ?_ GE163.out) | exact HB.out))⟩; clear BK163 HB hq_; have BK163 := n0_; have HB := n1_; clear n0_ n1_))) | ((with_reducible refine gate_callee (f := 56) rfl ?_); refine goesL_ (some 26) rfl rfl Try.func56 (by kernel_rfl) rfl #[.string t164] rfl (by (try simp only [List.map_toArray, List.map_cons, List.map_nil]); first | done | rfl | (simp only [List.length_drop, List.length_take]; rfl)) ?_; (with_reducible refine (impl_signs.calls t164 t169 t170 _ A4.out).mono ?_); rintro e w35 ⟨v171, rfl, ho0, hb⟩; refine ⟨_, rfl, ?_⟩; have n0_ := Aside0.mk (Kd.R_lower ho0 (below_size (by repeat (first | (with_reducible first | exact HB.out | apply below_alloc | apply pw_below_drewN | apply below_drew1 | refine below_set ?_ GE163.out) | exact HB.out)))); have n1_ := Aside0.mk (blk_below (g := gb163) (o := .cells #[.slice none 0 0, .slice none 0 0] 48 (0, 0)) (by (with_reducible repeat (first | refine blk_drewN ?_ _ | refine blk_drew ?_ | refine blk_alloc ?_ _)); exact BK163.out) hb); have n2_ := Aside0.mk (below_step (by repeat (first | (with_reducible first | exact HB.out | apply below_alloc | apply pw_below_drewN | apply below_drew1 | refine below_set ?_ GE163.out) | exact HB.out)) hb); clear BK163; clear HB; have HO172 := n0_; have BK163 := n1_; have HB := n2_; clear n0_ n1_ n2_; (try clear hb); (try clear hb2); (try clear hk); (try clear hi); (try clear ho0)) | ((with_reducible refine gate_callee (f := 56) rfl ?_); refine goesL_ (some 31) rfl rfl Try.func56 (by kernel_rfl) rfl #[.string t167] rfl (by (try simp only [List.map_toArray, List.map_cons, List.map_nil]); first | done | rfl | (simp only [List.length_drop, List.length_take]; rfl)) ?_; (with_reducible refine (impl_signs.calls t167 t173 t174 _ A5.out).mono ?_); rintro e w36 ⟨v175, rfl, ho0, hb⟩; refine ⟨_, rfl, ?_⟩; have n0_ := Aside0.mk (Kd.R_elder' (by (with_reducible repeat (first | apply Kd.R_alloc | apply Kd.R_drewN | apply Kd.R_drew)); exact HO172.out) (Kd.R_base ho0) hb); have n1_ := Aside0.mk (Kd.R_lower (Kd.R_new' ho0 (Kd.R_lt (by (with_reducible repeat (first | apply Kd.R_alloc | apply Kd.R_drewN | apply Kd.R_drew)); exact HO172.out))) (below_size (by repeat (first | (with_reducible first | exact HB.out | apply below_alloc | apply pw_below_drewN | apply below_drew1 | refine below_set ?_ GE163.out) | exact HB.out)))); have n2_ := Aside0.mk (blk_below (g := gb163) (o := .cells #[.slice none 0 0, .slice none 0 0] 48 (0, 0)) (by (with_reducible repeat (first | refine blk_drewN ?_ _ | refine blk_drew ?_ | refine blk_alloc ?_ _)); exact BK163.out) hb); have n3_ := Aside0.mk (below_step (by repeat (first | (with_reducible first | exact HB.out | apply below_alloc | apply pw_below_drewN | apply below_drew1 | refine below_set ?_ GE163.out) | exact HB.out)) hb); clear HO172; clear BK163; clear HB; have HO172 := n0_; have HO176 := n1_; have BK163 := n2_; have HB := n3_; clear n0_ n1_ n2_ n3_; (try clear hb); (try clear hb2); (try clear hk); (try clear hi); (try clear ho0); obtain ⟨Ao37, co37, eo37⟩ := Kd.R_slice HO176.out; subst eo37; obtain ⟨Ao38, co38, eo38⟩ := Kd.R_slice HO172.out; subst eo38; have hcz39_0 : w36.cell? ⟨gb163, 0, none⟩ = some (.slice none 0 0) := (blk_cell BK163.out 0).trans rfl; have hcz39_1 : w36.cell? ⟨gb163, 1, none⟩ = some (.slice none 0 0) := (blk_cell BK163.out 1).trans rfl; have hfz39_0 := blk_frozen BK163.out 0; have hfz39_1 := blk_frozen BK163.out 1))
    refine bodyPost_ret (results_ct rfl _ _ gb163 48 #[.slice Ao38 t169.length co38, .slice Ao37 t173.length co37] (0, 0) _ rfl (by (with_reducible repeat (first | refine blk_drewN ?_ _ | refine blk_drew ?_ | refine blk_alloc ?_ _)); refine blk_put (cs := #[.slice Ao38 t169.length co38, .slice none 0 0]) ?_ 1 _ rfl; (with_reducible repeat (first | refine blk_drewN ?_ _ | refine blk_drew ?_ | refine blk_alloc ?_ _)); refine blk_put (cs := #[.slice none 0 0, .slice none 0 0]) ?_ 0 _ rfl; (with_reducible repeat (first | refine blk_drewN ?_ _ | refine blk_drew ?_ | refine blk_alloc ?_ _)); exact BK163.out) Try.underlying48 rfl (by kernel_rfl)) rfl ?_
    exact ⟨_, _, by first | rfl | (simp [errW_none, errW_some] <;> rfl) | (simp [errW_none, errW_some]; exact ⟨rfl, rfl⟩) | (simp [errW_none, errW_some]; exact ⟨rfl, rfl, rfl⟩) | (simp [*, errW_none, errW_some] <;> rfl), by (with_reducible repeat (first | apply Kd.R_alloc | apply Kd.R_drewN | apply Kd.R_drew)); exact Kd.R_mono (Kd.R_far (p := ⟨gb163, 1, none⟩) (Kd.R_far (p := ⟨gb163, 0, none⟩) (Kd.R_types HO172.out BK163.out (by decide)) (fun _ hk => hk.2) (.slice Ao38 t169.length co38)) (fun _ hk => hk.2) (.slice Ao37 t173.length co37)) (fun _ hk => hk.1.2), by (with_reducible repeat (first | apply Kd.R_alloc | apply Kd.R_drewN | apply Kd.R_drew)); exact Kd.R_mono (Kd.R_far (p := ⟨gb163, 1, none⟩) (Kd.R_far (p := ⟨gb163, 0, none⟩) (Kd.R_types HO176.out BK163.out (by decide)) (fun _ hk => hk.2) (.slice Ao38 t169.length co38)) (fun _ hk => hk.2) (.slice Ao37 t173.length co37)) (fun _ hk => hk.1.2), by repeat (first | (with_reducible first | exact HB.out | apply below_alloc | apply pw_below_drewN | apply below_drew1 | refine below_set ?_ GE163.out) | exact HB.out)⟩

end Go.Proofs.Ytbgapjgfocdjoaa.Q

namespace Go.Proofs.Ytbgapjgfocdjoaa.Q
open Go.RowKit Go.Proofs.YtbgapjgfocdjoaaW.PrintWords Go.Proofs.YtbgapjgfocdjoaaW.PrintLast Go.Proofs.YtbgapjgfocdjoaaW.PrintMore
attribute [local go_sem] max2_int min2_int max_two min_two max_three min_three max_four min_four   -- for this text's walks alone
set_option linter.unusedVariables false
set_option linter.unusedSimpArgs false

def impl_in.f (a0 : Int) (a1 : Int) (a2 : Int) : Option (Bool) := if a0 ≥ a1 then (some (decide (a0 ≤ a2))) else (some false)
set_option maxHeartbeats 8000000 in
set_option maxRecDepth 100000 in
theorem impl_in.calls (a0 : Int) (a1 : Int) (a2 : Int) (r : Bool) (w : World) (h : impl_in.f a0 a1 a2 = some r) :
    Calls Try.prog 36 #[.int .i64 a0, .int .i64 a1, .int .i64 a2] w fun e w' => e = .returned (.bool r) ∧ Drawn0 w w' := by
  have H : (if a0 ≥ a1 then (some (decide (a0 ≤ a2))) else (some false)) = some r := h
  clear h
  by_cases c4 : a0 ≥ a1
  · rw [if_pos c4] at H
    have c4b0 : decide (a1 ≤ a0) = true := decide_eq_true c4
    clear c4
    obtain rfl := Option.some.inj H
    go_enter Try.func36, Try.ntmps36
    go_wp2
    go_ret
    exact ⟨by first | rfl | (simp; done) | (simp [*]; done), by repeat (first | exact Drawn0.refl _ | apply Drawn0.step)⟩
  · rw [if_neg c4] at H
    have c4b0 : decide (a1 ≤ a0) = false := decide_eq_false c4
    clear c4
    obtain rfl := Option.some.inj H
    go_enter Try.func36, Try.ntmps36
    go_wp2
    go_ret
    exact ⟨by first | rfl | (simp; done) | (simp [*]; done), by repeat (first | exact Drawn0.refl _ | apply Drawn0.step)⟩

end Go.Proofs.Ytbgapjgfocdjoaa.Q

namespace Go.Proofs.Ytbgapjgfocdjoaa.Q
open Go.RowKit Go.Proofs.YtbgapjgfocdjoaaW.PrintWords Go.Proofs.YtbgapjgfocdjoaaW.PrintLast Go.Proofs.YtbgapjgfocdjoaaW.PrintMore
attribute [local go_sem] max2_int min2_int max_two min_two max_three min_three max_four min_four   -- for this text's walks alone
set_option linter.unusedVariables false
set_option linter.unusedSimpArgs false

def impl_set_has.f (l0_0 : List Bool) (l0_1 : List Bool) (a1 : Int) : Option (Bool) := if a1 < 0 then (some false) else (if a1 < (l0_0.length : Int) then (if 0 ≤ a1 then (some (rdOf false l0_0 a1)) else (none)) else (if (l0_1.length : Int) = 0 then (none) else (if 0 ≤ (Int.tmod (wrap64 (a1 - (l0_0.length : Int))) (l0_1.length : Int)) then (if (Int.tmod (wrap64 (a1 - (l0_0.length : Int))) (l0_1.length : Int)) < (l0_1.length : Int) then (some (rdOf false l0_1 (Int.tmod (wrap64 (a1 - (l0_0.length : Int))) (l0_1.length : Int)))) else (none)) else (none))))
set_option maxHeartbeats 8000000 in
set_option maxRecDepth 100000 in
theorem impl_set_has.calls (A0_0 : Option Addr) (c0_0 : Nat) (l0_0 : List Bool) (A0_1 : Option Addr) (c0_1 : Nat) (l0_1 : List Bool) (a1 : Int) (r : Bool) (w : World) (hr0_0 : Kd.C Kd.bool w A0_0 l0_0.length l0_0) (hc0_0 : l0_0.length ≤ c0_0) (hr0_1 : Kd.C Kd.bool w A0_1 l0_1.length l0_1) (hc0_1 : l0_1.length ≤ c0_1) (h : impl_set_has.f l0_0 l0_1 a1 = some r) :
    Calls Try.prog 49 #[.agg #[.slice A0_0 l0_0.length c0_0, .slice A0_1 l0_1.length c0_1], .int .i64 a1] w fun e w' => e = .returned (.bool r) ∧ Below w.heap.size w w' := by
  have hu48 := Try.underlying48
  have HR0_0 := Aside0.mk hr0_0
  have HC0_0 := Aside0.mk hc0_0
  clear hr0_0 hc0_0
  have HR0_1 := Aside0.mk hr0_1
  have HC0_1 := Aside0.mk hc0_1
  clear hr0_1 hc0_1
  have HB := Aside0.mk (Below.refl w.heap.size w)
  have H : (if a1 < 0 then (some false) else (if a1 < (l0_0.length : Int) then (if 0 ≤ a1 then (some (rdOf false l0_0 a1)) else (none)) else (if (l0_1.length : Int) = 0 then (none) else (if 0 ≤ (Int.tmod (wrap64 (a1 - (l0_0.length : Int))) (l0_1.length : Int)) then (if (Int.tmod (wrap64 (a1 - (l0_0.length : Int))) (l0_1.length : Int)) < (l0_1.length : Int) then (some (rdOf false l0_1 (Int.tmod (wrap64 (a1 - (l0_0.length : Int))) (l0_1.length : Int)))) else (none)) else (none))))) = some r := h
  clear h
  by_cases c3 : a1 < 0
  · rw [if_pos c3] at H
    have c3b0 : decide (a1 < 0) = true := decide_eq_true c3
    clear c3
    obtain rfl := Option.some.inj H
    go_enter Try.func49, Try.ntmps49
    go_wp2_with (first | ((with_reducible refine gate_dst (N := 2) rfl ?_); refine box_event ?hg (N := 2) ?hd (cs := #[.slice A0_0 l0_0.length c0_0, .slice A0_1 l0_1.length c0_1]) (t := 48) ?hr ?_; (case hd => rfl); (case hg => rfl); (case hr => first | (go_simp; done) | (go_simp; rfl)); intro gb177 hg w4 hbox hb; have n0_ := Aside0.mk (below_step (by repeat (first | (with_reducible first | exact HB.out | apply below_alloc | apply pw_below_drewN | apply below_drew1) | exact HB.out)) hb); have n1_ := Aside0.mk (hbox); have n2_ := Aside0.mk ((by rw [hg]; exact (below_size (by repeat (first | (with_reducible first | exact HB.out | apply below_alloc | apply pw_below_drewN | apply below_drew1) | exact HB.out))) : w.heap.size ≤ gb177)); have n3_ := Aside0.mk ((by rw [hg]; exact (below_size (by repeat (first | (with_reducible first | exact HB.out | apply below_alloc | apply pw_below_drewN | apply below_drew1) | exact HB.out))) : w.heap.size ≤ gb177)); clear HB; have HB := n0_; have BK177 := n1_; have GW177 := n2_; have GE177 := n3_; clear n0_ n1_ n2_ n3_; clear hb hbox hg))
    repeat (go_quiet (first | ((with_reducible refine gate_dst (N := 2) rfl ?_); refine box_event ?hg (N := 2) ?hd (cs := #[.slice A0_0 l0_0.length c0_0, .slice A0_1 l0_1.length c0_1]) (t := 48) ?hr ?_; (case hd => rfl); (case hg => rfl); (case hr => first | (go_simp; done) | (go_simp; rfl)); intro gb177 hg w4 hbox hb; have n0_ := Aside0.mk (below_step (by repeat (first | (with_reducible first | exact HB.out | apply below_alloc | apply pw_below_drewN | apply below_drew1) | exact HB.out)) hb); have n1_ := Aside0.mk (hbox); have n2_ := Aside0.mk ((by rw [hg]; exact (below_size (by repeat (first | (with_reducible first | exact HB.out | apply below_alloc | apply pw_below_drewN | apply below_drew1) | exact HB.out))) : w.heap.size ≤ gb177)); have n3_ := Aside0.mk ((by rw [hg]; exact (below_size (by repeat (first | (with_reducible first | exact HB.out | apply below_alloc | apply pw_below_drewN | apply below_drew1) | exact HB.out))) : w.heap.size ≤ gb177)); clear HB; have HB := n0_; have BK177 := n1_; have GW177 := n2_; have GE177 := n3_; clear n0_ n1_ n2_ n3_; clear hb hbox hg)); try go_wp2_with (first | ((with_reducible refine gate_dst (N := 2) rfl ?_); refine box_event ?hg (N := 2) ?hd (cs := #[.slice A0_0 l0_0.length c0_0, .slice A0_1 l0_1.length c0_1]) (t := 48) ?hr ?_; (case hd => rfl); (case hg => rfl); (case hr => first | (go_simp; done) | (go_simp; rfl)); intro gb177 hg w4 hbox hb; have n0_ := Aside0.mk (below_step (by repeat (first | (with_reducible first | exact HB.out | apply below_alloc | apply pw_below_drewN | apply below_drew1) | exact HB.out)) hb); have n1_ := Aside0.mk (hbox); have n2_ := Aside0.mk ((by rw [hg]; exact (below_size (by repeat (first | (with_reducible first | exact HB.out | apply below_alloc | apply pw_below_drewN | apply below_drew1) | exact HB.out))) : w.heap.size ≤ gb177)); have n3_ := Aside0.mk ((by rw [hg]; exact (below_size (by repeat (first | (with_reducible first | exact HB.out | apply below_alloc | apply pw_below_drewN | apply below_drew1) | exact HB.out))) : w.heap.size ≤ gb177)); clear HB; have HB := n0_; have BK177 := n1_; have GW177 := n2_; have GE177 := n3_; clear n0_ n1_ n2_ n3_; clear hb hbox hg)))
    go_ret
    exact ⟨by first | rfl | (simp [errW_none, errW_some] <;> rfl) | (simp [errW_none, errW_some]; exact ⟨rfl, rfl⟩) | (simp [errW_none, errW_some]; exact ⟨rfl, rfl, rfl⟩) | (simp [*, errW_none, errW_some] <;> rfl), by repeat (first | (with_reducible first | exact HB.out | apply below_alloc | apply pw_below_drewN | apply below_drew1 | refine below_set ?_ GE177.out) | exact HB.out)⟩
  · rw [if_neg c3] at H
    have c3b0 : decide (a1 < 0) = false := decide_eq_false c3
    clear c3
    by_cases c5 : a1 < (l0_0.length : Int)
    · rw [if_pos c5] at H
      have c5b0 : decide (a1 < (l0_0.length : Int)) = true := decide_eq_true c5
      clear c5
      by_cases c6 : 0 ≤ a1
      · rw [if_pos c6] at H
        have c6b0 : decide (0 ≤ a1) = true := decide_eq_true c6
        clear c6
        obtain rfl := Option.some.inj H
        go_enter Try.func49, Try.ntmps49
        go_wp2_with (first | ((with_reducible refine gate_dst (N := 2) rfl ?_); refine box_event ?hg (N := 2) ?hd (cs := #[.slice A0_0 l0_0.length c0_0, .slice A0_1 l0_1.length c0_1]) (t := 48) ?hr ?_; (case hd => rfl); (case hg => rfl); (case hr => first | (go_simp; done) | (go_simp; rfl)); intro gb177 hg w7 hbox hb; have n0_ := Aside0.mk (below_step (by repeat (first | (with_reducible first | exact HB.out | apply below_alloc | apply pw_below_drewN | apply below_drew1) | exact HB.out)) hb); have n1_ := Aside0.mk (hbox); have n2_ := Aside0.mk ((by rw [hg]; exact (below_size (by repeat (first | (with_reducible first | exact HB.out | apply below_alloc | apply pw_below_drewN | apply below_drew1) | exact HB.out))) : w.heap.size ≤ gb177)); have n3_ := Aside0.mk ((by rw [hg]; exact (below_size (by repeat (first | (with_reducible first | exact HB.out | apply below_alloc | apply pw_below_drewN | apply below_drew1) | exact HB.out))) : w.heap.size ≤ gb177)); clear HB; have HB := n0_; have BK177 := n1_; have GW177 := n2_; have GE177 := n3_; clear n0_ n1_ n2_ n3_; clear hb hbox hg; have hcz8_0 : w7.cell? ⟨gb177, 0, none⟩ = some (.slice A0_0 l0_0.length c0_0) := (blk_cell BK177.out 0).trans rfl; have hcz8_1 : w7.cell? ⟨gb177, 1, none⟩ = some (.slice A0_1 l0_1.length c0_1) := (blk_cell BK177.out 1).trans rfl; have hfz8_0 := blk_frozen BK177.out 0; have hfz8_1 := blk_frozen BK177.out 1; have p178 : 0 ≤ (a1 : Int) := of_decide_eq_true (by first | (with_reducible assumption) | assumption); have q178 : a1 < (l0_0.length : Int) := of_decide_eq_true (by first | (with_reducible assumption) | assumption); obtain ⟨ad178, e178, hx178_0⟩ := Kd.at_bool HR0_0.out a1 p178 q178; cases e178; replace hx178_0 := (HB.out.cell (World.block_lt_of_cell? w _ hx178_0)).trans hx178_0; replace p178 := eq_true p178; replace q178 := eq_true q178))
        repeat (go_quiet (first | ((with_reducible refine gate_dst (N := 2) rfl ?_); refine box_event ?hg (N := 2) ?hd (cs := #[.slice A0_0 l0_0.length c0_0, .slice A0_1 l0_1.length c0_1]) (t := 48) ?hr ?_; (case hd => rfl); (case hg => rfl); (case hr => first | (go_simp; done) | (go_simp; rfl)); intro gb177 hg w7 hbox hb; have n0_ := Aside0.mk (below_step (by repeat (first | (with_reducible first | exact HB.out | apply below_alloc | apply pw_below_drewN | apply below_drew1) | exact HB.out)) hb); have n1_ := Aside0.mk (hbox); have n2_ := Aside0.mk ((by rw [hg]; exact (below_size (by repeat (first | (with_reducible first | exact HB.out | apply below_alloc | apply pw_below_drewN | apply below_drew1) | exact HB.out))) : w.heap.size ≤ gb177)); have n3_ := Aside0.mk ((by rw [hg]; exact (below_size (by repeat (first | (with_reducible first | exact HB.out | apply below_alloc | apply pw_below_drewN | apply below_drew1) | exact HB.out))) : w.heap.size ≤ gb177)); clear HB; have HB := n0_; have BK177 := n1_; have GW177 := n2_; have GE177 := n3_; clear n0_ n1_ n2_ n3_; clear hb hbox hg; have hcz8_0 : w7.cell? ⟨gb177, 0, none⟩ = some (.slice A0_0 l0_0.length c0_0) := (blk_cell BK177.out 0).trans rfl; have hcz8_1 : w7.cell? ⟨gb177, 1, none⟩ = some (.slice A0_1 l0_1.length c0_1) := (blk_cell BK177.out 1).trans rfl; have hfz8_0 := blk_frozen BK177.out 0; have hfz8_1 := blk_frozen BK177.out 1; have p178 : 0 ≤ (a1 : Int) := of_decide_eq_true (by first | (with_reducible assumption) | assumption); have q178 : a1 < (l0_0.length : Int) := of_decide_eq_true (by first | (with_reducible assumption) | assumption); obtain ⟨ad178, e178, hx178_0⟩ := Kd.at_bool HR0_0.out a1 p178 q178; cases e178; replace hx178_0 := (HB.out.cell (World.block_lt_of_cell? w _ hx178_0)).trans hx178_0; replace p178 := eq_true p178; replace q178 := eq_true q178)); try go_wp2_with (first | ((with_reducible refine gate_dst (N := 2) rfl ?_); refine box_event ?hg (N := 2) ?hd (cs := #[.slice A0_0 l0_0.length c0_0, .slice A0_1 l0_1.length c0_1]) (t := 48) ?hr ?_; (case hd => rfl); (case hg => rfl); (case hr => first | (go_simp; done) | (go_simp; rfl)); intro gb177 hg w7 hbox hb; have n0_ := Aside0.mk (below_step (by repeat (first | (with_reducible first | exact HB.out | apply below_alloc | apply pw_below_drewN | apply below_drew1) | exact HB.out)) hb); have n1_ := Aside0.mk (hbox); have n2_ := Aside0.mk ((by rw [hg]; exact (below_size (by repeat (first | (with_reducible first | exact HB.out | apply below_alloc | apply pw_below_drewN | apply below_drew1) | exact HB.out))) : w.heap.size ≤ gb177)); have n3_ := Aside0.mk ((by rw [hg]; exact (below_size (by repeat (first | (with_reducible first | exact HB.out | apply below_alloc | apply pw_below_drewN | apply below_drew1) | exact HB.out))) : w.heap.size ≤ gb177)); clear HB; have HB := n0_; have BK177 := n1_; have GW177 := n2_; have GE177 := n3_; clear n0_ n1_ n2_ n3_; clear hb hbox hg; have hcz8_0 : w7.cell? ⟨gb177, 0, none⟩ = some (.slice A0_0 l0_0.length c0_0) := (blk_cell BK177.out 0).trans rfl; have hcz8_1 : w7.cell? ⟨gb177, 1, none⟩ = some (.slice A0_1 l0_1.length c0_1) := (blk_cell BK177.out 1).trans rfl; have hfz8_0 := blk_frozen BK177.out 0; have hfz8_1 := blk_frozen BK177.out 1; have p178 : 0 ≤ (a1 : Int) := of_decide_eq_true (by first | (with_reducible assumption) | assumption); have q178 : a1 < (l0_0.length : Int) := of_decide_eq_true (by first | (with_reducible assumption) | assumption); obtain ⟨ad178, e178, hx178_0⟩ := Kd.at_bool HR0_0.out a1 p178 q178; cases e178; replace hx178_0 := (HB.out.cell (World.block_lt_of_cell? w _ hx178_0)).trans hx178_0; replace p178 := eq_true p178; replace q178 := eq_true q178)))
        go_ret
        exact ⟨by first | rfl | (simp [errW_none, errW_some] <;> rfl) | (simp [errW_none, errW_some]; exact ⟨rfl, rfl⟩) | (simp [errW_none, errW_some]; exact ⟨rfl, rfl, rfl⟩) | (simp [*, errW_none, errW_some] <;> rfl), by repeat (first | (with_reducible first | exact HB.out | apply below_alloc | apply pw_below_drewN | apply below_drew1 | refine below_set ?_ GE177.out) | exact HB.out)⟩
      · rw [if_neg c6] at H
        exact absurd H (by simp)
    · rw [if_neg c5] at H
      have c5b0 : decide (a1 < (l0_0.length : Int)) = false := decide_eq_false c5
      clear c5
      by_cases c9 : (l0_1.length : Int) = 0
      · rw [if_pos c9] at H
        exact absurd H (by simp)
      · rw [if_neg c9] at H
        have c9b0 : ((l0_1.length : Int) == 0) = false := beq_eq_false_iff_ne.mpr c9
        have c9b1 : ((l0_1.length : Int) != 0) = true := bne_iff_ne.mpr c9
        have c9b2 : ¬ (l0_1 = []) := fun h_ => c9 (by rw [h_]; rfl)
        obtain ⟨ji10, hji10⟩ : ∃ j_ : Int, (Int.tmod (wrap64 (a1 - (l0_0.length : Int))) (l0_1.length : Int)) = j_ := ⟨_, rfl⟩
        replace H : (if 0 ≤ (ji10) then (if (ji10) < (l0_1.length : Int) then (some (rdOf false l0_1 (ji10))) else (none)) else (none)) = some r := by first | (rw [hji10] at H; exact H) | (simp only [hji10] at H ⊢; exact H)
        by_cases c11 : 0 ≤ (ji10)
        · rw [if_pos c11] at H
          have c11b0 : decide (0 ≤ (ji10)) = true := decide_eq_true c11
          clear c11
          by_cases c12 : (ji10) < (l0_1.length : Int)
          · rw [if_pos c12] at H
            have c12b0 : decide ((ji10) < (l0_1.length : Int)) = true := decide_eq_true c12
            clear c12
            obtain rfl := Option.some.inj H
            go_enter Try.func49, Try.ntmps49
            go_wp2_with (first | ((with_reducible refine gate_dst (N := 2) rfl ?_); refine box_event ?hg (N := 2) ?hd (cs := #[.slice A0_0 l0_0.length c0_0, .slice A0_1 l0_1.length c0_1]) (t := 48) ?hr ?_; (case hd => rfl); (case hg => rfl); (case hr => first | (go_simp; done) | (go_simp; rfl)); intro gb177 hg w13 hbox hb; have n0_ := Aside0.mk (below_step (by repeat (first | (with_reducible first | exact HB.out | apply below_alloc | apply pw_below_drewN | apply below_drew1) | exact HB.out)) hb); have n1_ := Aside0.mk (hbox); have n2_ := Aside0.mk ((by rw [hg]; exact (below_size (by repeat (first | (with_reducible first | exact HB.out | apply below_alloc | apply pw_below_drewN | apply below_drew1) | exact HB.out))) : w.heap.size ≤ gb177)); have n3_ := Aside0.mk ((by rw [hg]; exact (below_size (by repeat (first | (with_reducible first | exact HB.out | apply below_alloc | apply pw_below_drewN | apply below_drew1) | exact HB.out))) : w.heap.size ≤ gb177)); clear HB; have HB := n0_; have BK177 := n1_; have GW177 := n2_; have GE177 := n3_; clear n0_ n1_ n2_ n3_; clear hb hbox hg; have hcz14_0 : w13.cell? ⟨gb177, 0, none⟩ = some (.slice A0_0 l0_0.length c0_0) := (blk_cell BK177.out 0).trans rfl; have hcz14_1 : w13.cell? ⟨gb177, 1, none⟩ = some (.slice A0_1 l0_1.length c0_1) := (blk_cell BK177.out 1).trans rfl; have hfz14_0 := blk_frozen BK177.out 0; have hfz14_1 := blk_frozen BK177.out 1; have p179 : 0 ≤ ((ji10) : Int) := of_decide_eq_true (by first | (with_reducible assumption) | assumption); have q179 : (ji10) < (l0_1.length : Int) := of_decide_eq_true (by first | (with_reducible assumption) | assumption); obtain ⟨ad179, e179, hx179_0⟩ := Kd.at_bool HR0_1.out (ji10) p179 q179; cases e179; replace hx179_0 := (HB.out.cell (World.block_lt_of_cell? w _ hx179_0)).trans hx179_0; replace p179 := eq_true p179; replace q179 := eq_true q179))
            repeat (go_quiet (first | ((with_reducible refine gate_dst (N := 2) rfl ?_); refine box_event ?hg (N := 2) ?hd (cs := #[.slice A0_0 l0_0.length c0_0, .slice A0_1 l0_1.length c0_1]) (t := 48) ?hr ?_; (case hd => rfl); (case hg => rfl); (case hr => first | (go_simp; done) | (go_simp; rfl)); intro gb177 hg w13 hbox hb; have n0_ := Aside0.mk (below_step (by repeat (first | (with_reducible first | exact HB.out | apply below_alloc | apply pw_below_drewN | apply below_drew1) | exact HB.out)) hb); have n1_ := Aside0.mk (hbox); have n2_ := Aside0.mk ((by rw [hg]; exact (below_size (by repeat (first | (with_reducible first | exact HB.out | apply below_alloc | apply pw_below_drewN | apply below_drew1) | exact HB.out))) : w.heap.size ≤ gb177)); have n3_ := Aside0.mk ((by rw [hg]; exact (below_size (by repeat (first | (with_reducible first | exact HB.out | apply below_alloc | apply pw_below_drewN | apply below_drew1) | exact HB.out))) : w.heap.size ≤ gb177)); clear HB; have HB := n0_; have BK177 := n1_; have GW177 := n2_; have GE177 := n3_; clear n0_ n1_ n2_ n3_; clear hb hbox hg; have hcz14_0 : w13.cell? ⟨gb177, 0, none⟩ = some (.slice A0_0 l0_0.length c0_0) := (blk_cell BK177.out 0).trans rfl; have hcz14_1 : w13.cell? ⟨gb177, 1, none⟩ = some (.slice A0_1 l0_1.length c0_1) := (blk_cell BK177.out 1).trans rfl; have hfz14_0 := blk_frozen BK177.out 0; have hfz14_1 := blk_frozen BK177.out 1; have p179 : 0 ≤ ((ji10) : Int) := of_decide_eq_true (by first | (with_reducible assumption) | assumption); have q179 : (ji10) < (l0_1.length : Int) := of_decide_eq_true (by first | (with_reducible assumption) | assumption); obtain ⟨ad179, e179, hx179_0⟩ := Kd.at_bool HR0_1.out (ji10) p179 q179; cases e179; replace hx179_0 := (HB.out.cell (World.block_lt_of_cell? w _ hx179_0)).trans hx179_0; replace p179 := eq_true p179; replace q179 := eq_true q179)); try go_wp2_with (first | ((with_reducible refine gate_dst (N := 2) rfl ?_); refine box_event ?hg (N := 2) ?hd (cs := #[.slice A0_0 l0_0.length c0_0, .slice A0_1 l0_1.length c0_1]) (t := 48) ?hr ?_; (case hd => rfl); (case hg => rfl); (case hr => first | (go_simp; done) | (go_simp; rfl)); intro gb177 hg w13 hbox hb; have n0_ := Aside0.mk (below_step (by repeat (first | (with_reducible first | exact HB.out | apply below_alloc | apply pw_below_drewN | apply below_drew1) | exact HB.out)) hb); have n1_ := Aside0.mk (hbox); have n2_ := Aside0.mk ((by rw [hg]; exact (below_size (by repeat (first | (with_reducible first | exact HB.out | apply below_alloc | apply pw_below_drewN | apply below_drew1) | exact HB.out))) : w.heap.size ≤ gb177)); have n3_ := Aside0.mk ((by rw [hg]; exact (below_size (by repeat (first | (with_reducible first | exact HB.out | apply below_alloc | apply pw_below_drewN | apply below_drew1) | exact HB.out))) : w.heap.size ≤ gb177)); clear HB; have HB := n0_; have BK177 := n1_; have GW177 := n2_; have GE177 := n3_; clear n0_ n1_ n2_ n3_; clear hb hbox hg; have hcz14_0 : w13.cell? ⟨gb177, 0, none⟩ = some (.slice A0_0 l0_0.length c0_0) := (blk_cell BK177.out 0).trans rfl; have hcz14_1 : w13.cell? ⟨gb177, 1, none⟩ = some (.slice A0_1 l0_1.length c0_1) := (blk_cell BK177.out 1).trans rfl; have hfz14_0 := blk_frozen BK177.out 0; have hfz14_1 := blk_frozen BK177.out 1; have p179 : 0 ≤ ((ji10) : Int) := of_decide_eq_true (by first | (with_reducible assumption) | assumption); have q179 : (ji10) < (l0_1.length : Int) := of_decide_eq_true (by first | (with_reducible assumption) | assumption); obtain ⟨ad179, e179, hx179_0⟩ := Kd.at_bool HR0_1.out (ji10) p179 q179; cases e179; replace hx179_0 := (HB.out.cell (World.block_lt_of_cell? w _ hx179_0)).trans hx179_0; replace p179 := eq_true p179; replace q179 := eq_true q179)))
            go_ret
            exact ⟨by first | rfl | (simp [errW_none, errW_some] <;> rfl) | (simp [errW_none, errW_some]; exact ⟨rfl, rfl⟩) | (simp [errW_none, errW_some]; exact ⟨rfl, rfl, rfl⟩) | (simp only [← hji10]; first | rfl | (simp [errW_none, errW_some] <;> rfl) | (simp [errW_none, errW_some]; exact ⟨rfl, rfl⟩) | (simp [errW_none, errW_some]; exact ⟨rfl, rfl, rfl⟩)) | (simp [*, errW_none, errW_some] <;> rfl), by repeat (first | (with_reducible first | exact HB.out | apply below_alloc | apply pw_below_drewN | apply below_drew1 | refine below_set ?_ GE177.out) | exact HB.out)⟩
          · rw [if_neg c12] at H
            exact absurd H (by simp)
        · rw [if_neg c11] at H
          exact absurd H (by simp)

end Go.Proofs.Ytbgapjgfocdjoaa.Q

namespace Go.Proofs.Ytbgapjgfocdjoaa.Q
open Go.RowKit Go.Proofs.YtbgapjgfocdjoaaW.PrintWords Go.Proofs.YtbgapjgfocdjoaaW.PrintLast Go.Proofs.YtbgapjgfocdjoaaW.PrintMore
attribute [local go_sem] max2_int min2_int max_two min_two max_three min_three max_four min_four   -- for this text's walks alone
set_option linter.unusedVariables false
set_option linter.unusedSimpArgs false

def impl_set_below.l0 : Nat → List Int → Int → Int → List Bool → List Bool → Option (List Int)
  | 0, _, _, _, _, _ => none
  | k + 1, x5, x7, x8, x181000, x181001 => if x8 < x7 then ((impl_set_has.f x181000 x181001 x8).bind fun t181 => (if t181 = true then (if x5.length < 17592186044416 then (impl_set_below.l0 k (x5 ++ [x8]) x7 (wrap64 (x8 + 1)) x181000 x181001) else (none)) else (impl_set_below.l0 k x5 x7 (wrap64 (x8 + 1)) x181000 x181001))) else (some x5)
def impl_set_below.f (k : Nat) (l0_0 : List Bool) (l0_1 : List Bool) (a1 : Int) : Option (List Int) := impl_set_below.l0 k ([] : List Int) a1 0 l0_0 l0_1
theorem impl_set_below.mono_l : ∀ k, (∀ y0 y1 y2 y3 y4, LeO (impl_set_below.l0 k y0 y1 y2 y3 y4) (impl_set_below.l0 (k + 1) y0 y1 y2 y3 y4))
  | 0 => fun _ _ _ _ _ r h => by simp [impl_set_below.l0] at h
  | k + 1 => by
    have ih0 := impl_set_below.mono_l k
    · intro y0 y1 y2 y3 y4
      unfold impl_set_below.l0
      repeat' first
      | (with_reducible exact ih0 _ _ _ _ _)
      | (with_reducible exact LeO.refl _)
      | (with_reducible exact LeO.none _)
      | (with_reducible refine LeO.ite ?_ ?_)
      | (with_reducible refine LeO.bind ?_ (fun _ => ?_))
      | exact ih0 _ _ _ _ _
      | exact LeO.none _
      | refine LeO.ite ?_ ?_
      | refine LeO.bind ?_ (fun _ => ?_)
theorem impl_set_below.mono : ∀ a0 a1 a2 k, LeO (impl_set_below.f k a0 a1 a2) (impl_set_below.f (k + 1) a0 a1 a2) := by
  intro a0 a1 a2 k
  have ih0 := impl_set_below.mono_l k
  unfold impl_set_below.f
  repeat' first
      | (with_reducible exact ih0 _ _ _ _ _)
      | (with_reducible exact LeO.refl _)
      | (with_reducible exact LeO.none _)
      | (with_reducible refine LeO.ite ?_ ?_)
      | (with_reducible refine LeO.bind ?_ (fun _ => ?_))
      | exact ih0 _ _ _ _ _
      | exact LeO.none _
      | refine LeO.ite ?_ ?_
      | refine LeO.bind ?_ (fun _ => ?_)
set_option maxHeartbeats 8000000 in
set_option maxRecDepth 100000 in
theorem impl_set_below.calls (k : Nat) (A0_0 : Option Addr) (c0_0 : Nat) (l0_0 : List Bool) (A0_1 : Option Addr) (c0_1 : Nat) (l0_1 : List Bool) (a1 : Int) (r : List Int) (w : World) (hr0_0 : Kd.C Kd.bool w A0_0 l0_0.length l0_0) (hc0_0 : l0_0.length ≤ c0_0) (hr0_1 : Kd.C Kd.bool w A0_1 l0_1.length l0_1) (hc0_1 : l0_1.length ≤ c0_1) (h : impl_set_below.f k l0_0 l0_1 a1 = some r) :
    Calls Try.prog 37 #[.agg #[.slice A0_0 l0_0.length c0_0, .slice A0_1 l0_1.length c0_1], .int .i64 a1] w fun e w' => ∃ v0_ : Value, e = .returned (v0_) ∧ Kd.R (Kd.int .i64) 3 w' w.heap.size (fun _ => True) v0_ r ∧ Below w.heap.size w w' := by
  have hu48 := Try.underlying48
  have HR0_0 := Aside0.mk hr0_0
  have HC0_0 := Aside0.mk hc0_0
  clear hr0_0 hc0_0
  have HR0_1 := Aside0.mk hr0_1
  have HC0_1 := Aside0.mk hc0_1
  clear hr0_1 hc0_1
  have HB := Aside0.mk (Below.refl w.heap.size w)
  have H : (impl_set_below.l0 k ([] : List Int) a1 0 l0_0 l0_1) = some r := h
  clear h
  have H' := Aside0.mk H
  clear H
  go_enter Try.func37, Try.ntmps37
  go_wp2_with (first | ((with_reducible refine gate_dst (N := 2) rfl ?_); refine box_event ?hg (N := 2) ?hd (cs := #[.slice A0_0 l0_0.length c0_0, .slice A0_1 l0_1.length c0_1]) (t := 48) ?hr ?_; (case hd => rfl); (case hg => rfl); (case hr => first | (go_simp; done) | (go_simp; rfl)); intro gb180 hg w3 hbox hb; have n0_ := Aside0.mk (below_step (by repeat (first | (with_reducible first | exact HB.out | apply below_alloc | apply pw_below_drewN | apply below_drew1) | exact HB.out)) hb); have n1_ := Aside0.mk (hbox); have n2_ := Aside0.mk ((by rw [hg]; exact (below_size (by repeat (first | (with_reducible first | exact HB.out | apply below_alloc | apply pw_below_drewN | apply below_drew1) | exact HB.out))) : w.heap.size ≤ gb180)); have n3_ := Aside0.mk ((by rw [hg]; exact (below_size (by repeat (first | (with_reducible first | exact HB.out | apply below_alloc | apply pw_below_drewN | apply below_drew1) | exact HB.out))) : w.heap.size ≤ gb180)); clear HB; have HB := n0_; have BK180 := n1_; have GW180 := n2_; have GE180 := n3_; clear n0_ n1_ n2_ n3_; clear hb hbox hg))
  go_loopg [5, 8] k (fun kq v5 v8 w' => ∃ (x5_1 : List Int) (x8_1 : Int), v8 = .int .i64 x8_1 ∧ Aside0 (impl_set_below.l0 kq x5_1 a1 x8_1 l0_0 l0_1 = some r) ∧ Aside0 (kq ≤ k) ∧ Aside0 (Kd.R (Kd.int .i64) 3 w' w.heap.size (fun _ => True) v5 x5_1) ∧ Aside0 (w'.heap[gb180]? = some (.cells #[(.slice A0_0 l0_0.length c0_0), (.slice A0_1 l0_1.length c0_1)] 48 (0, 0))) ∧ Aside0 (Below w.heap.size w w'))
  case atStart => exact ⟨(([] : List Int)), (0), (by first | rfl | (simp; done) | (simp [*]; done) | (simp [Int.tmod_eq_emod_of_nonneg]; done)), H', ⟨Nat.le_refl _⟩, ⟨by first | exact Kd.R_nil _ _ _ _ _ | exact Kd.N_nil _ _ _ _ _ | exact Kd.V_nil _ _ _ _ _ | exact Kd.Q_nil _ _ _ _ _ | exact Kd.S_nil _ _ _ _ _⟩, ⟨by (with_reducible repeat (first | refine blk_drewN ?_ _ | refine blk_drew ?_ | refine blk_alloc ?_ _)); exact BK180.out⟩, ⟨by repeat (first | (with_reducible first | exact HB.out | apply below_alloc | apply pw_below_drewN | apply below_drew1 | refine below_set ?_ GE180.out) | exact HB.out)⟩⟩
  case round =>
    clear H'
    try clear p2
    try clear c3
    obtain ⟨x5_1, x8_1, rfl, HA, HK1, HO_5, BK180, HB⟩ := hrel
    cases gk with
    | zero => exact absurd HA.out (by simp [impl_set_below.l0])
    | succ k1 =>
      have H := HA.out
      clear HA
      simp only [impl_set_below.l0] at H
      by_cases c4 : x8_1 < a1
      · rw [if_pos c4] at H
        have c4b0 : decide (x8_1 < a1) = true := decide_eq_true c4
        clear c4
        replace H := Option.bind_eq_some_iff.mp H
        obtain ⟨t181, A50, H⟩ := H
        replace H : (if t181 = true then (if x5_1.length < 17592186044416 then (impl_set_below.l0 k1 (x5_1 ++ [x8_1]) a1 (wrap64 (x8_1 + 1)) l0_0 l0_1) else (none)) else (impl_set_below.l0 k1 x5_1 a1 (wrap64 (x8_1 + 1)) l0_0 l0_1)) = some r := H
        have A5 := Aside0.mk A50
        clear A50
        by_cases c6 : t181 = true
        · subst c6
          have H1 : (if x5_1.length < 17592186044416 then (impl_set_below.l0 k1 (x5_1 ++ [x8_1]) a1 (wrap64 (x8_1 + 1)) l0_0 l0_1) else (none)) = some r := by rw [if_pos rfl] at H; exact H
          clear H
          have H := H1
          clear H1
          by_cases c7 : x5_1.length < 17592186044416
          · rw [if_pos c7] at H
            have LMc7 := Aside0.mk c7
            clear c7
            obtain ⟨y182, hy182⟩ : ∃ y_ : List Int, y_ = (x5_1 ++ [x8_1]) := ⟨_, rfl⟩
            replace H : (impl_set_below.l0 k1 y182 a1 (wrap64 (x8_1 + 1)) l0_0 l0_1) = some r := by first | (rw [hy182]; with_reducible exact H) | (have H2_ := (Option.bind_some _ _).symm.trans H; rw [hy182]; with_reducible exact H2_) | (have H2_ := (Option.bind_some _ _).symm.trans H; with_reducible exact H2_) | with_reducible exact H | (rw [hy182]; exact H) | exact H
            have Ny182 := Aside0.mk hy182
            clear hy182
            have H' := Aside0.mk H
            clear H
            have hcz8_0 : wr.cell? ⟨gb180, 0, none⟩ = some (.slice A0_0 l0_0.length c0_0) := (blk_cell BK180.out 0).trans rfl
            have hcz8_1 : wr.cell? ⟨gb180, 1, none⟩ = some (.slice A0_1 l0_1.length c0_1) := (blk_cell BK180.out 1).trans rfl
            have hfz8_0 := blk_frozen BK180.out 0
            have hfz8_1 := blk_frozen BK180.out 1
            go_wp2_with (first | ((with_reducible refine gate_callee (f := 49) rfl ?_); refine goesL_ (some 13) rfl rfl Try.func49 (by kernel_rfl) rfl #[.agg #[.slice A0_0 l0_0.length c0_0, .slice A0_1 l0_1.length c0_1], .int .i64 x8_1] rfl (by (try simp only [List.map_toArray, List.map_cons, List.map_nil]); first | done | rfl | (simp only [List.length_drop, List.length_take]; rfl)) ?_; (with_reducible refine (impl_set_has.calls _ _ l0_0 _ _ l0_1 x8_1 true _ ?side1 ?side2 ?side3 ?side4 A5.out).mono ?_); (case side1 => repeat (first | exact (Kd.C_below HR0_0.out HB.out) | (with_reducible refine Kd.C_alloc ?_ _) | (with_reducible refine Kd.C_drewN ?_ _) | (with_reducible refine Kd.C_drew ?_))); (case side2 => exact HC0_0.out); (case side3 => repeat (first | exact (Kd.C_below HR0_1.out HB.out) | (with_reducible refine Kd.C_alloc ?_ _) | (with_reducible refine Kd.C_drewN ?_ _) | (with_reducible refine Kd.C_drew ?_))); (case side4 => exact HC0_1.out); rintro e w9 ⟨rfl, hb⟩; refine ⟨_, rfl, ?_⟩; have n0_ := Aside0.mk (Kd.R_below (by (with_reducible repeat (first | apply Kd.R_alloc | apply Kd.R_drewN | apply Kd.R_drew)); exact HO_5.out) hb); have n1_ := Aside0.mk (blk_below (g := gb180) (o := .cells #[.slice A0_0 l0_0.length c0_0, .slice A0_1 l0_1.length c0_1] 48 (0, 0)) (by (with_reducible repeat (first | refine blk_drewN ?_ _ | refine blk_drew ?_ | refine blk_alloc ?_ _)); exact BK180.out) hb); have n2_ := Aside0.mk (below_step (by repeat (first | (with_reducible first | exact HB.out | apply below_alloc | apply pw_below_drewN | apply below_drew1 | refine below_set ?_ GE180.out) | exact HB.out)) hb); clear HO_5; clear BK180; clear HB; have HO_5 := n0_; have BK180 := n1_; have HB := n2_; clear n0_ n1_ n2_; (try clear hb); (try clear hb2); (try clear hk); (try clear hi)) | ((with_reducible refine gate_builtin (b := .append) (xs := #[.tmp 14, .tmp 16]) rfl ?_); at_builtin; refine Kd.R_append (Kd.int .i64) (w0 := w) w.heap.size rfl (.tmp 14) (.tmp 16) 45 3 (.int .i64 0) 8 rfl Try.underlying45 info3 rfl (by decide) (by omega) u5 x5_1 x8_1 [.int .i64 x8_1] (fun _ => True) (fun _ => False) rfl rfl ?aP (fun _ hk => hk.elim) ?aF ?aO ?aB ?aS ?aL ?_; (case aP => exact rfl); (case aB => exact (by repeat (first | (with_reducible first | exact HB.out | apply below_alloc | apply pw_below_drewN | apply below_drew1 | refine below_set ?_ GE180.out) | exact HB.out))); (case aF => exact (fun _ _ => trivial)); (case aO => exact (by (with_reducible repeat (first | apply Kd.R_alloc | apply Kd.R_drewN | apply Kd.R_drew)); exact HO_5.out)); (case aS => exact (below_size (by repeat (first | (with_reducible first | exact HB.out | apply below_alloc | apply pw_below_drewN | apply below_drew1 | refine below_set ?_ GE180.out) | exact HB.out)))); (case aL => have := LMc7.out; omega); intro v183 w10 ho hb hg hat; rw [← Ny182.out] at ho; have n0_ := Aside0.mk (blk_grown (g := gb180) (o := .cells #[.slice A0_0 l0_0.length c0_0, .slice A0_1 l0_1.length c0_1] 48 (0, 0)) (by (with_reducible repeat (first | refine blk_drewN ?_ _ | refine blk_drew ?_ | refine blk_alloc ?_ _)); exact BK180.out) hg (Kd.R_ne HO_5.out BK180.out (by decide))); have n1_ := Aside0.mk (hb); have n2_ := Aside0.mk (ho); clear BK180; clear HB; clear HO_5; have BK180 := n0_; have HB := n1_; have HO184 := n2_; clear n0_ n1_ n2_; clear ho hb hg hat))
            go_roundg k1
            case measure => have := HK1.out; omega
            case rel => exact ⟨(y182), (wrap64 (x8_1 + 1)), (by first | rfl | (simp; done) | (simp [*]; done) | (simp [Int.tmod_eq_emod_of_nonneg]; done)), H', ⟨by have := HK1.out; omega⟩, ⟨by (with_reducible repeat (first | apply Kd.R_alloc | apply Kd.R_drewN | apply Kd.R_drew)); exact HO184.out⟩, ⟨by (with_reducible repeat (first | refine blk_drewN ?_ _ | refine blk_drew ?_ | refine blk_alloc ?_ _)); exact BK180.out⟩, ⟨by repeat (first | (with_reducible first | exact HB.out | apply below_alloc | apply pw_below_drewN | apply below_drew1 | refine below_set ?_ GE180.out) | exact HB.out)⟩⟩
          · rw [if_neg c7] at H
            exact absurd H (by simp)
        · replace c6 := Bool.eq_false_iff.mpr c6
          subst c6
          have H1 : (impl_set_below.l0 k1 x5_1 a1 (wrap64 (x8_1 + 1)) l0_0 l0_1) = some r := by rw [if_neg (show ¬ (false = true) by decide)] at H; exact H
          clear H
          have H := H1
          clear H1
          have H' := Aside0.mk H
          clear H
          have hcz11_0 : wr.cell? ⟨gb180, 0, none⟩ = some (.slice A0_0 l0_0.length c0_0) := (blk_cell BK180.out 0).trans rfl
          have hcz11_1 : wr.cell? ⟨gb180, 1, none⟩ = some (.slice A0_1 l0_1.length c0_1) := (blk_cell BK180.out 1).trans rfl
          have hfz11_0 := blk_frozen BK180.out 0
          have hfz11_1 := blk_frozen BK180.out 1
          go_wp2_with (first | ((with_reducible refine gate_callee (f := 49) rfl ?_); refine goesL_ (some 13) rfl rfl Try.func49 (by kernel_rfl) rfl #[.agg #[.slice A0_0 l0_0.length c0_0, .slice A0_1 l0_1.length c0_1], .int .i64 x8_1] rfl (by (try simp only [List.map_toArray, List.map_cons, List.map_nil]); first | done | rfl | (simp only [List.length_drop, List.length_take]; rfl)) ?_; (with_reducible refine (impl_set_has.calls _ _ l0_0 _ _ l0_1 x8_1 false _ ?side1 ?side2 ?side3 ?side4 A5.out).mono ?_); (case side1 => repeat (first | exact (Kd.C_below HR0_0.out HB.out) | (with_reducible refine Kd.C_alloc ?_ _) | (with_reducible refine Kd.C_drewN ?_ _) | (with_reducible refine Kd.C_drew ?_))); (case side2 => exact HC0_0.out); (case side3 => repeat (first | exact (Kd.C_below HR0_1.out HB.out) | (with_reducible refine Kd.C_alloc ?_ _) | (with_reducible refine Kd.C_drewN ?_ _) | (with_reducible refine Kd.C_drew ?_))); (case side4 => exact HC0_1.out); rintro e w12 ⟨rfl, hb⟩; refine ⟨_, rfl, ?_⟩; have n0_ := Aside0.mk (Kd.R_below (by (with_reducible repeat (first | apply Kd.R_alloc | apply Kd.R_drewN | apply Kd.R_drew)); exact HO_5.out) hb); have n1_ := Aside0.mk (blk_below (g := gb180) (o := .cells #[.slice A0_0 l0_0.length c0_0, .slice A0_1 l0_1.length c0_1] 48 (0, 0)) (by (with_reducible repeat (first | refine blk_drewN ?_ _ | refine blk_drew ?_ | refine blk_alloc ?_ _)); exact BK180.out) hb); have n2_ := Aside0.mk (below_step (by repeat (first | (with_reducible first | exact HB.out | apply below_alloc | apply pw_below_drewN | apply below_drew1 | refine below_set ?_ GE180.out) | exact HB.out)) hb); clear HO_5; clear BK180; clear HB; have HO_5 := n0_; have BK180 := n1_; have HB := n2_; clear n0_ n1_ n2_; (try clear hb); (try clear hb2); (try clear hk); (try clear hi)))
          go_roundg k1
          case measure => have := HK1.out; omega
          case rel => exact ⟨(x5_1), (wrap64 (x8_1 + 1)), (by first | rfl | (simp; done) | (simp [*]; done) | (simp [Int.tmod_eq_emod_of_nonneg]; done)), H', ⟨by have := HK1.out; omega⟩, ⟨by (with_reducible repeat (first | apply Kd.R_alloc | apply Kd.R_drewN | apply Kd.R_drew)); exact HO_5.out⟩, ⟨by (with_reducible repeat (first | refine blk_drewN ?_ _ | refine blk_drew ?_ | refine blk_alloc ?_ _)); exact BK180.out⟩, ⟨by repeat (first | (with_reducible first | exact HB.out | apply below_alloc | apply pw_below_drewN | apply below_drew1 | refine below_set ?_ GE180.out) | exact HB.out)⟩⟩
      · rw [if_neg c4] at H
        have c4b0 : decide (x8_1 < a1) = false := decide_eq_false c4
        clear c4
        obtain rfl := Option.some.inj H
        go_wp2
        go_ret
        exact ⟨_, by first | rfl | (simp [errW_none, errW_some] <;> rfl) | (simp [errW_none, errW_some]; exact ⟨rfl, rfl⟩) | (simp [errW_none, errW_some]; exact ⟨rfl, rfl, rfl⟩) | (simp [*, errW_none, errW_some] <;> rfl), by (with_reducible repeat (first | apply Kd.R_alloc | apply Kd.R_drewN | apply Kd.R_drew)); exact HO_5.out, by repeat (first | (with_reducible first | exact HB.out | apply below_alloc | apply pw_below_drewN | apply below_drew1 | refine below_set ?_ GE180.out) | exact HB.out)⟩

end Go.Proofs.Ytbgapjgfocdjoaa.Q

namespace Go.Proofs.Ytbgapjgfocdjoaa.Q
open Go.RowKit Go.Proofs.YtbgapjgfocdjoaaW.PrintWords Go.Proofs.YtbgapjgfocdjoaaW.PrintLast Go.Proofs.YtbgapjgfocdjoaaW.PrintMore
attribute [local go_sem] max2_int min2_int max_two min_two max_three min_three max_four min_four   -- for this text's walks alone
set_option linter.unusedVariables false
set_option linter.unusedSimpArgs false

def impl_DenseCount.j0 : Nat → Int → Int → Bool → List Bool → List Bool → Option (Int × Bool)
  | 0, _, _, _, _, _ => none
  | k + 1, x1, x2, x26, x193000, x193001 => if x26 = true then (some (0, false)) else ((impl_set_below.f k x193000 x193001 (wrap64 (x1 + x2))).bind fun t195 => ((impl_set_below.f k x193000 x193001 x1).bind fun t198 => (some (wrap64 ((t195.length : Int) - (t198.length : Int)), true))))
def impl_DenseCount.f (k : Nat) (a0 : ByteArray) (a1 : Int) (a2 : Int) : Option (Int × Bool) := (impl_setOf.f a0).bind fun bt185 => (if bt185.2.2 = true then ((impl_in.f a1 0 1000).bind fun t193 => (if t193 = true then ((impl_in.f a2 0 1000).bind fun t194 => (impl_DenseCount.j0 k a1 a2 (!t194) bt185.1 bt185.2.1)) else (impl_DenseCount.j0 k a1 a2 true bt185.1 bt185.2.1))) else (impl_DenseCount.j0 k a1 a2 true bt185.1 bt185.2.1))
theorem impl_DenseCount.mono_l : ∀ k, (∀ y0 y1 y2 y3 y4, LeO (impl_DenseCount.j0 k y0 y1 y2 y3 y4) (impl_DenseCount.j0 (k + 1) y0 y1 y2 y3 y4))
  | 0 => fun _ _ _ _ _ r h => by simp [impl_DenseCount.j0] at h
  | k + 1 => by
    have ih0 := impl_DenseCount.mono_l k
    · intro y0 y1 y2 y3 y4
      unfold impl_DenseCount.j0
      repeat' first
      | (with_reducible exact ih0 _ _ _ _ _)
      | (with_reducible exact impl_set_below.mono _ _ _ _)
      | (with_reducible exact LeO.refl _)
      | (with_reducible exact LeO.none _)
      | (with_reducible refine LeO.ite ?_ ?_)
      | (with_reducible refine LeO.bind ?_ (fun _ => ?_))
      | exact ih0 _ _ _ _ _
      | exact impl_set_below.mono _ _ _ _
      | exact LeO.none _
      | refine LeO.ite ?_ ?_
      | refine LeO.bind ?_ (fun _ => ?_)
theorem impl_DenseCount.mono : ∀ a0 a1 a2 k, LeO (impl_DenseCount.f k a0 a1 a2) (impl_DenseCount.f (k + 1) a0 a1 a2) := by
  intro a0 a1 a2 k
  have ih0 := impl_DenseCount.mono_l k
  unfold impl_DenseCount.f
  repeat' first
      | (with_reducible exact ih0 _ _ _ _ _)
      | (with_reducible exact impl_set_below.mono _ _ _ _)
      | (with_reducible exact LeO.refl _)
      | (with_reducible exact LeO.none _)
      | (with_reducible refine LeO.ite ?_ ?_)
      | (with_reducible refine LeO.bind ?_ (fun _ => ?_))
      | exact ih0 _ _ _ _ _
      | exact impl_set_below.mono _ _ _ _
      | exact LeO.none _
      | refine LeO.ite ?_ ?_
      | refine LeO.bind ?_ (fun _ => ?_)
def impl_DenseCount.T4 : Bool × List (List Nat × List Nat) := (true, [([], []), ([], []), ([], []), ([1, 2], [1, 2]), ([0, 3], [0, 3]), ([4], [4]), ([], []), ([], []), ([6, 7, 4], [6, 7]), ([8], [8]), ([5, 9], [5, 9]), ([10, 8, 0, 1, 2, 3, 4, 5, 6, 7, 8, 9, 10], [10]), ([11, 0, 1, 2, 3, 4, 5, 6, 7, 8, 9, 10, 11], [])])
def impl_DenseCount.B4 : List Nat := [0, 0, 0, 6, 15, 31, 0, 0, 223, 479, 1023, 2047, 4095]
theorem impl_DenseCount.tab4 : rtab .any (opsOf Try.f14 4) = impl_DenseCount.T4 := by kernel_rfl
theorem impl_DenseCount.bits4 : waitsOk impl_DenseCount.T4.2 impl_DenseCount.B4 = true := by kernel_rfl
set_option maxHeartbeats 8000000 in
set_option maxRecDepth 100000 in
theorem impl_DenseCount.calls (k : Nat) (a0 : ByteArray) (a1 : Int) (a2 : Int) (r1 : Int) (r2 : Bool) (w : World) (h : impl_DenseCount.f k a0 a1 a2 = some (r1, r2)) :
    Calls Try.prog 14 #[.string a0, .int .i64 a1, .int .i64 a2] w fun e w' => e = .returned (.tuple #[.int .i64 r1, .bool r2]) ∧ Below w.heap.size w w' := by
  have hu48 := Try.underlying48
  have HB := Aside0.mk (Below.refl w.heap.size w)
  have H : ((impl_setOf.f a0).bind fun bt185 => (if bt185.2.2 = true then ((impl_in.f a1 0 1000).bind fun t193 => (if t193 = true then ((impl_in.f a2 0 1000).bind fun t194 => (impl_DenseCount.j0 k a1 a2 (!t194) bt185.1 bt185.2.1)) else (impl_DenseCount.j0 k a1 a2 true bt185.1 bt185.2.1))) else (impl_DenseCount.j0 k a1 a2 true bt185.1 bt185.2.1))) = some (r1, r2) := h
  clear h
  replace H := Option.bind_eq_some_iff.mp H
  obtain ⟨⟨t185, t188, t191⟩, A40, H⟩ := H
  replace H : (if t191 = true then ((impl_in.f a1 0 1000).bind fun t193 => (if t193 = true then ((impl_in.f a2 0 1000).bind fun t194 => (impl_DenseCount.j0 k a1 a2 (!t194) t185 t188)) else (impl_DenseCount.j0 k a1 a2 true t185 t188))) else (impl_DenseCount.j0 k a1 a2 true t185 t188)) = some (r1, r2) := H
  have A4 := Aside0.mk A40
  clear A40
  have HC5 := Aside0.mk H
  clear H
  go_enter Try.func14, Try.ntmps14
  go_upto_region 2 with (first | ((with_reducible refine gate_callee (f := 35) rfl ?_); refine goesL_ (some 12) rfl rfl Try.func35 (by kernel_rfl) rfl #[.string a0] rfl (by (try simp only [List.map_toArray, List.map_cons, List.map_nil]); first | done | rfl | (simp only [List.length_drop, List.length_take]; rfl)) ?_; (with_reducible refine (impl_setOf.calls a0 t185 t188 t191 _ A4.out).mono ?_); rintro e w6 ⟨v186, v189, rfl, ho0, ho1, hb⟩; refine ⟨_, rfl, ?_⟩; have n0_ := Aside0.mk (Kd.R_lower ho0 (below_size (by repeat (first | (with_reducible first | exact HB.out | apply below_alloc | apply pw_below_drewN | apply below_drew1) | exact HB.out)))); have n1_ := Aside0.mk (Kd.R_lower ho1 (below_size (by repeat (first | (with_reducible first | exact HB.out | apply below_alloc | apply pw_below_drewN | apply below_drew1) | exact HB.out)))); have n2_ := Aside0.mk (below_step (by repeat (first | (with_reducible first | exact HB.out | apply below_alloc | apply pw_below_drewN | apply below_drew1) | exact HB.out)) hb); clear HB; have HO187 := n0_; have HO190 := n1_; have HB := n2_; clear n0_ n1_ n2_; (try clear hb); (try clear hb2); (try clear hk); (try clear hi); (try clear ho0); (try clear ho1)) | ((with_reducible refine gate_dst (N := 8) rfl ?_); refine box_event ?hg (N := 8) ?hd (cs := #[.slice none 0 0, .slice none 0 0]) (t := 48) ?hr ?_; (case hd => rfl); (case hg => rfl); (case hr => first | (go_simp; done) | (go_simp; rfl)); intro gb192 hg w7 hbox hb; have n0_ := Aside0.mk (Kd.R_below (by (with_reducible repeat (first | apply Kd.R_alloc | apply Kd.R_drewN | apply Kd.R_drew)); exact HO187.out) hb); have n1_ := Aside0.mk (Kd.R_below (by (with_reducible repeat (first | apply Kd.R_alloc | apply Kd.R_drewN | apply Kd.R_drew)); exact HO190.out) hb); have n2_ := Aside0.mk (below_step (by repeat (first | (with_reducible first | exact HB.out | apply below_alloc | apply pw_below_drewN | apply below_drew1) | exact HB.out)) hb); have n3_ := Aside0.mk (hbox); have n4_ := Aside0.mk ((by rw [hg]; exact (below_size (by repeat (first | (with_reducible first | exact HB.out | apply below_alloc | apply pw_below_drewN | apply below_drew1) | exact HB.out))) : w.heap.size ≤ gb192)); have n5_ := Aside0.mk ((by rw [hg]; exact (below_size (by repeat (first | (with_reducible first | exact HB.out | apply below_alloc | apply pw_below_drewN | apply below_drew1) | exact HB.out))) : w.heap.size ≤ gb192)); clear HO187; clear HO190; clear HB; have HO187 := n0_; have HO190 := n1_; have HB := n2_; have BK192 := n3_; have GW192 := n4_; have GE192 := n5_; clear n0_ n1_ n2_ n3_ n4_ n5_; clear hb hbox hg; obtain ⟨Ao8, co8, eo8⟩ := Kd.R_slice HO187.out; subst eo8; have hcz9_0 : w7.cell? ⟨gb192, 0, none⟩ = some (.slice none 0 0) := (blk_cell BK192.out 0).trans rfl; have hcz9_1 : w7.cell? ⟨gb192, 1, none⟩ = some (.slice none 0 0) := (blk_cell BK192.out 1).trans rfl; have hfz9_0 := blk_frozen BK192.out 0; have hfz9_1 := blk_frozen BK192.out 1; obtain ⟨Ao10, co10, eo10⟩ := Kd.R_slice HO190.out; subst eo10))
  (try simp only [Act.put, List.setIfInBounds_toArray, List.set_cons_zero, List.set_cons_succ])
  go_cut [26] (fun v26 wc => ∃ (kq : Nat) (x26_4 : Bool), v26 = .bool x26_4 ∧ Aside0 (impl_DenseCount.j0 kq a1 a2 x26_4 t185 t188 = some (r1, r2)) ∧ Aside0 (kq ≤ k) ∧ Aside0 (Kd.R Kd.bool 4 wc w.heap.size (fun k_ => some k_ ≠ ((.slice Ao10 t188.length co10) : Value).ownBlock) (.slice Ao8 t185.length co8) t185) ∧ Aside0 (Kd.R Kd.bool 4 wc w.heap.size (fun k_ => some k_ ≠ ((.slice Ao8 t185.length co8) : Value).ownBlock) (.slice Ao10 t188.length co10) t188) ∧ Aside0 (wc.heap[gb192]? = some (.cells #[(.slice Ao8 t185.length co8), (.slice Ao10 t188.length co10)] 48 (0, 0))) ∧ Aside0 (Below w.heap.size w wc))
  case first =>
    have H := HC5.out
    clear HC5
    by_cases c11 : t191 = true
    · subst c11
      have H1 : ((impl_in.f a1 0 1000).bind fun t193 => (if t193 = true then ((impl_in.f a2 0 1000).bind fun t194 => (impl_DenseCount.j0 k a1 a2 (!t194) t185 t188)) else (impl_DenseCount.j0 k a1 a2 true t185 t188))) = some (r1, r2) := by rw [if_pos rfl] at H; exact H
      clear H
      have H := H1
      clear H1
      replace H := Option.bind_eq_some_iff.mp H
      obtain ⟨t193, A120, H⟩ := H
      replace H : (if t193 = true then ((impl_in.f a2 0 1000).bind fun t194 => (impl_DenseCount.j0 k a1 a2 (!t194) t185 t188)) else (impl_DenseCount.j0 k a1 a2 true t185 t188)) = some (r1, r2) := H
      have A12 := Aside0.mk A120
      clear A120
      by_cases c13 : t193 = true
      · subst c13
        have H1 : ((impl_in.f a2 0 1000).bind fun t194 => (impl_DenseCount.j0 k a1 a2 (!t194) t185 t188)) = some (r1, r2) := by rw [if_pos rfl] at H; exact H
        clear H
        have H := H1
        clear H1
        replace H := Option.bind_eq_some_iff.mp H
        obtain ⟨t194, A140, H⟩ := H
        replace H : (impl_DenseCount.j0 k a1 a2 (!t194) t185 t188) = some (r1, r2) := H
        have A14 := Aside0.mk A140
        clear A140
        have H' := Aside0.mk H
        clear H
        go_wp2_with (first | (go_at_call 36; (with_reducible refine (impl_in.calls a1 0 1000 true _ A12.out).mono ?_); rintro e w' ⟨rfl, ⟨nd, rfl⟩⟩) | (go_at_call 36; (with_reducible refine (impl_in.calls a2 0 1000 t194 _ A14.out).mono ?_); rintro e w' ⟨rfl, ⟨nd, rfl⟩⟩))
        go_meet
        case rel => exact ⟨_, (!t194), (by first | rfl | (simp; done) | (simp [*]; done) | (simp [Int.tmod_eq_emod_of_nonneg]; done)), H', ⟨by first | omega | exact Nat.le_refl _⟩, ⟨by (with_reducible repeat (first | apply Kd.R_alloc | apply Kd.R_drewN | apply Kd.R_drew)); exact Kd.R_mono (Kd.R_far (p := ⟨gb192, 1, none⟩) (Kd.R_far (p := ⟨gb192, 0, none⟩) (Kd.R_types HO187.out BK192.out (by decide)) (fun _ hk => hk.2) (.slice Ao8 t185.length co8)) (fun _ hk => hk.2) (.slice Ao10 t188.length co10)) (fun _ hk => hk.1)⟩, ⟨by (with_reducible repeat (first | apply Kd.R_alloc | apply Kd.R_drewN | apply Kd.R_drew)); exact Kd.R_mono (Kd.R_far (p := ⟨gb192, 1, none⟩) (Kd.R_far (p := ⟨gb192, 0, none⟩) (Kd.R_types HO190.out BK192.out (by decide)) (fun _ hk => hk.2) (.slice Ao8 t185.length co8)) (fun _ hk => hk.2) (.slice Ao10 t188.length co10)) (fun _ hk => hk.1)⟩, ⟨by (with_reducible repeat (first | refine blk_drewN ?_ _ | refine blk_drew ?_ | refine blk_alloc ?_ _)); refine blk_put (cs := #[.slice Ao8 t185.length co8, .slice none 0 0]) ?_ 1 _ rfl; (with_reducible repeat (first | refine blk_drewN ?_ _ | refine blk_drew ?_ | refine blk_alloc ?_ _)); refine blk_put (cs := #[.slice none 0 0, .slice none 0 0]) ?_ 0 _ rfl; (with_reducible repeat (first | refine blk_drewN ?_ _ | refine blk_drew ?_ | refine blk_alloc ?_ _)); exact BK192.out⟩, ⟨by repeat (first | (with_reducible first | exact HB.out | apply below_alloc | apply pw_below_drewN | apply below_drew1 | refine below_set ?_ GE192.out) | exact HB.out)⟩⟩
      · replace c13 := Bool.eq_false_iff.mpr c13
        subst c13
        have H1 : (impl_DenseCount.j0 k a1 a2 true t185 t188) = some (r1, r2) := by rw [if_neg (show ¬ (false = true) by decide)] at H; exact H
        clear H
        have H := H1
        clear H1
        have H' := Aside0.mk H
        clear H
        go_wp2_with (first | (go_at_call 36; (with_reducible refine (impl_in.calls a1 0 1000 false _ A12.out).mono ?_); rintro e w' ⟨rfl, ⟨nd, rfl⟩⟩))
        go_meet
        case rel => exact ⟨_, (true), (by first | rfl | (simp; done) | (simp [*]; done) | (simp [Int.tmod_eq_emod_of_nonneg]; done)), H', ⟨by first | omega | exact Nat.le_refl _⟩, ⟨by (with_reducible repeat (first | apply Kd.R_alloc | apply Kd.R_drewN | apply Kd.R_drew)); exact Kd.R_mono (Kd.R_far (p := ⟨gb192, 1, none⟩) (Kd.R_far (p := ⟨gb192, 0, none⟩) (Kd.R_types HO187.out BK192.out (by decide)) (fun _ hk => hk.2) (.slice Ao8 t185.length co8)) (fun _ hk => hk.2) (.slice Ao10 t188.length co10)) (fun _ hk => hk.1)⟩, ⟨by (with_reducible repeat (first | apply Kd.R_alloc | apply Kd.R_drewN | apply Kd.R_drew)); exact Kd.R_mono (Kd.R_far (p := ⟨gb192, 1, none⟩) (Kd.R_far (p := ⟨gb192, 0, none⟩) (Kd.R_types HO190.out BK192.out (by decide)) (fun _ hk => hk.2) (.slice Ao8 t185.length co8)) (fun _ hk => hk.2) (.slice Ao10 t188.length co10)) (fun _ hk => hk.1)⟩, ⟨by (with_reducible repeat (first | refine blk_drewN ?_ _ | refine blk_drew ?_ | refine blk_alloc ?_ _)); refine blk_put (cs := #[.slice Ao8 t185.length co8, .slice none 0 0]) ?_ 1 _ rfl; (with_reducible repeat (first | refine blk_drewN ?_ _ | refine blk_drew ?_ | refine blk_alloc ?_ _)); refine blk_put (cs := #[.slice none 0 0, .slice none 0 0]) ?_ 0 _ rfl; (with_reducible repeat (first | refine blk_drewN ?_ _ | refine blk_drew ?_ | refine blk_alloc ?_ _)); exact BK192.out⟩, ⟨by repeat (first | (with_reducible first | exact HB.out | apply below_alloc | apply pw_below_drewN | apply below_drew1 | refine below_set ?_ GE192.out) | exact HB.out)⟩⟩
    · replace c11 := Bool.eq_false_iff.mpr c11
      subst c11
      have H1 : (impl_DenseCount.j0 k a1 a2 true t185 t188) = some (r1, r2) := by rw [if_neg (show ¬ (false = true) by decide)] at H; exact H
      clear H
      have H := H1
      clear H1
      have H' := Aside0.mk H
      clear H
      go_wp2
      go_meet
      case rel => exact ⟨_, (true), (by first | rfl | (simp; done) | (simp [*]; done) | (simp [Int.tmod_eq_emod_of_nonneg]; done)), H', ⟨by first | omega | exact Nat.le_refl _⟩, ⟨by (with_reducible repeat (first | apply Kd.R_alloc | apply Kd.R_drewN | apply Kd.R_drew)); exact Kd.R_mono (Kd.R_far (p := ⟨gb192, 1, none⟩) (Kd.R_far (p := ⟨gb192, 0, none⟩) (Kd.R_types HO187.out BK192.out (by decide)) (fun _ hk => hk.2) (.slice Ao8 t185.length co8)) (fun _ hk => hk.2) (.slice Ao10 t188.length co10)) (fun _ hk => hk.1)⟩, ⟨by (with_reducible repeat (first | apply Kd.R_alloc | apply Kd.R_drewN | apply Kd.R_drew)); exact Kd.R_mono (Kd.R_far (p := ⟨gb192, 1, none⟩) (Kd.R_far (p := ⟨gb192, 0, none⟩) (Kd.R_types HO190.out BK192.out (by decide)) (fun _ hk => hk.2) (.slice Ao8 t185.length co8)) (fun _ hk => hk.2) (.slice Ao10 t188.length co10)) (fun _ hk => hk.1)⟩, ⟨by (with_reducible repeat (first | refine blk_drewN ?_ _ | refine blk_drew ?_ | refine blk_alloc ?_ _)); refine blk_put (cs := #[.slice Ao8 t185.length co8, .slice none 0 0]) ?_ 1 _ rfl; (with_reducible repeat (first | refine blk_drewN ?_ _ | refine blk_drew ?_ | refine blk_alloc ?_ _)); refine blk_put (cs := #[.slice none 0 0, .slice none 0 0]) ?_ 0 _ rfl; (with_reducible repeat (first | refine blk_drewN ?_ _ | refine blk_drew ?_ | refine blk_alloc ?_ _)); exact BK192.out⟩, ⟨by repeat (first | (with_reducible first | exact HB.out | apply below_alloc | apply pw_below_drewN | apply below_drew1 | refine below_set ?_ GE192.out) | exact HB.out)⟩⟩
  case rest =>
    clear HC5
    try clear c1
    try clear p2
    try clear c3
    try clear c11
    try clear c13
    try clear c14
    try clear hcz9_0
    try clear hcz9_1
    try clear hfz9_0
    try clear hfz9_1
    obtain ⟨kq, x26_4, rfl, HA, HJ4, HO_193000, HO_193001, BK192, HB⟩ := hcut
    cases kq with
    | zero => exact absurd HA.out (by simp [impl_DenseCount.j0])
    | succ kj4 =>
      have H := HA.out
      clear HA
      simp only [impl_DenseCount.j0] at H
      by_cases c15 : x26_4 = true
      · subst c15
        have H1 : (some (0, false)) = some (r1, r2) := by rw [if_pos rfl] at H; exact H
        clear H
        have H := H1
        clear H1
        simp only [Option.some.injEq, Prod.mk.injEq] at H
        obtain ⟨rfl, rfl⟩ := H
        go_wp2
        go_ret2
        exact ⟨by first | rfl | (simp [errW_none, errW_some] <;> rfl) | (simp [errW_none, errW_some]; exact ⟨rfl, rfl⟩) | (simp [errW_none, errW_some]; exact ⟨rfl, rfl, rfl⟩) | (simp [*, errW_none, errW_some] <;> rfl), by repeat (first | (with_reducible first | exact HB.out | apply below_alloc | apply pw_below_drewN | apply below_drew1 | refine below_set ?_ GE192.out) | exact HB.out)⟩
      · replace c15 := Bool.eq_false_iff.mpr c15
        subst c15
        have H1 : ((impl_set_below.f kj4 t185 t188 (wrap64 (a1 + a2))).bind fun t195 => ((impl_set_below.f kj4 t185 t188 a1).bind fun t198 => (some (wrap64 ((t195.length : Int) - (t198.length : Int)), true)))) = some (r1, r2) := by rw [if_neg (show ¬ (false = true) by decide)] at H; exact H
        clear H
        have H := H1
        clear H1
        replace H := Option.bind_eq_some_iff.mp H
        obtain ⟨t195, A160, H⟩ := H
        replace H : ((impl_set_below.f kj4 t185 t188 a1).bind fun t198 => (some (wrap64 ((t195.length : Int) - (t198.length : Int)), true))) = some (r1, r2) := H
        have A16 := Aside0.mk A160
        clear A160
        replace H := Option.bind_eq_some_iff.mp H
        obtain ⟨t198, A170, H⟩ := H
        replace H : (some (wrap64 ((t195.length : Int) - (t198.length : Int)), true)) = some (r1, r2) := H
        have A17 := Aside0.mk A170
        clear A170
        simp only [Option.some.injEq, Prod.mk.injEq] at H
        obtain ⟨rfl, rfl⟩ := H
        try go_wp2
        have n0_ := Aside0.mk (Kd.R_drew HO_193000.out)
        have n1_ := Aside0.mk (Kd.R_drew HO_193001.out)
        have n2_ := Aside0.mk (blk_drew BK192.out)
        have n3_ := Aside0.mk (below_drew1 HB.out)
        clear HO_193000
        clear HO_193001
        clear BK192
        clear HB
        have HO_193000 := n0_
        have HO_193001 := n1_
        have BK192 := n2_
        have HB := n3_
        clear n0_ n1_ n2_ n3_
        refine start_ (n := 13) (S := fun w' => w'.cell? ⟨gb192, 0, none⟩ = some (.slice Ao8 t185.length co8) ∧ w'.cell? ⟨gb192, 1, none⟩ = some (.slice Ao10 t188.length co10)) (ds := []) #[false, false, false, false, false, false, false, false, false, false, false, false, false] (by kernel_rfl) rfl rfl ⟨(blk_cell BK192.out 0).trans rfl, (blk_cell BK192.out 1).trans rfl⟩ (fun hHeld => ?_); refine with_tabW impl_DenseCount.tab4 impl_DenseCount.bits4 (fun HT_ HW_ => ?_)
        generalize wc.drew = w18 at HO_193000 HO_193001 BK192 HB hHeld ⊢
        refine pure_ (i := 1) (N := some 28) (v := ?_) (a' := ?_) #[false, true, false, false, false, false, false, false, false, false, false, false, false] rfl rfl (any_of HT_.out (by kernel_rfl)) (fun _ _ _ h => h) (Or.inl ⟨by rfl, ?_⟩) ?_ ?_
        rotate_left
        · intro w'
          go_simp
          with_reducible rfl
        rotate_left
        · simp only [Act.put, List.setIfInBounds_toArray, List.set_cons_zero, List.set_cons_succ, i64_w, i32_w]
          rfl
        refine pure_ (i := 2) (N := some 29) (v := ?_) (a' := ?_) #[false, true, true, false, false, false, false, false, false, false, false, false, false] rfl rfl (any_of HT_.out (by kernel_rfl)) (fun _ _ _ h => h) (Or.inl ⟨by rfl, ?_⟩) ?_ ?_
        rotate_left
        · intro w'
          go_simp
          with_reducible rfl
        rotate_left
        · simp only [Act.put, List.setIfInBounds_toArray, List.set_cons_zero, List.set_cons_succ, i64_w, i32_w]
          rfl
        refine pure_ (i := 3) (N := some 30) (v := ?_) (a' := ?_) #[false, true, true, true, false, false, false, false, false, false, false, false, false] rfl rfl (any_of HT_.out (by kernel_rfl)) (fun _ _ _ h => h) (Or.inl ⟨by rfl, ?_⟩) ?_ ?_
        rotate_left
        · intro w'
          go_simp
          with_reducible rfl
        rotate_left
        · simp only [Act.put, List.setIfInBounds_toArray, List.set_cons_zero, List.set_cons_succ, i64_w, i32_w]
          rfl
        refine pure_ (i := 7) (N := some 34) (v := ?_) (a' := ?_) #[false, true, true, true, false, false, false, true, false, false, false, false, false] rfl rfl (any_of HT_.out (by kernel_rfl)) (fun _ _ _ h => h) (Or.inl ⟨by rfl, ?_⟩) ?_ ?_
        rotate_left
        · intro w'
          go_simp
          with_reducible rfl
        rotate_left
        · simp only [Act.put, List.setIfInBounds_toArray, List.set_cons_zero, List.set_cons_succ, i64_w, i32_w]
          rfl
        refine take_ (i := 0) (N := some 27) (v := ?_) (a' := ?_) #[true, true, true, true, false, false, false, true, false, false, false, false, false] rfl rfl (take_ofW HT_.out HW_.out (by kernel_rfl)) (fun _ _ _ h => h) (Or.inl ⟨by rfl, ?_⟩) hHeld ?_ ?_
        rotate_left
        · rintro w' ⟨s0, s1⟩
          go_simp
          with_reducible rfl
        rotate_left
        · simp only [Act.put, List.setIfInBounds_toArray, List.set_cons_zero, List.set_cons_succ, i64_w, i32_w]
          rfl
        refine take_ (i := 6) (N := some 33) (v := ?_) (a' := ?_) #[true, true, true, true, false, false, true, true, false, false, false, false, false] rfl rfl (take_ofW HT_.out HW_.out (by kernel_rfl)) (fun _ _ _ h => h) (Or.inl ⟨by rfl, ?_⟩) hHeld ?_ ?_
        rotate_left
        · rintro w' ⟨s0, s1⟩
          go_simp
          with_reducible rfl
        rotate_left
        · simp only [Act.put, List.setIfInBounds_toArray, List.set_cons_zero, List.set_cons_succ, i64_w, i32_w]
          rfl
        refine one_ (i := 4) (N := some 31) #[true, true, true, true, true, false, true, true, false, false, false, false, false] rfl rfl (one_of HT_.out (by kernel_rfl)) (by decide) (fun K hK => ?_)
        refine goes_ Try.func37 (by kernel_rfl) rfl #[.agg #[.slice Ao8 t185.length co8, .slice Ao10 t188.length co10], .int .i64 (wrap64 (a1 + a2))] (by rfl) rfl rfl (by (try simp only [List.map_toArray, List.map_cons, List.map_nil]); first | done | rfl | (simp only [List.length_drop, List.length_take]; rfl)) ?_
        with_reducible refine (impl_set_below.calls kj4 _ _ t185 _ _ t188 (wrap64 (a1 + a2)) t195 _ ?side1 ?side2 ?side3 ?side4 A16.out).mono ?_
        (case side1 => repeat (first | exact (Kd.R_reads' HO_193000.out).2.2 | (with_reducible refine Kd.C_alloc ?_ _) | (with_reducible refine Kd.C_drewN ?_ _) | (with_reducible refine Kd.C_drew ?_)))
        (case side2 => exact (Kd.R_reads' HO_193000.out).2.1)
        (case side3 => repeat (first | exact (Kd.R_reads' HO_193001.out).2.2 | (with_reducible refine Kd.C_alloc ?_ _) | (with_reducible refine Kd.C_drewN ?_ _) | (with_reducible refine Kd.C_drew ?_)))
        (case side4 => exact (Kd.R_reads' HO_193001.out).2.1)
        rintro e w19 ⟨v196, rfl, ho0, hb⟩
        refine ⟨_, rfl, ?_⟩
        have n0_ := Aside0.mk (Kd.R_below (by (with_reducible repeat (first | apply Kd.R_alloc | apply Kd.R_drewN | apply Kd.R_drew)); exact HO_193000.out) hb)
        have n1_ := Aside0.mk (Kd.R_below (by (with_reducible repeat (first | apply Kd.R_alloc | apply Kd.R_drewN | apply Kd.R_drew)); exact HO_193001.out) hb)
        have n2_ := Aside0.mk (Kd.R_lower ho0 (below_size (by repeat (first | (with_reducible first | exact HB.out | apply below_alloc | apply pw_below_drewN | apply below_drew1 | refine below_set ?_ GE192.out) | exact HB.out))))
        have n3_ := Aside0.mk (blk_below (g := gb192) (o := .cells #[.slice Ao8 t185.length co8, .slice Ao10 t188.length co10] 48 (0, 0)) (by (with_reducible repeat (first | refine blk_drewN ?_ _ | refine blk_drew ?_ | refine blk_alloc ?_ _)); exact BK192.out) hb)
        have n4_ := Aside0.mk (below_step (by repeat (first | (with_reducible first | exact HB.out | apply below_alloc | apply pw_below_drewN | apply below_drew1 | refine below_set ?_ GE192.out) | exact HB.out)) hb)
        clear HO_193000
        clear HO_193001
        clear BK192
        clear HB
        have HO_193000 := n0_
        have HO_193001 := n1_
        have HO197 := n2_
        have BK192 := n3_
        have HB := n4_
        clear n0_ n1_ n2_ n3_ n4_
        (try clear hb)
        (try clear hb2)
        (try clear hk)
        (try clear hi)
        (try clear ho0)
        obtain ⟨Ao20, co20, eo20⟩ := Kd.R_slice HO197.out
        (first | subst eo20 | (injection eo20 with f1_ f2_ f3_; have f4_ := f1_.symm; have f5_ := f3_.symm; clear f1_ f2_ f3_; subst f4_; subst f5_))
        refine hK.out _ _ ⟨(blk_cell BK192.out 0).trans rfl, (blk_cell BK192.out 1).trans rfl⟩ (fun hHeld => ?_)
        clear hK K
        refine norm_ (a' := ?_) ?_ ?_
        rotate_left
        · show Act.put _ (some 31) _ = _
          simp only [Act.put, List.setIfInBounds_toArray, List.set_cons_zero, List.set_cons_succ, i64_w, i32_w]
          rfl
        refine pure_ (i := 5) (N := some 32) (v := ?_) (a' := ?_) #[true, true, true, true, true, true, true, true, false, false, false, false, false] rfl rfl (any_of HT_.out (by kernel_rfl)) (fun _ _ _ h => h) (Or.inl ⟨by rfl, ?_⟩) ?_ ?_
        rotate_left
        · intro w'
          go_simp
          with_reducible rfl
        rotate_left
        · simp only [Act.put, List.setIfInBounds_toArray, List.set_cons_zero, List.set_cons_succ, i64_w, i32_w]
          rfl
        refine one_ (i := 8) (N := some 35) #[true, true, true, true, true, true, true, true, true, false, false, false, false] rfl rfl (one_of HT_.out (by kernel_rfl)) (by decide) (fun K hK => ?_)
        refine goes_ Try.func37 (by kernel_rfl) rfl #[.agg #[.slice Ao8 t185.length co8, .slice Ao10 t188.length co10], .int .i64 a1] (by rfl) rfl rfl (by (try simp only [List.map_toArray, List.map_cons, List.map_nil]); first | done | rfl | (simp only [List.length_drop, List.length_take]; rfl)) ?_
        with_reducible refine (impl_set_below.calls kj4 _ _ t185 _ _ t188 a1 t198 _ ?side1 ?side2 ?side3 ?side4 A17.out).mono ?_
        (case side1 => repeat (first | exact (Kd.R_reads' HO_193000.out).2.2 | (with_reducible refine Kd.C_alloc ?_ _) | (with_reducible refine Kd.C_drewN ?_ _) | (with_reducible refine Kd.C_drew ?_)))
        (case side2 => exact (Kd.R_reads' HO_193000.out).2.1)
        (case side3 => repeat (first | exact (Kd.R_reads' HO_193001.out).2.2 | (with_reducible refine Kd.C_alloc ?_ _) | (with_reducible refine Kd.C_drewN ?_ _) | (with_reducible refine Kd.C_drew ?_)))
        (case side4 => exact (Kd.R_reads' HO_193001.out).2.1)
        rintro e w21 ⟨v199, rfl, ho0, hb⟩
        refine ⟨_, rfl, ?_⟩
        have n0_ := Aside0.mk (Kd.R_below (by (with_reducible repeat (first | apply Kd.R_alloc | apply Kd.R_drewN | apply Kd.R_drew)); exact HO_193000.out) hb)
        have n1_ := Aside0.mk (Kd.R_below (by (with_reducible repeat (first | apply Kd.R_alloc | apply Kd.R_drewN | apply Kd.R_drew)); exact HO_193001.out) hb)
        have n2_ := Aside0.mk (Kd.R_elder' (by (with_reducible repeat (first | apply Kd.R_alloc | apply Kd.R_drewN | apply Kd.R_drew)); exact HO197.out) (Kd.R_base ho0) hb)
        have n3_ := Aside0.mk (Kd.R_lower (Kd.R_new' ho0 (Kd.R_lt (by (with_reducible repeat (first | apply Kd.R_alloc | apply Kd.R_drewN | apply Kd.R_drew)); exact HO197.out))) (below_size (by repeat (first | (with_reducible first | exact HB.out | apply below_alloc | apply pw_below_drewN | apply below_drew1 | refine below_set ?_ GE192.out) | exact HB.out))))
        have n4_ := Aside0.mk (blk_below (g := gb192) (o := .cells #[.slice Ao8 t185.length co8, .slice Ao10 t188.length co10] 48 (0, 0)) (by (with_reducible repeat (first | refine blk_drewN ?_ _ | refine blk_drew ?_ | refine blk_alloc ?_ _)); exact BK192.out) hb)
        have n5_ := Aside0.mk (below_step (by repeat (first | (with_reducible first | exact HB.out | apply below_alloc | apply pw_below_drewN | apply below_drew1 | refine below_set ?_ GE192.out) | exact HB.out)) hb)
        clear HO_193000
        clear HO_193001
        clear HO197
        clear BK192
        clear HB
        have HO_193000 := n0_
        have HO_193001 := n1_
        have HO197 := n2_
        have HO200 := n3_
        have BK192 := n4_
        have HB := n5_
        clear n0_ n1_ n2_ n3_ n4_ n5_
        (try clear hb)
        (try clear hb2)
        (try clear hk)
        (try clear hi)
        (try clear ho0)
        obtain ⟨Ao22, co22, eo22⟩ := Kd.R_slice HO200.out
        (first | subst eo22 | (injection eo22 with f1_ f2_ f3_; have f4_ := f1_.symm; have f5_ := f3_.symm; clear f1_ f2_ f3_; subst f4_; subst f5_))
        refine hK.out _ _ ⟨(blk_cell BK192.out 0).trans rfl, (blk_cell BK192.out 1).trans rfl⟩ (fun hHeld => ?_)
        clear hK K
        refine norm_ (a' := ?_) ?_ ?_
        rotate_left
        · show Act.put _ (some 35) _ = _
          simp only [Act.put, List.setIfInBounds_toArray, List.set_cons_zero, List.set_cons_succ, i64_w, i32_w]
          rfl
        refine pure_ (i := 9) (N := some 36) (v := ?_) (a' := ?_) #[true, true, true, true, true, true, true, true, true, true, false, false, false] rfl rfl (any_of HT_.out (by kernel_rfl)) (fun _ _ _ h => h) (Or.inl ⟨by rfl, ?_⟩) ?_ ?_
        rotate_left
        · intro w'
          go_simp
          with_reducible rfl
        rotate_left
        · simp only [Act.put, List.setIfInBounds_toArray, List.set_cons_zero, List.set_cons_succ, i64_w, i32_w]
          rfl
        refine pure_ (i := 10) (N := some 37) (v := ?_) (a' := ?_) #[true, true, true, true, true, true, true, true, true, true, true, false, false] rfl rfl (any_of HT_.out (by kernel_rfl)) (fun _ _ _ h => h) (Or.inl ⟨by rfl, ?_⟩) ?_ ?_
        rotate_left
        · intro w'
          go_simp
          with_reducible rfl
        rotate_left
        · simp only [Act.put, List.setIfInBounds_toArray, List.set_cons_zero, List.set_cons_succ, i64_w, i32_w]
          rfl
        refine pure_ (i := 11) (N := some 6) (v := ?_) (a' := ?_) #[true, true, true, true, true, true, true, true, true, true, true, true, false] rfl rfl (any_of HT_.out (by kernel_rfl)) (fun _ _ _ h => h) (Or.inl ⟨by rfl, ?_⟩) ?_ ?_
        rotate_left
        · intro w'
          go_simp
          with_reducible rfl
        rotate_left
        · simp only [Act.put, List.setIfInBounds_toArray, List.set_cons_zero, List.set_cons_succ, i64_w, i32_w]
          rfl
        refine pure_ (i := 12) (N := some 7) (v := ?_) (a' := ?_) #[true, true, true, true, true, true, true, true, true, true, true, true, true] rfl rfl (any_of HT_.out (by kernel_rfl)) (fun _ _ _ h => h) (Or.inl ⟨by rfl, ?_⟩) ?_ ?_
        rotate_left
        · intro w'
          go_simp
          with_reducible rfl
        rotate_left
        · simp only [Act.put, List.setIfInBounds_toArray, List.set_cons_zero, List.set_cons_succ, i64_w, i32_w]
          rfl
        refine done_ (done_of HT_.out (by kernel_rfl)) ?_
        try go_wp2
        go_ret2
        exact ⟨by first | rfl | (simp [errW_none, errW_some] <;> rfl) | (simp [errW_none, errW_some]; exact ⟨rfl, rfl⟩) | (simp [errW_none, errW_some]; exact ⟨rfl, rfl, rfl⟩) | (simp [*, errW_none, errW_some] <;> rfl), by repeat (first | (with_reducible first | exact HB.out | apply below_alloc | apply pw_below_drewN | apply below_drew1 | refine below_set ?_ GE192.out) | exact HB.out)⟩

end Go.Proofs.Ytbgapjgfocdjoaa.Q

namespace Go.Proofs.Ytbgapjgfocdjoaa.Q
open Go.RowKit Go.Proofs.YtbgapjgfocdjoaaW.PrintWords Go.Proofs.YtbgapjgfocdjoaaW.PrintLast Go.Proofs.YtbgapjgfocdjoaaW.PrintMore
attribute [local go_sem] max2_int min2_int max_two min_two max_three min_three max_four min_four   -- for this text's walks alone
set_option linter.unusedVariables false
set_option linter.unusedSimpArgs false

def laws_FnExactDenseCount.f (k : Nat) (a0 : ByteArray) (a1 : Int) (a2 : Int) : Option (Bool) := if (a0.size : Int) > 1048576 then (some true) else ((spec_DenseCount.f k a0 a1 a2).bind fun bt201 => ((impl_DenseCount.f k a0 a1 a2).bind fun bt203 => (if bt203.1 = bt201.1 then (if (bt203.2 != bt201.2) = true then (some false) else (some true)) else (some false))))
theorem laws_FnExactDenseCount.mono : ∀ a0 a1 a2 k, LeO (laws_FnExactDenseCount.f k a0 a1 a2) (laws_FnExactDenseCount.f (k + 1) a0 a1 a2) := by
  intro a0 a1 a2 k
  unfold laws_FnExactDenseCount.f
  repeat' first
      | (with_reducible exact impl_DenseCount.mono _ _ _ _)
      | (with_reducible exact spec_DenseCount.mono _ _ _ _)
      | (with_reducible exact LeO.refl _)
      | (with_reducible exact LeO.none _)
      | (with_reducible refine LeO.ite ?_ ?_)
      | (with_reducible refine LeO.bind ?_ (fun _ => ?_))
      | exact impl_DenseCount.mono _ _ _ _
      | exact spec_DenseCount.mono _ _ _ _
      | exact LeO.none _
      | refine LeO.ite ?_ ?_
      | refine LeO.bind ?_ (fun _ => ?_)
set_option maxHeartbeats 8000000 in
set_option maxRecDepth 100000 in
theorem laws_FnExactDenseCount.calls (k : Nat) (a0 : ByteArray) (a1 : Int) (a2 : Int) (r : Bool) (w : World) (h : laws_FnExactDenseCount.f k a0 a1 a2 = some r) :
    Calls Try.prog 3 #[.string a0, .int .i64 a1, .int .i64 a2] w fun e w' => e = .returned (.bool r) ∧ Below w.heap.size w w' := by
  have HB := Aside0.mk (Below.refl w.heap.size w)
  have H : (if (a0.size : Int) > 1048576 then (some true) else ((spec_DenseCount.f k a0 a1 a2).bind fun bt201 => ((impl_DenseCount.f k a0 a1 a2).bind fun bt203 => (if bt203.1 = bt201.1 then (if (bt203.2 != bt201.2) = true then (some false) else (some true)) else (some false))))) = some r := h
  clear h
  by_cases c4 : (a0.size : Int) > 1048576
  · rw [if_pos c4] at H
    have c4b0 : decide (1048576 < (a0.size : Int)) = true := decide_eq_true c4
    have c4b1 : decide (1048576 < a0.size) = true := decide_eq_true (by omega)
    clear c4
    obtain rfl := Option.some.inj H
    go_enter Try.func3, Try.ntmps3
    go_wp2
    go_ret
    exact ⟨by first | rfl | (simp [errW_none, errW_some] <;> rfl) | (simp [errW_none, errW_some]; exact ⟨rfl, rfl⟩) | (simp [errW_none, errW_some]; exact ⟨rfl, rfl, rfl⟩) | (simp [*, errW_none, errW_some] <;> rfl), by repeat (first | (with_reducible first | exact HB.out | apply below_alloc | apply pw_below_drewN | apply below_drew1) | exact HB.out)⟩
  · rw [if_neg c4] at H
    have c4b0 : decide (1048576 < (a0.size : Int)) = false := decide_eq_false c4
    have c4b1 : decide (1048576 < a0.size) = false := decide_eq_false (by omega)
    clear c4
    replace H := Option.bind_eq_some_iff.mp H
    obtain ⟨⟨t201, t202⟩, A50, H⟩ := H
    replace H : ((impl_DenseCount.f k a0 a1 a2).bind fun bt203 => (if bt203.1 = t201 then (if (bt203.2 != t202) = true then (some false) else (some true)) else (some false))) = some r := H
    have A5 := Aside0.mk A50
    clear A50
    replace H := Option.bind_eq_some_iff.mp H
    obtain ⟨⟨t203, t204⟩, A60, H⟩ := H
    replace H : (if t203 = t201 then (if (t204 != t202) = true then (some false) else (some true)) else (some false)) = some r := H
    have A6 := Aside0.mk A60
    clear A60
    by_cases c7 : t203 = t201
    · rw [if_pos c7] at H
      have c7b0 : (t203 == t201) = true := beq_iff_eq.mpr c7
      have c7b1 : (t203 != t201) = false := bne_eq_false_iff_eq.mpr c7
      clear c7
      by_cases c8 : (t204 != t202) = true
      · rw [if_pos c8] at H
        have c8b0 : (t204 != t202) = true := c8
        (try (have c8b1 : decide (t204 = t202) = false := by simpa using c8))
        (try (have c8b2 : (t204 == t202) = false := by simpa using c8))
        (try (have c8b3 : ¬ (t204 = t202) := by simpa using c8))
        clear c8
        obtain rfl := Option.some.inj H
        go_enter Try.func3, Try.ntmps3
        go_wp2_with (first | ((with_reducible refine gate_callee (f := 13) rfl ?_); refine goesL_ (some 18) rfl rfl Try.func13 (by kernel_rfl) rfl #[.string a0, .int .i64 a1, .int .i64 a2] rfl (by (try simp only [List.map_toArray, List.map_cons, List.map_nil]); first | done | rfl | (simp only [List.length_drop, List.length_take]; rfl)) ?_; (with_reducible refine (spec_DenseCount.calls k a0 a1 a2 t201 t202 _ A5.out).mono ?_); rintro e w9 ⟨rfl, hb⟩; refine ⟨_, rfl, ?_⟩; have n0_ := Aside0.mk (below_step (by repeat (first | (with_reducible first | exact HB.out | apply below_alloc | apply pw_below_drewN | apply below_drew1) | exact HB.out)) hb); clear HB; have HB := n0_; clear n0_; (try clear hb); (try clear hb2); (try clear hk); (try clear hi)) | ((with_reducible refine gate_callee (f := 14) rfl ?_); refine goesL_ (some 25) rfl rfl Try.func14 (by kernel_rfl) rfl #[.string a0, .int .i64 a1, .int .i64 a2] rfl (by (try simp only [List.map_toArray, List.map_cons, List.map_nil]); first | done | rfl | (simp only [List.length_drop, List.length_take]; rfl)) ?_; (with_reducible refine (impl_DenseCount.calls k a0 a1 a2 t203 t204 _ A6.out).mono ?_); rintro e w10 ⟨rfl, hb⟩; refine ⟨_, rfl, ?_⟩; have n0_ := Aside0.mk (below_step (by repeat (first | (with_reducible first | exact HB.out | apply below_alloc | apply pw_below_drewN | apply below_drew1) | exact HB.out)) hb); clear HB; have HB := n0_; clear n0_; (try clear hb); (try clear hb2); (try clear hk); (try clear hi)))
        go_ret
        exact ⟨by first | rfl | (simp [errW_none, errW_some] <;> rfl) | (simp [errW_none, errW_some]; exact ⟨rfl, rfl⟩) | (simp [errW_none, errW_some]; exact ⟨rfl, rfl, rfl⟩) | (simp [*, errW_none, errW_some] <;> rfl), by repeat (first | (with_reducible first | exact HB.out | apply below_alloc | apply pw_below_drewN | apply below_drew1) | exact HB.out)⟩
      · rw [if_neg c8] at H
        have c8b0 : (t204 != t202) = false := by simpa using c8
        (try (have c8b1 : decide (t204 = t202) = true := by simpa using c8))
        (try (have c8b2 : (t204 == t202) = true := by simpa using c8))
        clear c8
        obtain rfl := Option.some.inj H
        go_enter Try.func3, Try.ntmps3
        go_wp2_with (first | ((with_reducible refine gate_callee (f := 13) rfl ?_); refine goesL_ (some 18) rfl rfl Try.func13 (by kernel_rfl) rfl #[.string a0, .int .i64 a1, .int .i64 a2] rfl (by (try simp only [List.map_toArray, List.map_cons, List.map_nil]); first | done | rfl | (simp only [List.length_drop, List.length_take]; rfl)) ?_; (with_reducible refine (spec_DenseCount.calls k a0 a1 a2 t201 t202 _ A5.out).mono ?_); rintro e w11 ⟨rfl, hb⟩; refine ⟨_, rfl, ?_⟩; have n0_ := Aside0.mk (below_step (by repeat (first | (with_reducible first | exact HB.out | apply below_alloc | apply pw_below_drewN | apply below_drew1) | exact HB.out)) hb); clear HB; have HB := n0_; clear n0_; (try clear hb); (try clear hb2); (try clear hk); (try clear hi)) | ((with_reducible refine gate_callee (f := 14) rfl ?_); refine goesL_ (some 25) rfl rfl Try.func14 (by kernel_rfl) rfl #[.string a0, .int .i64 a1, .int .i64 a2] rfl (by (try simp only [List.map_toArray, List.map_cons, List.map_nil]); first | done | rfl | (simp only [List.length_drop, List.length_take]; rfl)) ?_; (with_reducible refine (impl_DenseCount.calls k a0 a1 a2 t203 t204 _ A6.out).mono ?_); rintro e w12 ⟨rfl, hb⟩; refine ⟨_, rfl, ?_⟩; have n0_ := Aside0.mk (below_step (by repeat (first | (with_reducible first | exact HB.out | apply below_alloc | apply pw_below_drewN | apply below_drew1) | exact HB.out)) hb); clear HB; have HB := n0_; clear n0_; (try clear hb); (try clear hb2); (try clear hk); (try clear hi)))
        go_ret
        exact ⟨by first | rfl | (simp [errW_none, errW_some] <;> rfl) | (simp [errW_none, errW_some]; exact ⟨rfl, rfl⟩) | (simp [errW_none, errW_some]; exact ⟨rfl, rfl, rfl⟩) | (simp [*, errW_none, errW_some] <;> rfl), by repeat (first | (with_reducible first | exact HB.out | apply below_alloc | apply pw_below_drewN | apply below_drew1) | exact HB.out)⟩
    · rw [if_neg c7] at H
      have c7b0 : (t203 == t201) = false := beq_eq_false_iff_ne.mpr c7
      have c7b1 : (t203 != t201) = true := bne_iff_ne.mpr c7
      obtain rfl := Option.some.inj H
      go_enter Try.func3, Try.ntmps3
      go_wp2_with (first | ((with_reducible refine gate_callee (f := 13) rfl ?_); refine goesL_ (some 18) rfl rfl Try.func13 (by kernel_rfl) rfl #[.string a0, .int .i64 a1, .int .i64 a2] rfl (by (try simp only [List.map_toArray, List.map_cons, List.map_nil]); first | done | rfl | (simp only [List.length_drop, List.length_take]; rfl)) ?_; (with_reducible refine (spec_DenseCount.calls k a0 a1 a2 t201 t202 _ A5.out).mono ?_); rintro e w13 ⟨rfl, hb⟩; refine ⟨_, rfl, ?_⟩; have n0_ := Aside0.mk (below_step (by repeat (first | (with_reducible first | exact HB.out | apply below_alloc | apply pw_below_drewN | apply below_drew1) | exact HB.out)) hb); clear HB; have HB := n0_; clear n0_; (try clear hb); (try clear hb2); (try clear hk); (try clear hi)) | ((with_reducible refine gate_callee (f := 14) rfl ?_); refine goesL_ (some 25) rfl rfl Try.func14 (by kernel_rfl) rfl #[.string a0, .int .i64 a1, .int .i64 a2] rfl (by (try simp only [List.map_toArray, List.map_cons, List.map_nil]); first | done | rfl | (simp only [List.length_drop, List.length_take]; rfl)) ?_; (with_reducible refine (impl_DenseCount.calls k a0 a1 a2 t203 t204 _ A6.out).mono ?_); rintro e w14 ⟨rfl, hb⟩; refine ⟨_, rfl, ?_⟩; have n0_ := Aside0.mk (below_step (by repeat (first | (with_reducible first | exact HB.out | apply below_alloc | apply pw_below_drewN | apply below_drew1) | exact HB.out)) hb); clear HB; have HB := n0_; clear n0_; (try clear hb); (try clear hb2); (try clear hk); (try clear hi)))
      go_ret
      exact ⟨by first | rfl | (simp [errW_none, errW_some] <;> rfl) | (simp [errW_none, errW_some]; exact ⟨rfl, rfl⟩) | (simp [errW_none, errW_some]; exact ⟨rfl, rfl, rfl⟩) | (simp [*, errW_none, errW_some] <;> rfl), by repeat (first | (with_reducible first | exact HB.out | apply below_alloc | apply pw_below_drewN | apply below_drew1) | exact HB.out)⟩

/-- THE ONE PURE STATEMENT of laws_FnExactDenseCount: yours. -/
def laws_FnExactDenseCount.Pure : Prop := ∀ (a0 : ByteArray) (a1 : Int) (a2 : Int), a0.size ≤ 140737488351232 → (Lit.int .i64 a1).wf = true → (Lit.int .i64 a2).wf = true → ∃ k, laws_FnExactDenseCount.f k a0 a1 a2 = some true
theorem laws_FnExactDenseCount.walk (P : laws_FnExactDenseCount.Pure) (a0 : ByteArray) (a1 : Int) (a2 : Int) (w : World) (w0 : a0.size ≤ 140737488351232) (w1 : (Lit.int .i64 a1).wf = true) (w2 : (Lit.int .i64 a2).wf = true) :
    Calls Try.prog 3 #[.string a0, .int .i64 a1, .int .i64 a2] w fun e w' => e = .returned (.bool true) ∧ Below w.heap.size w w' := by
  obtain ⟨k, h⟩ := P a0 a1 a2 w0 w1 w2
  refine (laws_FnExactDenseCount.calls k a0 a1 a2 true w h).mono ?_
  rintro e w' ⟨rfl, hd⟩
  exact ⟨rfl, hd⟩

end Go.Proofs.Ytbgapjgfocdjoaa.Q

namespace Go.Proofs.Ytbgapjgfocdjoaa.Q
open Go.RowKit Go.Proofs.YtbgapjgfocdjoaaW.PrintWords Go.Proofs.YtbgapjgfocdjoaaW.PrintLast Go.Proofs.YtbgapjgfocdjoaaW.PrintMore
attribute [local go_sem] max2_int min2_int max_two min_two max_three min_three max_four min_four   -- for this text's walks alone
set_option linter.unusedVariables false
set_option linter.unusedSimpArgs false

end Go.Proofs.Ytbgapjgfocdjoaa.Q

namespace Go.Proofs.Ytbgapjgfocdjoaa.Q
open Go.RowKit Go.Proofs.YtbgapjgfocdjoaaW.PrintWords Go.Proofs.YtbgapjgfocdjoaaW.PrintLast Go.Proofs.YtbgapjgfocdjoaaW.PrintMore
attribute [local go_sem] max2_int min2_int max_two min_two max_three min_three max_four min_four   -- for this text's walks alone
set_option linter.unusedVariables false
set_option linter.unusedSimpArgs false

end Go.Proofs.Ytbgapjgfocdjoaa.Q

namespace Go.Proofs.Ytbgapjgfocdjoaa.Q
open Go.RowKit Go.Proofs.YtbgapjgfocdjoaaW.PrintWords Go.Proofs.YtbgapjgfocdjoaaW.PrintLast Go.Proofs.YtbgapjgfocdjoaaW.PrintMore
attribute [local go_sem] max2_int min2_int max_two min_two max_three min_three max_four min_four   -- for this text's walks alone
set_option linter.unusedVariables false
set_option linter.unusedSimpArgs false

end Go.Proofs.Ytbgapjgfocdjoaa.Q

namespace Go.Proofs.Ytbgapjgfocdjoaa.Q
open Go.RowKit Go.Proofs.YtbgapjgfocdjoaaW.PrintWords Go.Proofs.YtbgapjgfocdjoaaW.PrintLast Go.Proofs.YtbgapjgfocdjoaaW.PrintMore
attribute [local go_sem] max2_int min2_int max_two min_two max_three min_three max_four min_four   -- for this text's walks alone
set_option linter.unusedVariables false
set_option linter.unusedSimpArgs false

end Go.Proofs.Ytbgapjgfocdjoaa.Q

namespace Go.Proofs.Ytbgapjgfocdjoaa.Q
open Go.RowKit Go.Proofs.YtbgapjgfocdjoaaW.PrintWords Go.Proofs.YtbgapjgfocdjoaaW.PrintLast Go.Proofs.YtbgapjgfocdjoaaW.PrintMore
attribute [local go_sem] max2_int min2_int max_two min_two max_three min_three max_four min_four   -- for this text's walks alone
set_option linter.unusedVariables false
set_option linter.unusedSimpArgs false

end Go.Proofs.Ytbgapjgfocdjoaa.Q

namespace Go.Proofs.Ytbgapjgfocdjoaa.Q
open Go.RowKit Go.Proofs.YtbgapjgfocdjoaaW.PrintWords Go.Proofs.YtbgapjgfocdjoaaW.PrintLast Go.Proofs.YtbgapjgfocdjoaaW.PrintMore
attribute [local go_sem] max2_int min2_int max_two min_two max_three min_three max_four min_four   -- for this text's walks alone
set_option linter.unusedVariables false
set_option linter.unusedSimpArgs false

end Go.Proofs.Ytbgapjgfocdjoaa.Q

namespace Go.Proofs.Ytbgapjgfocdjoaa.Q
open Go.RowKit Go.Proofs.YtbgapjgfocdjoaaW.PrintWords Go.Proofs.YtbgapjgfocdjoaaW.PrintLast Go.Proofs.YtbgapjgfocdjoaaW.PrintMore
attribute [local go_sem] max2_int min2_int max_two min_two max_three min_three max_four min_four   -- for this text's walks alone
set_option linter.unusedVariables false
set_option linter.unusedSimpArgs false

end Go.Proofs.Ytbgapjgfocdjoaa.Q

namespace Go.Proofs.Ytbgapjgfocdjoaa.Q
open Go.RowKit Go.Proofs.YtbgapjgfocdjoaaW.PrintWords Go.Proofs.YtbgapjgfocdjoaaW.PrintLast Go.Proofs.YtbgapjgfocdjoaaW.PrintMore
attribute [local go_sem] max2_int min2_int max_two min_two max_three min_three max_four min_four   -- for this text's walks alone
set_option linter.unusedVariables false
set_option linter.unusedSimpArgs false

end Go.Proofs.Ytbgapjgfocdjoaa.Q

namespace Go.Proofs.Ytbgapjgfocdjoaa.Q
open Go.RowKit Go.Proofs.YtbgapjgfocdjoaaW.PrintWords Go.Proofs.YtbgapjgfocdjoaaW.PrintLast Go.Proofs.YtbgapjgfocdjoaaW.PrintMore
attribute [local go_sem] max2_int min2_int max_two min_two max_three min_three max_four min_four   -- for this text's walks alone
set_option linter.unusedVariables false
set_option linter.unusedSimpArgs false

end Go.Proofs.Ytbgapjgfocdjoaa.Q

namespace Go.Proofs.Ytbgapjgfocdjoaa.Q
open Go.RowKit Go.Proofs.YtbgapjgfocdjoaaW.PrintWords Go.Proofs.YtbgapjgfocdjoaaW.PrintLast Go.Proofs.YtbgapjgfocdjoaaW.PrintMore
attribute [local go_sem] max2_int min2_int max_two min_two max_three min_three max_four min_four   -- for this text's walks alone
set_option linter.unusedVariables false
set_option linter.unusedSimpArgs false

end Go.Proofs.Ytbgapjgfocdjoaa.Q

namespace Go.Proofs.Ytbgapjgfocdjoaa.Q
open Go.RowKit Go.Proofs.YtbgapjgfocdjoaaW.PrintWords Go.Proofs.YtbgapjgfocdjoaaW.PrintLast Go.Proofs.YtbgapjgfocdjoaaW.PrintMore
attribute [local go_sem] max2_int min2_int max_two min_two max_three min_three max_four min_four   -- for this text's walks alone
set_option linter.unusedVariables false
set_option linter.unusedSimpArgs false

def impl_turns.l0 : Nat → List Bool → Int → Int → Int → Option (Bool)
  | 0, _, _, _, _ => none
  | k + 1, x0, x1, x7, x8 => if x8 < x7 then (if 0 ≤ x8 then (if x8 < (x0.length : Int) then (if x1 = 0 then (none) else (if 0 ≤ (Int.tmod x8 x1) then (if (Int.tmod x8 x1) < (x0.length : Int) then (if ((rdOf false x0 x8) != (rdOf false x0 (Int.tmod x8 x1))) = true then (some false) else (impl_turns.l0 k x0 x1 x7 (wrap64 (x8 + 1)))) else (none)) else (none))) else (none)) else (none)) else (if x1 = 0 then (none) else (some (((x0.length : Int) % x1) == 0)))
def impl_turns.f (k : Nat) (l0 : List Bool) (a1 : Int) : Option (Bool) := impl_turns.l0 k l0 a1 (l0.length : Int) 0
end Go.Proofs.Ytbgapjgfocdjoaa.Q

namespace Go.Proofs.Ytbgapjgfocdjoaa.Q
open Go.RowKit Go.Proofs.YtbgapjgfocdjoaaW.PrintWords Go.Proofs.YtbgapjgfocdjoaaW.PrintLast Go.Proofs.YtbgapjgfocdjoaaW.PrintMore
attribute [local go_sem] max2_int min2_int max_two min_two max_three min_three max_four min_four   -- for this text's walks alone
set_option linter.unusedVariables false
set_option linter.unusedSimpArgs false

/-- A copy. -/
def slices_Clone_bool_bool.f (l0 : List Bool) : Option (List Bool) := if l0.length < 140737488355328 then some l0 else none
end Go.Proofs.Ytbgapjgfocdjoaa.Q

namespace Go.Proofs.Ytbgapjgfocdjoaa.Q
open Go.RowKit Go.Proofs.YtbgapjgfocdjoaaW.PrintWords Go.Proofs.YtbgapjgfocdjoaaW.PrintLast Go.Proofs.YtbgapjgfocdjoaaW.PrintMore
attribute [local go_sem] max2_int min2_int max_two min_two max_three min_three max_four min_four   -- for this text's walks alone
set_option linter.unusedVariables false
set_option linter.unusedSimpArgs false

mutual
def impl_set_tidy.l0 : Nat → Int → List Bool → List Bool → Option (List Bool × List Bool)
  | 0, _, _, _ => none
  | k + 1, x3, x284000, x284001 => (impl_turns.f k x284001 x3).bind fun t285 => (if t285 = true then ((slices_Clone_bool_bool.f x284000).bind fun t286 => (if 0 ≤ x3 then (if x3 ≤ (x284001.length : Int) then ((slices_Clone_bool_bool.f (x284001.take (x3 : Int).toNat)).bind fun t290 => (impl_set_tidy.l1 k x3 t286 t290)) else (none)) else (none))) else (impl_set_tidy.l0 k (wrap64 (x3 + 1)) x284000 x284001))
def impl_set_tidy.l1 : Nat → Int → List Bool → List Bool → Option (List Bool × List Bool)
  | 0, _, _, _ => none
  | k + 1, x3, x4, x5 => if (x4.length : Int) > 0 then (if 0 ≤ (wrap64 ((x4.length : Int) - 1)) then (if (wrap64 ((x4.length : Int) - 1)) < (x4.length : Int) then (if 0 ≤ (wrap64 (x3 - 1)) then (if (wrap64 (x3 - 1)) < (x5.length : Int) then (if ((rdOf false x4 (wrap64 ((x4.length : Int) - 1))) == (rdOf false x5 (wrap64 (x3 - 1)))) = true then (if (wrap64 ((x4.length : Int) - 1)) ≤ (x4.length : Int) then ((some (([rdOf false x5 (wrap64 (x3 - 1))] : List Bool) : List Bool)).bind fun y299 => (if (wrap64 (x3 - 1)) ≤ (x5.length : Int) then ((some (x5.take ((wrap64 (x3 - 1)) : Int).toNat : List Bool)).bind fun y302 => (if y299.length + y302.length < 140737488355328 then (impl_set_tidy.l1 k x3 (x4.take ((wrap64 ((x4.length : Int) - 1)) : Int).toNat) (y299 ++ y302)) else (none))) else (none))) else (none)) else (some (x4, x5))) else (none)) else (none)) else (none)) else (none)) else (some (x4, x5))
end
def impl_set_tidy.f (k : Nat) (l0_0 : List Bool) (l0_1 : List Bool) : Option (List Bool × List Bool) := impl_set_tidy.l0 k 1 l0_0 l0_1
end Go.Proofs.Ytbgapjgfocdjoaa.Q

namespace Go.Proofs.Ytbgapjgfocdjoaa.Q
open Go.RowKit Go.Proofs.YtbgapjgfocdjoaaW.PrintWords Go.Proofs.YtbgapjgfocdjoaaW.PrintLast Go.Proofs.YtbgapjgfocdjoaaW.PrintMore
attribute [local go_sem] max2_int min2_int max_two min_two max_three min_three max_four min_four   -- for this text's walks alone
set_option linter.unusedVariables false
set_option linter.unusedSimpArgs false

end Go.Proofs.Ytbgapjgfocdjoaa.Q

namespace Go.Proofs.Ytbgapjgfocdjoaa.Q
open Go.RowKit Go.Proofs.YtbgapjgfocdjoaaW.PrintWords Go.Proofs.YtbgapjgfocdjoaaW.PrintLast Go.Proofs.YtbgapjgfocdjoaaW.PrintMore
attribute [local go_sem] max2_int min2_int max_two min_two max_three min_three max_four min_four   -- for this text's walks alone
set_option linter.unusedVariables false
set_option linter.unusedSimpArgs false

end Go.Proofs.Ytbgapjgfocdjoaa.Q

namespace Go.Proofs.Ytbgapjgfocdjoaa.Q
open Go.RowKit Go.Proofs.YtbgapjgfocdjoaaW.PrintWords Go.Proofs.YtbgapjgfocdjoaaW.PrintLast Go.Proofs.YtbgapjgfocdjoaaW.PrintMore
attribute [local go_sem] max2_int min2_int max_two min_two max_three min_three max_four min_four   -- for this text's walks alone
set_option linter.unusedVariables false
set_option linter.unusedSimpArgs false

end Go.Proofs.Ytbgapjgfocdjoaa.Q

namespace Go.Proofs.Ytbgapjgfocdjoaa.Q
open Go.RowKit Go.Proofs.YtbgapjgfocdjoaaW.PrintWords Go.Proofs.YtbgapjgfocdjoaaW.PrintLast Go.Proofs.YtbgapjgfocdjoaaW.PrintMore
attribute [local go_sem] max2_int min2_int max_two min_two max_three min_three max_four min_four   -- for this text's walks alone
set_option linter.unusedVariables false
set_option linter.unusedSimpArgs false

end Go.Proofs.Ytbgapjgfocdjoaa.Q

namespace Go.Proofs.Ytbgapjgfocdjoaa.Q
open Go.RowKit Go.Proofs.YtbgapjgfocdjoaaW.PrintWords Go.Proofs.YtbgapjgfocdjoaaW.PrintLast Go.Proofs.YtbgapjgfocdjoaaW.PrintMore
attribute [local go_sem] max2_int min2_int max_two min_two max_three min_three max_four min_four   -- for this text's walks alone
set_option linter.unusedVariables false
set_option linter.unusedSimpArgs false

mutual
def spec_l1Less.l0 : Nat → Int → Int → List Bool → List Bool → Option (List Bool × List Bool)
  | 0, _, _, _, _ => none
  | k + 1, x3, x4, x344000, x344001 => if x4 < x3 then (if x4 = 0 then (none) else (spec_l1Less.l1 k x3 x4 ((Int.tmod x3 x4) == 0) x4 x344000 x344001)) else (if (x344000.length : Int) > 0 then (if 0 ≤ (wrap64 ((x344000.length : Int) - 1)) then (if (wrap64 ((x344000.length : Int) - 1)) < (x344000.length : Int) then (if 0 ≤ (wrap64 (x3 - 1)) then (if (wrap64 (x3 - 1)) < (x344001.length : Int) then (if ((rdOf false x344000 (wrap64 ((x344000.length : Int) - 1))) == (rdOf false x344001 (wrap64 (x3 - 1)))) = true then ((some (([rdOf false x344001 (wrap64 (x3 - 1))] : List Bool) : List Bool)).bind fun y348 => (if (wrap64 (x3 - 1)) ≤ (x344001.length : Int) then ((some (x344001.take ((wrap64 (x3 - 1)) : Int).toNat : List Bool)).bind fun y351 => (if y348.length + y351.length < 140737488355328 then (if (wrap64 ((x344000.length : Int) - 1)) ≤ (x344000.length : Int) then ((spec_l1Less.f k (x344000.take ((wrap64 ((x344000.length : Int) - 1)) : Int).toNat) (y348 ++ y351)).bind fun bt364 => (some (bt364.1, bt364.2))) else (none)) else (none))) else (none))) else (some (x344000, x344001))) else (none)) else (none)) else (none)) else (none)) else (some (x344000, x344001)))
def spec_l1Less.l1 : Nat → Int → Int → Bool → Int → List Bool → List Bool → Option (List Bool × List Bool)
  | 0, _, _, _, _, _, _ => none
  | k + 1, x3, x4, x5, x6, x344000, x344001 => if x6 < x3 then (if x5 = true then (if 0 ≤ x6 then (if x6 < (x344001.length : Int) then (if 0 ≤ (wrap64 (x6 - x4)) then (if (wrap64 (x6 - x4)) < (x344001.length : Int) then (spec_l1Less.l1 k x3 x4 ((rdOf false x344001 x6) == (rdOf false x344001 (wrap64 (x6 - x4)))) (wrap64 (x6 + 1)) x344000 x344001) else (none)) else (none)) else (none)) else (none)) else (spec_l1Less.l0 k x3 (wrap64 (x4 + 1)) x344000 x344001)) else (if x5 = true then (if 0 ≤ x4 then (if x4 ≤ (x344001.length : Int) then ((spec_l1Less.f k x344000 (x344001.take (x4 : Int).toNat)).bind fun bt377 => (some (bt377.1, bt377.2))) else (none)) else (none)) else (spec_l1Less.l0 k x3 (wrap64 (x4 + 1)) x344000 x344001))
def spec_l1Less.f : Nat → List Bool → List Bool → Option (List Bool × List Bool)
  | 0, _, _ => none
  | k + 1, l0_0, l0_1 => spec_l1Less.l0 k (l0_1.length : Int) 1 l0_0 l0_1
end
end Go.Proofs.Ytbgapjgfocdjoaa.Q

namespace Go.Proofs.Ytbgapjgfocdjoaa.Q
open Go.RowKit Go.Proofs.YtbgapjgfocdjoaaW.PrintWords Go.Proofs.YtbgapjgfocdjoaaW.PrintLast Go.Proofs.YtbgapjgfocdjoaaW.PrintMore
attribute [local go_sem] max2_int min2_int max_two min_two max_three min_three max_four min_four   -- for this text's walks alone
set_option linter.unusedVariables false
set_option linter.unusedSimpArgs false

end Go.Proofs.Ytbgapjgfocdjoaa.Q

namespace Go.Proofs.Ytbgapjgfocdjoaa.Q
open Go.RowKit Go.Proofs.YtbgapjgfocdjoaaW.PrintWords Go.Proofs.YtbgapjgfocdjoaaW.PrintLast Go.Proofs.YtbgapjgfocdjoaaW.PrintMore
attribute [local go_sem] max2_int min2_int max_two min_two max_three min_three max_four min_four   -- for this text's walks alone
set_option linter.unusedVariables false
set_option linter.unusedSimpArgs false

end Go.Proofs.Ytbgapjgfocdjoaa.Q

namespace Go.Proofs.Ytbgapjgfocdjoaa.Q
open Go.RowKit Go.Proofs.YtbgapjgfocdjoaaW.PrintWords Go.Proofs.YtbgapjgfocdjoaaW.PrintLast Go.Proofs.YtbgapjgfocdjoaaW.PrintMore
open Go.Proofs.Ytbgapjgfocdjoaa.Pl (hasB)
set_option linter.unusedVariables false
set_option linter.unusedSimpArgs false

theorem wr {x : Int} (h0 : -9223372036854775808 ≤ x) (h1 : x ≤ 9223372036854775807) : wrap64 x = x := by unfold wrap64; omega
theorem Ev.end {α : Type} {g : Nat → Option α} {r : α} (h : ∀ k, g (k + 1) = some r) : Ev g r := ⟨1, fun k hk => by obtain ⟨m, rfl⟩ : ∃ m, k = m + 1 := ⟨k - 1, by omega⟩; exact h m⟩
theorem Ev.const {α : Type} {g : Nat → Option α} {r : α} (h : ∀ k, g k = some r) : Ev g r := ⟨0, fun k _ => h k⟩
theorem bt_list (s : ByteArray) (i : Nat) (h : i < s.size) : bt s (i : Int) = ((s.data.toList.getD i 0).toNat : Int) := by
  unfold bt
  rw [dif_pos (by simpa using h)]
  have : s.data.toList.length = s.size := Array.length_toList
  simp [List.getD, h, this]
  rfl
theorem bt_is (s : ByteArray) (i : Nat) (h : i < s.size) (c : UInt8) (n : Int) (hn : n = (c.toNat : Int)) : bt s (i : Int) = n ↔ s.data.toList.getD i 0 = c := by
  rw [bt_list s i h, hn]
  constructor
  · intro h
    exact UInt8.toNat_inj.1 (by exact_mod_cast h)
  · intro h
    rw [h]
theorem drop_getD {α : Type} (l : List α) (i : Nat) (z : α) (h : i < l.length) : l.drop i = l.getD i z :: l.drop (i + 1) := by
  rw [List.drop_eq_getElem_cons h]; simp [List.getD, h]

def okL (l : List UInt8) : Bool := l.all fun c => c == 48 || c == 49
theorem signs_l0 (s : ByteArray) (hs : s.size ≤ 1073741824) (d : Nat) : ∀ (i : Nat) (acc : List Bool), i + d = s.size → acc.length = i →
    Ev (fun k => spec_l1Signs.l0 k s acc i) (if okL (s.data.toList.drop i) then (acc ++ (s.data.toList.drop i).map (· == 49), true) else ([], false)) := by
  have hl : s.data.toList.length = s.size := Array.length_toList
  induction d with
  | zero =>
    intro i acc h1 h2
    refine Ev.end fun k => ?_
    simp only [spec_l1Signs.l0]
    rw [if_neg (by omega), List.drop_of_length_le (by omega)]
    simp [okL]
  | succ d ih =>
    intro i acc h1 h2
    rw [drop_getD _ i 0 (by omega)]
    have hb48 := bt_is s i (by omega) 48 48 rfl
    have hb49 := bt_is s i (by omega) 49 49 rfl
    have hw : wrap64 ((i : Int) + 1) = ((i + 1 : Nat) : Int) := by rw [wr (by omega) (by omega)]; omega
    by_cases c48 : s.data.toList.getD i 0 = 48
    · refine Ev.step (f := fun k => spec_l1Signs.l0 k s (acc ++ [false]) ((i + 1 : Nat) : Int)) (fun k => ?_) ?_
      · simp only [spec_l1Signs.l0]
        have e : bt s (i : Int) = 48 := hb48.2 c48
        rw [if_pos (by omega), if_pos (by omega), if_pos e, if_pos (by omega), hw, e]
        rfl
      · have := ih (i + 1) (acc ++ [false]) (by omega) (by simp [h2])
        rw [c48]
        simpa [okL] using this
    · by_cases c49 : s.data.toList.getD i 0 = 49
      · refine Ev.step (f := fun k => spec_l1Signs.l0 k s (acc ++ [true]) ((i + 1 : Nat) : Int)) (fun k => ?_) ?_
        · simp only [spec_l1Signs.l0]
          have e : bt s (i : Int) = 49 := hb49.2 c49
          rw [if_pos (by omega), if_pos (by omega), if_neg (fun h => c48 (hb48.1 h)), if_pos e, if_pos (by omega), hw]
        · have := ih (i + 1) (acc ++ [true]) (by omega) (by simp [h2])
          rw [c49]
          simpa [okL] using this
      · refine Ev.end fun k => ?_
        simp only [spec_l1Signs.l0]
        rw [if_pos (by omega), if_pos (by omega), if_neg (fun h => c48 (hb48.1 h)), if_neg (fun h => c49 (hb49.1 h))]
        rw [if_neg]
        simp only [okL, List.all_cons, Bool.and_eq_true, Bool.or_eq_true, beq_iff_eq, not_and]
        intro h
        exact absurd h (by simp only [not_or]; exact ⟨c48, c49⟩)
theorem l1Signs_ev (s : ByteArray) (hs : s.size ≤ 1073741824) : Ev (fun k => spec_l1Signs.f k s) (if okL s.data.toList then (s.data.toList.map (· == 49), true) else ([], false)) := by
  have := signs_l0 s hs s.size 0 [] (by omega) rfl
  simpa [spec_l1Signs.f] using this
theorem signs_ev (s : ByteArray) (hs : s.size ≤ 1073741824) : impl_signs.f s = some (if okL s.data.toList then (s.data.toList.map (· == 49), decide ((s.size : Int) ≤ 60)) else ([], false)) := by
  unfold impl_signs.f
  rw [if_pos (by omega)]
  unfold okL impl_signs.ok
  split <;> rfl

theorem index_cases (l : List UInt8) (c : UInt8) : (Lib.indexByte l c = -1 ∧ ∀ i, i < l.length → l.getD i 0 ≠ c) ∨ ∃ i : Nat, i < l.length ∧ Lib.indexByte l c = i ∧ l.getD i 0 = c ∧ ∀ j, j < i → l.getD j 0 ≠ c := by
  induction l with
  | nil => left; exact ⟨rfl, fun i h => absurd h (Nat.not_lt_zero i)⟩
  | cons b l ih =>
    unfold Lib.indexByte
    by_cases hb : b = c
    · right
      exact ⟨0, by simp, by simp [hb], by simp [hb], fun j h => absurd h (Nat.not_lt_zero j)⟩
    · rw [if_neg (by simpa using hb)]
      rcases ih with ⟨h1, h2⟩ | ⟨i, h1, h2, h3, h4⟩
      · left
        refine ⟨by rw [h1]; rfl, fun i hi => ?_⟩
        cases i with
        | zero => simpa using hb
        | succ i => simpa using h2 i (by simpa using hi)
      · right
        refine ⟨i + 1, by simpa using h1, ?_, by simpa using h3, fun j hj => ?_⟩
        · rw [h2, if_neg (by simp only [beq_iff_eq]; omega)]; omega
        · cases j with
          | zero => simpa using hb
          | succ j => simpa using h4 j (by omega)

structure Good (t r : List Bool) : Prop where
  pos : 0 < r.length
  tl : t.length ≤ 60
  rl : r.length ≤ 60
structure IsSet (s : ByteArray) (t r : List Bool) : Prop where
  good : Good t r
  impl : impl_setOf.f s = some (t, r, true)
  spec : Ev (fun k => spec_l1Read.f k s) (t, r, true)
structure NoSet (s : ByteArray) : Prop where
  impl : ∃ a b, impl_setOf.f s = some (a, b, false)
  spec : ∃ a b, Ev (fun k => spec_l1Read.f k s) (a, b, false)

/-- The reader comes to the first bracket, or to the end. -/
theorem read_l0 (s : ByteArray) (hs : s.size ≤ 1073741824) (a b : List Bool) {r : List Bool × List Bool × Bool} (j : Nat) (hj : j ≤ s.size) (hn : ∀ i, i < j → s.data.toList.getD i 0 ≠ 40) (hend : j < s.size → s.data.toList.getD j 0 = 40)
    (h : Ev (fun k => spec_l1Read.j1 k s j a b) r) (d : Nat) : ∀ i, i + d = j → Ev (fun k => spec_l1Read.l0 k s (i : Nat) a b) r := by
  induction d with
  | zero =>
    intro i hi
    obtain rfl : i = j := by omega
    refine Ev.step (fun k => ?_) h
    simp only [spec_l1Read.l0]
    by_cases c : i < s.size
    · rw [if_pos (by omega), if_pos (by omega), if_pos ((bt_is s i c 40 40 rfl).2 (hend c))]
    · rw [if_neg (by omega)]
  | succ d ih =>
    intro i hi
    refine Ev.step (fun k => ?_) (ih (i + 1) (by omega))
    simp only [spec_l1Read.l0]
    have hw : wrap64 ((i : Int) + 1) = ((i + 1 : Nat) : Int) := by rw [wr (by omega) (by omega)]; omega
    rw [if_pos (by omega), if_pos (by omega), if_neg (fun h => hn i (by omega) ((bt_is s i (by omega) 40 40 rfl).1 h)), hw]

theorem size_data (s : ByteArray) : s.data.toList.length = s.size := Array.length_toList
theorem ext_size (s : ByteArray) (a b : Nat) (hb : b ≤ s.size) : (s.extract a b).size = b - a := by simp; omega
theorem ext_list (s : ByteArray) (a b : Nat) : (s.extract a b).data.toList = (s.data.toList.take b).drop a := by
  simp [List.extract_eq_take_drop, List.drop_take]
theorem toList_eq (s : ByteArray) : s.toList = s.data.toList := (Lib.toList_data s).symm ▸ rfl

theorem last_eq {s : ByteArray} {i : Nat} (h : i + 1 < s.size) : ((s.extract (i + 1) s.size).extract ((s.extract (i + 1) s.size).size - 1) (s.extract (i + 1) s.size).size).toList = [s.data.toList.getD (s.size - 1) 0] := by
  rw [toList_eq, ext_list, ext_list, ext_size _ _ _ (Nat.le_refl _)]
  have hl := size_data s
  rw [List.take_of_length_le (l := s.data.toList) (by omega), List.take_of_length_le (by rw [List.length_drop]; omega), List.drop_drop, drop_getD _ _ 0 (by omega), List.drop_of_length_le (by omega)]
  congr 2
  omega
theorem ring_eq {s : ByteArray} {i : Nat} (h : i + 1 < s.size) : (s.extract (i + 1) s.size).extract 0 ((s.extract (i + 1) s.size).size - 1) = s.extract (i + 1) (s.size - 1) := by
  have : ∀ a b : ByteArray, a.data.toList = b.data.toList → a = b := fun a b h => by
    obtain ⟨⟨a⟩⟩ := a; obtain ⟨⟨b⟩⟩ := b; simp at h; simp [h]
  refine this _ _ ?_
  have hl := size_data s
  rw [ext_list, ext_list, ext_list, ext_size _ _ _ (Nat.le_refl _), List.drop_zero, List.take_of_length_le (l := s.data.toList) (by omega), List.drop_take]
  congr 1
  omega

/-- Each text is a set text for both readers, with the same tail and ring, or for none. -/
theorem read_cases (s : ByteArray) (hs : s.size ≤ 1073741824) : NoSet s ∨ ∃ t r, IsSet s t r := by
  have hl := size_data s
  have hsg := fun (x : ByteArray) (hx : x.size ≤ 1073741824) => signs_ev x hx
  rcases index_cases s.data.toList 40 with ⟨h1, h2⟩ | ⟨i, h1, h2, h3, h4⟩
  · left
    refine ⟨?_, ?_⟩
    · have hc : strings_Cut.f s ⟨#[40]⟩ = some (s, ⟨#[]⟩, false) := by
        unfold strings_Cut.f stringslite_Cut.f stringslite_Index.f
        rw [dif_pos (by rfl)]
        show ((some (Lib.indexByte s.data.toList 40)).bind _).bind _ = _
        rw [h1]
        rfl
      have hd : strings_CutSuffix.f ⟨#[]⟩ ⟨#[41]⟩ = some (⟨#[]⟩, false) := by rfl
      refine ⟨(if okL s.data.toList then (s.data.toList.map (· == 49), decide ((s.size : Int) ≤ 60)) else ([], false)).1, [], ?_⟩
      unfold impl_setOf.f
      rw [hc]; simp only [Option.bind_some]
      rw [hd]; simp only [Option.bind_some]
      rw [hsg s hs, hsg ⟨#[]⟩ (by decide)]
      simp only [Option.bind_some]
      rw [if_neg (by simp)]
      rfl
    · refine ⟨[], [false], ?_⟩
      refine read_l0 s hs [] [false] s.size (Nat.le_refl _) (fun i hi => h2 i (by omega)) (fun h => by omega) ?_ s.size 0 (by omega)
      refine Ev.step (f := fun k => spec_l1Read.j2 k s (s.size : Nat) true [] [false]) (fun k => ?_) (Ev.end fun k => ?_)
      · simp only [spec_l1Read.j1]
        rw [if_pos (by rw [wr (by omega) (by omega)]; omega)]
      · simp only [spec_l1Read.j2, if_true]
  · have hi : i < s.size := by omega
    have hc : strings_Cut.f s ⟨#[40]⟩ = some (s.extract 0 i, s.extract (i + 1) s.size, true) := by
      unfold strings_Cut.f stringslite_Cut.f stringslite_Index.f
      rw [dif_pos (by rfl)]
      show ((some (Lib.indexByte s.data.toList 40)).bind _).bind _ = _
      rw [h2]
      simp only [Option.bind_some]
      have hz : ((⟨#[40]⟩ : ByteArray).size : Int) = 1 := rfl
      rw [if_pos (by omega), if_pos (by omega), if_pos (by omega), hz, wr (by omega) (by omega), if_pos (by omega), if_pos (by omega)]
      simp only [Option.bind_some, Int.toNat_natCast]
      rw [show ((i : Int) + 1).toNat = i + 1 from by omega]
    have hz1 : (s.extract (i + 1) s.size).size = s.size - (i + 1) := ext_size _ _ _ (Nat.le_refl _)
    have h41 : ((⟨#[41]⟩ : ByteArray).size : Int) = 1 := rfl
    have hsuf : strings_CutSuffix.f (s.extract (i + 1) s.size) ⟨#[41]⟩ = some (if i + 1 < s.size ∧ s.data.toList.getD (s.size - 1) 0 = 41 then (s.extract (i + 1) (s.size - 1), true) else (s.extract (i + 1) s.size, false)) := by
      unfold strings_CutSuffix.f stringslite_CutSuffix.f stringslite_HasSuffix.f
      rw [h41]
      by_cases c : i + 1 < s.size
      · rw [if_pos (by omega), wr (by omega) (by omega), if_pos (by omega), if_pos (by omega), show (((s.extract (i + 1) s.size).size : Int) - 1).toNat = (s.extract (i + 1) s.size).size - 1 from by omega, last_eq c, ring_eq c]
        simp only [Option.bind_some]
        have hb : ([s.data.toList.getD (s.size - 1) 0] == (⟨#[41]⟩ : ByteArray).toList) = decide (s.data.toList.getD (s.size - 1) 0 = 41) := by
          rw [toList_eq, Bool.eq_iff_iff]; simp
        rw [hb]
        by_cases e : s.data.toList.getD (s.size - 1) 0 = 41
        · rw [decide_eq_true e, if_pos rfl, if_pos (by omega), if_pos (by omega), if_pos ⟨c, e⟩]; rfl
        · rw [decide_eq_false e, if_neg (by simp), if_neg (by intro h; exact e h.2)]; rfl
      · rw [if_neg (by omega)]
        simp only [Option.bind_some, Bool.false_eq_true, if_false]
        rw [if_neg (fun h => c h.1)]
    have hspec : ∀ (r : List Bool × List Bool × Bool), Ev (fun k => spec_l1Read.j1 k s i [] [false]) r → Ev (fun k => spec_l1Read.f k s) r := by
      intro r hr
      exact read_l0 s hs [] [false] i (by omega) (fun j hj => h4 j hj) (fun _ => h3) hr i 0 (by omega)
    have hnull : ∀ x : Bool, x = true → Ev (fun k => spec_l1Read.j2 k s (i : Nat) x [] [false]) (([] : List Bool), [false], false) := by
      intro x hx
      refine Ev.end fun k => ?_
      simp only [spec_l1Read.j2]
      rw [if_pos hx]
    -- for the reader's bracket at the end
    have hj1 : ∀ r, Ev (fun k => spec_l1Read.j2 k s (i : Nat) (decide (s.size ≤ i + 2) || s.data.toList.getD (s.size - 1) 0 != 41) [] [false]) r → Ev (fun k => spec_l1Read.j1 k s i [] [false]) r := by
      intro r hr
      refine Ev.step (fun k => ?_) hr
      simp only [spec_l1Read.j1]
      rw [wr (x := (i : Int) + 2) (by omega) (by omega), wr (x := (s.size : Int) - 1) (by omega) (by omega)]
      by_cases c : s.size ≤ i + 2
      · rw [if_pos (by omega)]; simp [c]
      · rw [if_neg (by omega), if_pos (by omega), if_pos (by omega)]
        rw [show (s.size : Int) - 1 = ((s.size - 1 : Nat) : Int) from by omega]
        congr 1
        simp only [c, decide_false, Bool.false_or]
        have := bt_is s (s.size - 1) (by omega) 41 41 rfl
        rw [Bool.eq_iff_iff]; simp only [bne_iff_ne, ne_eq, this]
    by_cases c : (i + 2 < s.size) ∧ s.data.toList.getD (s.size - 1) 0 = 41
    · obtain ⟨c1, c2⟩ := c
      rw [if_pos ⟨by omega, c2⟩] at hsuf
      have e1 := hsg (s.extract 0 i) (by rw [ext_size _ _ _ (by omega)]; omega)
      have e2 := hsg (s.extract (i + 1) (s.size - 1)) (by rw [ext_size _ _ _ (by omega)]; omega)
      have g1 := l1Signs_ev (s.extract 0 i) (by rw [ext_size _ _ _ (by omega)]; omega)
      have g2 := l1Signs_ev (s.extract (i + 1) (s.size - 1)) (by rw [ext_size _ _ _ (by omega)]; omega)
      have z1 : (s.extract 0 i).size = i := by rw [ext_size _ _ _ (by omega)]; omega
      have z2 : (s.extract (i + 1) (s.size - 1)).size = s.size - i - 2 := by rw [ext_size _ _ _ (by omega)]; omega
      have y1 := size_data (s.extract 0 i)
      have y2 := size_data (s.extract (i + 1) (s.size - 1))
      rw [z1] at e1 y1
      rw [z2] at e2 y2
      have himpl : impl_setOf.f s = (impl_signs.f (s.extract 0 i)).bind fun x => (impl_signs.f (s.extract (i + 1) (s.size - 1))).bind fun y => some (x.1, y.1, x.2 && y.2 && decide ((y.1.length : Int) > 0)) := by
        unfold impl_setOf.f
        rw [hc]; simp only [Option.bind_some]
        rw [hsuf]; simp only [Option.bind_some]
        congr 1; funext x; congr 1; funext y
        cases x.2 <;> cases y.2 <;> simp
      have hj2 : ∀ (x y : List Bool × Bool), Ev (fun k => spec_l1Signs.f k (s.extract 0 i)) x → Ev (fun k => spec_l1Signs.f k (s.extract (i + 1) (s.size - 1))) y →
          Ev (fun k => spec_l1Read.f k s) (if x.2 && y.2 && decide (x.1.length ≤ 60) && decide (y.1.length ≤ 60) then (x.1, y.1, true) else ([], [false], false)) := by
        intro x y hx hy
        refine hspec _ (hj1 _ ?_)
        have : (decide (s.size ≤ i + 2) || s.data.toList.getD (s.size - 1) 0 != 41) = false := by rw [c2]; simp; omega
        rw [this]
        refine Ev.step (f := fun k => (spec_l1Signs.f k (s.extract 0 i)).bind fun bt121 => (spec_l1Signs.f k (s.extract (i + 1) (s.size - 1))).bind fun bt125 => (if bt121.2 = true then (if bt125.2 = true then (if (bt121.1.length : Int) > 60 then (some (([] : List Bool), [false], false)) else (if (bt125.1.length : Int) > 60 then (some ([], [false], false)) else (some (bt121.1, bt125.1, true)))) else (some ([], [false], false))) else (some ([], [false], false)))) (fun k => ?_) ?_
        · simp only [spec_l1Read.j2]
          rw [if_neg (by simp), if_pos (by omega), if_pos (by omega), wr (x := (i : Int) + 1) (by omega) (by omega), wr (x := (s.size : Int) - 1) (by omega) (by omega)]
          simp only [if_pos (show (0 : Int) ≤ (i : Int) + 1 from by omega), if_pos (show (i : Int) + 1 ≤ (s.size : Int) - 1 from by omega), if_pos (show (s.size : Int) - 1 ≤ (s.size : Int) from by omega)]
          rw [Int.toNat_natCast, show ((i : Int) + 1).toNat = i + 1 from by omega, show ((s.size : Int) - 1).toNat = s.size - 1 from by omega]
        · refine Ev.bind hx (Ev.bind hy (Ev.const fun k => ?_))
          obtain ⟨x1, x2⟩ := x
          obtain ⟨y1, y2⟩ := y
          cases x2 <;> cases y2 <;> simp
          by_cases q1 : x1.length ≤ 60
          · by_cases q2 : y1.length ≤ 60
            · rw [if_neg (by omega), if_neg (by omega), if_pos ⟨q1, q2⟩]
            · rw [if_neg (by omega), if_pos (by omega), if_neg (by omega)]
          · rw [if_pos (by omega), if_neg (by omega)]
      have hfin := hj2 _ _ g1 g2
      rw [e1, e2] at himpl
      simp only [Option.bind_some] at himpl
      cases o1 : okL (s.extract 0 i).data.toList with
      | false => left; rw [o1] at himpl hfin; exact ⟨⟨_, _, by rw [himpl]; simp; exact ⟨rfl, rfl⟩⟩, ⟨_, _, by simpa using hfin⟩⟩
      | true =>
        cases o2 : okL (s.extract (i + 1) (s.size - 1)).data.toList with
        | false => left; rw [o1, o2] at himpl hfin; exact ⟨⟨_, _, by rw [himpl]; simp; exact ⟨rfl, rfl⟩⟩, ⟨_, _, by simpa using hfin⟩⟩
        | true =>
          rw [o1, o2] at himpl hfin
          simp only [if_true, List.length_map, Bool.and_self, Bool.true_and] at himpl hfin
          rw [y1, y2] at hfin
          rw [y2] at himpl
          by_cases q : i ≤ 60 ∧ s.size - i - 2 ≤ 60
          · right
            refine ⟨(s.extract 0 i).data.toList.map (· == 49), (s.extract (i + 1) (s.size - 1)).data.toList.map (· == 49), ⟨?_, by rw [List.length_map]; omega, by rw [List.length_map]; omega⟩, himpl.trans ?_, ?_⟩
            · rw [List.length_map]; omega
            · rw [decide_eq_true (show ((i : Nat) : Int) ≤ 60 from by omega), decide_eq_true (show (((s.size - i - 2 : Nat) : Int) ≤ 60) from by omega), decide_eq_true (show (((s.size - i - 2 : Nat) : Int) > 0) from by omega)]
              rfl
            · rw [decide_eq_true q.1, decide_eq_true q.2] at hfin
              exact hfin
          · left
            refine ⟨⟨(s.extract 0 i).data.toList.map (· == 49), (s.extract (i + 1) (s.size - 1)).data.toList.map (· == 49), himpl.trans ?_⟩, ⟨[], [false], ?_⟩⟩
            · congr 3
              by_cases q1 : i ≤ 60
              · rw [decide_eq_false (show ¬ (((s.size - i - 2 : Nat) : Int) ≤ 60) from by omega)]; simp
              · rw [decide_eq_false (show ¬ ((i : Nat) : Int) ≤ 60 from by omega)]; simp
            · by_cases q1 : i ≤ 60
              · rw [decide_eq_false (show ¬ (s.size - i - 2 ≤ 60) from by omega)] at hfin; simpa using hfin
              · rw [decide_eq_false q1] at hfin; simpa using hfin
    · left
      have hcond : (decide (s.size ≤ i + 2) || s.data.toList.getD (s.size - 1) 0 != 41) = true := by
        by_cases q : i + 2 < s.size
        · have : ¬ s.data.toList.getD (s.size - 1) 0 = 41 := fun h => c ⟨q, h⟩
          simp only [Bool.or_eq_true, bne_iff_ne, ne_eq]; exact .inr this
        · simp only [Bool.or_eq_true, decide_eq_true_eq]; exact .inl (by omega)
      refine ⟨?_, ⟨[], [false], hspec _ (hj1 _ (hnull _ hcond))⟩⟩
      have e1 := hsg (s.extract 0 i) (by rw [ext_size _ _ _ (by omega)]; omega)
      unfold impl_setOf.f
      rw [hc]; simp only [Option.bind_some]
      rw [hsuf]; simp only [Option.bind_some]
      by_cases q : i + 1 < s.size ∧ s.data.toList.getD (s.size - 1) 0 = 41
      · rw [if_pos q]
        have hem : (s.extract (i + 1) (s.size - 1)).size = 0 := by
          rw [ext_size _ _ _ (by omega)]
          by_cases q2 : i + 2 < s.size
          · exact absurd ⟨q2, q.2⟩ c
          · omega
        have e2 := hsg (s.extract (i + 1) (s.size - 1)) (by omega)
        have y2 := size_data (s.extract (i + 1) (s.size - 1))
        have hn : (s.extract (i + 1) (s.size - 1)).data.toList = [] := List.length_eq_zero_iff.1 (by omega)
        obtain ⟨p, hp⟩ : ∃ p, impl_signs.f (s.extract 0 i) = some p := ⟨_, e1⟩
        rw [hp, e2, hn]
        simp only [Option.bind_some, okL, List.all_nil, if_true, List.map_nil, List.length_nil]
        refine ⟨p.1, [], ?_⟩
        cases p.2 <;> simp
      · rw [if_neg q, e1]
        simp only [Option.bind_some]
        rw [hsg (s.extract (i + 1) s.size) (by omega)]
        simp only [Option.bind_some]
        exact ⟨_, _, rfl⟩

end Go.Proofs.Ytbgapjgfocdjoaa.Q

namespace Go.Proofs.Ytbgapjgfocdjoaa.Q
open Go.RowKit Go.Proofs.YtbgapjgfocdjoaaW.PrintWords Go.Proofs.YtbgapjgfocdjoaaW.PrintLast Go.Proofs.YtbgapjgfocdjoaaW.PrintMore
open Go.Proofs.Ytbgapjgfocdjoaa.Pl
set_option linter.unusedVariables false
set_option linter.unusedSimpArgs false

theorem rdOf_nat (l : List Bool) (n : Nat) : rdOf false l (n : Int) = l.getD n false := by simp [rdOf]
theorem tmod_nat (a b : Nat) : Int.tmod (a : Int) (b : Int) = ((a % b : Nat) : Int) := by
  rw [Int.tmod_eq_emod_of_nonneg (Int.natCast_nonneg a)]; exact (Int.natCast_emod a b).symm
theorem wr1 {n : Nat} (h : n ≤ 4611686018427387904) : wrap64 ((n : Int) + 1) = ((n + 1 : Nat) : Int) := by rw [wr (by omega) (by omega)]; omega

theorem set_has {t r : List Bool} (h : Good t r) (n : Nat) (hn : n ≤ 4611686018427387904) : impl_set_has.f t r n = some (hasB t r n) := by
  have h1 := h.pos
  have h2 := h.tl
  have h3 := h.rl
  unfold impl_set_has.f
  rw [if_neg (by omega)]
  by_cases c : n < t.length
  · rw [if_pos (by omega), if_pos (by omega), rdOf_nat, hasB_lt c]
  · have e : wrap64 ((n : Int) - (t.length : Int)) = ((n - t.length : Nat) : Int) := by rw [wr (by omega) (by omega)]; omega
    have hm := Nat.mod_lt (n - t.length) h1
    rw [if_neg (by omega), if_neg (by omega), e, tmod_nat, if_pos (by omega), if_pos (by omega), rdOf_nat, hasB_ge (by omega)]
theorem l1_has {t r : List Bool} (h : Good t r) (n : Nat) (hn : n ≤ 4611686018427387904) : spec_l1Has.f t r n = some (hasB t r n) := by
  have h1 := h.pos
  have h2 := h.tl
  have h3 := h.rl
  unfold spec_l1Has.f
  by_cases c : n < t.length
  · rw [if_pos (by omega), if_pos (by omega), rdOf_nat, hasB_lt c]
  · have e : wrap64 ((n : Int) - (t.length : Int)) = ((n - t.length : Nat) : Int) := by rw [wr (by omega) (by omega)]; omega
    have hm := Nat.mod_lt (n - t.length) h1
    rw [if_neg (by omega), if_neg (by omega), e, tmod_nat, if_pos (by omega), if_pos (by omega), rdOf_nat, hasB_ge (by omega)]

/-- The numbers less than n of a set. -/
def listM (f : Nat → Bool) (n : Nat) : List Int := ((List.range n).filter f).map fun (x : Nat) => (x : Int)
theorem listM_succ (f : Nat → Bool) (n : Nat) : listM f (n + 1) = if f n = true then listM f n ++ [(n : Int)] else listM f n := by
  unfold listM
  rw [List.range_succ, List.filter_append, List.map_append]
  by_cases c : f n = true <;> simp [c]
theorem listM_length_le (f : Nat → Bool) (n : Nat) : (listM f n).length ≤ n := by
  unfold listM
  rw [List.length_map]
  exact Nat.le_trans (List.length_filter_le _ _) (by simp)

theorem below_l0 {t r : List Bool} (h : Good t r) (n : Nat) (hn : n ≤ 1073741824) (d : Nat) : ∀ i, i + d = n → Ev (fun k => impl_set_below.l0 k (listM (hasB t r) i) n (i : Nat) t r) (listM (hasB t r) n) := by
  induction d with
  | zero =>
    intro i hi
    obtain rfl : i = n := by omega
    refine Ev.end fun k => ?_
    simp only [impl_set_below.l0]
    rw [if_neg (by omega)]
  | succ d ih =>
    intro i hi
    have hle := listM_length_le (hasB t r) i
    have h1 := ih (i + 1) (by omega)
    rw [listM_succ] at h1
    refine Ev.step (fun k => ?_) h1
    simp only [impl_set_below.l0]
    rw [if_pos (by omega), set_has h i (by omega)]
    simp only [Option.bind_some]
    rw [wr1 (by omega)]
    by_cases c : hasB t r i = true
    · rw [if_pos c, if_pos (by omega), if_pos c]
    · rw [if_neg c, if_neg c]
theorem below_ev {t r : List Bool} (h : Good t r) (n : Nat) (hn : n ≤ 1073741824) : Ev (fun k => impl_set_below.f k t r n) (listM (hasB t r) n) := by
  have := below_l0 h n hn n 0 (by omega)
  exact this

theorem l1List_l0 {t r : List Bool} (h : Good t r) (n : Nat) (hn : n ≤ 1073741824) (d : Nat) : ∀ i, i + d = n → Ev (fun k => spec_l1List.l0 k n (listM (hasB t r) i) (i : Nat) t r) (listM (hasB t r) n) := by
  induction d with
  | zero =>
    intro i hi
    obtain rfl : i = n := by omega
    refine Ev.end fun k => ?_
    simp only [spec_l1List.l0]
    rw [if_neg (by omega)]
  | succ d ih =>
    intro i hi
    have hle := listM_length_le (hasB t r) i
    have h1 := ih (i + 1) (by omega)
    rw [listM_succ] at h1
    refine Ev.step (fun k => ?_) h1
    simp only [spec_l1List.l0]
    rw [if_pos (by omega), l1_has h i (by omega)]
    simp only [Option.bind_some]
    rw [wr1 (by omega)]
    by_cases c : hasB t r i = true
    · rw [if_pos c, if_pos (by omega), if_pos c]
    · rw [if_neg c, if_neg c]
theorem l1List_ev {t r : List Bool} (h : Good t r) (n : Nat) (hn : n ≤ 1073741824) : Ev (fun k => spec_l1List.f k t r n) (listM (hasB t r) n) := by
  have := l1List_l0 h n hn n 0 (by omega)
  exact this

end Go.Proofs.Ytbgapjgfocdjoaa.Q

namespace Go.Proofs.Ytbgapjgfocdjoaa.Q
open Go.RowKit Go.Proofs.YtbgapjgfocdjoaaW.PrintWords Go.Proofs.YtbgapjgfocdjoaaW.PrintLast Go.Proofs.YtbgapjgfocdjoaaW.PrintMore
open Go.Proofs.Ytbgapjgfocdjoaa.Pl
set_option linter.unusedVariables false
set_option linter.unusedSimpArgs false

/-- The tidy form of a set, for both. -/
structure Tidied (t r t' r' : List Bool) : Prop where
  impl : Ev (fun k => impl_set_tidy.f k t r) (t', r')
  spec : Ev (fun k => spec_l1Less.f k t r) (t', r')
  canon : Canon t' r'
  same : ∀ n, hasB t' r' n = hasB t r n
  good : Good t' r'
  tle : t'.length ≤ t.length
  rle : r'.length ≤ r.length
end Go.Proofs.Ytbgapjgfocdjoaa.Q

namespace Go.Proofs.Ytbgapjgfocdjoaa.Q
open Go.RowKit Go.Proofs.YtbgapjgfocdjoaaW.PrintWords Go.Proofs.YtbgapjgfocdjoaaW.PrintLast Go.Proofs.YtbgapjgfocdjoaaW.PrintMore
open Go.Proofs.Ytbgapjgfocdjoaa.Pl
set_option linter.unusedVariables false
set_option linter.unusedSimpArgs false

theorem in_eq (a b c : Int) : impl_in.f a b c = some (decide (b ≤ a ∧ a ≤ c)) := by
  unfold impl_in.f
  by_cases h : b ≤ a
  · rw [if_pos h]; simp [h]
  · rw [if_neg (by omega), decide_eq_false (by omega)]
theorem l6In_eq (a b c : Int) : spec_l6In.f a b c = some (decide (b ≤ a ∧ a ≤ c)) := by
  unfold spec_l6In.f
  by_cases h : b ≤ a
  · rw [if_pos h]; simp [h]
  · rw [if_neg (by omega), decide_eq_false (by omega)]
theorem listM_length (f : Nat → Bool) (n : Nat) : (listM f n).length = cnt f n := by simp [listM, cnt]

theorem denseCount_ev {s : ByteArray} {t r : List Bool} (h : IsSet s t r) (n k : Nat) (hn : n ≤ 1000) (hk : k ≤ 1000) :
    Ev (fun q => impl_DenseCount.f q s n k) (((cnt (hasB t r) (n + k) - cnt (hasB t r) n : Nat) : Int), true) := by
  have h1 := cnt_mono (hasB t r) n k
  have h2 := cnt_le (hasB t r) (n + k)
  refine Ev.congr (f := fun q => impl_DenseCount.j0 q n k false t r) (fun q => ?_) ?_
  · unfold impl_DenseCount.f
    rw [h.impl, in_eq, in_eq, decide_eq_true (by omega), decide_eq_true (by omega)]
    simp only [Option.bind_some, if_true, Bool.not_true]
  · refine Ev.step (f := fun q => (impl_set_below.f q t r (wrap64 ((n : Int) + k))).bind fun x => (impl_set_below.f q t r n).bind fun y => some (wrap64 ((x.length : Int) - (y.length : Int)), true)) (fun q => ?_) ?_
    · simp only [impl_DenseCount.j0]
      rw [if_neg (by simp)]
    · rw [show wrap64 ((n : Int) + k) = ((n + k : Nat) : Int) from by rw [wr (by omega) (by omega)]; omega]
      refine Ev.bind (below_ev h.good (n + k) (by omega)) (Ev.bind (below_ev h.good n (by omega)) (Ev.const fun q => ?_))
      rw [listM_length, listM_length, wr (by omega) (by omega)]
      congr 2
      omega
theorem denseCount_spec {s : ByteArray} {t r : List Bool} (h : IsSet s t r) (n k : Nat) (hn : n ≤ 1000) (hk : k ≤ 1000) :
    Ev (fun q => spec_DenseCount.f q s n k) (((cnt (hasB t r) (n + k) - cnt (hasB t r) n : Nat) : Int), true) := by
  have h1 := cnt_mono (hasB t r) n k
  have h2 := cnt_le (hasB t r) (n + k)
  unfold spec_DenseCount.f
  refine Ev.bind h.spec ?_
  refine Ev.congr (f := fun q => spec_DenseCount.j0 q n k false t r) (fun q => ?_) ?_
  · rw [l6In_eq, l6In_eq, decide_eq_true (by omega), decide_eq_true (by omega)]
    simp only [Option.bind_some, if_true, Bool.not_true]
  · refine Ev.step (f := fun q => (spec_l1List.f q t r (wrap64 ((n : Int) + k))).bind fun x => (spec_l1List.f q t r n).bind fun y => some (wrap64 ((x.length : Int) - (y.length : Int)), true)) (fun q => ?_) ?_
    · simp only [spec_DenseCount.j0]
      rw [if_neg (by simp)]
    · rw [show wrap64 ((n : Int) + k) = ((n + k : Nat) : Int) from by rw [wr (by omega) (by omega)]; omega]
      refine Ev.bind (l1List_ev h.good (n + k) (by omega)) (Ev.bind (l1List_ev h.good n (by omega)) (Ev.const fun q => ?_))
      rw [listM_length, listM_length, wr (by omega) (by omega)]
      congr 2
      omega
theorem denseCount_no {s : ByteArray} {n k : Int} (h : NoSet s ∨ ∃ t r, IsSet s t r) (hx : NoSet s ∨ ¬ (0 ≤ n ∧ n ≤ 1000) ∨ ¬ (0 ≤ k ∧ k ≤ 1000)) :
    Ev (fun q => impl_DenseCount.f q s n k) (0, false) ∧ Ev (fun q => spec_DenseCount.f q s n k) (0, false) := by
  have hi : ∀ a b, Ev (fun q => impl_DenseCount.j0 q n k true a b) (0, false) := fun a b => Ev.end fun q => by simp only [impl_DenseCount.j0, if_true]
  have hs : ∀ a b, Ev (fun q => spec_DenseCount.j0 q n k true a b) (0, false) := fun a b => Ev.end fun q => by simp only [spec_DenseCount.j0, if_true]
  by_cases hc : NoSet s
  · obtain ⟨⟨a, b, ha⟩, ⟨a', b', hb⟩⟩ := hc
    constructor
    · unfold impl_DenseCount.f
      rw [ha]; simp only [Option.bind_some, Bool.false_eq_true, if_false]
      exact hi _ _
    · unfold spec_DenseCount.f
      refine Ev.bind hb ?_
      simp only [Bool.false_eq_true, if_false]
      exact hs _ _
  · obtain ⟨t, r, h⟩ := h.resolve_left hc
    have hx := hx.resolve_left hc
    constructor
    · unfold impl_DenseCount.f
      rw [h.impl, in_eq, in_eq]; simp only [Option.bind_some, if_true]
      by_cases c : 0 ≤ n ∧ n ≤ 1000
      · have c2 := hx.resolve_left (fun h => h c)
        rw [decide_eq_true c, decide_eq_false c2]; simp only [if_true, Bool.not_false]; exact hi _ _
      · rw [decide_eq_false c]; simp only [Bool.false_eq_true, if_false]; exact hi _ _
    · unfold spec_DenseCount.f
      refine Ev.bind h.spec ?_
      rw [l6In_eq, l6In_eq]; simp only [Option.bind_some, if_true]
      by_cases c : 0 ≤ n ∧ n ≤ 1000
      · have c2 := hx.resolve_left (fun h => h c)
        rw [decide_eq_true c, decide_eq_false c2]; simp only [if_true, Bool.not_false]; exact hs _ _
      · rw [decide_eq_false c]; simp only [Bool.false_eq_true, if_false]; exact hs _ _

end Go.Proofs.Ytbgapjgfocdjoaa.Q

namespace Go.Proofs.Ytbgapjgfocdjoaa.Pure
open Go.RowKit Go.Proofs.Ytbgapjgfocdjoaa.Q Go.Proofs.YtbgapjgfocdjoaaW.PrintWords Go.Proofs.YtbgapjgfocdjoaaW.PrintLast
set_option linter.unusedSimpArgs false

theorem FnExactDenseCount : laws_FnExactDenseCount.Pure := by
  intro s n k hs hn hk
  by_cases hz : (s.size : Int) > 1048576
  · exact ⟨0, by unfold laws_FnExactDenseCount.f; rw [if_pos hz]⟩
  have fin : ∀ x : Int × Bool, Ev (fun q => impl_DenseCount.f q s n k) x → Ev (fun q => spec_DenseCount.f q s n k) x → ∃ q, laws_FnExactDenseCount.f q s n k = some true := by
    intro x h1 h2
    refine Ev.rounds ?_
    unfold laws_FnExactDenseCount.f
    simp only [if_neg hz]
    exact Ev.bind h2 (Ev.bind h1 (Ev.const fun q => by simp))
  have hc := read_cases s (by omega)
  by_cases hx : NoSet s ∨ ¬ (0 ≤ n ∧ n ≤ 1000) ∨ ¬ (0 ≤ k ∧ k ≤ 1000)
  · obtain ⟨h1, h2⟩ := denseCount_no hc hx
    exact fin _ h1 h2
  · simp only [not_or, Decidable.not_not] at hx
    obtain ⟨t, r, h⟩ := hc.resolve_left hx.1
    obtain ⟨a, rfl⟩ := Int.eq_ofNat_of_zero_le hx.2.1.1
    obtain ⟨b, rfl⟩ := Int.eq_ofNat_of_zero_le hx.2.2.1
    exact fin _ (denseCount_ev h a b (by omega) (by omega)) (denseCount_spec h a b (by omega) (by omega))

end Go.Proofs.Ytbgapjgfocdjoaa.Pure
