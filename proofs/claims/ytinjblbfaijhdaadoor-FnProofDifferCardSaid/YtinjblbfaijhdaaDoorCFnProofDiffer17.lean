/- The law FnProofDiffer holds for all that it draws. -/
import Derived.Test.YtinjblbfaijhdaaDoorCFnProofDiffer10
import Derived.Test.YtinjblbfaijhdaaDoorCFnProofDiffer11
import Derived.Test.YtinjblbfaijhdaaDoorCFnProofDiffer16
namespace Go.Proofs.YtinjblbfaijhdaaDoor.Q
open Go.RowKit Go.Proofs.YtinjblbfaijhdaaDoorW.PrintWords Go.Proofs.YtinjblbfaijhdaaDoorW.PrintLast Go.Proofs.YtinjblbfaijhdaaDoorW.PrintMore
attribute [local go_sem] max2_int min2_int max_two min_two max_three min_three max_four min_four   -- for this text's walks alone
set_option linter.unusedVariables false
set_option linter.unusedSimpArgs false
set_option maxHeartbeats 8000000 in
set_option maxRecDepth 100000 in
theorem impl_ProofDifferIs.calls_no (a0 : ByteArray) (a1 : ByteArray) (a2 : ByteArray) (r : Bool) (w : World) (h : impl_ProofDifferIs.f a0 a1 a2 = some r) (hG : GlobN w) (hv : ∃ l, impl_numbersOf.f a2 (⟨#[102, 105, 114, 115, 116]⟩ : ByteArray) = some (l, false)) :
  Calls Tryd.prog 30 #[.string a0, .string a1, .string a2] w fun e w' => e = .returned (.bool r) ∧ Below w.heap.size w w' := by
 have hu49 := Tryd.underlying49
 have HB := Aside0.mk (Below.refl w.heap.size w)
 have H : ((impl_setOf.f a0).bind fun bt782 => ((impl_setOf.f a1).bind fun bt790 => ((impl_numbersOf.f a2 (⟨#[102, 105, 114, 115, 116]⟩ : ByteArray)).bind fun bt798 => (if bt798.2 = true then (if bt782.2.2 = true then (if bt790.2.2 = true then (if (bt798.1.length : Int) = 1 then (if 0 < (bt798.1.length : Int) then ((impl_set_has.f bt782.1 bt782.2.1 (rd bt798.1 0)).bind fun t803 => (if t803 = true then ((impl_set_has.f bt790.1 bt790.2.1 (rd bt798.1 0)).bind fun t805 => (some (!t805))) else (some false))) else (none)) else (some false)) else (some false)) else (some false)) else ((impl_numbersOf.f a2 (⟨#[115, 101, 99, 111, 110, 100]⟩ : ByteArray)).bind fun bt806 => (if bt782.2.2 = true then (if bt790.2.2 = true then (if bt806.2 = true then (if (bt806.1.length : Int) = 1 then (if 0 < (bt806.1.length : Int) then ((impl_set_has.f bt790.1 bt790.2.1 (rd bt806.1 0)).bind fun t811 => (if t811 = true then ((impl_set_has.f bt782.1 bt782.2.1 (rd bt806.1 0)).bind fun t813 => (some (!t813))) else (some false))) else (none)) else (some false)) else (some false)) else (some false)) else (some false))))))) = some r := h
 clear h
 replace H := Option.bind_eq_some_iff.mp H
 obtain ⟨⟨t782, t785, t788⟩, A40, H⟩ := H
 replace H : ((impl_setOf.f a1).bind fun bt790 => ((impl_numbersOf.f a2 (⟨#[102, 105, 114, 115, 116]⟩ : ByteArray)).bind fun bt798 => (if bt798.2 = true then (if t788 = true then (if bt790.2.2 = true then (if (bt798.1.length : Int) = 1 then (if 0 < (bt798.1.length : Int) then ((impl_set_has.f t782 t785 (rd bt798.1 0)).bind fun t803 => (if t803 = true then ((impl_set_has.f bt790.1 bt790.2.1 (rd bt798.1 0)).bind fun t805 => (some (!t805))) else (some false))) else (none)) else (some false)) else (some false)) else (some false)) else ((impl_numbersOf.f a2 (⟨#[115, 101, 99, 111, 110, 100]⟩ : ByteArray)).bind fun bt806 => (if t788 = true then (if bt790.2.2 = true then (if bt806.2 = true then (if (bt806.1.length : Int) = 1 then (if 0 < (bt806.1.length : Int) then ((impl_set_has.f bt790.1 bt790.2.1 (rd bt806.1 0)).bind fun t811 => (if t811 = true then ((impl_set_has.f t782 t785 (rd bt806.1 0)).bind fun t813 => (some (!t813))) else (some false))) else (none)) else (some false)) else (some false)) else (some false)) else (some false)))))) = some r := H
 have A4 := Aside0.mk A40
 clear A40
 replace H := Option.bind_eq_some_iff.mp H
 obtain ⟨⟨t790, t793, t796⟩, A50, H⟩ := H
 replace H : ((impl_numbersOf.f a2 (⟨#[102, 105, 114, 115, 116]⟩ : ByteArray)).bind fun bt798 => (if bt798.2 = true then (if t788 = true then (if t796 = true then (if (bt798.1.length : Int) = 1 then (if 0 < (bt798.1.length : Int) then ((impl_set_has.f t782 t785 (rd bt798.1 0)).bind fun t803 => (if t803 = true then ((impl_set_has.f t790 t793 (rd bt798.1 0)).bind fun t805 => (some (!t805))) else (some false))) else (none)) else (some false)) else (some false)) else (some false)) else ((impl_numbersOf.f a2 (⟨#[115, 101, 99, 111, 110, 100]⟩ : ByteArray)).bind fun bt806 => (if t788 = true then (if t796 = true then (if bt806.2 = true then (if (bt806.1.length : Int) = 1 then (if 0 < (bt806.1.length : Int) then ((impl_set_has.f t790 t793 (rd bt806.1 0)).bind fun t811 => (if t811 = true then ((impl_set_has.f t782 t785 (rd bt806.1 0)).bind fun t813 => (some (!t813))) else (some false))) else (none)) else (some false)) else (some false)) else (some false)) else (some false))))) = some r := H
 have A5 := Aside0.mk A50
 clear A50
 replace H := Option.bind_eq_some_iff.mp H
 obtain ⟨⟨t798, t799⟩, A60, H⟩ := H
 replace H : (if t799 = true then (if t788 = true then (if t796 = true then (if (t798.length : Int) = 1 then (if 0 < (t798.length : Int) then ((impl_set_has.f t782 t785 (rd t798 0)).bind fun t803 => (if t803 = true then ((impl_set_has.f t790 t793 (rd t798 0)).bind fun t805 => (some (!t805))) else (some false))) else (none)) else (some false)) else (some false)) else (some false)) else ((impl_numbersOf.f a2 (⟨#[115, 101, 99, 111, 110, 100]⟩ : ByteArray)).bind fun bt806 => (if t788 = true then (if t796 = true then (if bt806.2 = true then (if (bt806.1.length : Int) = 1 then (if 0 < (bt806.1.length : Int) then ((impl_set_has.f t790 t793 (rd bt806.1 0)).bind fun t811 => (if t811 = true then ((impl_set_has.f t782 t785 (rd bt806.1 0)).bind fun t813 => (some (!t813))) else (some false))) else (none)) else (some false)) else (some false)) else (some false)) else (some false)))) = some r := H
 have A6 := Aside0.mk A60
 clear A60
 by_cases c7 : t799 = true
 ·exfalso
  obtain ⟨l_, hl_⟩ := hv
  have := A6.out.symm.trans hl_
  simp only [Option.some.injEq, Prod.mk.injEq] at this
  exact by rw [c7] at this; exact Bool.noConfusion this.2
 ·replace c7 := Bool.eq_false_iff.mpr c7
  subst c7
  replace H : ((impl_numbersOf.f a2 (⟨#[115, 101, 99, 111, 110, 100]⟩ : ByteArray)).bind fun bt806 => (if t788 = true then (if t796 = true then (if bt806.2 = true then (if (bt806.1.length : Int) = 1 then (if 0 < (bt806.1.length : Int) then ((impl_set_has.f t790 t793 (rd bt806.1 0)).bind fun t811 => (if t811 = true then ((impl_set_has.f t782 t785 (rd bt806.1 0)).bind fun t813 => (some (!t813))) else (some false))) else (none)) else (some false)) else (some false)) else (some false)) else (some false))) = some r := by rw [if_neg (show ¬ (false = true) by decide)] at H; exact H
  replace H := Option.bind_eq_some_iff.mp H
  obtain ⟨⟨t806, t807⟩, A860, H⟩ := H
  replace H : (if t788 = true then (if t796 = true then (if t807 = true then (if (t806.length : Int) = 1 then (if 0 < (t806.length : Int) then ((impl_set_has.f t790 t793 (rd t806 0)).bind fun t811 => (if t811 = true then ((impl_set_has.f t782 t785 (rd t806 0)).bind fun t813 => (some (!t813))) else (some false))) else (none)) else (some false)) else (some false)) else (some false)) else (some false)) = some r := H
  have A86 := Aside0.mk A860
  clear A860
  by_cases c87 : t788 = true
  ·subst c87
   replace H : (if t796 = true then (if t807 = true then (if (t806.length : Int) = 1 then (if 0 < (t806.length : Int) then ((impl_set_has.f t790 t793 (rd t806 0)).bind fun t811 => (if t811 = true then ((impl_set_has.f t782 t785 (rd t806 0)).bind fun t813 => (some (!t813))) else (some false))) else (none)) else (some false)) else (some false)) else (some false)) = some r := by rw [if_pos rfl] at H; exact H
   by_cases c88 : t796 = true
   ·subst c88
    replace H : (if t807 = true then (if (t806.length : Int) = 1 then (if 0 < (t806.length : Int) then ((impl_set_has.f t790 t793 (rd t806 0)).bind fun t811 => (if t811 = true then ((impl_set_has.f t782 t785 (rd t806 0)).bind fun t813 => (some (!t813))) else (some false))) else (none)) else (some false)) else (some false)) = some r := by rw [if_pos rfl] at H; exact H
    by_cases c89 : t807 = true
    ·subst c89
     replace H : (if (t806.length : Int) = 1 then (if 0 < (t806.length : Int) then ((impl_set_has.f t790 t793 (rd t806 0)).bind fun t811 => (if t811 = true then ((impl_set_has.f t782 t785 (rd t806 0)).bind fun t813 => (some (!t813))) else (some false))) else (none)) else (some false)) = some r := by rw [if_pos rfl] at H; exact H
     by_cases c90 : (t806.length : Int) = 1
     ·rw [if_pos c90] at H
      have c90b0 : ((t806.length : Int) == 1) = true := beq_iff_eq.mpr c90
      have c90b1 : ((t806.length : Int) != 1) = false := bne_eq_false_iff_eq.mpr c90
      clear c90
      by_cases c91 : 0 < (t806.length : Int)
      ·rw [if_pos c91] at H
       have c91b0 : decide (0 < (t806.length : Int)) = true := decide_eq_true c91
       have c91b1 : decide (0 < t806.length) = true := decide_eq_true (by omega)
       clear c91
       replace H := Option.bind_eq_some_iff.mp H
       obtain ⟨t811, A920, H⟩ := H
       replace H : (if t811 = true then ((impl_set_has.f t782 t785 (rd t806 0)).bind fun t813 => (some (!t813))) else (some false)) = some r := H
       have A92 := Aside0.mk A920
       clear A920
       by_cases c93 : t811 = true
       all_goals
        first
        |replace c93 := Bool.eq_false_iff.mpr c93
        |skip
        subst c93
        first
        |have H1 : ((impl_set_has.f t782 t785 (rd t806 0)).bind fun t813 => (some (!t813))) = some r := by rw [if_pos rfl] at H; exact H
        |have H1 : (some false) = some r := by rw [if_neg (show ¬ (false = true) by decide)] at H; exact H
        clear H
        have H := H1
        clear H1
        first
        |replace H := Option.bind_eq_some_iff.mp H
         obtain ⟨t813, A940, H⟩ := H
         replace H : (some (!t813)) = some r := H
         have A94 := Aside0.mk A940
         clear A940
        |skip
        obtain rfl := Option.some.inj H
        go_enter Tryd.func30, Tryd.ntmps30
        try go_wp2_with (first | ((with_reducible refine gate_callee (f := 62) rfl ?_); refine goesL_ (some 15) rfl rfl Tryd.func62 (by kernel_rfl) rfl #[.string a0] rfl (by (try simp only [List.map_toArray, List.map_cons, List.map_nil]); rfl) ?_; (with_reducible refine (impl_setOf.calls a0 t782 t785 true _ A4.out).mono ?_); rintro e w95 ⟨v783, v786, rfl, ho0, ho1, hb⟩; refine ⟨_, rfl, ?_⟩; have HO784 := Aside0.mk (Kd.R_lower ho0 (below_size HB.out)); have HO787 := Aside0.mk (Kd.R_lower ho1 (below_size HB.out)); replace HB := Aside0.mk (below_step HB.out hb); (try clear hb); (try clear ho0); (try clear ho1)) | ((with_reducible refine gate_dst (N := 7) rfl ?_); (try (refine gate_guard (by rfl) ?_; dsimp only)); refine box_event ?hg (N := 7) ?hd (cs := #[.slice none 0 0, .slice none 0 0]) (t := 49) ?hr ?_; (case hd => rfl); (case hg => rfl); (case hr => first | (go_simp; done)); intro gb789 hg w96 hbox hb; replace HO784 := Aside0.mk (Kd.R_below HO784.out hb); replace HO787 := Aside0.mk (Kd.R_below HO787.out hb); have BK789 := Aside0.mk hbox; have GW789 := Aside0.mk ((by rw [hg]; exact (below_size HB.out) : w.heap.size ≤ gb789)); have GE789 := Aside0.mk ((by rw [hg]; exact (below_size HB.out) : w.heap.size ≤ gb789)); replace HB := Aside0.mk (below_step HB.out hb); clear hb hbox hg; obtain ⟨Ao97, co97, eo97⟩ := Kd.R_slice HO784.out; subst eo97; have hcz98_0 : w96.cell? ⟨gb789, 0, none⟩ = some (.slice none 0 0) := (blk_cell BK789.out 0).trans rfl; have hcz98_1 : w96.cell? ⟨gb789, 1, none⟩ = some (.slice none 0 0) := (blk_cell BK789.out 1).trans rfl; have hfz98_0 := blk_frozen BK789.out 0; have hfz98_1 := blk_frozen BK789.out 1; obtain ⟨Ao99, co99, eo99⟩ := Kd.R_slice HO787.out; subst eo99) | ((with_reducible refine gate_callee (f := 62) rfl ?_); refine goesL_ (some 20) rfl rfl Tryd.func62 (by kernel_rfl) rfl #[.string a1] rfl (by (try simp only [List.map_toArray, List.map_cons, List.map_nil]); rfl) ?_; (with_reducible refine (impl_setOf.calls a1 t790 t793 true _ A5.out).mono ?_); rintro e w100 ⟨v791, v794, rfl, ho0, ho1, hb⟩; refine ⟨_, rfl, ?_⟩; have HO792 := Aside0.mk (Kd.R_lower (Kd.R_new' (Kd.R_new' ho0 (Kd.R_lt (by exact (Kd.R_mono (Kd.R_far (p := ⟨gb789, 1, none⟩) (Kd.R_far (p := ⟨gb789, 0, none⟩) (Kd.R_types HO784.out BK789.out (by decide)) (fun _ hk => hk.2) (.slice Ao97 t782.length co97)) (fun _ hk => hk.2) (.slice Ao99 t785.length co99)) (fun _ h_ => h_.1))))) (Kd.R_lt (by exact (Kd.R_mono (Kd.R_far (p := ⟨gb789, 1, none⟩) (Kd.R_far (p := ⟨gb789, 0, none⟩) (Kd.R_types HO787.out BK789.out (by decide)) (fun _ hk => hk.2) (.slice Ao97 t782.length co97)) (fun _ hk => hk.2) (.slice Ao99 t785.length co99)) (fun _ h_ => h_.1))))) (below_size (by repeat (first | (with_reducible first | exact HB.out | refine below_set ?_ GE789.out))))); have HO795 := Aside0.mk (Kd.R_lower (Kd.R_new' (Kd.R_new' ho1 (Kd.R_lt (by exact (Kd.R_mono (Kd.R_far (p := ⟨gb789, 1, none⟩) (Kd.R_far (p := ⟨gb789, 0, none⟩) (Kd.R_types HO784.out BK789.out (by decide)) (fun _ hk => hk.2) (.slice Ao97 t782.length co97)) (fun _ hk => hk.2) (.slice Ao99 t785.length co99)) (fun _ h_ => h_.1))))) (Kd.R_lt (by exact (Kd.R_mono (Kd.R_far (p := ⟨gb789, 1, none⟩) (Kd.R_far (p := ⟨gb789, 0, none⟩) (Kd.R_types HO787.out BK789.out (by decide)) (fun _ hk => hk.2) (.slice Ao97 t782.length co97)) (fun _ hk => hk.2) (.slice Ao99 t785.length co99)) (fun _ h_ => h_.1))))) (below_size (by repeat (first | (with_reducible first | exact HB.out | refine below_set ?_ GE789.out))))); replace HO784 := Aside0.mk (Kd.R_mono (Kd.R_told (Kd.R_told (Kd.R_old (by exact (Kd.R_mono (Kd.R_far (p := ⟨gb789, 1, none⟩) (Kd.R_far (p := ⟨gb789, 0, none⟩) (Kd.R_types HO784.out BK789.out (by decide)) (fun _ hk => hk.2) (.slice Ao97 t782.length co97)) (fun _ hk => hk.2) (.slice Ao99 t785.length co99)) (fun _ h_ => h_.1))) hb) (Kd.R_base ho0)) (Kd.R_base ho1)) (fun _ h_ => h_.1)); replace HO787 := Aside0.mk (Kd.R_mono (Kd.R_told (Kd.R_told (Kd.R_old (by exact (Kd.R_mono (Kd.R_far (p := ⟨gb789, 1, none⟩) (Kd.R_far (p := ⟨gb789, 0, none⟩) (Kd.R_types HO787.out BK789.out (by decide)) (fun _ hk => hk.2) (.slice Ao97 t782.length co97)) (fun _ hk => hk.2) (.slice Ao99 t785.length co99)) (fun _ h_ => h_.1))) hb) (Kd.R_base ho0)) (Kd.R_base ho1)) (fun _ h_ => h_.1)); replace BK789 := Aside0.mk (blk_below (g := gb789) (o := .cells #[.slice Ao97 t782.length co97, .slice Ao99 t785.length co99] 49 (0, 0)) (by refine blk_put (cs := #[.slice Ao97 t782.length co97, .slice none 0 0]) ?_ 1 _ rfl; refine blk_put (cs := #[.slice none 0 0, .slice none 0 0]) ?_ 0 _ rfl; exact BK789.out) hb); replace HB := Aside0.mk (below_step (by repeat (first | (with_reducible first | exact HB.out | refine below_set ?_ GE789.out))) hb); (try clear hb); (try clear ho0); (try clear ho1)) | ((with_reducible refine gate_dst (N := 9) rfl ?_); (try (refine gate_guard (by rfl) ?_; dsimp only)); refine box_event ?hg (N := 9) ?hd (cs := #[.slice none 0 0, .slice none 0 0]) (t := 49) ?hr ?_; (case hd => rfl); (case hg => rfl); (case hr => first | (go_simp; done)); intro gb797 hg w101 hbox hb; replace HO784 := Aside0.mk (Kd.R_below HO784.out hb); replace HO787 := Aside0.mk (Kd.R_below HO787.out hb); replace HO792 := Aside0.mk (Kd.R_below HO792.out hb); replace HO795 := Aside0.mk (Kd.R_below HO795.out hb); have BK797 := Aside0.mk hbox; have GW797 := Aside0.mk ((by rw [hg]; exact (below_size HB.out) : w.heap.size ≤ gb797)); have GE797 := Aside0.mk ((by rw [hg]; exact (below_size HB.out) : w.heap.size ≤ gb797)); replace HB := Aside0.mk (below_step HB.out hb); have NB789_797 := Aside0.mk ((by rw [hg]; exact Nat.ne_of_lt (blk_lt (g := gb789) (o := .cells #[.slice Ao97 t782.length co97, .slice Ao99 t785.length co99] 49 (0, 0)) BK789.out) : gb789 ≠ gb797)); have NB797_789 := Aside0.mk ((by rw [hg]; exact Nat.ne_of_gt (blk_lt (g := gb789) (o := .cells #[.slice Ao97 t782.length co97, .slice Ao99 t785.length co99] 49 (0, 0)) BK789.out) : gb797 ≠ gb789)); replace BK789 := Aside0.mk (blk_below (g := gb789) (o := .cells #[.slice Ao97 t782.length co97, .slice Ao99 t785.length co99] 49 (0, 0)) BK789.out hb); clear hb hbox hg; obtain ⟨Ao102, co102, eo102⟩ := Kd.R_slice HO792.out; subst eo102; have hnb103 := NB797_789.out; have hnc103 := NB789_797.out; have hcz104_0 : w101.cell? ⟨gb797, 0, none⟩ = some (.slice none 0 0) := (blk_cell BK797.out 0).trans rfl; have hcz104_1 : w101.cell? ⟨gb797, 1, none⟩ = some (.slice none 0 0) := (blk_cell BK797.out 1).trans rfl; have hfz104_0 := blk_frozen BK797.out 0; have hfz104_1 := blk_frozen BK797.out 1; obtain ⟨Ao105, co105, eo105⟩ := Kd.R_slice HO795.out; subst eo105) | ((with_reducible refine gate_callee (f := 48) rfl ?_); refine goesL_ (some 25) rfl rfl Tryd.func48 (by kernel_rfl) rfl #[.string a2, .string (⟨#[102, 105, 114, 115, 116]⟩ : ByteArray)] rfl (by (try simp only [List.map_toArray, List.map_cons, List.map_nil]); rfl) ?_; (with_reducible refine (impl_numbersOf.calls a2 (⟨#[102, 105, 114, 115, 116]⟩ : ByteArray) t798 false _ A6.out (GlobN.below hG (by repeat (first | (with_reducible first | exact HB.out | refine below_set ?_ GE797.out))))).mono ?_); rintro e w106 ⟨v800, rfl, ho0, hb⟩; refine ⟨_, rfl, ?_⟩; replace HO784 := Aside0.mk (Kd.R_below (by exact (Kd.R_mono (Kd.R_far (p := ⟨gb797, 1, none⟩) (Kd.R_far (p := ⟨gb797, 0, none⟩) (Kd.R_types HO784.out BK797.out (by decide)) (fun _ hk => hk.2) (.slice Ao102 t790.length co102)) (fun _ hk => hk.2) (.slice Ao105 t793.length co105)) (fun _ h_ => h_.1))) hb); replace HO787 := Aside0.mk (Kd.R_below (by exact (Kd.R_mono (Kd.R_far (p := ⟨gb797, 1, none⟩) (Kd.R_far (p := ⟨gb797, 0, none⟩) (Kd.R_types HO787.out BK797.out (by decide)) (fun _ hk => hk.2) (.slice Ao102 t790.length co102)) (fun _ hk => hk.2) (.slice Ao105 t793.length co105)) (fun _ h_ => h_.1))) hb); replace HO792 := Aside0.mk (Kd.R_below (by exact (Kd.R_mono (Kd.R_far (p := ⟨gb797, 1, none⟩) (Kd.R_far (p := ⟨gb797, 0, none⟩) (Kd.R_types HO792.out BK797.out (by decide)) (fun _ hk => hk.2) (.slice Ao102 t790.length co102)) (fun _ hk => hk.2) (.slice Ao105 t793.length co105)) (fun _ h_ => h_.1))) hb); replace HO795 := Aside0.mk (Kd.R_below (by exact (Kd.R_mono (Kd.R_far (p := ⟨gb797, 1, none⟩) (Kd.R_far (p := ⟨gb797, 0, none⟩) (Kd.R_types HO795.out BK797.out (by decide)) (fun _ hk => hk.2) (.slice Ao102 t790.length co102)) (fun _ hk => hk.2) (.slice Ao105 t793.length co105)) (fun _ h_ => h_.1))) hb); have HO801 := Aside0.mk (Kd.R_lower ho0 (below_size (by repeat (first | (with_reducible first | exact HB.out | refine below_set ?_ GE797.out))))); replace BK789 := Aside0.mk (blk_below (g := gb789) (o := .cells #[.slice Ao97 t782.length co97, .slice Ao99 t785.length co99] 49 (0, 0)) (by refine blk_far ?_ NB789_797.out _; refine blk_far ?_ NB789_797.out _; exact BK789.out) hb); replace BK797 := Aside0.mk (blk_below (g := gb797) (o := .cells #[.slice Ao102 t790.length co102, .slice Ao105 t793.length co105] 49 (0, 0)) (by refine blk_put (cs := #[.slice Ao102 t790.length co102, .slice none 0 0]) ?_ 1 _ rfl; refine blk_put (cs := #[.slice none 0 0, .slice none 0 0]) ?_ 0 _ rfl; exact BK797.out) hb); replace HB := Aside0.mk (below_step (by repeat (first | (with_reducible first | exact HB.out | refine below_set ?_ GE797.out))) hb); (try clear hb); (try clear ho0)) | ((with_reducible refine gate_callee (f := 48) rfl ?_); refine goesL_ (some 32) rfl rfl Tryd.func48 (by kernel_rfl) rfl #[.string a2, .string (⟨#[115, 101, 99, 111, 110, 100]⟩ : ByteArray)] rfl (by (try simp only [List.map_toArray, List.map_cons, List.map_nil]); rfl) ?_; (with_reducible refine (impl_numbersOf.calls a2 (⟨#[115, 101, 99, 111, 110, 100]⟩ : ByteArray) t806 true _ A86.out (GlobN.below hG HB.out)).mono ?_); rintro e w107 ⟨v808, rfl, ho0, hb⟩; refine ⟨_, rfl, ?_⟩; replace HO784 := Aside0.mk (Kd.R_below HO784.out hb); replace HO787 := Aside0.mk (Kd.R_below HO787.out hb); replace HO792 := Aside0.mk (Kd.R_below HO792.out hb); replace HO795 := Aside0.mk (Kd.R_below HO795.out hb); have HO809 := Aside0.mk (Kd.R_lower (Kd.R_new' ho0 (Kd.R_lt HO801.out)) (below_size HB.out)); replace HO801 := Aside0.mk (Kd.R_elder' HO801.out (Kd.R_base ho0) hb); replace BK789 := Aside0.mk (blk_below (g := gb789) (o := .cells #[.slice Ao97 t782.length co97, .slice Ao99 t785.length co99] 49 (0, 0)) BK789.out hb); replace BK797 := Aside0.mk (blk_below (g := gb797) (o := .cells #[.slice Ao102 t790.length co102, .slice Ao105 t793.length co105] 49 (0, 0)) BK797.out hb); replace HB := Aside0.mk (below_step HB.out hb); (try clear hb); (try clear ho0); have hcz108_0 : w107.cell? ⟨gb797, 0, none⟩ = some (.slice Ao102 t790.length co102) := (blk_cell BK797.out 0).trans rfl; have hcz108_1 : w107.cell? ⟨gb797, 1, none⟩ = some (.slice Ao105 t793.length co105) := (blk_cell BK797.out 1).trans rfl; have hfz108_0 := blk_frozen BK797.out 0; have hfz108_1 := blk_frozen BK797.out 1; have hcz109_0 : w107.cell? ⟨gb789, 0, none⟩ = some (.slice Ao97 t782.length co97) := (blk_cell BK789.out 0).trans rfl; have hcz109_1 : w107.cell? ⟨gb789, 1, none⟩ = some (.slice Ao99 t785.length co99) := (blk_cell BK789.out 1).trans rfl; have hfz109_0 := blk_frozen BK789.out 0; have hfz109_1 := blk_frozen BK789.out 1))
        have n0_ : Aside0 (Kd.R Kd.bool 4 ((((w107.setCell ⟨gb789, 0, none⟩ (.slice Ao102 t790.length co102)).setCell ⟨gb789, 1, none⟩ (.slice Ao105 t793.length co105)).setCell ⟨gb797, 0, none⟩ (.slice Ao97 t782.length co97)).setCell ⟨gb797, 1, none⟩ (.slice Ao99 t785.length co99)) w.heap.size (fun k_ => some k_ ≠ (.slice Ao99 t785.length co99 : Value).ownBlock ∧ some k_ ≠ (.slice Ao102 t790.length co102 : Value).ownBlock ∧ some k_ ≠ (.slice Ao105 t793.length co105 : Value).ownBlock) (.slice Ao97 t782.length co97) t782) := ⟨by exact Kd.R_mono (Kd.R_far (p := ⟨gb797, 1, none⟩) (Kd.R_far (p := ⟨gb797, 0, none⟩) (Kd.R_far (p := ⟨gb789, 1, none⟩) (Kd.R_far (p := ⟨gb789, 0, none⟩) (Kd.R_types (Kd.R_types HO784.out BK789.out (by decide)) BK797.out (by decide)) (fun _ hk => hk.1.2) (.slice Ao102 t790.length co102)) (fun _ hk => hk.1.2) (.slice Ao105 t793.length co105)) (fun _ hk => hk.2) (.slice Ao97 t782.length co97)) (fun _ hk => hk.2) (.slice Ao99 t785.length co99)) (fun _ hk => ⟨hk.1.1.1.1, ⟨hk.1.1.1.2, hk.1.1.2⟩⟩)⟩
        have n1_ : Aside0 (Kd.R Kd.bool 4 ((((w107.setCell ⟨gb789, 0, none⟩ (.slice Ao102 t790.length co102)).setCell ⟨gb789, 1, none⟩ (.slice Ao105 t793.length co105)).setCell ⟨gb797, 0, none⟩ (.slice Ao97 t782.length co97)).setCell ⟨gb797, 1, none⟩ (.slice Ao99 t785.length co99)) w.heap.size (fun k_ => some k_ ≠ (.slice Ao97 t782.length co97 : Value).ownBlock ∧ some k_ ≠ (.slice Ao102 t790.length co102 : Value).ownBlock ∧ some k_ ≠ (.slice Ao105 t793.length co105 : Value).ownBlock) (.slice Ao99 t785.length co99) t785) := ⟨by exact Kd.R_mono (Kd.R_far (p := ⟨gb797, 1, none⟩) (Kd.R_far (p := ⟨gb797, 0, none⟩) (Kd.R_far (p := ⟨gb789, 1, none⟩) (Kd.R_far (p := ⟨gb789, 0, none⟩) (Kd.R_types (Kd.R_types HO787.out BK789.out (by decide)) BK797.out (by decide)) (fun _ hk => hk.1.2) (.slice Ao102 t790.length co102)) (fun _ hk => hk.1.2) (.slice Ao105 t793.length co105)) (fun _ hk => hk.2) (.slice Ao97 t782.length co97)) (fun _ hk => hk.2) (.slice Ao99 t785.length co99)) (fun _ hk => ⟨hk.1.1.1.1, ⟨hk.1.1.1.2, hk.1.1.2⟩⟩)⟩
        have n2_ : Aside0 (Kd.R Kd.bool 4 ((((w107.setCell ⟨gb789, 0, none⟩ (.slice Ao102 t790.length co102)).setCell ⟨gb789, 1, none⟩ (.slice Ao105 t793.length co105)).setCell ⟨gb797, 0, none⟩ (.slice Ao97 t782.length co97)).setCell ⟨gb797, 1, none⟩ (.slice Ao99 t785.length co99)) w.heap.size (fun k_ => some k_ ≠ (.slice Ao97 t782.length co97 : Value).ownBlock ∧ some k_ ≠ (.slice Ao99 t785.length co99 : Value).ownBlock ∧ some k_ ≠ (.slice Ao105 t793.length co105 : Value).ownBlock) (.slice Ao102 t790.length co102) t790) := ⟨by exact Kd.R_mono (Kd.R_far (p := ⟨gb797, 1, none⟩) (Kd.R_far (p := ⟨gb797, 0, none⟩) (Kd.R_far (p := ⟨gb789, 1, none⟩) (Kd.R_far (p := ⟨gb789, 0, none⟩) (Kd.R_types (Kd.R_types HO792.out BK789.out (by decide)) BK797.out (by decide)) (fun _ hk => hk.1.2) (.slice Ao102 t790.length co102)) (fun _ hk => hk.1.2) (.slice Ao105 t793.length co105)) (fun _ hk => hk.2) (.slice Ao97 t782.length co97)) (fun _ hk => hk.2) (.slice Ao99 t785.length co99)) (fun _ hk => ⟨hk.1.1.1.2, ⟨hk.1.1.2, hk.1.1.1.1⟩⟩)⟩
        have n3_ : Aside0 (Kd.R Kd.bool 4 ((((w107.setCell ⟨gb789, 0, none⟩ (.slice Ao102 t790.length co102)).setCell ⟨gb789, 1, none⟩ (.slice Ao105 t793.length co105)).setCell ⟨gb797, 0, none⟩ (.slice Ao97 t782.length co97)).setCell ⟨gb797, 1, none⟩ (.slice Ao99 t785.length co99)) w.heap.size (fun k_ => some k_ ≠ (.slice Ao97 t782.length co97 : Value).ownBlock ∧ some k_ ≠ (.slice Ao99 t785.length co99 : Value).ownBlock ∧ some k_ ≠ (.slice Ao102 t790.length co102 : Value).ownBlock) (.slice Ao105 t793.length co105) t793) := ⟨by exact Kd.R_mono (Kd.R_far (p := ⟨gb797, 1, none⟩) (Kd.R_far (p := ⟨gb797, 0, none⟩) (Kd.R_far (p := ⟨gb789, 1, none⟩) (Kd.R_far (p := ⟨gb789, 0, none⟩) (Kd.R_types (Kd.R_types HO795.out BK789.out (by decide)) BK797.out (by decide)) (fun _ hk => hk.1.2) (.slice Ao102 t790.length co102)) (fun _ hk => hk.1.2) (.slice Ao105 t793.length co105)) (fun _ hk => hk.2) (.slice Ao97 t782.length co97)) (fun _ hk => hk.2) (.slice Ao99 t785.length co99)) (fun _ hk => ⟨hk.1.1.1.2, ⟨hk.1.1.2, hk.1.1.1.1⟩⟩)⟩
        have n4_ : Aside0 (Kd.R (Kd.int .i64) 3 ((((w107.setCell ⟨gb789, 0, none⟩ (.slice Ao102 t790.length co102)).setCell ⟨gb789, 1, none⟩ (.slice Ao105 t793.length co105)).setCell ⟨gb797, 0, none⟩ (.slice Ao97 t782.length co97)).setCell ⟨gb797, 1, none⟩ (.slice Ao99 t785.length co99)) w.heap.size (fun k_ => some k_ ≠ (v808 : Value).ownBlock) v800 t798) := ⟨by exact Kd.R_mono (Kd.R_far (p := ⟨gb797, 1, none⟩) (Kd.R_far (p := ⟨gb797, 0, none⟩) (Kd.R_far (p := ⟨gb789, 1, none⟩) (Kd.R_far (p := ⟨gb789, 0, none⟩) (Kd.R_types (Kd.R_types HO801.out BK789.out (by decide)) BK797.out (by decide)) (fun _ hk => hk.1.2) (.slice Ao102 t790.length co102)) (fun _ hk => hk.1.2) (.slice Ao105 t793.length co105)) (fun _ hk => hk.2) (.slice Ao97 t782.length co97)) (fun _ hk => hk.2) (.slice Ao99 t785.length co99)) (fun _ hk => hk.1.1.2)⟩
        have n5_ : Aside0 (Kd.R (Kd.int .i64) 3 ((((w107.setCell ⟨gb789, 0, none⟩ (.slice Ao102 t790.length co102)).setCell ⟨gb789, 1, none⟩ (.slice Ao105 t793.length co105)).setCell ⟨gb797, 0, none⟩ (.slice Ao97 t782.length co97)).setCell ⟨gb797, 1, none⟩ (.slice Ao99 t785.length co99)) w.heap.size (fun k_ => some k_ ≠ (v800 : Value).ownBlock) v808 t806) := ⟨by exact Kd.R_mono (Kd.R_far (p := ⟨gb797, 1, none⟩) (Kd.R_far (p := ⟨gb797, 0, none⟩) (Kd.R_far (p := ⟨gb789, 1, none⟩) (Kd.R_far (p := ⟨gb789, 0, none⟩) (Kd.R_types (Kd.R_types HO809.out BK789.out (by decide)) BK797.out (by decide)) (fun _ hk => hk.1.2) (.slice Ao102 t790.length co102)) (fun _ hk => hk.1.2) (.slice Ao105 t793.length co105)) (fun _ hk => hk.2) (.slice Ao97 t782.length co97)) (fun _ hk => hk.2) (.slice Ao99 t785.length co99)) (fun _ hk => hk.1.1.2)⟩
        have n6_ : Aside0 (((((w107.setCell ⟨gb789, 0, none⟩ (.slice Ao102 t790.length co102)).setCell ⟨gb789, 1, none⟩ (.slice Ao105 t793.length co105)).setCell ⟨gb797, 0, none⟩ (.slice Ao97 t782.length co97)).setCell ⟨gb797, 1, none⟩ (.slice Ao99 t785.length co99)).heap[gb789]? = some (.cells #[.slice Ao102 t790.length co102, .slice Ao105 t793.length co105] 49 (0, 0))) := ⟨by refine blk_far ?_ NB789_797.out _; refine blk_far ?_ NB789_797.out _; refine blk_put (cs := #[.slice Ao102 t790.length co102, .slice Ao99 t785.length co99]) ?_ 1 _ rfl; refine blk_put (cs := #[.slice Ao97 t782.length co97, .slice Ao99 t785.length co99]) ?_ 0 _ rfl; exact BK789.out⟩
        have n7_ : Aside0 (((((w107.setCell ⟨gb789, 0, none⟩ (.slice Ao102 t790.length co102)).setCell ⟨gb789, 1, none⟩ (.slice Ao105 t793.length co105)).setCell ⟨gb797, 0, none⟩ (.slice Ao97 t782.length co97)).setCell ⟨gb797, 1, none⟩ (.slice Ao99 t785.length co99)).heap[gb797]? = some (.cells #[.slice Ao97 t782.length co97, .slice Ao99 t785.length co99] 49 (0, 0))) := ⟨by refine blk_put (cs := #[.slice Ao97 t782.length co97, .slice Ao105 t793.length co105]) ?_ 1 _ rfl; refine blk_put (cs := #[.slice Ao102 t790.length co102, .slice Ao105 t793.length co105]) ?_ 0 _ rfl; refine blk_far ?_ NB797_789.out _; refine blk_far ?_ NB797_789.out _; exact BK797.out⟩
        have n8_ : Aside0 (Below w.heap.size w ((((w107.setCell ⟨gb789, 0, none⟩ (.slice Ao102 t790.length co102)).setCell ⟨gb789, 1, none⟩ (.slice Ao105 t793.length co105)).setCell ⟨gb797, 0, none⟩ (.slice Ao97 t782.length co97)).setCell ⟨gb797, 1, none⟩ (.slice Ao99 t785.length co99))) := ⟨by repeat (first | (with_reducible first | exact HB.out | refine below_set ?_ GE789.out | refine below_set ?_ GE797.out))⟩
        (try clear HO784)
        (try clear HO787)
        (try clear HO792)
        (try clear HO795)
        (try clear HO801)
        (try clear HO809)
        (try clear BK789)
        (try clear BK797)
        (try clear HB)
        generalize ((((w107.setCell ⟨gb789, 0, none⟩ (.slice Ao102 t790.length co102)).setCell ⟨gb789, 1, none⟩ (.slice Ao105 t793.length co105)).setCell ⟨gb797, 0, none⟩ (.slice Ao97 t782.length co97)).setCell ⟨gb797, 1, none⟩ (.slice Ao99 t785.length co99)) = w110 at n0_ n1_ n2_ n3_ n4_ n5_ n6_ n7_ n8_ ⊢
        have HO784 := n0_
        have HO787 := n1_
        have HO792 := n2_
        have HO795 := n3_
        have HO801 := n4_
        have HO809 := n5_
        have BK789 := n6_
        have BK797 := n7_
        have HB := n8_
        clear n0_ n1_ n2_ n3_ n4_ n5_ n6_ n7_ n8_
        replace HO784 := Aside0.mk (Kd.R_drew HO784.out)
        replace HO787 := Aside0.mk (Kd.R_drew HO787.out)
        replace HO792 := Aside0.mk (Kd.R_drew HO792.out)
        replace HO795 := Aside0.mk (Kd.R_drew HO795.out)
        replace HO801 := Aside0.mk (Kd.R_drew HO801.out)
        replace HO809 := Aside0.mk (Kd.R_drew HO809.out)
        replace BK789 := Aside0.mk (blk_drew BK789.out)
        replace BK797 := Aside0.mk (blk_drew BK797.out)
        replace HB := Aside0.mk (below_drew1 HB.out)
        obtain ⟨Ao112, co112, eo112⟩ := Kd.R_slice HO809.out
        (subst eo112)
        have p810 : 0 ≤ (0 : Int) := (by omega)
        have q810 : 0 < (t806.length : Int) := of_decide_eq_true (by (with_reducible assumption))
        obtain ⟨ad810, e810, hx810_0⟩ := Kd.at_int (Kd.R_reads' HO809.out).2.2 0 p810 q810
        cases e810
        have qi810 : (0 < t806.length) = True := eq_true (by omega)
        (try rw [show ((0 : Int)).toNat = 0 from rfl] at hx810_0)
        (try rw [Addr.add_zero'] at hx810_0)
        replace p810 := eq_true p810
        replace q810 := eq_true q810
        first
        |have p812 : 0 ≤ (0 : Int) := (by omega)
         have q812 : 0 < (t806.length : Int) := of_decide_eq_true (by (with_reducible assumption))
         obtain ⟨ad812, e812, hx812_0⟩ := Kd.at_int (Kd.R_reads' HO809.out).2.2 0 p812 q812
         obtain rfl : ad810 = ad812 := (by injection e812)
         have qi812 : (0 < t806.length) = True := eq_true (by omega)
         (try rw [show ((0 : Int)).toNat = 0 from rfl] at hx812_0)
         (try rw [Addr.add_zero'] at hx812_0)
         replace p812 := eq_true p812
         replace q812 := eq_true q812
         refine start_ (n := 28) (S := fun w' => w'.cell? ⟨gb789, 0, none⟩ = some (.slice Ao102 t790.length co102) ∧ w'.cell? ⟨gb789, 1, none⟩ = some (.slice Ao105 t793.length co105) ∧ w'.cell? ⟨gb797, 0, none⟩ = some (.slice Ao97 t782.length co97) ∧ w'.cell? ⟨gb797, 1, none⟩ = some (.slice Ao99 t785.length co99) ∧ w'.cell? ad810 = some (.int .i64 (rd t806 0)) ∧ w'.cell? ad810 = some (.int .i64 (rd t806 0))) (ds := []) #[false, false, false, false, false, false, false, false, false, false, false, false, false, false, false, false, false, false, false, false, false, false, false, false, false, false, false, false] (by kernel_rfl) rfl rfl ⟨(blk_cell BK789.out 0).trans rfl, (blk_cell BK789.out 1).trans rfl, (blk_cell BK797.out 0).trans rfl, (blk_cell BK797.out 1).trans rfl, hx810_0, hx812_0⟩ (fun hHeld => ?_); refine with_tabW impl_ProofDifferIs.tab7 impl_ProofDifferIs.bits7 (fun HT_ HW_ => ?_)
         generalize w110.drew = w111 at HO784 HO787 HO792 HO795 HO801 HO809 BK789 BK797 HB hx810_0 hx812_0 hHeld ⊢
        |refine start_ (n := 28) (S := fun w' => w'.cell? ⟨gb789, 0, none⟩ = some (.slice Ao102 t790.length co102) ∧ w'.cell? ⟨gb789, 1, none⟩ = some (.slice Ao105 t793.length co105) ∧ w'.cell? ad810 = some (.int .i64 (rd t806 0))) (ds := []) #[false, false, false, false, false, false, false, false, false, false, false, false, false, false, false, false, false, false, false, false, false, false, false, false, false, false, false, false] (by kernel_rfl) rfl rfl ⟨(blk_cell BK789.out 0).trans rfl, (blk_cell BK789.out 1).trans rfl, hx810_0⟩ (fun hHeld => ?_); refine with_tabW impl_ProofDifferIs.tab7 impl_ProofDifferIs.bits7 (fun HT_ HW_ => ?_)
         generalize w110.drew = w131 at HO784 HO787 HO792 HO795 HO801 HO809 BK789 BK797 HB hx810_0 hHeld ⊢
        refine pure_ (i := 0) (N := some 37) (v := ?_) (a' := ?_) #[true, false, false, false, false, false, false, false, false, false, false, false, false, false, false, false, false, false, false, false, false, false, false, false, false, false, false, false] rfl rfl (any_of HT_.out (by kernel_rfl)) (fun _ _ _ h => h) (Or.inl ⟨by rfl, ?_⟩) ?_ ?_
        rotate_left
        ·intro w'
         go_simp
         with_reducible rfl
        rotate_left
        ·simp only [Act.put, List.setIfInBounds_toArray, List.set_cons_zero, List.set_cons_succ, i64_w, i32_w]
         rfl
        refine pure_ (i := 1) (N := some 38) (v := ?_) (a' := ?_) #[true, true, false, false, false, false, false, false, false, false, false, false, false, false, false, false, false, false, false, false, false, false, false, false, false, false, false, false] rfl rfl (any_of HT_.out (by kernel_rfl)) (fun _ _ _ h => h) (Or.inl ⟨by rfl, ?_⟩) ?_ ?_
        rotate_left
        ·intro w'
         go_simp
         with_reducible rfl
        rotate_left
        ·simp only [Act.put, List.setIfInBounds_toArray, List.set_cons_zero, List.set_cons_succ, i64_w, i32_w]
         rfl
        refine pure_ (i := 2) (N := some 39) (v := ?_) (a' := ?_) #[true, true, true, false, false, false, false, false, false, false, false, false, false, false, false, false, false, false, false, false, false, false, false, false, false, false, false, false] rfl rfl (any_of HT_.out (by kernel_rfl)) (fun _ _ _ h => h) (Or.inl ⟨by rfl, ?_⟩) ?_ ?_
        rotate_left
        ·intro w'
         go_simp
         with_reducible rfl
        rotate_left
        ·simp only [Act.put, List.setIfInBounds_toArray, List.set_cons_zero, List.set_cons_succ, i64_w, i32_w]
         rfl
        refine pure_ (i := 3) (N := some 40) (v := ?_) (a' := ?_) #[true, true, true, true, false, false, false, false, false, false, false, false, false, false, false, false, false, false, false, false, false, false, false, false, false, false, false, false] rfl rfl (any_of HT_.out (by kernel_rfl)) (fun _ _ _ h => h) (Or.inl ⟨by rfl, ?_⟩) ?_ ?_
        rotate_left
        ·intro w'
         go_simp
         with_reducible rfl
        rotate_left
        ·simp only [Act.put, List.setIfInBounds_toArray, List.set_cons_zero, List.set_cons_succ, i64_w, i32_w]
         rfl
        refine pure_ (i := 4) (N := some 41) (v := ?_) (a' := ?_) #[true, true, true, true, true, false, false, false, false, false, false, false, false, false, false, false, false, false, false, false, false, false, false, false, false, false, false, false] rfl rfl (any_of HT_.out (by kernel_rfl)) (fun _ _ _ h => h) (Or.inl ⟨by rfl, ?_⟩) ?_ ?_
        rotate_left
        ·intro w'
         go_simp
         with_reducible rfl
        rotate_left
        ·simp only [Act.put, List.setIfInBounds_toArray, List.set_cons_zero, List.set_cons_succ, i64_w, i32_w]
         rfl
        refine pure_ (i := 5) (N := some 42) (v := ?_) (a' := ?_) #[true, true, true, true, true, true, false, false, false, false, false, false, false, false, false, false, false, false, false, false, false, false, false, false, false, false, false, false] rfl rfl (any_of HT_.out (by kernel_rfl)) (fun _ _ _ h => h) (Or.inl ⟨by rfl, ?_⟩) ?_ ?_
        rotate_left
        ·intro w'
         go_simp
         with_reducible rfl
        rotate_left
        ·simp only [Act.put, List.setIfInBounds_toArray, List.set_cons_zero, List.set_cons_succ, i64_w, i32_w]
         rfl
        refine pure_ (i := 6) (N := some 43) (v := ?_) (a' := ?_) #[true, true, true, true, true, true, true, false, false, false, false, false, false, false, false, false, false, false, false, false, false, false, false, false, false, false, false, false] rfl rfl (any_of HT_.out (by kernel_rfl)) (fun _ _ _ h => h) (Or.inl ⟨by rfl, ?_⟩) ?_ ?_
        rotate_left
        ·intro w'
         go_simp
         with_reducible rfl
        rotate_left
        ·simp only [Act.put, List.setIfInBounds_toArray, List.set_cons_zero, List.set_cons_succ, i64_w, i32_w]
         rfl
        refine pure_ (i := 7) (N := some 44) (v := ?_) (a' := ?_) #[true, true, true, true, true, true, true, true, false, false, false, false, false, false, false, false, false, false, false, false, false, false, false, false, false, false, false, false] rfl rfl (any_of HT_.out (by kernel_rfl)) (fun _ _ _ h => h) (Or.inl ⟨by rfl, ?_⟩) ?_ ?_
        rotate_left
        ·intro w'
         go_simp
         with_reducible rfl
        rotate_left
        ·simp only [Act.put, List.setIfInBounds_toArray, List.set_cons_zero, List.set_cons_succ, i64_w, i32_w]
         rfl
        refine pure_ (i := 8) (N := some 45) (v := ?_) (a' := ?_) #[true, true, true, true, true, true, true, true, true, false, false, false, false, false, false, false, false, false, false, false, false, false, false, false, false, false, false, false] rfl rfl (any_of HT_.out (by kernel_rfl)) (fun _ _ _ h => h) (Or.inl ⟨by rfl, ?_⟩) ?_ ?_
        rotate_left
        ·intro w'
         go_simp
         with_reducible rfl
        rotate_left
        ·simp only [Act.put, List.setIfInBounds_toArray, List.set_cons_zero, List.set_cons_succ, i64_w, i32_w]
         rfl
        refine pure_ (i := 9) (N := some 46) (v := ?_) (a' := ?_) #[true, true, true, true, true, true, true, true, true, true, false, false, false, false, false, false, false, false, false, false, false, false, false, false, false, false, false, false] rfl rfl (any_of HT_.out (by kernel_rfl)) (fun _ _ _ h => h) (Or.inl ⟨by rfl, ?_⟩) ?_ ?_
        rotate_left
        ·intro w'
         go_simp
         with_reducible rfl
        rotate_left
        ·simp only [Act.put, List.setIfInBounds_toArray, List.set_cons_zero, List.set_cons_succ, i64_w, i32_w]
         rfl
        refine pure_ (i := 10) (N := some 47) (v := ?_) (a' := ?_) #[true, true, true, true, true, true, true, true, true, true, true, false, false, false, false, false, false, false, false, false, false, false, false, false, false, false, false, false] rfl rfl (any_of HT_.out (by kernel_rfl)) (fun _ _ _ h => h) (Or.inl ⟨by rfl, ?_⟩) ?_ ?_
        rotate_left
        ·intro w'
         go_simp
         with_reducible rfl
        rotate_left
        ·simp only [Act.put, List.setIfInBounds_toArray, List.set_cons_zero, List.set_cons_succ, i64_w, i32_w]
         rfl
        refine pure_ (i := 11) (N := some 48) (v := ?_) (a' := ?_) #[true, true, true, true, true, true, true, true, true, true, true, true, false, false, false, false, false, false, false, false, false, false, false, false, false, false, false, false] rfl rfl (any_of HT_.out (by kernel_rfl)) (fun _ _ _ h => h) (Or.inl ⟨by rfl, ?_⟩) ?_ ?_
        rotate_left
        ·intro w'
         go_simp
         with_reducible rfl
        rotate_left
        ·simp only [Act.put, List.setIfInBounds_toArray, List.set_cons_zero, List.set_cons_succ, i64_w, i32_w]
         rfl
        refine pure_ (i := 12) (N := some 49) (v := ?_) (a' := ?_) #[true, true, true, true, true, true, true, true, true, true, true, true, true, false, false, false, false, false, false, false, false, false, false, false, false, false, false, false] rfl rfl (any_of HT_.out (by kernel_rfl)) (fun _ _ _ h => h) (Or.inl ⟨by rfl, ?_⟩) ?_ ?_
        rotate_left
        ·intro w'
         go_simp
         with_reducible rfl
        rotate_left
        ·simp only [Act.put, List.setIfInBounds_toArray, List.set_cons_zero, List.set_cons_succ, i64_w, i32_w]
         rfl
        refine pure_ (i := 14) (N := some 51) (v := ?_) (a' := ?_) #[true, true, true, true, true, true, true, true, true, true, true, true, true, false, true, false, false, false, false, false, false, false, false, false, false, false, false, false] rfl rfl (any_of HT_.out (by kernel_rfl)) (fun _ _ _ h => h) (Or.inl ⟨by rfl, ?_⟩) ?_ ?_
        rotate_left
        ·intro w'
         go_simp
         with_reducible rfl
        rotate_left
        ·simp only [Act.put, List.setIfInBounds_toArray, List.set_cons_zero, List.set_cons_succ, i64_w, i32_w]
         rfl
        refine pure_ (i := 15) (N := some 52) (v := ?_) (a' := ?_) #[true, true, true, true, true, true, true, true, true, true, true, true, true, false, true, true, false, false, false, false, false, false, false, false, false, false, false, false] rfl rfl (any_of HT_.out (by kernel_rfl)) (fun _ _ _ h => h) (Or.inl ⟨by rfl, ?_⟩) ?_ ?_
        rotate_left
        ·intro w'
         go_simp
         with_reducible rfl
        rotate_left
        ·simp only [Act.put, List.setIfInBounds_toArray, List.set_cons_zero, List.set_cons_succ, i64_w, i32_w]
         rfl
        refine take_ (i := 13) (N := some 50) (v := ?_) (a' := ?_) #[true, true, true, true, true, true, true, true, true, true, true, true, true, true, true, true, false, false, false, false, false, false, false, false, false, false, false, false] rfl rfl (take_ofW HT_.out HW_.out (by kernel_rfl)) (fun _ _ _ h => h) (Or.inl ⟨by rfl, ?_⟩) hHeld ?_ ?_
        rotate_left
        first
        |·rintro w' ⟨s0, s1, s2, s3, s4, s5⟩
          go_simp
          with_reducible rfl
        |·rintro w' ⟨s0, s1, s2⟩
          go_simp
          with_reducible rfl
        rotate_left
        ·simp only [Act.put, List.setIfInBounds_toArray, List.set_cons_zero, List.set_cons_succ, i64_w, i32_w]
         rfl
        refine take_ (i := 16) (N := some 53) (v := ?_) (a' := ?_) #[true, true, true, true, true, true, true, true, true, true, true, true, true, true, true, true, true, false, false, false, false, false, false, false, false, false, false, false] rfl rfl (take_ofW HT_.out HW_.out (by kernel_rfl)) (fun _ _ _ h => h) (Or.inl ⟨by rfl, ?_⟩) hHeld ?_ ?_
        rotate_left
        first
        |·rintro w' ⟨s0, s1, s2, s3, s4, s5⟩
          go_simp
          with_reducible rfl
        |·rintro w' ⟨s0, s1, s2⟩
          go_simp
          with_reducible rfl
        rotate_left
        ·simp only [Act.put, List.setIfInBounds_toArray, List.set_cons_zero, List.set_cons_succ, i64_w, i32_w]
         rfl
        refine one_ (i := 17) (N := some 54) #[true, true, true, true, true, true, true, true, true, true, true, true, true, true, true, true, true, true, false, false, false, false, false, false, false, false, false, false] rfl rfl (one_of HT_.out (by kernel_rfl)) (by decide) (fun K hK => ?_)
        refine goes_ Tryd.func58 (by kernel_rfl) rfl #[.agg #[.slice Ao102 t790.length co102, .slice Ao105 t793.length co105], .int .i64 (rd t806 0)] (by rfl) rfl rfl (by (try simp only [List.map_toArray, List.map_cons, List.map_nil]); rfl) ?_
        first
        |with_reducible refine (impl_set_has.calls _ _ t790 _ _ t793 (rd t806 0) true _ ?side1 ?side2 ?side3 ?side4 A92.out).mono ?_
        |with_reducible refine (impl_set_has.calls _ _ t790 _ _ t793 (rd t806 0) false _ ?side1 ?side2 ?side3 ?side4 A92.out).mono ?_
        (case side1 => repeat (exact (Kd.R_reads' HO792.out).2.2))
        (case side2 => exact (Kd.R_reads' HO792.out).2.1)
        (case side3 => repeat (exact (Kd.R_reads' HO795.out).2.2))
        (case side4 => exact (Kd.R_reads' HO795.out).2.1)
        rintro e w113 ⟨rfl, hb⟩
        first
        |have HS4_ := (hb.cell (World.block_lt_of_cell? _ _ (hHeld.2.2.2.2.1))).trans (hHeld.2.2.2.2.1)
         have HS5_ := (hb.cell (World.block_lt_of_cell? _ _ (hHeld.2.2.2.2.2))).trans (hHeld.2.2.2.2.2)
        |have HS2_ := (hb.cell (World.block_lt_of_cell? _ _ (hHeld.2.2))).trans (hHeld.2.2)
        refine ⟨_, rfl, ?_⟩
        replace HO784 := Aside0.mk (Kd.R_below HO784.out hb)
        replace HO787 := Aside0.mk (Kd.R_below HO787.out hb)
        replace HO792 := Aside0.mk (Kd.R_below HO792.out hb)
        replace HO795 := Aside0.mk (Kd.R_below HO795.out hb)
        replace HO801 := Aside0.mk (Kd.R_below HO801.out hb)
        replace HO809 := Aside0.mk (Kd.R_below HO809.out hb)
        replace BK789 := Aside0.mk (blk_below (g := gb789) (o := .cells #[.slice Ao102 t790.length co102, .slice Ao105 t793.length co105] 49 (0, 0)) BK789.out hb)
        replace BK797 := Aside0.mk (blk_below (g := gb797) (o := .cells #[.slice Ao97 t782.length co97, .slice Ao99 t785.length co99] 49 (0, 0)) BK797.out hb)
        replace HB := Aside0.mk (below_step HB.out hb)
        (try clear hb)
        first
        |refine hK.out _ _ ⟨(blk_cell BK789.out 0).trans rfl, (blk_cell BK789.out 1).trans rfl, (blk_cell BK797.out 0).trans rfl, (blk_cell BK797.out 1).trans rfl, HS4_, HS5_⟩ (fun hHeld => ?_)
        |refine hK.out _ _ ⟨(blk_cell BK789.out 0).trans rfl, (blk_cell BK789.out 1).trans rfl, HS2_⟩ (fun hHeld => ?_)
        clear hK K
        refine norm_ (a' := ?_) ?_ ?_
        rotate_left
        ·show Act.put _ (some 54) _ = _
         simp only [Act.put, List.setIfInBounds_toArray, List.set_cons_zero, List.set_cons_succ, i64_w, i32_w]
         rfl
        refine pure_ (i := 18) (N := some 55) (v := ?_) (a' := ?_) #[true, true, true, true, true, true, true, true, true, true, true, true, true, true, true, true, true, true, true, false, false, false, false, false, false, false, false, false] rfl rfl (any_of HT_.out (by kernel_rfl)) (fun _ _ _ h => h) (Or.inl ⟨by rfl, ?_⟩) ?_ ?_
        rotate_left
        ·intro w'
         go_simp
         with_reducible rfl
        rotate_left
        ·simp only [Act.put, List.setIfInBounds_toArray, List.set_cons_zero, List.set_cons_succ, i64_w, i32_w]
         rfl
        refine pure_ (i := 19) (N := some 56) (v := ?_) (a' := ?_) #[true, true, true, true, true, true, true, true, true, true, true, true, true, true, true, true, true, true, true, true, false, false, false, false, false, false, false, false] rfl rfl (any_of HT_.out (by kernel_rfl)) (fun _ _ _ h => h) (Or.inl ⟨by rfl, ?_⟩) ?_ ?_
        rotate_left
        ·intro w'
         go_simp
         with_reducible rfl
        rotate_left
        ·simp only [Act.put, List.setIfInBounds_toArray, List.set_cons_zero, List.set_cons_succ, i64_w, i32_w]
         rfl
        first
        |refine pure_ (i := 21) (N := some 58) (v := ?_) (a' := ?_) #[true, true, true, true, true, true, true, true, true, true, true, true, true, true, true, true, true, true, true, true, false, true, false, false, false, false, false, false] rfl rfl (any_of HT_.out (by kernel_rfl)) (fun _ _ _ h => h) (Or.inl ⟨by rfl, ?_⟩) ?_ ?_
         rotate_left
         ·intro w'
          go_simp
          with_reducible rfl
        |refine pure_ (i := 20) (N := some 57) (v := undef) (a' := ?_) #[true, true, true, true, true, true, true, true, true, true, true, true, true, true, true, true, true, true, true, true, true, false, false, false, false, false, false, false] rfl rfl (any_of HT_.out (by kernel_rfl)) (fun _ _ _ h => h) (Or.inr ⟨by rfl, rfl⟩) ?_ ?_
        rotate_left
        ·simp only [Act.put, List.setIfInBounds_toArray, List.set_cons_zero, List.set_cons_succ, i64_w, i32_w]
         rfl
        first
        |refine pure_ (i := 22) (N := some 59) (v := ?_) (a' := ?_) #[true, true, true, true, true, true, true, true, true, true, true, true, true, true, true, true, true, true, true, true, false, true, true, false, false, false, false, false] rfl rfl (any_of HT_.out (by kernel_rfl)) (fun _ _ _ h => h) (Or.inl ⟨by rfl, ?_⟩) ?_ ?_
         rotate_left
         ·intro w'
          go_simp
          with_reducible rfl
        |refine pure_ (i := 21) (N := some 58) (v := undef) (a' := ?_) #[true, true, true, true, true, true, true, true, true, true, true, true, true, true, true, true, true, true, true, true, true, true, false, false, false, false, false, false] rfl rfl (any_of HT_.out (by kernel_rfl)) (fun _ _ _ h => h) (Or.inr ⟨by rfl, rfl⟩) ?_ ?_
        rotate_left
        ·simp only [Act.put, List.setIfInBounds_toArray, List.set_cons_zero, List.set_cons_succ, i64_w, i32_w]
         rfl
        first
        |refine take_ (i := 20) (N := some 57) (v := ?_) (a' := ?_) #[true, true, true, true, true, true, true, true, true, true, true, true, true, true, true, true, true, true, true, true, true, true, true, false, false, false, false, false] rfl rfl (take_ofW HT_.out HW_.out (by kernel_rfl)) (fun _ _ _ h => h) (Or.inl ⟨by rfl, ?_⟩) hHeld ?_ ?_
         rotate_left
         ·rintro w' ⟨s0, s1, s2, s3, s4, s5⟩
          go_simp
          with_reducible rfl
        |refine pure_ (i := 22) (N := some 59) (v := undef) (a' := ?_) #[true, true, true, true, true, true, true, true, true, true, true, true, true, true, true, true, true, true, true, true, true, true, true, false, false, false, false, false] rfl rfl (any_of HT_.out (by kernel_rfl)) (fun _ _ _ h => h) (Or.inr ⟨by rfl, rfl⟩) ?_ ?_
        rotate_left
        ·simp only [Act.put, List.setIfInBounds_toArray, List.set_cons_zero, List.set_cons_succ, i64_w, i32_w]
         rfl
        first
        |refine take_ (i := 23) (N := some 60) (v := ?_) (a' := ?_) #[true, true, true, true, true, true, true, true, true, true, true, true, true, true, true, true, true, true, true, true, true, true, true, true, false, false, false, false] rfl rfl (take_ofW HT_.out HW_.out (by kernel_rfl)) (fun _ _ _ h => h) (Or.inl ⟨by rfl, ?_⟩) hHeld ?_ ?_
         rotate_left
         ·rintro w' ⟨s0, s1, s2, s3, s4, s5⟩
          go_simp
          with_reducible rfl
        |refine pure_ (i := 23) (N := some 60) (v := undef) (a' := ?_) #[true, true, true, true, true, true, true, true, true, true, true, true, true, true, true, true, true, true, true, true, true, true, true, true, false, false, false, false] rfl rfl (any_of HT_.out (by kernel_rfl)) (fun _ _ _ h => h) (Or.inr ⟨by rfl, rfl⟩) ?_ ?_
        rotate_left
        ·simp only [Act.put, List.setIfInBounds_toArray, List.set_cons_zero, List.set_cons_succ, i64_w, i32_w]
         rfl
        first
        |refine one_ (i := 24) (N := some 61) #[true, true, true, true, true, true, true, true, true, true, true, true, true, true, true, true, true, true, true, true, true, true, true, true, true, false, false, false] rfl rfl (one_of HT_.out (by kernel_rfl)) (by decide) (fun K hK => ?_)
         refine goes_ Tryd.func58 (by kernel_rfl) rfl #[.agg #[.slice Ao97 t782.length co97, .slice Ao99 t785.length co99], .int .i64 (rd t806 0)] (by rfl) rfl rfl (by (try simp only [List.map_toArray, List.map_cons, List.map_nil]); rfl) ?_
         with_reducible refine (impl_set_has.calls _ _ t782 _ _ t785 (rd t806 0) t813 _ ?side1 ?side2 ?side3 ?side4 A94.out).mono ?_
         (case side1 => repeat (exact (Kd.R_reads' HO784.out).2.2))
         (case side2 => exact (Kd.R_reads' HO784.out).2.1)
         (case side3 => repeat (exact (Kd.R_reads' HO787.out).2.2))
         (case side4 => exact (Kd.R_reads' HO787.out).2.1)
         rintro e w114 ⟨rfl, hb⟩
         have HS4_ := (hb.cell (World.block_lt_of_cell? _ _ (hHeld.2.2.2.2.1))).trans (hHeld.2.2.2.2.1)
         have HS5_ := (hb.cell (World.block_lt_of_cell? _ _ (hHeld.2.2.2.2.2))).trans (hHeld.2.2.2.2.2)
         refine ⟨_, rfl, ?_⟩
         replace HO784 := Aside0.mk (Kd.R_below HO784.out hb)
         replace HO787 := Aside0.mk (Kd.R_below HO787.out hb)
         replace HO792 := Aside0.mk (Kd.R_below HO792.out hb)
         replace HO795 := Aside0.mk (Kd.R_below HO795.out hb)
         replace HO801 := Aside0.mk (Kd.R_below HO801.out hb)
         replace HO809 := Aside0.mk (Kd.R_below HO809.out hb)
         replace BK789 := Aside0.mk (blk_below (g := gb789) (o := .cells #[.slice Ao102 t790.length co102, .slice Ao105 t793.length co105] 49 (0, 0)) BK789.out hb)
         replace BK797 := Aside0.mk (blk_below (g := gb797) (o := .cells #[.slice Ao97 t782.length co97, .slice Ao99 t785.length co99] 49 (0, 0)) BK797.out hb)
         replace HB := Aside0.mk (below_step HB.out hb)
         (try clear hb)
         refine hK.out _ _ ⟨(blk_cell BK789.out 0).trans rfl, (blk_cell BK789.out 1).trans rfl, (blk_cell BK797.out 0).trans rfl, (blk_cell BK797.out 1).trans rfl, HS4_, HS5_⟩ (fun hHeld => ?_)
         clear hK K
         refine norm_ (a' := ?_) ?_ ?_
        |refine pure_ (i := 24) (N := some 61) (v := undef) (a' := ?_) #[true, true, true, true, true, true, true, true, true, true, true, true, true, true, true, true, true, true, true, true, true, true, true, true, true, false, false, false] rfl rfl (any_of HT_.out (by kernel_rfl)) (fun _ _ _ h => h) (Or.inr ⟨by rfl, rfl⟩) ?_ ?_
        rotate_left
        first
        |·show Act.put _ (some 61) _ = _
          simp only [Act.put, List.setIfInBounds_toArray, List.set_cons_zero, List.set_cons_succ, i64_w, i32_w]
          rfl
         refine pure_ (i := 25) (N := some 62) (v := ?_) (a' := ?_) #[true, true, true, true, true, true, true, true, true, true, true, true, true, true, true, true, true, true, true, true, true, true, true, true, true, true, false, false] rfl rfl (any_of HT_.out (by kernel_rfl)) (fun _ _ _ h => h) (Or.inl ⟨by rfl, ?_⟩) ?_ ?_
         rotate_left
         ·intro w'
          go_simp
          with_reducible rfl
        |·simp only [Act.put, List.setIfInBounds_toArray, List.set_cons_zero, List.set_cons_succ, i64_w, i32_w]
          rfl
         refine pure_ (i := 25) (N := some 62) (v := undef) (a' := ?_) #[true, true, true, true, true, true, true, true, true, true, true, true, true, true, true, true, true, true, true, true, true, true, true, true, true, true, false, false] rfl rfl (any_of HT_.out (by kernel_rfl)) (fun _ _ _ h => h) (Or.inr ⟨by rfl, rfl⟩) ?_ ?_
        rotate_left
        ·simp only [Act.put, List.setIfInBounds_toArray, List.set_cons_zero, List.set_cons_succ, i64_w, i32_w]
         rfl
        refine pure_ (i := 26) (N := some 63) (v := ?_) (a' := ?_) #[true, true, true, true, true, true, true, true, true, true, true, true, true, true, true, true, true, true, true, true, true, true, true, true, true, true, true, false] rfl rfl (any_of HT_.out (by kernel_rfl)) (fun _ _ _ h => h) (Or.inl ⟨by rfl, ?_⟩) ?_ ?_
        rotate_left
        ·intro w'
         go_simp
         with_reducible rfl
        rotate_left
        ·simp only [Act.put, List.setIfInBounds_toArray, List.set_cons_zero, List.set_cons_succ, i64_w, i32_w]
         rfl
        refine pure_ (i := 27) (N := some 6) (v := ?_) (a' := ?_) #[true, true, true, true, true, true, true, true, true, true, true, true, true, true, true, true, true, true, true, true, true, true, true, true, true, true, true, true] rfl rfl (any_of HT_.out (by kernel_rfl)) (fun _ _ _ h => h) (Or.inl ⟨by rfl, ?_⟩) ?_ ?_
        rotate_left
        ·intro w'
         go_simp
         with_reducible rfl
        rotate_left
        ·simp only [Act.put, List.setIfInBounds_toArray, List.set_cons_zero, List.set_cons_succ, i64_w, i32_w]
         rfl
        refine done_ (done_of HT_.out (by kernel_rfl)) ?_
        try go_wp2
        go_ret
        exact ⟨by first | rfl | (simp [*, errW_none, errW_some] <;> rfl), HB.out⟩
      ·rw [if_neg c91] at H
       exact absurd H (by simp)
     ·rw [if_neg c90] at H
      have c90b0 : ((t806.length : Int) == 1) = false := beq_eq_false_iff_ne.mpr c90
      have c90b1 : ((t806.length : Int) != 1) = true := bne_iff_ne.mpr c90
      obtain rfl := Option.some.inj H
      go_enter Tryd.func30, Tryd.ntmps30
      try go_wp2_with (first | ((with_reducible refine gate_callee (f := 62) rfl ?_); refine goesL_ (some 15) rfl rfl Tryd.func62 (by kernel_rfl) rfl #[.string a0] rfl (by (try simp only [List.map_toArray, List.map_cons, List.map_nil]); rfl) ?_; (with_reducible refine (impl_setOf.calls a0 t782 t785 true _ A4.out).mono ?_); rintro e w134 ⟨v783, v786, rfl, ho0, ho1, hb⟩; refine ⟨_, rfl, ?_⟩; have HO784 := Aside0.mk (Kd.R_lower ho0 (below_size HB.out)); have HO787 := Aside0.mk (Kd.R_lower ho1 (below_size HB.out)); replace HB := Aside0.mk (below_step HB.out hb); (try clear hb); (try clear ho0); (try clear ho1)) | ((with_reducible refine gate_dst (N := 7) rfl ?_); (try (refine gate_guard (by rfl) ?_; dsimp only)); refine box_event ?hg (N := 7) ?hd (cs := #[.slice none 0 0, .slice none 0 0]) (t := 49) ?hr ?_; (case hd => rfl); (case hg => rfl); (case hr => first | (go_simp; done)); intro gb789 hg w135 hbox hb; replace HO784 := Aside0.mk (Kd.R_below HO784.out hb); replace HO787 := Aside0.mk (Kd.R_below HO787.out hb); have BK789 := Aside0.mk hbox; have GW789 := Aside0.mk ((by rw [hg]; exact (below_size HB.out) : w.heap.size ≤ gb789)); have GE789 := Aside0.mk ((by rw [hg]; exact (below_size HB.out) : w.heap.size ≤ gb789)); replace HB := Aside0.mk (below_step HB.out hb); clear hb hbox hg; obtain ⟨Ao136, co136, eo136⟩ := Kd.R_slice HO784.out; subst eo136; have hcz137_0 : w135.cell? ⟨gb789, 0, none⟩ = some (.slice none 0 0) := (blk_cell BK789.out 0).trans rfl; have hcz137_1 : w135.cell? ⟨gb789, 1, none⟩ = some (.slice none 0 0) := (blk_cell BK789.out 1).trans rfl; have hfz137_0 := blk_frozen BK789.out 0; have hfz137_1 := blk_frozen BK789.out 1; obtain ⟨Ao138, co138, eo138⟩ := Kd.R_slice HO787.out; subst eo138) | ((with_reducible refine gate_callee (f := 62) rfl ?_); refine goesL_ (some 20) rfl rfl Tryd.func62 (by kernel_rfl) rfl #[.string a1] rfl (by (try simp only [List.map_toArray, List.map_cons, List.map_nil]); rfl) ?_; (with_reducible refine (impl_setOf.calls a1 t790 t793 true _ A5.out).mono ?_); rintro e w139 ⟨v791, v794, rfl, ho0, ho1, hb⟩; refine ⟨_, rfl, ?_⟩; have HO792 := Aside0.mk (Kd.R_lower (Kd.R_new' (Kd.R_new' ho0 (Kd.R_lt (by exact (Kd.R_mono (Kd.R_far (p := ⟨gb789, 1, none⟩) (Kd.R_far (p := ⟨gb789, 0, none⟩) (Kd.R_types HO784.out BK789.out (by decide)) (fun _ hk => hk.2) (.slice Ao136 t782.length co136)) (fun _ hk => hk.2) (.slice Ao138 t785.length co138)) (fun _ h_ => h_.1))))) (Kd.R_lt (by exact (Kd.R_mono (Kd.R_far (p := ⟨gb789, 1, none⟩) (Kd.R_far (p := ⟨gb789, 0, none⟩) (Kd.R_types HO787.out BK789.out (by decide)) (fun _ hk => hk.2) (.slice Ao136 t782.length co136)) (fun _ hk => hk.2) (.slice Ao138 t785.length co138)) (fun _ h_ => h_.1))))) (below_size (by repeat (first | (with_reducible first | exact HB.out | refine below_set ?_ GE789.out))))); have HO795 := Aside0.mk (Kd.R_lower (Kd.R_new' (Kd.R_new' ho1 (Kd.R_lt (by exact (Kd.R_mono (Kd.R_far (p := ⟨gb789, 1, none⟩) (Kd.R_far (p := ⟨gb789, 0, none⟩) (Kd.R_types HO784.out BK789.out (by decide)) (fun _ hk => hk.2) (.slice Ao136 t782.length co136)) (fun _ hk => hk.2) (.slice Ao138 t785.length co138)) (fun _ h_ => h_.1))))) (Kd.R_lt (by exact (Kd.R_mono (Kd.R_far (p := ⟨gb789, 1, none⟩) (Kd.R_far (p := ⟨gb789, 0, none⟩) (Kd.R_types HO787.out BK789.out (by decide)) (fun _ hk => hk.2) (.slice Ao136 t782.length co136)) (fun _ hk => hk.2) (.slice Ao138 t785.length co138)) (fun _ h_ => h_.1))))) (below_size (by repeat (first | (with_reducible first | exact HB.out | refine below_set ?_ GE789.out))))); replace HO784 := Aside0.mk (Kd.R_mono (Kd.R_told (Kd.R_told (Kd.R_old (by exact (Kd.R_mono (Kd.R_far (p := ⟨gb789, 1, none⟩) (Kd.R_far (p := ⟨gb789, 0, none⟩) (Kd.R_types HO784.out BK789.out (by decide)) (fun _ hk => hk.2) (.slice Ao136 t782.length co136)) (fun _ hk => hk.2) (.slice Ao138 t785.length co138)) (fun _ h_ => h_.1))) hb) (Kd.R_base ho0)) (Kd.R_base ho1)) (fun _ h_ => h_.1)); replace HO787 := Aside0.mk (Kd.R_mono (Kd.R_told (Kd.R_told (Kd.R_old (by exact (Kd.R_mono (Kd.R_far (p := ⟨gb789, 1, none⟩) (Kd.R_far (p := ⟨gb789, 0, none⟩) (Kd.R_types HO787.out BK789.out (by decide)) (fun _ hk => hk.2) (.slice Ao136 t782.length co136)) (fun _ hk => hk.2) (.slice Ao138 t785.length co138)) (fun _ h_ => h_.1))) hb) (Kd.R_base ho0)) (Kd.R_base ho1)) (fun _ h_ => h_.1)); replace BK789 := Aside0.mk (blk_below (g := gb789) (o := .cells #[.slice Ao136 t782.length co136, .slice Ao138 t785.length co138] 49 (0, 0)) (by refine blk_put (cs := #[.slice Ao136 t782.length co136, .slice none 0 0]) ?_ 1 _ rfl; refine blk_put (cs := #[.slice none 0 0, .slice none 0 0]) ?_ 0 _ rfl; exact BK789.out) hb); replace HB := Aside0.mk (below_step (by repeat (first | (with_reducible first | exact HB.out | refine below_set ?_ GE789.out))) hb); (try clear hb); (try clear ho0); (try clear ho1)) | ((with_reducible refine gate_dst (N := 9) rfl ?_); (try (refine gate_guard (by rfl) ?_; dsimp only)); refine box_event ?hg (N := 9) ?hd (cs := #[.slice none 0 0, .slice none 0 0]) (t := 49) ?hr ?_; (case hd => rfl); (case hg => rfl); (case hr => first | (go_simp; done)); intro gb797 hg w140 hbox hb; replace HO784 := Aside0.mk (Kd.R_below HO784.out hb); replace HO787 := Aside0.mk (Kd.R_below HO787.out hb); replace HO792 := Aside0.mk (Kd.R_below HO792.out hb); replace HO795 := Aside0.mk (Kd.R_below HO795.out hb); have BK797 := Aside0.mk hbox; have GW797 := Aside0.mk ((by rw [hg]; exact (below_size HB.out) : w.heap.size ≤ gb797)); have GE797 := Aside0.mk ((by rw [hg]; exact (below_size HB.out) : w.heap.size ≤ gb797)); replace HB := Aside0.mk (below_step HB.out hb); have NB789_797 := Aside0.mk ((by rw [hg]; exact Nat.ne_of_lt (blk_lt (g := gb789) (o := .cells #[.slice Ao136 t782.length co136, .slice Ao138 t785.length co138] 49 (0, 0)) BK789.out) : gb789 ≠ gb797)); have NB797_789 := Aside0.mk ((by rw [hg]; exact Nat.ne_of_gt (blk_lt (g := gb789) (o := .cells #[.slice Ao136 t782.length co136, .slice Ao138 t785.length co138] 49 (0, 0)) BK789.out) : gb797 ≠ gb789)); replace BK789 := Aside0.mk (blk_below (g := gb789) (o := .cells #[.slice Ao136 t782.length co136, .slice Ao138 t785.length co138] 49 (0, 0)) BK789.out hb); clear hb hbox hg; obtain ⟨Ao141, co141, eo141⟩ := Kd.R_slice HO792.out; subst eo141; have hnb142 := NB797_789.out; have hnc142 := NB789_797.out; have hcz143_0 : w140.cell? ⟨gb797, 0, none⟩ = some (.slice none 0 0) := (blk_cell BK797.out 0).trans rfl; have hcz143_1 : w140.cell? ⟨gb797, 1, none⟩ = some (.slice none 0 0) := (blk_cell BK797.out 1).trans rfl; have hfz143_0 := blk_frozen BK797.out 0; have hfz143_1 := blk_frozen BK797.out 1; obtain ⟨Ao144, co144, eo144⟩ := Kd.R_slice HO795.out; subst eo144) | ((with_reducible refine gate_callee (f := 48) rfl ?_); refine goesL_ (some 25) rfl rfl Tryd.func48 (by kernel_rfl) rfl #[.string a2, .string (⟨#[102, 105, 114, 115, 116]⟩ : ByteArray)] rfl (by (try simp only [List.map_toArray, List.map_cons, List.map_nil]); rfl) ?_; (with_reducible refine (impl_numbersOf.calls a2 (⟨#[102, 105, 114, 115, 116]⟩ : ByteArray) t798 false _ A6.out (GlobN.below hG (by repeat (first | (with_reducible first | exact HB.out | refine below_set ?_ GE797.out))))).mono ?_); rintro e w145 ⟨v800, rfl, ho0, hb⟩; refine ⟨_, rfl, ?_⟩; replace HO784 := Aside0.mk (Kd.R_below (by exact (Kd.R_mono (Kd.R_far (p := ⟨gb797, 1, none⟩) (Kd.R_far (p := ⟨gb797, 0, none⟩) (Kd.R_types HO784.out BK797.out (by decide)) (fun _ hk => hk.2) (.slice Ao141 t790.length co141)) (fun _ hk => hk.2) (.slice Ao144 t793.length co144)) (fun _ h_ => h_.1))) hb); replace HO787 := Aside0.mk (Kd.R_below (by exact (Kd.R_mono (Kd.R_far (p := ⟨gb797, 1, none⟩) (Kd.R_far (p := ⟨gb797, 0, none⟩) (Kd.R_types HO787.out BK797.out (by decide)) (fun _ hk => hk.2) (.slice Ao141 t790.length co141)) (fun _ hk => hk.2) (.slice Ao144 t793.length co144)) (fun _ h_ => h_.1))) hb); replace HO792 := Aside0.mk (Kd.R_below (by exact (Kd.R_mono (Kd.R_far (p := ⟨gb797, 1, none⟩) (Kd.R_far (p := ⟨gb797, 0, none⟩) (Kd.R_types HO792.out BK797.out (by decide)) (fun _ hk => hk.2) (.slice Ao141 t790.length co141)) (fun _ hk => hk.2) (.slice Ao144 t793.length co144)) (fun _ h_ => h_.1))) hb); replace HO795 := Aside0.mk (Kd.R_below (by exact (Kd.R_mono (Kd.R_far (p := ⟨gb797, 1, none⟩) (Kd.R_far (p := ⟨gb797, 0, none⟩) (Kd.R_types HO795.out BK797.out (by decide)) (fun _ hk => hk.2) (.slice Ao141 t790.length co141)) (fun _ hk => hk.2) (.slice Ao144 t793.length co144)) (fun _ h_ => h_.1))) hb); have HO801 := Aside0.mk (Kd.R_lower ho0 (below_size (by repeat (first | (with_reducible first | exact HB.out | refine below_set ?_ GE797.out))))); replace BK789 := Aside0.mk (blk_below (g := gb789) (o := .cells #[.slice Ao136 t782.length co136, .slice Ao138 t785.length co138] 49 (0, 0)) (by refine blk_far ?_ NB789_797.out _; refine blk_far ?_ NB789_797.out _; exact BK789.out) hb); replace BK797 := Aside0.mk (blk_below (g := gb797) (o := .cells #[.slice Ao141 t790.length co141, .slice Ao144 t793.length co144] 49 (0, 0)) (by refine blk_put (cs := #[.slice Ao141 t790.length co141, .slice none 0 0]) ?_ 1 _ rfl; refine blk_put (cs := #[.slice none 0 0, .slice none 0 0]) ?_ 0 _ rfl; exact BK797.out) hb); replace HB := Aside0.mk (below_step (by repeat (first | (with_reducible first | exact HB.out | refine below_set ?_ GE797.out))) hb); (try clear hb); (try clear ho0)) | ((with_reducible refine gate_callee (f := 48) rfl ?_); refine goesL_ (some 32) rfl rfl Tryd.func48 (by kernel_rfl) rfl #[.string a2, .string (⟨#[115, 101, 99, 111, 110, 100]⟩ : ByteArray)] rfl (by (try simp only [List.map_toArray, List.map_cons, List.map_nil]); rfl) ?_; (with_reducible refine (impl_numbersOf.calls a2 (⟨#[115, 101, 99, 111, 110, 100]⟩ : ByteArray) t806 true _ A86.out (GlobN.below hG HB.out)).mono ?_); rintro e w146 ⟨v808, rfl, ho0, hb⟩; refine ⟨_, rfl, ?_⟩; replace HO784 := Aside0.mk (Kd.R_below HO784.out hb); replace HO787 := Aside0.mk (Kd.R_below HO787.out hb); replace HO792 := Aside0.mk (Kd.R_below HO792.out hb); replace HO795 := Aside0.mk (Kd.R_below HO795.out hb); have HO809 := Aside0.mk (Kd.R_lower (Kd.R_new' ho0 (Kd.R_lt HO801.out)) (below_size HB.out)); replace HO801 := Aside0.mk (Kd.R_elder' HO801.out (Kd.R_base ho0) hb); replace BK789 := Aside0.mk (blk_below (g := gb789) (o := .cells #[.slice Ao136 t782.length co136, .slice Ao138 t785.length co138] 49 (0, 0)) BK789.out hb); replace BK797 := Aside0.mk (blk_below (g := gb797) (o := .cells #[.slice Ao141 t790.length co141, .slice Ao144 t793.length co144] 49 (0, 0)) BK797.out hb); replace HB := Aside0.mk (below_step HB.out hb); (try clear hb); (try clear ho0); have hcz147_0 : w146.cell? ⟨gb797, 0, none⟩ = some (.slice Ao141 t790.length co141) := (blk_cell BK797.out 0).trans rfl; have hcz147_1 : w146.cell? ⟨gb797, 1, none⟩ = some (.slice Ao144 t793.length co144) := (blk_cell BK797.out 1).trans rfl; have hfz147_0 := blk_frozen BK797.out 0; have hfz147_1 := blk_frozen BK797.out 1; have hcz148_0 : w146.cell? ⟨gb789, 0, none⟩ = some (.slice Ao136 t782.length co136) := (blk_cell BK789.out 0).trans rfl; have hcz148_1 : w146.cell? ⟨gb789, 1, none⟩ = some (.slice Ao138 t785.length co138) := (blk_cell BK789.out 1).trans rfl; have hfz148_0 := blk_frozen BK789.out 0; have hfz148_1 := blk_frozen BK789.out 1))
      have n0_ : Aside0 (Kd.R Kd.bool 4 ((((w146.setCell ⟨gb789, 0, none⟩ (.slice Ao141 t790.length co141)).setCell ⟨gb789, 1, none⟩ (.slice Ao144 t793.length co144)).setCell ⟨gb797, 0, none⟩ (.slice Ao136 t782.length co136)).setCell ⟨gb797, 1, none⟩ (.slice Ao138 t785.length co138)) w.heap.size (fun k_ => some k_ ≠ (.slice Ao138 t785.length co138 : Value).ownBlock ∧ some k_ ≠ (.slice Ao141 t790.length co141 : Value).ownBlock ∧ some k_ ≠ (.slice Ao144 t793.length co144 : Value).ownBlock) (.slice Ao136 t782.length co136) t782) := ⟨by exact Kd.R_mono (Kd.R_far (p := ⟨gb797, 1, none⟩) (Kd.R_far (p := ⟨gb797, 0, none⟩) (Kd.R_far (p := ⟨gb789, 1, none⟩) (Kd.R_far (p := ⟨gb789, 0, none⟩) (Kd.R_types (Kd.R_types HO784.out BK789.out (by decide)) BK797.out (by decide)) (fun _ hk => hk.1.2) (.slice Ao141 t790.length co141)) (fun _ hk => hk.1.2) (.slice Ao144 t793.length co144)) (fun _ hk => hk.2) (.slice Ao136 t782.length co136)) (fun _ hk => hk.2) (.slice Ao138 t785.length co138)) (fun _ hk => ⟨hk.1.1.1.1, ⟨hk.1.1.1.2, hk.1.1.2⟩⟩)⟩
      have n1_ : Aside0 (Kd.R Kd.bool 4 ((((w146.setCell ⟨gb789, 0, none⟩ (.slice Ao141 t790.length co141)).setCell ⟨gb789, 1, none⟩ (.slice Ao144 t793.length co144)).setCell ⟨gb797, 0, none⟩ (.slice Ao136 t782.length co136)).setCell ⟨gb797, 1, none⟩ (.slice Ao138 t785.length co138)) w.heap.size (fun k_ => some k_ ≠ (.slice Ao136 t782.length co136 : Value).ownBlock ∧ some k_ ≠ (.slice Ao141 t790.length co141 : Value).ownBlock ∧ some k_ ≠ (.slice Ao144 t793.length co144 : Value).ownBlock) (.slice Ao138 t785.length co138) t785) := ⟨by exact Kd.R_mono (Kd.R_far (p := ⟨gb797, 1, none⟩) (Kd.R_far (p := ⟨gb797, 0, none⟩) (Kd.R_far (p := ⟨gb789, 1, none⟩) (Kd.R_far (p := ⟨gb789, 0, none⟩) (Kd.R_types (Kd.R_types HO787.out BK789.out (by decide)) BK797.out (by decide)) (fun _ hk => hk.1.2) (.slice Ao141 t790.length co141)) (fun _ hk => hk.1.2) (.slice Ao144 t793.length co144)) (fun _ hk => hk.2) (.slice Ao136 t782.length co136)) (fun _ hk => hk.2) (.slice Ao138 t785.length co138)) (fun _ hk => ⟨hk.1.1.1.1, ⟨hk.1.1.1.2, hk.1.1.2⟩⟩)⟩
      have n2_ : Aside0 (Kd.R Kd.bool 4 ((((w146.setCell ⟨gb789, 0, none⟩ (.slice Ao141 t790.length co141)).setCell ⟨gb789, 1, none⟩ (.slice Ao144 t793.length co144)).setCell ⟨gb797, 0, none⟩ (.slice Ao136 t782.length co136)).setCell ⟨gb797, 1, none⟩ (.slice Ao138 t785.length co138)) w.heap.size (fun k_ => some k_ ≠ (.slice Ao136 t782.length co136 : Value).ownBlock ∧ some k_ ≠ (.slice Ao138 t785.length co138 : Value).ownBlock ∧ some k_ ≠ (.slice Ao144 t793.length co144 : Value).ownBlock) (.slice Ao141 t790.length co141) t790) := ⟨by exact Kd.R_mono (Kd.R_far (p := ⟨gb797, 1, none⟩) (Kd.R_far (p := ⟨gb797, 0, none⟩) (Kd.R_far (p := ⟨gb789, 1, none⟩) (Kd.R_far (p := ⟨gb789, 0, none⟩) (Kd.R_types (Kd.R_types HO792.out BK789.out (by decide)) BK797.out (by decide)) (fun _ hk => hk.1.2) (.slice Ao141 t790.length co141)) (fun _ hk => hk.1.2) (.slice Ao144 t793.length co144)) (fun _ hk => hk.2) (.slice Ao136 t782.length co136)) (fun _ hk => hk.2) (.slice Ao138 t785.length co138)) (fun _ hk => ⟨hk.1.1.1.2, ⟨hk.1.1.2, hk.1.1.1.1⟩⟩)⟩
      have n3_ : Aside0 (Kd.R Kd.bool 4 ((((w146.setCell ⟨gb789, 0, none⟩ (.slice Ao141 t790.length co141)).setCell ⟨gb789, 1, none⟩ (.slice Ao144 t793.length co144)).setCell ⟨gb797, 0, none⟩ (.slice Ao136 t782.length co136)).setCell ⟨gb797, 1, none⟩ (.slice Ao138 t785.length co138)) w.heap.size (fun k_ => some k_ ≠ (.slice Ao136 t782.length co136 : Value).ownBlock ∧ some k_ ≠ (.slice Ao138 t785.length co138 : Value).ownBlock ∧ some k_ ≠ (.slice Ao141 t790.length co141 : Value).ownBlock) (.slice Ao144 t793.length co144) t793) := ⟨by exact Kd.R_mono (Kd.R_far (p := ⟨gb797, 1, none⟩) (Kd.R_far (p := ⟨gb797, 0, none⟩) (Kd.R_far (p := ⟨gb789, 1, none⟩) (Kd.R_far (p := ⟨gb789, 0, none⟩) (Kd.R_types (Kd.R_types HO795.out BK789.out (by decide)) BK797.out (by decide)) (fun _ hk => hk.1.2) (.slice Ao141 t790.length co141)) (fun _ hk => hk.1.2) (.slice Ao144 t793.length co144)) (fun _ hk => hk.2) (.slice Ao136 t782.length co136)) (fun _ hk => hk.2) (.slice Ao138 t785.length co138)) (fun _ hk => ⟨hk.1.1.1.2, ⟨hk.1.1.2, hk.1.1.1.1⟩⟩)⟩
      have n4_ : Aside0 (Kd.R (Kd.int .i64) 3 ((((w146.setCell ⟨gb789, 0, none⟩ (.slice Ao141 t790.length co141)).setCell ⟨gb789, 1, none⟩ (.slice Ao144 t793.length co144)).setCell ⟨gb797, 0, none⟩ (.slice Ao136 t782.length co136)).setCell ⟨gb797, 1, none⟩ (.slice Ao138 t785.length co138)) w.heap.size (fun k_ => some k_ ≠ (v808 : Value).ownBlock) v800 t798) := ⟨by exact Kd.R_mono (Kd.R_far (p := ⟨gb797, 1, none⟩) (Kd.R_far (p := ⟨gb797, 0, none⟩) (Kd.R_far (p := ⟨gb789, 1, none⟩) (Kd.R_far (p := ⟨gb789, 0, none⟩) (Kd.R_types (Kd.R_types HO801.out BK789.out (by decide)) BK797.out (by decide)) (fun _ hk => hk.1.2) (.slice Ao141 t790.length co141)) (fun _ hk => hk.1.2) (.slice Ao144 t793.length co144)) (fun _ hk => hk.2) (.slice Ao136 t782.length co136)) (fun _ hk => hk.2) (.slice Ao138 t785.length co138)) (fun _ hk => hk.1.1.2)⟩
      have n5_ : Aside0 (Kd.R (Kd.int .i64) 3 ((((w146.setCell ⟨gb789, 0, none⟩ (.slice Ao141 t790.length co141)).setCell ⟨gb789, 1, none⟩ (.slice Ao144 t793.length co144)).setCell ⟨gb797, 0, none⟩ (.slice Ao136 t782.length co136)).setCell ⟨gb797, 1, none⟩ (.slice Ao138 t785.length co138)) w.heap.size (fun k_ => some k_ ≠ (v800 : Value).ownBlock) v808 t806) := ⟨by exact Kd.R_mono (Kd.R_far (p := ⟨gb797, 1, none⟩) (Kd.R_far (p := ⟨gb797, 0, none⟩) (Kd.R_far (p := ⟨gb789, 1, none⟩) (Kd.R_far (p := ⟨gb789, 0, none⟩) (Kd.R_types (Kd.R_types HO809.out BK789.out (by decide)) BK797.out (by decide)) (fun _ hk => hk.1.2) (.slice Ao141 t790.length co141)) (fun _ hk => hk.1.2) (.slice Ao144 t793.length co144)) (fun _ hk => hk.2) (.slice Ao136 t782.length co136)) (fun _ hk => hk.2) (.slice Ao138 t785.length co138)) (fun _ hk => hk.1.1.2)⟩
      have n6_ : Aside0 (((((w146.setCell ⟨gb789, 0, none⟩ (.slice Ao141 t790.length co141)).setCell ⟨gb789, 1, none⟩ (.slice Ao144 t793.length co144)).setCell ⟨gb797, 0, none⟩ (.slice Ao136 t782.length co136)).setCell ⟨gb797, 1, none⟩ (.slice Ao138 t785.length co138)).heap[gb789]? = some (.cells #[.slice Ao141 t790.length co141, .slice Ao144 t793.length co144] 49 (0, 0))) := ⟨by refine blk_far ?_ NB789_797.out _; refine blk_far ?_ NB789_797.out _; refine blk_put (cs := #[.slice Ao141 t790.length co141, .slice Ao138 t785.length co138]) ?_ 1 _ rfl; refine blk_put (cs := #[.slice Ao136 t782.length co136, .slice Ao138 t785.length co138]) ?_ 0 _ rfl; exact BK789.out⟩
      have n7_ : Aside0 (((((w146.setCell ⟨gb789, 0, none⟩ (.slice Ao141 t790.length co141)).setCell ⟨gb789, 1, none⟩ (.slice Ao144 t793.length co144)).setCell ⟨gb797, 0, none⟩ (.slice Ao136 t782.length co136)).setCell ⟨gb797, 1, none⟩ (.slice Ao138 t785.length co138)).heap[gb797]? = some (.cells #[.slice Ao136 t782.length co136, .slice Ao138 t785.length co138] 49 (0, 0))) := ⟨by refine blk_put (cs := #[.slice Ao136 t782.length co136, .slice Ao144 t793.length co144]) ?_ 1 _ rfl; refine blk_put (cs := #[.slice Ao141 t790.length co141, .slice Ao144 t793.length co144]) ?_ 0 _ rfl; refine blk_far ?_ NB797_789.out _; refine blk_far ?_ NB797_789.out _; exact BK797.out⟩
      have n8_ : Aside0 (Below w.heap.size w ((((w146.setCell ⟨gb789, 0, none⟩ (.slice Ao141 t790.length co141)).setCell ⟨gb789, 1, none⟩ (.slice Ao144 t793.length co144)).setCell ⟨gb797, 0, none⟩ (.slice Ao136 t782.length co136)).setCell ⟨gb797, 1, none⟩ (.slice Ao138 t785.length co138))) := ⟨by repeat (first | (with_reducible first | exact HB.out | refine below_set ?_ GE789.out | refine below_set ?_ GE797.out))⟩
      (try clear HO784)
      (try clear HO787)
      (try clear HO792)
      (try clear HO795)
      (try clear HO801)
      (try clear HO809)
      (try clear BK789)
      (try clear BK797)
      (try clear HB)
      generalize ((((w146.setCell ⟨gb789, 0, none⟩ (.slice Ao141 t790.length co141)).setCell ⟨gb789, 1, none⟩ (.slice Ao144 t793.length co144)).setCell ⟨gb797, 0, none⟩ (.slice Ao136 t782.length co136)).setCell ⟨gb797, 1, none⟩ (.slice Ao138 t785.length co138)) = w149 at n0_ n1_ n2_ n3_ n4_ n5_ n6_ n7_ n8_ ⊢
      have HO784 := n0_
      have HO787 := n1_
      have HO792 := n2_
      have HO795 := n3_
      have HO801 := n4_
      have HO809 := n5_
      have BK789 := n6_
      have BK797 := n7_
      have HB := n8_
      clear n0_ n1_ n2_ n3_ n4_ n5_ n6_ n7_ n8_
      replace HO784 := Aside0.mk (Kd.R_drew HO784.out)
      replace HO787 := Aside0.mk (Kd.R_drew HO787.out)
      replace HO792 := Aside0.mk (Kd.R_drew HO792.out)
      replace HO795 := Aside0.mk (Kd.R_drew HO795.out)
      replace HO801 := Aside0.mk (Kd.R_drew HO801.out)
      replace HO809 := Aside0.mk (Kd.R_drew HO809.out)
      replace BK789 := Aside0.mk (blk_drew BK789.out)
      replace BK797 := Aside0.mk (blk_drew BK797.out)
      replace HB := Aside0.mk (below_drew1 HB.out)
      obtain ⟨Ao151, co151, eo151⟩ := Kd.R_slice HO809.out
      (subst eo151)
      refine start_ (n := 28) (S := fun w' => True) (ds := []) #[false, false, false, false, false, false, false, false, false, false, false, false, false, false, false, false, false, false, false, false, false, false, false, false, false, false, false, false] (by kernel_rfl) rfl rfl trivial (fun hHeld => ?_); refine with_tabW impl_ProofDifferIs.tab7 impl_ProofDifferIs.bits7 (fun HT_ HW_ => ?_)
      generalize w149.drew = w150 at HO784 HO787 HO792 HO795 HO801 HO809 BK789 BK797 HB hHeld ⊢
      refine pure_ (i := 0) (N := some 37) (v := ?_) (a' := ?_) #[true, false, false, false, false, false, false, false, false, false, false, false, false, false, false, false, false, false, false, false, false, false, false, false, false, false, false, false] rfl rfl (any_of HT_.out (by kernel_rfl)) (fun _ _ _ h => h) (Or.inl ⟨by rfl, ?_⟩) ?_ ?_
      rotate_left
      ·intro w'
       go_simp
       with_reducible rfl
      rotate_left
      ·simp only [Act.put, List.setIfInBounds_toArray, List.set_cons_zero, List.set_cons_succ, i64_w, i32_w]
       rfl
      refine pure_ (i := 1) (N := some 38) (v := ?_) (a' := ?_) #[true, true, false, false, false, false, false, false, false, false, false, false, false, false, false, false, false, false, false, false, false, false, false, false, false, false, false, false] rfl rfl (any_of HT_.out (by kernel_rfl)) (fun _ _ _ h => h) (Or.inl ⟨by rfl, ?_⟩) ?_ ?_
      rotate_left
      ·intro w'
       go_simp
       with_reducible rfl
      rotate_left
      ·simp only [Act.put, List.setIfInBounds_toArray, List.set_cons_zero, List.set_cons_succ, i64_w, i32_w]
       rfl
      refine pure_ (i := 2) (N := some 39) (v := ?_) (a' := ?_) #[true, true, true, false, false, false, false, false, false, false, false, false, false, false, false, false, false, false, false, false, false, false, false, false, false, false, false, false] rfl rfl (any_of HT_.out (by kernel_rfl)) (fun _ _ _ h => h) (Or.inl ⟨by rfl, ?_⟩) ?_ ?_
      rotate_left
      ·intro w'
       go_simp
       with_reducible rfl
      rotate_left
      ·simp only [Act.put, List.setIfInBounds_toArray, List.set_cons_zero, List.set_cons_succ, i64_w, i32_w]
       rfl
      refine pure_ (i := 3) (N := some 40) (v := ?_) (a' := ?_) #[true, true, true, true, false, false, false, false, false, false, false, false, false, false, false, false, false, false, false, false, false, false, false, false, false, false, false, false] rfl rfl (any_of HT_.out (by kernel_rfl)) (fun _ _ _ h => h) (Or.inl ⟨by rfl, ?_⟩) ?_ ?_
      rotate_left
      ·intro w'
       go_simp
       with_reducible rfl
      rotate_left
      ·simp only [Act.put, List.setIfInBounds_toArray, List.set_cons_zero, List.set_cons_succ, i64_w, i32_w]
       rfl
      refine pure_ (i := 4) (N := some 41) (v := ?_) (a' := ?_) #[true, true, true, true, true, false, false, false, false, false, false, false, false, false, false, false, false, false, false, false, false, false, false, false, false, false, false, false] rfl rfl (any_of HT_.out (by kernel_rfl)) (fun _ _ _ h => h) (Or.inl ⟨by rfl, ?_⟩) ?_ ?_
      rotate_left
      ·intro w'
       go_simp
       with_reducible rfl
      rotate_left
      ·simp only [Act.put, List.setIfInBounds_toArray, List.set_cons_zero, List.set_cons_succ, i64_w, i32_w]
       rfl
      refine pure_ (i := 5) (N := some 42) (v := ?_) (a' := ?_) #[true, true, true, true, true, true, false, false, false, false, false, false, false, false, false, false, false, false, false, false, false, false, false, false, false, false, false, false] rfl rfl (any_of HT_.out (by kernel_rfl)) (fun _ _ _ h => h) (Or.inl ⟨by rfl, ?_⟩) ?_ ?_
      rotate_left
      ·intro w'
       go_simp
       with_reducible rfl
      rotate_left
      ·simp only [Act.put, List.setIfInBounds_toArray, List.set_cons_zero, List.set_cons_succ, i64_w, i32_w]
       rfl
      refine pure_ (i := 6) (N := some 43) (v := ?_) (a' := ?_) #[true, true, true, true, true, true, true, false, false, false, false, false, false, false, false, false, false, false, false, false, false, false, false, false, false, false, false, false] rfl rfl (any_of HT_.out (by kernel_rfl)) (fun _ _ _ h => h) (Or.inl ⟨by rfl, ?_⟩) ?_ ?_
      rotate_left
      ·intro w'
       go_simp
       with_reducible rfl
      rotate_left
      ·simp only [Act.put, List.setIfInBounds_toArray, List.set_cons_zero, List.set_cons_succ, i64_w, i32_w]
       rfl
      refine pure_ (i := 7) (N := some 44) (v := ?_) (a' := ?_) #[true, true, true, true, true, true, true, true, false, false, false, false, false, false, false, false, false, false, false, false, false, false, false, false, false, false, false, false] rfl rfl (any_of HT_.out (by kernel_rfl)) (fun _ _ _ h => h) (Or.inl ⟨by rfl, ?_⟩) ?_ ?_
      rotate_left
      ·intro w'
       go_simp
       with_reducible rfl
      rotate_left
      ·simp only [Act.put, List.setIfInBounds_toArray, List.set_cons_zero, List.set_cons_succ, i64_w, i32_w]
       rfl
      refine pure_ (i := 8) (N := some 45) (v := ?_) (a' := ?_) #[true, true, true, true, true, true, true, true, true, false, false, false, false, false, false, false, false, false, false, false, false, false, false, false, false, false, false, false] rfl rfl (any_of HT_.out (by kernel_rfl)) (fun _ _ _ h => h) (Or.inl ⟨by rfl, ?_⟩) ?_ ?_
      rotate_left
      ·intro w'
       go_simp
       with_reducible rfl
      rotate_left
      ·simp only [Act.put, List.setIfInBounds_toArray, List.set_cons_zero, List.set_cons_succ, i64_w, i32_w]
       rfl
      refine pure_ (i := 9) (N := some 46) (v := ?_) (a' := ?_) #[true, true, true, true, true, true, true, true, true, true, false, false, false, false, false, false, false, false, false, false, false, false, false, false, false, false, false, false] rfl rfl (any_of HT_.out (by kernel_rfl)) (fun _ _ _ h => h) (Or.inl ⟨by rfl, ?_⟩) ?_ ?_
      rotate_left
      ·intro w'
       go_simp
       with_reducible rfl
      rotate_left
      ·simp only [Act.put, List.setIfInBounds_toArray, List.set_cons_zero, List.set_cons_succ, i64_w, i32_w]
       rfl
      refine pure_ (i := 10) (N := some 47) (v := ?_) (a' := ?_) #[true, true, true, true, true, true, true, true, true, true, true, false, false, false, false, false, false, false, false, false, false, false, false, false, false, false, false, false] rfl rfl (any_of HT_.out (by kernel_rfl)) (fun _ _ _ h => h) (Or.inl ⟨by rfl, ?_⟩) ?_ ?_
      rotate_left
      ·intro w'
       go_simp
       with_reducible rfl
      rotate_left
      ·simp only [Act.put, List.setIfInBounds_toArray, List.set_cons_zero, List.set_cons_succ, i64_w, i32_w]
       rfl
      refine pure_ (i := 11) (N := some 48) (v := ?_) (a' := ?_) #[true, true, true, true, true, true, true, true, true, true, true, true, false, false, false, false, false, false, false, false, false, false, false, false, false, false, false, false] rfl rfl (any_of HT_.out (by kernel_rfl)) (fun _ _ _ h => h) (Or.inl ⟨by rfl, ?_⟩) ?_ ?_
      rotate_left
      ·intro w'
       go_simp
       with_reducible rfl
      rotate_left
      ·simp only [Act.put, List.setIfInBounds_toArray, List.set_cons_zero, List.set_cons_succ, i64_w, i32_w]
       rfl
      refine pure_ (i := 12) (N := some 49) (v := ?_) (a' := ?_) #[true, true, true, true, true, true, true, true, true, true, true, true, true, false, false, false, false, false, false, false, false, false, false, false, false, false, false, false] rfl rfl (any_of HT_.out (by kernel_rfl)) (fun _ _ _ h => h) (Or.inl ⟨by rfl, ?_⟩) ?_ ?_
      rotate_left
      ·intro w'
       go_simp
       with_reducible rfl
      rotate_left
      ·simp only [Act.put, List.setIfInBounds_toArray, List.set_cons_zero, List.set_cons_succ, i64_w, i32_w]
       rfl
      refine pure_ (i := 13) (N := some 50) (v := undef) (a' := ?_) #[true, true, true, true, true, true, true, true, true, true, true, true, true, true, false, false, false, false, false, false, false, false, false, false, false, false, false, false] rfl rfl (any_of HT_.out (by kernel_rfl)) (fun _ _ _ h => h) (Or.inr ⟨by rfl, rfl⟩) ?_ ?_
      rotate_left
      ·simp only [Act.put, List.setIfInBounds_toArray, List.set_cons_zero, List.set_cons_succ, i64_w, i32_w]
       rfl
      refine pure_ (i := 14) (N := some 51) (v := undef) (a' := ?_) #[true, true, true, true, true, true, true, true, true, true, true, true, true, true, true, false, false, false, false, false, false, false, false, false, false, false, false, false] rfl rfl (any_of HT_.out (by kernel_rfl)) (fun _ _ _ h => h) (Or.inr ⟨by rfl, rfl⟩) ?_ ?_
      rotate_left
      ·simp only [Act.put, List.setIfInBounds_toArray, List.set_cons_zero, List.set_cons_succ, i64_w, i32_w]
       rfl
      refine pure_ (i := 15) (N := some 52) (v := undef) (a' := ?_) #[true, true, true, true, true, true, true, true, true, true, true, true, true, true, true, true, false, false, false, false, false, false, false, false, false, false, false, false] rfl rfl (any_of HT_.out (by kernel_rfl)) (fun _ _ _ h => h) (Or.inr ⟨by rfl, rfl⟩) ?_ ?_
      rotate_left
      ·simp only [Act.put, List.setIfInBounds_toArray, List.set_cons_zero, List.set_cons_succ, i64_w, i32_w]
       rfl
      refine pure_ (i := 16) (N := some 53) (v := undef) (a' := ?_) #[true, true, true, true, true, true, true, true, true, true, true, true, true, true, true, true, true, false, false, false, false, false, false, false, false, false, false, false] rfl rfl (any_of HT_.out (by kernel_rfl)) (fun _ _ _ h => h) (Or.inr ⟨by rfl, rfl⟩) ?_ ?_
      rotate_left
      ·simp only [Act.put, List.setIfInBounds_toArray, List.set_cons_zero, List.set_cons_succ, i64_w, i32_w]
       rfl
      refine pure_ (i := 17) (N := some 54) (v := undef) (a' := ?_) #[true, true, true, true, true, true, true, true, true, true, true, true, true, true, true, true, true, true, false, false, false, false, false, false, false, false, false, false] rfl rfl (any_of HT_.out (by kernel_rfl)) (fun _ _ _ h => h) (Or.inr ⟨by rfl, rfl⟩) ?_ ?_
      rotate_left
      ·simp only [Act.put, List.setIfInBounds_toArray, List.set_cons_zero, List.set_cons_succ, i64_w, i32_w]
       rfl
      refine pure_ (i := 18) (N := some 55) (v := ?_) (a' := ?_) #[true, true, true, true, true, true, true, true, true, true, true, true, true, true, true, true, true, true, true, false, false, false, false, false, false, false, false, false] rfl rfl (any_of HT_.out (by kernel_rfl)) (fun _ _ _ h => h) (Or.inl ⟨by rfl, ?_⟩) ?_ ?_
      rotate_left
      ·intro w'
       go_simp
       with_reducible rfl
      rotate_left
      ·simp only [Act.put, List.setIfInBounds_toArray, List.set_cons_zero, List.set_cons_succ, i64_w, i32_w]
       rfl
      refine pure_ (i := 19) (N := some 56) (v := ?_) (a' := ?_) #[true, true, true, true, true, true, true, true, true, true, true, true, true, true, true, true, true, true, true, true, false, false, false, false, false, false, false, false] rfl rfl (any_of HT_.out (by kernel_rfl)) (fun _ _ _ h => h) (Or.inl ⟨by rfl, ?_⟩) ?_ ?_
      rotate_left
      ·intro w'
       go_simp
       with_reducible rfl
      rotate_left
      ·simp only [Act.put, List.setIfInBounds_toArray, List.set_cons_zero, List.set_cons_succ, i64_w, i32_w]
       rfl
      refine pure_ (i := 20) (N := some 57) (v := undef) (a' := ?_) #[true, true, true, true, true, true, true, true, true, true, true, true, true, true, true, true, true, true, true, true, true, false, false, false, false, false, false, false] rfl rfl (any_of HT_.out (by kernel_rfl)) (fun _ _ _ h => h) (Or.inr ⟨by rfl, rfl⟩) ?_ ?_
      rotate_left
      ·simp only [Act.put, List.setIfInBounds_toArray, List.set_cons_zero, List.set_cons_succ, i64_w, i32_w]
       rfl
      refine pure_ (i := 21) (N := some 58) (v := undef) (a' := ?_) #[true, true, true, true, true, true, true, true, true, true, true, true, true, true, true, true, true, true, true, true, true, true, false, false, false, false, false, false] rfl rfl (any_of HT_.out (by kernel_rfl)) (fun _ _ _ h => h) (Or.inr ⟨by rfl, rfl⟩) ?_ ?_
      rotate_left
      ·simp only [Act.put, List.setIfInBounds_toArray, List.set_cons_zero, List.set_cons_succ, i64_w, i32_w]
       rfl
      refine pure_ (i := 22) (N := some 59) (v := undef) (a' := ?_) #[true, true, true, true, true, true, true, true, true, true, true, true, true, true, true, true, true, true, true, true, true, true, true, false, false, false, false, false] rfl rfl (any_of HT_.out (by kernel_rfl)) (fun _ _ _ h => h) (Or.inr ⟨by rfl, rfl⟩) ?_ ?_
      rotate_left
      ·simp only [Act.put, List.setIfInBounds_toArray, List.set_cons_zero, List.set_cons_succ, i64_w, i32_w]
       rfl
      refine pure_ (i := 23) (N := some 60) (v := undef) (a' := ?_) #[true, true, true, true, true, true, true, true, true, true, true, true, true, true, true, true, true, true, true, true, true, true, true, true, false, false, false, false] rfl rfl (any_of HT_.out (by kernel_rfl)) (fun _ _ _ h => h) (Or.inr ⟨by rfl, rfl⟩) ?_ ?_
      rotate_left
      ·simp only [Act.put, List.setIfInBounds_toArray, List.set_cons_zero, List.set_cons_succ, i64_w, i32_w]
       rfl
      refine pure_ (i := 24) (N := some 61) (v := undef) (a' := ?_) #[true, true, true, true, true, true, true, true, true, true, true, true, true, true, true, true, true, true, true, true, true, true, true, true, true, false, false, false] rfl rfl (any_of HT_.out (by kernel_rfl)) (fun _ _ _ h => h) (Or.inr ⟨by rfl, rfl⟩) ?_ ?_
      rotate_left
      ·simp only [Act.put, List.setIfInBounds_toArray, List.set_cons_zero, List.set_cons_succ, i64_w, i32_w]
       rfl
      refine pure_ (i := 25) (N := some 62) (v := undef) (a' := ?_) #[true, true, true, true, true, true, true, true, true, true, true, true, true, true, true, true, true, true, true, true, true, true, true, true, true, true, false, false] rfl rfl (any_of HT_.out (by kernel_rfl)) (fun _ _ _ h => h) (Or.inr ⟨by rfl, rfl⟩) ?_ ?_
      rotate_left
      ·simp only [Act.put, List.setIfInBounds_toArray, List.set_cons_zero, List.set_cons_succ, i64_w, i32_w]
       rfl
      refine pure_ (i := 26) (N := some 63) (v := ?_) (a' := ?_) #[true, true, true, true, true, true, true, true, true, true, true, true, true, true, true, true, true, true, true, true, true, true, true, true, true, true, true, false] rfl rfl (any_of HT_.out (by kernel_rfl)) (fun _ _ _ h => h) (Or.inl ⟨by rfl, ?_⟩) ?_ ?_
      rotate_left
      ·intro w'
       go_simp
       with_reducible rfl
      rotate_left
      ·simp only [Act.put, List.setIfInBounds_toArray, List.set_cons_zero, List.set_cons_succ, i64_w, i32_w]
       rfl
      refine pure_ (i := 27) (N := some 6) (v := ?_) (a' := ?_) #[true, true, true, true, true, true, true, true, true, true, true, true, true, true, true, true, true, true, true, true, true, true, true, true, true, true, true, true] rfl rfl (any_of HT_.out (by kernel_rfl)) (fun _ _ _ h => h) (Or.inl ⟨by rfl, ?_⟩) ?_ ?_
      rotate_left
      ·intro w'
       go_simp
       with_reducible rfl
      rotate_left
      ·simp only [Act.put, List.setIfInBounds_toArray, List.set_cons_zero, List.set_cons_succ, i64_w, i32_w]
       rfl
      refine done_ (done_of HT_.out (by kernel_rfl)) ?_
      try go_wp2
      go_ret
      exact ⟨by first | rfl | (simp [*, errW_none, errW_some] <;> rfl), HB.out⟩
    ·replace c89 := Bool.eq_false_iff.mpr c89
     subst c89
     replace H : (some false) = some r := by rw [if_neg (show ¬ (false = true) by decide)] at H; exact H
     obtain rfl := Option.some.inj H
     go_enter Tryd.func30, Tryd.ntmps30
     try go_wp2_with (first | ((with_reducible refine gate_callee (f := 62) rfl ?_); refine goesL_ (some 15) rfl rfl Tryd.func62 (by kernel_rfl) rfl #[.string a0] rfl (by (try simp only [List.map_toArray, List.map_cons, List.map_nil]); rfl) ?_; (with_reducible refine (impl_setOf.calls a0 t782 t785 true _ A4.out).mono ?_); rintro e w152 ⟨v783, v786, rfl, ho0, ho1, hb⟩; refine ⟨_, rfl, ?_⟩; have HO784 := Aside0.mk (Kd.R_lower ho0 (below_size HB.out)); have HO787 := Aside0.mk (Kd.R_lower ho1 (below_size HB.out)); replace HB := Aside0.mk (below_step HB.out hb); (try clear hb); (try clear ho0); (try clear ho1)) | ((with_reducible refine gate_dst (N := 7) rfl ?_); (try (refine gate_guard (by rfl) ?_; dsimp only)); refine box_event ?hg (N := 7) ?hd (cs := #[.slice none 0 0, .slice none 0 0]) (t := 49) ?hr ?_; (case hd => rfl); (case hg => rfl); (case hr => first | (go_simp; done)); intro gb789 hg w153 hbox hb; replace HO784 := Aside0.mk (Kd.R_below HO784.out hb); replace HO787 := Aside0.mk (Kd.R_below HO787.out hb); have BK789 := Aside0.mk hbox; have GW789 := Aside0.mk ((by rw [hg]; exact (below_size HB.out) : w.heap.size ≤ gb789)); have GE789 := Aside0.mk ((by rw [hg]; exact (below_size HB.out) : w.heap.size ≤ gb789)); replace HB := Aside0.mk (below_step HB.out hb); clear hb hbox hg; obtain ⟨Ao154, co154, eo154⟩ := Kd.R_slice HO784.out; subst eo154; have hcz155_0 : w153.cell? ⟨gb789, 0, none⟩ = some (.slice none 0 0) := (blk_cell BK789.out 0).trans rfl; have hcz155_1 : w153.cell? ⟨gb789, 1, none⟩ = some (.slice none 0 0) := (blk_cell BK789.out 1).trans rfl; have hfz155_0 := blk_frozen BK789.out 0; have hfz155_1 := blk_frozen BK789.out 1; obtain ⟨Ao156, co156, eo156⟩ := Kd.R_slice HO787.out; subst eo156) | ((with_reducible refine gate_callee (f := 62) rfl ?_); refine goesL_ (some 20) rfl rfl Tryd.func62 (by kernel_rfl) rfl #[.string a1] rfl (by (try simp only [List.map_toArray, List.map_cons, List.map_nil]); rfl) ?_; (with_reducible refine (impl_setOf.calls a1 t790 t793 true _ A5.out).mono ?_); rintro e w157 ⟨v791, v794, rfl, ho0, ho1, hb⟩; refine ⟨_, rfl, ?_⟩; have HO792 := Aside0.mk (Kd.R_lower (Kd.R_new' (Kd.R_new' ho0 (Kd.R_lt (by exact (Kd.R_mono (Kd.R_far (p := ⟨gb789, 1, none⟩) (Kd.R_far (p := ⟨gb789, 0, none⟩) (Kd.R_types HO784.out BK789.out (by decide)) (fun _ hk => hk.2) (.slice Ao154 t782.length co154)) (fun _ hk => hk.2) (.slice Ao156 t785.length co156)) (fun _ h_ => h_.1))))) (Kd.R_lt (by exact (Kd.R_mono (Kd.R_far (p := ⟨gb789, 1, none⟩) (Kd.R_far (p := ⟨gb789, 0, none⟩) (Kd.R_types HO787.out BK789.out (by decide)) (fun _ hk => hk.2) (.slice Ao154 t782.length co154)) (fun _ hk => hk.2) (.slice Ao156 t785.length co156)) (fun _ h_ => h_.1))))) (below_size (by repeat (first | (with_reducible first | exact HB.out | refine below_set ?_ GE789.out))))); have HO795 := Aside0.mk (Kd.R_lower (Kd.R_new' (Kd.R_new' ho1 (Kd.R_lt (by exact (Kd.R_mono (Kd.R_far (p := ⟨gb789, 1, none⟩) (Kd.R_far (p := ⟨gb789, 0, none⟩) (Kd.R_types HO784.out BK789.out (by decide)) (fun _ hk => hk.2) (.slice Ao154 t782.length co154)) (fun _ hk => hk.2) (.slice Ao156 t785.length co156)) (fun _ h_ => h_.1))))) (Kd.R_lt (by exact (Kd.R_mono (Kd.R_far (p := ⟨gb789, 1, none⟩) (Kd.R_far (p := ⟨gb789, 0, none⟩) (Kd.R_types HO787.out BK789.out (by decide)) (fun _ hk => hk.2) (.slice Ao154 t782.length co154)) (fun _ hk => hk.2) (.slice Ao156 t785.length co156)) (fun _ h_ => h_.1))))) (below_size (by repeat (first | (with_reducible first | exact HB.out | refine below_set ?_ GE789.out))))); replace HO784 := Aside0.mk (Kd.R_mono (Kd.R_told (Kd.R_told (Kd.R_old (by exact (Kd.R_mono (Kd.R_far (p := ⟨gb789, 1, none⟩) (Kd.R_far (p := ⟨gb789, 0, none⟩) (Kd.R_types HO784.out BK789.out (by decide)) (fun _ hk => hk.2) (.slice Ao154 t782.length co154)) (fun _ hk => hk.2) (.slice Ao156 t785.length co156)) (fun _ h_ => h_.1))) hb) (Kd.R_base ho0)) (Kd.R_base ho1)) (fun _ h_ => h_.1)); replace HO787 := Aside0.mk (Kd.R_mono (Kd.R_told (Kd.R_told (Kd.R_old (by exact (Kd.R_mono (Kd.R_far (p := ⟨gb789, 1, none⟩) (Kd.R_far (p := ⟨gb789, 0, none⟩) (Kd.R_types HO787.out BK789.out (by decide)) (fun _ hk => hk.2) (.slice Ao154 t782.length co154)) (fun _ hk => hk.2) (.slice Ao156 t785.length co156)) (fun _ h_ => h_.1))) hb) (Kd.R_base ho0)) (Kd.R_base ho1)) (fun _ h_ => h_.1)); replace BK789 := Aside0.mk (blk_below (g := gb789) (o := .cells #[.slice Ao154 t782.length co154, .slice Ao156 t785.length co156] 49 (0, 0)) (by refine blk_put (cs := #[.slice Ao154 t782.length co154, .slice none 0 0]) ?_ 1 _ rfl; refine blk_put (cs := #[.slice none 0 0, .slice none 0 0]) ?_ 0 _ rfl; exact BK789.out) hb); replace HB := Aside0.mk (below_step (by repeat (first | (with_reducible first | exact HB.out | refine below_set ?_ GE789.out))) hb); (try clear hb); (try clear ho0); (try clear ho1)) | ((with_reducible refine gate_dst (N := 9) rfl ?_); (try (refine gate_guard (by rfl) ?_; dsimp only)); refine box_event ?hg (N := 9) ?hd (cs := #[.slice none 0 0, .slice none 0 0]) (t := 49) ?hr ?_; (case hd => rfl); (case hg => rfl); (case hr => first | (go_simp; done)); intro gb797 hg w158 hbox hb; replace HO784 := Aside0.mk (Kd.R_below HO784.out hb); replace HO787 := Aside0.mk (Kd.R_below HO787.out hb); replace HO792 := Aside0.mk (Kd.R_below HO792.out hb); replace HO795 := Aside0.mk (Kd.R_below HO795.out hb); have BK797 := Aside0.mk hbox; have GW797 := Aside0.mk ((by rw [hg]; exact (below_size HB.out) : w.heap.size ≤ gb797)); have GE797 := Aside0.mk ((by rw [hg]; exact (below_size HB.out) : w.heap.size ≤ gb797)); replace HB := Aside0.mk (below_step HB.out hb); have NB789_797 := Aside0.mk ((by rw [hg]; exact Nat.ne_of_lt (blk_lt (g := gb789) (o := .cells #[.slice Ao154 t782.length co154, .slice Ao156 t785.length co156] 49 (0, 0)) BK789.out) : gb789 ≠ gb797)); have NB797_789 := Aside0.mk ((by rw [hg]; exact Nat.ne_of_gt (blk_lt (g := gb789) (o := .cells #[.slice Ao154 t782.length co154, .slice Ao156 t785.length co156] 49 (0, 0)) BK789.out) : gb797 ≠ gb789)); replace BK789 := Aside0.mk (blk_below (g := gb789) (o := .cells #[.slice Ao154 t782.length co154, .slice Ao156 t785.length co156] 49 (0, 0)) BK789.out hb); clear hb hbox hg; obtain ⟨Ao159, co159, eo159⟩ := Kd.R_slice HO792.out; subst eo159; have hnb160 := NB797_789.out; have hnc160 := NB789_797.out; have hcz161_0 : w158.cell? ⟨gb797, 0, none⟩ = some (.slice none 0 0) := (blk_cell BK797.out 0).trans rfl; have hcz161_1 : w158.cell? ⟨gb797, 1, none⟩ = some (.slice none 0 0) := (blk_cell BK797.out 1).trans rfl; have hfz161_0 := blk_frozen BK797.out 0; have hfz161_1 := blk_frozen BK797.out 1; obtain ⟨Ao162, co162, eo162⟩ := Kd.R_slice HO795.out; subst eo162) | ((with_reducible refine gate_callee (f := 48) rfl ?_); refine goesL_ (some 25) rfl rfl Tryd.func48 (by kernel_rfl) rfl #[.string a2, .string (⟨#[102, 105, 114, 115, 116]⟩ : ByteArray)] rfl (by (try simp only [List.map_toArray, List.map_cons, List.map_nil]); rfl) ?_; (with_reducible refine (impl_numbersOf.calls a2 (⟨#[102, 105, 114, 115, 116]⟩ : ByteArray) t798 false _ A6.out (GlobN.below hG (by repeat (first | (with_reducible first | exact HB.out | refine below_set ?_ GE797.out))))).mono ?_); rintro e w163 ⟨v800, rfl, ho0, hb⟩; refine ⟨_, rfl, ?_⟩; replace HO784 := Aside0.mk (Kd.R_below (by exact (Kd.R_mono (Kd.R_far (p := ⟨gb797, 1, none⟩) (Kd.R_far (p := ⟨gb797, 0, none⟩) (Kd.R_types HO784.out BK797.out (by decide)) (fun _ hk => hk.2) (.slice Ao159 t790.length co159)) (fun _ hk => hk.2) (.slice Ao162 t793.length co162)) (fun _ h_ => h_.1))) hb); replace HO787 := Aside0.mk (Kd.R_below (by exact (Kd.R_mono (Kd.R_far (p := ⟨gb797, 1, none⟩) (Kd.R_far (p := ⟨gb797, 0, none⟩) (Kd.R_types HO787.out BK797.out (by decide)) (fun _ hk => hk.2) (.slice Ao159 t790.length co159)) (fun _ hk => hk.2) (.slice Ao162 t793.length co162)) (fun _ h_ => h_.1))) hb); replace HO792 := Aside0.mk (Kd.R_below (by exact (Kd.R_mono (Kd.R_far (p := ⟨gb797, 1, none⟩) (Kd.R_far (p := ⟨gb797, 0, none⟩) (Kd.R_types HO792.out BK797.out (by decide)) (fun _ hk => hk.2) (.slice Ao159 t790.length co159)) (fun _ hk => hk.2) (.slice Ao162 t793.length co162)) (fun _ h_ => h_.1))) hb); replace HO795 := Aside0.mk (Kd.R_below (by exact (Kd.R_mono (Kd.R_far (p := ⟨gb797, 1, none⟩) (Kd.R_far (p := ⟨gb797, 0, none⟩) (Kd.R_types HO795.out BK797.out (by decide)) (fun _ hk => hk.2) (.slice Ao159 t790.length co159)) (fun _ hk => hk.2) (.slice Ao162 t793.length co162)) (fun _ h_ => h_.1))) hb); have HO801 := Aside0.mk (Kd.R_lower ho0 (below_size (by repeat (first | (with_reducible first | exact HB.out | refine below_set ?_ GE797.out))))); replace BK789 := Aside0.mk (blk_below (g := gb789) (o := .cells #[.slice Ao154 t782.length co154, .slice Ao156 t785.length co156] 49 (0, 0)) (by refine blk_far ?_ NB789_797.out _; refine blk_far ?_ NB789_797.out _; exact BK789.out) hb); replace BK797 := Aside0.mk (blk_below (g := gb797) (o := .cells #[.slice Ao159 t790.length co159, .slice Ao162 t793.length co162] 49 (0, 0)) (by refine blk_put (cs := #[.slice Ao159 t790.length co159, .slice none 0 0]) ?_ 1 _ rfl; refine blk_put (cs := #[.slice none 0 0, .slice none 0 0]) ?_ 0 _ rfl; exact BK797.out) hb); replace HB := Aside0.mk (below_step (by repeat (first | (with_reducible first | exact HB.out | refine below_set ?_ GE797.out))) hb); (try clear hb); (try clear ho0)) | ((with_reducible refine gate_callee (f := 48) rfl ?_); refine goesL_ (some 32) rfl rfl Tryd.func48 (by kernel_rfl) rfl #[.string a2, .string (⟨#[115, 101, 99, 111, 110, 100]⟩ : ByteArray)] rfl (by (try simp only [List.map_toArray, List.map_cons, List.map_nil]); rfl) ?_; (with_reducible refine (impl_numbersOf.calls a2 (⟨#[115, 101, 99, 111, 110, 100]⟩ : ByteArray) t806 false _ A86.out (GlobN.below hG HB.out)).mono ?_); rintro e w164 ⟨v808, rfl, ho0, hb⟩; refine ⟨_, rfl, ?_⟩; replace HO784 := Aside0.mk (Kd.R_below HO784.out hb); replace HO787 := Aside0.mk (Kd.R_below HO787.out hb); replace HO792 := Aside0.mk (Kd.R_below HO792.out hb); replace HO795 := Aside0.mk (Kd.R_below HO795.out hb); have HO809 := Aside0.mk (Kd.R_lower (Kd.R_new' ho0 (Kd.R_lt HO801.out)) (below_size HB.out)); replace HO801 := Aside0.mk (Kd.R_elder' HO801.out (Kd.R_base ho0) hb); replace BK789 := Aside0.mk (blk_below (g := gb789) (o := .cells #[.slice Ao154 t782.length co154, .slice Ao156 t785.length co156] 49 (0, 0)) BK789.out hb); replace BK797 := Aside0.mk (blk_below (g := gb797) (o := .cells #[.slice Ao159 t790.length co159, .slice Ao162 t793.length co162] 49 (0, 0)) BK797.out hb); replace HB := Aside0.mk (below_step HB.out hb); (try clear hb); (try clear ho0); have hcz165_0 : w164.cell? ⟨gb797, 0, none⟩ = some (.slice Ao159 t790.length co159) := (blk_cell BK797.out 0).trans rfl; have hcz165_1 : w164.cell? ⟨gb797, 1, none⟩ = some (.slice Ao162 t793.length co162) := (blk_cell BK797.out 1).trans rfl; have hfz165_0 := blk_frozen BK797.out 0; have hfz165_1 := blk_frozen BK797.out 1; have hcz166_0 : w164.cell? ⟨gb789, 0, none⟩ = some (.slice Ao154 t782.length co154) := (blk_cell BK789.out 0).trans rfl; have hcz166_1 : w164.cell? ⟨gb789, 1, none⟩ = some (.slice Ao156 t785.length co156) := (blk_cell BK789.out 1).trans rfl; have hfz166_0 := blk_frozen BK789.out 0; have hfz166_1 := blk_frozen BK789.out 1))
     have n0_ : Aside0 (Kd.R Kd.bool 4 ((((w164.setCell ⟨gb789, 0, none⟩ (.slice Ao159 t790.length co159)).setCell ⟨gb789, 1, none⟩ (.slice Ao162 t793.length co162)).setCell ⟨gb797, 0, none⟩ (.slice Ao154 t782.length co154)).setCell ⟨gb797, 1, none⟩ (.slice Ao156 t785.length co156)) w.heap.size (fun k_ => some k_ ≠ (.slice Ao156 t785.length co156 : Value).ownBlock ∧ some k_ ≠ (.slice Ao159 t790.length co159 : Value).ownBlock ∧ some k_ ≠ (.slice Ao162 t793.length co162 : Value).ownBlock) (.slice Ao154 t782.length co154) t782) := ⟨by exact Kd.R_mono (Kd.R_far (p := ⟨gb797, 1, none⟩) (Kd.R_far (p := ⟨gb797, 0, none⟩) (Kd.R_far (p := ⟨gb789, 1, none⟩) (Kd.R_far (p := ⟨gb789, 0, none⟩) (Kd.R_types (Kd.R_types HO784.out BK789.out (by decide)) BK797.out (by decide)) (fun _ hk => hk.1.2) (.slice Ao159 t790.length co159)) (fun _ hk => hk.1.2) (.slice Ao162 t793.length co162)) (fun _ hk => hk.2) (.slice Ao154 t782.length co154)) (fun _ hk => hk.2) (.slice Ao156 t785.length co156)) (fun _ hk => ⟨hk.1.1.1.1, ⟨hk.1.1.1.2, hk.1.1.2⟩⟩)⟩
     have n1_ : Aside0 (Kd.R Kd.bool 4 ((((w164.setCell ⟨gb789, 0, none⟩ (.slice Ao159 t790.length co159)).setCell ⟨gb789, 1, none⟩ (.slice Ao162 t793.length co162)).setCell ⟨gb797, 0, none⟩ (.slice Ao154 t782.length co154)).setCell ⟨gb797, 1, none⟩ (.slice Ao156 t785.length co156)) w.heap.size (fun k_ => some k_ ≠ (.slice Ao154 t782.length co154 : Value).ownBlock ∧ some k_ ≠ (.slice Ao159 t790.length co159 : Value).ownBlock ∧ some k_ ≠ (.slice Ao162 t793.length co162 : Value).ownBlock) (.slice Ao156 t785.length co156) t785) := ⟨by exact Kd.R_mono (Kd.R_far (p := ⟨gb797, 1, none⟩) (Kd.R_far (p := ⟨gb797, 0, none⟩) (Kd.R_far (p := ⟨gb789, 1, none⟩) (Kd.R_far (p := ⟨gb789, 0, none⟩) (Kd.R_types (Kd.R_types HO787.out BK789.out (by decide)) BK797.out (by decide)) (fun _ hk => hk.1.2) (.slice Ao159 t790.length co159)) (fun _ hk => hk.1.2) (.slice Ao162 t793.length co162)) (fun _ hk => hk.2) (.slice Ao154 t782.length co154)) (fun _ hk => hk.2) (.slice Ao156 t785.length co156)) (fun _ hk => ⟨hk.1.1.1.1, ⟨hk.1.1.1.2, hk.1.1.2⟩⟩)⟩
     have n2_ : Aside0 (Kd.R Kd.bool 4 ((((w164.setCell ⟨gb789, 0, none⟩ (.slice Ao159 t790.length co159)).setCell ⟨gb789, 1, none⟩ (.slice Ao162 t793.length co162)).setCell ⟨gb797, 0, none⟩ (.slice Ao154 t782.length co154)).setCell ⟨gb797, 1, none⟩ (.slice Ao156 t785.length co156)) w.heap.size (fun k_ => some k_ ≠ (.slice Ao154 t782.length co154 : Value).ownBlock ∧ some k_ ≠ (.slice Ao156 t785.length co156 : Value).ownBlock ∧ some k_ ≠ (.slice Ao162 t793.length co162 : Value).ownBlock) (.slice Ao159 t790.length co159) t790) := ⟨by exact Kd.R_mono (Kd.R_far (p := ⟨gb797, 1, none⟩) (Kd.R_far (p := ⟨gb797, 0, none⟩) (Kd.R_far (p := ⟨gb789, 1, none⟩) (Kd.R_far (p := ⟨gb789, 0, none⟩) (Kd.R_types (Kd.R_types HO792.out BK789.out (by decide)) BK797.out (by decide)) (fun _ hk => hk.1.2) (.slice Ao159 t790.length co159)) (fun _ hk => hk.1.2) (.slice Ao162 t793.length co162)) (fun _ hk => hk.2) (.slice Ao154 t782.length co154)) (fun _ hk => hk.2) (.slice Ao156 t785.length co156)) (fun _ hk => ⟨hk.1.1.1.2, ⟨hk.1.1.2, hk.1.1.1.1⟩⟩)⟩
     have n3_ : Aside0 (Kd.R Kd.bool 4 ((((w164.setCell ⟨gb789, 0, none⟩ (.slice Ao159 t790.length co159)).setCell ⟨gb789, 1, none⟩ (.slice Ao162 t793.length co162)).setCell ⟨gb797, 0, none⟩ (.slice Ao154 t782.length co154)).setCell ⟨gb797, 1, none⟩ (.slice Ao156 t785.length co156)) w.heap.size (fun k_ => some k_ ≠ (.slice Ao154 t782.length co154 : Value).ownBlock ∧ some k_ ≠ (.slice Ao156 t785.length co156 : Value).ownBlock ∧ some k_ ≠ (.slice Ao159 t790.length co159 : Value).ownBlock) (.slice Ao162 t793.length co162) t793) := ⟨by exact Kd.R_mono (Kd.R_far (p := ⟨gb797, 1, none⟩) (Kd.R_far (p := ⟨gb797, 0, none⟩) (Kd.R_far (p := ⟨gb789, 1, none⟩) (Kd.R_far (p := ⟨gb789, 0, none⟩) (Kd.R_types (Kd.R_types HO795.out BK789.out (by decide)) BK797.out (by decide)) (fun _ hk => hk.1.2) (.slice Ao159 t790.length co159)) (fun _ hk => hk.1.2) (.slice Ao162 t793.length co162)) (fun _ hk => hk.2) (.slice Ao154 t782.length co154)) (fun _ hk => hk.2) (.slice Ao156 t785.length co156)) (fun _ hk => ⟨hk.1.1.1.2, ⟨hk.1.1.2, hk.1.1.1.1⟩⟩)⟩
     have n4_ : Aside0 (Kd.R (Kd.int .i64) 3 ((((w164.setCell ⟨gb789, 0, none⟩ (.slice Ao159 t790.length co159)).setCell ⟨gb789, 1, none⟩ (.slice Ao162 t793.length co162)).setCell ⟨gb797, 0, none⟩ (.slice Ao154 t782.length co154)).setCell ⟨gb797, 1, none⟩ (.slice Ao156 t785.length co156)) w.heap.size (fun k_ => some k_ ≠ (v808 : Value).ownBlock) v800 t798) := ⟨by exact Kd.R_mono (Kd.R_far (p := ⟨gb797, 1, none⟩) (Kd.R_far (p := ⟨gb797, 0, none⟩) (Kd.R_far (p := ⟨gb789, 1, none⟩) (Kd.R_far (p := ⟨gb789, 0, none⟩) (Kd.R_types (Kd.R_types HO801.out BK789.out (by decide)) BK797.out (by decide)) (fun _ hk => hk.1.2) (.slice Ao159 t790.length co159)) (fun _ hk => hk.1.2) (.slice Ao162 t793.length co162)) (fun _ hk => hk.2) (.slice Ao154 t782.length co154)) (fun _ hk => hk.2) (.slice Ao156 t785.length co156)) (fun _ hk => hk.1.1.2)⟩
     have n5_ : Aside0 (Kd.R (Kd.int .i64) 3 ((((w164.setCell ⟨gb789, 0, none⟩ (.slice Ao159 t790.length co159)).setCell ⟨gb789, 1, none⟩ (.slice Ao162 t793.length co162)).setCell ⟨gb797, 0, none⟩ (.slice Ao154 t782.length co154)).setCell ⟨gb797, 1, none⟩ (.slice Ao156 t785.length co156)) w.heap.size (fun k_ => some k_ ≠ (v800 : Value).ownBlock) v808 t806) := ⟨by exact Kd.R_mono (Kd.R_far (p := ⟨gb797, 1, none⟩) (Kd.R_far (p := ⟨gb797, 0, none⟩) (Kd.R_far (p := ⟨gb789, 1, none⟩) (Kd.R_far (p := ⟨gb789, 0, none⟩) (Kd.R_types (Kd.R_types HO809.out BK789.out (by decide)) BK797.out (by decide)) (fun _ hk => hk.1.2) (.slice Ao159 t790.length co159)) (fun _ hk => hk.1.2) (.slice Ao162 t793.length co162)) (fun _ hk => hk.2) (.slice Ao154 t782.length co154)) (fun _ hk => hk.2) (.slice Ao156 t785.length co156)) (fun _ hk => hk.1.1.2)⟩
     have n6_ : Aside0 (((((w164.setCell ⟨gb789, 0, none⟩ (.slice Ao159 t790.length co159)).setCell ⟨gb789, 1, none⟩ (.slice Ao162 t793.length co162)).setCell ⟨gb797, 0, none⟩ (.slice Ao154 t782.length co154)).setCell ⟨gb797, 1, none⟩ (.slice Ao156 t785.length co156)).heap[gb789]? = some (.cells #[.slice Ao159 t790.length co159, .slice Ao162 t793.length co162] 49 (0, 0))) := ⟨by refine blk_far ?_ NB789_797.out _; refine blk_far ?_ NB789_797.out _; refine blk_put (cs := #[.slice Ao159 t790.length co159, .slice Ao156 t785.length co156]) ?_ 1 _ rfl; refine blk_put (cs := #[.slice Ao154 t782.length co154, .slice Ao156 t785.length co156]) ?_ 0 _ rfl; exact BK789.out⟩
     have n7_ : Aside0 (((((w164.setCell ⟨gb789, 0, none⟩ (.slice Ao159 t790.length co159)).setCell ⟨gb789, 1, none⟩ (.slice Ao162 t793.length co162)).setCell ⟨gb797, 0, none⟩ (.slice Ao154 t782.length co154)).setCell ⟨gb797, 1, none⟩ (.slice Ao156 t785.length co156)).heap[gb797]? = some (.cells #[.slice Ao154 t782.length co154, .slice Ao156 t785.length co156] 49 (0, 0))) := ⟨by refine blk_put (cs := #[.slice Ao154 t782.length co154, .slice Ao162 t793.length co162]) ?_ 1 _ rfl; refine blk_put (cs := #[.slice Ao159 t790.length co159, .slice Ao162 t793.length co162]) ?_ 0 _ rfl; refine blk_far ?_ NB797_789.out _; refine blk_far ?_ NB797_789.out _; exact BK797.out⟩
     have n8_ : Aside0 (Below w.heap.size w ((((w164.setCell ⟨gb789, 0, none⟩ (.slice Ao159 t790.length co159)).setCell ⟨gb789, 1, none⟩ (.slice Ao162 t793.length co162)).setCell ⟨gb797, 0, none⟩ (.slice Ao154 t782.length co154)).setCell ⟨gb797, 1, none⟩ (.slice Ao156 t785.length co156))) := ⟨by repeat (first | (with_reducible first | exact HB.out | refine below_set ?_ GE789.out | refine below_set ?_ GE797.out))⟩
     (try clear HO784)
     (try clear HO787)
     (try clear HO792)
     (try clear HO795)
     (try clear HO801)
     (try clear HO809)
     (try clear BK789)
     (try clear BK797)
     (try clear HB)
     generalize ((((w164.setCell ⟨gb789, 0, none⟩ (.slice Ao159 t790.length co159)).setCell ⟨gb789, 1, none⟩ (.slice Ao162 t793.length co162)).setCell ⟨gb797, 0, none⟩ (.slice Ao154 t782.length co154)).setCell ⟨gb797, 1, none⟩ (.slice Ao156 t785.length co156)) = w167 at n0_ n1_ n2_ n3_ n4_ n5_ n6_ n7_ n8_ ⊢
     have HO784 := n0_
     have HO787 := n1_
     have HO792 := n2_
     have HO795 := n3_
     have HO801 := n4_
     have HO809 := n5_
     have BK789 := n6_
     have BK797 := n7_
     have HB := n8_
     clear n0_ n1_ n2_ n3_ n4_ n5_ n6_ n7_ n8_
     replace HO784 := Aside0.mk (Kd.R_drew HO784.out)
     replace HO787 := Aside0.mk (Kd.R_drew HO787.out)
     replace HO792 := Aside0.mk (Kd.R_drew HO792.out)
     replace HO795 := Aside0.mk (Kd.R_drew HO795.out)
     replace HO801 := Aside0.mk (Kd.R_drew HO801.out)
     replace HO809 := Aside0.mk (Kd.R_drew HO809.out)
     replace BK789 := Aside0.mk (blk_drew BK789.out)
     replace BK797 := Aside0.mk (blk_drew BK797.out)
     replace HB := Aside0.mk (below_drew1 HB.out)
     refine start_ (n := 28) (S := fun w' => True) (ds := []) #[false, false, false, false, false, false, false, false, false, false, false, false, false, false, false, false, false, false, false, false, false, false, false, false, false, false, false, false] (by kernel_rfl) rfl rfl trivial (fun hHeld => ?_); refine with_tabW impl_ProofDifferIs.tab7 impl_ProofDifferIs.bits7 (fun HT_ HW_ => ?_)
     generalize w167.drew = w168 at HO784 HO787 HO792 HO795 HO801 HO809 BK789 BK797 HB hHeld ⊢
     refine pure_ (i := 0) (N := some 37) (v := ?_) (a' := ?_) #[true, false, false, false, false, false, false, false, false, false, false, false, false, false, false, false, false, false, false, false, false, false, false, false, false, false, false, false] rfl rfl (any_of HT_.out (by kernel_rfl)) (fun _ _ _ h => h) (Or.inl ⟨by rfl, ?_⟩) ?_ ?_
     rotate_left
     ·intro w'
      go_simp
      with_reducible rfl
     rotate_left
     ·simp only [Act.put, List.setIfInBounds_toArray, List.set_cons_zero, List.set_cons_succ, i64_w, i32_w]
      rfl
     refine pure_ (i := 1) (N := some 38) (v := ?_) (a' := ?_) #[true, true, false, false, false, false, false, false, false, false, false, false, false, false, false, false, false, false, false, false, false, false, false, false, false, false, false, false] rfl rfl (any_of HT_.out (by kernel_rfl)) (fun _ _ _ h => h) (Or.inl ⟨by rfl, ?_⟩) ?_ ?_
     rotate_left
     ·intro w'
      go_simp
      with_reducible rfl
     rotate_left
     ·simp only [Act.put, List.setIfInBounds_toArray, List.set_cons_zero, List.set_cons_succ, i64_w, i32_w]
      rfl
     refine pure_ (i := 2) (N := some 39) (v := ?_) (a' := ?_) #[true, true, true, false, false, false, false, false, false, false, false, false, false, false, false, false, false, false, false, false, false, false, false, false, false, false, false, false] rfl rfl (any_of HT_.out (by kernel_rfl)) (fun _ _ _ h => h) (Or.inl ⟨by rfl, ?_⟩) ?_ ?_
     rotate_left
     ·intro w'
      go_simp
      with_reducible rfl
     rotate_left
     ·simp only [Act.put, List.setIfInBounds_toArray, List.set_cons_zero, List.set_cons_succ, i64_w, i32_w]
      rfl
     refine pure_ (i := 3) (N := some 40) (v := ?_) (a' := ?_) #[true, true, true, true, false, false, false, false, false, false, false, false, false, false, false, false, false, false, false, false, false, false, false, false, false, false, false, false] rfl rfl (any_of HT_.out (by kernel_rfl)) (fun _ _ _ h => h) (Or.inl ⟨by rfl, ?_⟩) ?_ ?_
     rotate_left
     ·intro w'
      go_simp
      with_reducible rfl
     rotate_left
     ·simp only [Act.put, List.setIfInBounds_toArray, List.set_cons_zero, List.set_cons_succ, i64_w, i32_w]
      rfl
     refine pure_ (i := 4) (N := some 41) (v := ?_) (a' := ?_) #[true, true, true, true, true, false, false, false, false, false, false, false, false, false, false, false, false, false, false, false, false, false, false, false, false, false, false, false] rfl rfl (any_of HT_.out (by kernel_rfl)) (fun _ _ _ h => h) (Or.inl ⟨by rfl, ?_⟩) ?_ ?_
     rotate_left
     ·intro w'
      go_simp
      with_reducible rfl
     rotate_left
     ·simp only [Act.put, List.setIfInBounds_toArray, List.set_cons_zero, List.set_cons_succ, i64_w, i32_w]
      rfl
     refine pure_ (i := 5) (N := some 42) (v := ?_) (a' := ?_) #[true, true, true, true, true, true, false, false, false, false, false, false, false, false, false, false, false, false, false, false, false, false, false, false, false, false, false, false] rfl rfl (any_of HT_.out (by kernel_rfl)) (fun _ _ _ h => h) (Or.inl ⟨by rfl, ?_⟩) ?_ ?_
     rotate_left
     ·intro w'
      go_simp
      with_reducible rfl
     rotate_left
     ·simp only [Act.put, List.setIfInBounds_toArray, List.set_cons_zero, List.set_cons_succ, i64_w, i32_w]
      rfl
     refine pure_ (i := 6) (N := some 43) (v := ?_) (a' := ?_) #[true, true, true, true, true, true, true, false, false, false, false, false, false, false, false, false, false, false, false, false, false, false, false, false, false, false, false, false] rfl rfl (any_of HT_.out (by kernel_rfl)) (fun _ _ _ h => h) (Or.inl ⟨by rfl, ?_⟩) ?_ ?_
     rotate_left
     ·intro w'
      go_simp
      with_reducible rfl
     rotate_left
     ·simp only [Act.put, List.setIfInBounds_toArray, List.set_cons_zero, List.set_cons_succ, i64_w, i32_w]
      rfl
     refine pure_ (i := 7) (N := some 44) (v := ?_) (a' := ?_) #[true, true, true, true, true, true, true, true, false, false, false, false, false, false, false, false, false, false, false, false, false, false, false, false, false, false, false, false] rfl rfl (any_of HT_.out (by kernel_rfl)) (fun _ _ _ h => h) (Or.inl ⟨by rfl, ?_⟩) ?_ ?_
     rotate_left
     ·intro w'
      go_simp
      with_reducible rfl
     rotate_left
     ·simp only [Act.put, List.setIfInBounds_toArray, List.set_cons_zero, List.set_cons_succ, i64_w, i32_w]
      rfl
     refine pure_ (i := 8) (N := some 45) (v := undef) (a' := ?_) #[true, true, true, true, true, true, true, true, true, false, false, false, false, false, false, false, false, false, false, false, false, false, false, false, false, false, false, false] rfl rfl (any_of HT_.out (by kernel_rfl)) (fun _ _ _ h => h) (Or.inr ⟨by rfl, rfl⟩) ?_ ?_
     rotate_left
     ·simp only [Act.put, List.setIfInBounds_toArray, List.set_cons_zero, List.set_cons_succ, i64_w, i32_w]
      rfl
     refine pure_ (i := 9) (N := some 46) (v := undef) (a' := ?_) #[true, true, true, true, true, true, true, true, true, true, false, false, false, false, false, false, false, false, false, false, false, false, false, false, false, false, false, false] rfl rfl (any_of HT_.out (by kernel_rfl)) (fun _ _ _ h => h) (Or.inr ⟨by rfl, rfl⟩) ?_ ?_
     rotate_left
     ·simp only [Act.put, List.setIfInBounds_toArray, List.set_cons_zero, List.set_cons_succ, i64_w, i32_w]
      rfl
     refine pure_ (i := 10) (N := some 47) (v := undef) (a' := ?_) #[true, true, true, true, true, true, true, true, true, true, true, false, false, false, false, false, false, false, false, false, false, false, false, false, false, false, false, false] rfl rfl (any_of HT_.out (by kernel_rfl)) (fun _ _ _ h => h) (Or.inr ⟨by rfl, rfl⟩) ?_ ?_
     rotate_left
     ·simp only [Act.put, List.setIfInBounds_toArray, List.set_cons_zero, List.set_cons_succ, i64_w, i32_w]
      rfl
     refine pure_ (i := 11) (N := some 48) (v := ?_) (a' := ?_) #[true, true, true, true, true, true, true, true, true, true, true, true, false, false, false, false, false, false, false, false, false, false, false, false, false, false, false, false] rfl rfl (any_of HT_.out (by kernel_rfl)) (fun _ _ _ h => h) (Or.inl ⟨by rfl, ?_⟩) ?_ ?_
     rotate_left
     ·intro w'
      go_simp
      with_reducible rfl
     rotate_left
     ·simp only [Act.put, List.setIfInBounds_toArray, List.set_cons_zero, List.set_cons_succ, i64_w, i32_w]
      rfl
     refine pure_ (i := 12) (N := some 49) (v := ?_) (a' := ?_) #[true, true, true, true, true, true, true, true, true, true, true, true, true, false, false, false, false, false, false, false, false, false, false, false, false, false, false, false] rfl rfl (any_of HT_.out (by kernel_rfl)) (fun _ _ _ h => h) (Or.inl ⟨by rfl, ?_⟩) ?_ ?_
     rotate_left
     ·intro w'
      go_simp
      with_reducible rfl
     rotate_left
     ·simp only [Act.put, List.setIfInBounds_toArray, List.set_cons_zero, List.set_cons_succ, i64_w, i32_w]
      rfl
     refine pure_ (i := 13) (N := some 50) (v := undef) (a' := ?_) #[true, true, true, true, true, true, true, true, true, true, true, true, true, true, false, false, false, false, false, false, false, false, false, false, false, false, false, false] rfl rfl (any_of HT_.out (by kernel_rfl)) (fun _ _ _ h => h) (Or.inr ⟨by rfl, rfl⟩) ?_ ?_
     rotate_left
     ·simp only [Act.put, List.setIfInBounds_toArray, List.set_cons_zero, List.set_cons_succ, i64_w, i32_w]
      rfl
     refine pure_ (i := 14) (N := some 51) (v := undef) (a' := ?_) #[true, true, true, true, true, true, true, true, true, true, true, true, true, true, true, false, false, false, false, false, false, false, false, false, false, false, false, false] rfl rfl (any_of HT_.out (by kernel_rfl)) (fun _ _ _ h => h) (Or.inr ⟨by rfl, rfl⟩) ?_ ?_
     rotate_left
     ·simp only [Act.put, List.setIfInBounds_toArray, List.set_cons_zero, List.set_cons_succ, i64_w, i32_w]
      rfl
     refine pure_ (i := 15) (N := some 52) (v := undef) (a' := ?_) #[true, true, true, true, true, true, true, true, true, true, true, true, true, true, true, true, false, false, false, false, false, false, false, false, false, false, false, false] rfl rfl (any_of HT_.out (by kernel_rfl)) (fun _ _ _ h => h) (Or.inr ⟨by rfl, rfl⟩) ?_ ?_
     rotate_left
     ·simp only [Act.put, List.setIfInBounds_toArray, List.set_cons_zero, List.set_cons_succ, i64_w, i32_w]
      rfl
     refine pure_ (i := 16) (N := some 53) (v := undef) (a' := ?_) #[true, true, true, true, true, true, true, true, true, true, true, true, true, true, true, true, true, false, false, false, false, false, false, false, false, false, false, false] rfl rfl (any_of HT_.out (by kernel_rfl)) (fun _ _ _ h => h) (Or.inr ⟨by rfl, rfl⟩) ?_ ?_
     rotate_left
     ·simp only [Act.put, List.setIfInBounds_toArray, List.set_cons_zero, List.set_cons_succ, i64_w, i32_w]
      rfl
     refine pure_ (i := 17) (N := some 54) (v := undef) (a' := ?_) #[true, true, true, true, true, true, true, true, true, true, true, true, true, true, true, true, true, true, false, false, false, false, false, false, false, false, false, false] rfl rfl (any_of HT_.out (by kernel_rfl)) (fun _ _ _ h => h) (Or.inr ⟨by rfl, rfl⟩) ?_ ?_
     rotate_left
     ·simp only [Act.put, List.setIfInBounds_toArray, List.set_cons_zero, List.set_cons_succ, i64_w, i32_w]
      rfl
     refine pure_ (i := 18) (N := some 55) (v := ?_) (a' := ?_) #[true, true, true, true, true, true, true, true, true, true, true, true, true, true, true, true, true, true, true, false, false, false, false, false, false, false, false, false] rfl rfl (any_of HT_.out (by kernel_rfl)) (fun _ _ _ h => h) (Or.inl ⟨by rfl, ?_⟩) ?_ ?_
     rotate_left
     ·intro w'
      go_simp
      with_reducible rfl
     rotate_left
     ·simp only [Act.put, List.setIfInBounds_toArray, List.set_cons_zero, List.set_cons_succ, i64_w, i32_w]
      rfl
     refine pure_ (i := 19) (N := some 56) (v := ?_) (a' := ?_) #[true, true, true, true, true, true, true, true, true, true, true, true, true, true, true, true, true, true, true, true, false, false, false, false, false, false, false, false] rfl rfl (any_of HT_.out (by kernel_rfl)) (fun _ _ _ h => h) (Or.inl ⟨by rfl, ?_⟩) ?_ ?_
     rotate_left
     ·intro w'
      go_simp
      with_reducible rfl
     rotate_left
     ·simp only [Act.put, List.setIfInBounds_toArray, List.set_cons_zero, List.set_cons_succ, i64_w, i32_w]
      rfl
     refine pure_ (i := 20) (N := some 57) (v := undef) (a' := ?_) #[true, true, true, true, true, true, true, true, true, true, true, true, true, true, true, true, true, true, true, true, true, false, false, false, false, false, false, false] rfl rfl (any_of HT_.out (by kernel_rfl)) (fun _ _ _ h => h) (Or.inr ⟨by rfl, rfl⟩) ?_ ?_
     rotate_left
     ·simp only [Act.put, List.setIfInBounds_toArray, List.set_cons_zero, List.set_cons_succ, i64_w, i32_w]
      rfl
     refine pure_ (i := 21) (N := some 58) (v := undef) (a' := ?_) #[true, true, true, true, true, true, true, true, true, true, true, true, true, true, true, true, true, true, true, true, true, true, false, false, false, false, false, false] rfl rfl (any_of HT_.out (by kernel_rfl)) (fun _ _ _ h => h) (Or.inr ⟨by rfl, rfl⟩) ?_ ?_
     rotate_left
     ·simp only [Act.put, List.setIfInBounds_toArray, List.set_cons_zero, List.set_cons_succ, i64_w, i32_w]
      rfl
     refine pure_ (i := 22) (N := some 59) (v := undef) (a' := ?_) #[true, true, true, true, true, true, true, true, true, true, true, true, true, true, true, true, true, true, true, true, true, true, true, false, false, false, false, false] rfl rfl (any_of HT_.out (by kernel_rfl)) (fun _ _ _ h => h) (Or.inr ⟨by rfl, rfl⟩) ?_ ?_
     rotate_left
     ·simp only [Act.put, List.setIfInBounds_toArray, List.set_cons_zero, List.set_cons_succ, i64_w, i32_w]
      rfl
     refine pure_ (i := 23) (N := some 60) (v := undef) (a' := ?_) #[true, true, true, true, true, true, true, true, true, true, true, true, true, true, true, true, true, true, true, true, true, true, true, true, false, false, false, false] rfl rfl (any_of HT_.out (by kernel_rfl)) (fun _ _ _ h => h) (Or.inr ⟨by rfl, rfl⟩) ?_ ?_
     rotate_left
     ·simp only [Act.put, List.setIfInBounds_toArray, List.set_cons_zero, List.set_cons_succ, i64_w, i32_w]
      rfl
     refine pure_ (i := 24) (N := some 61) (v := undef) (a' := ?_) #[true, true, true, true, true, true, true, true, true, true, true, true, true, true, true, true, true, true, true, true, true, true, true, true, true, false, false, false] rfl rfl (any_of HT_.out (by kernel_rfl)) (fun _ _ _ h => h) (Or.inr ⟨by rfl, rfl⟩) ?_ ?_
     rotate_left
     ·simp only [Act.put, List.setIfInBounds_toArray, List.set_cons_zero, List.set_cons_succ, i64_w, i32_w]
      rfl
     refine pure_ (i := 25) (N := some 62) (v := undef) (a' := ?_) #[true, true, true, true, true, true, true, true, true, true, true, true, true, true, true, true, true, true, true, true, true, true, true, true, true, true, false, false] rfl rfl (any_of HT_.out (by kernel_rfl)) (fun _ _ _ h => h) (Or.inr ⟨by rfl, rfl⟩) ?_ ?_
     rotate_left
     ·simp only [Act.put, List.setIfInBounds_toArray, List.set_cons_zero, List.set_cons_succ, i64_w, i32_w]
      rfl
     refine pure_ (i := 26) (N := some 63) (v := ?_) (a' := ?_) #[true, true, true, true, true, true, true, true, true, true, true, true, true, true, true, true, true, true, true, true, true, true, true, true, true, true, true, false] rfl rfl (any_of HT_.out (by kernel_rfl)) (fun _ _ _ h => h) (Or.inl ⟨by rfl, ?_⟩) ?_ ?_
     rotate_left
     ·intro w'
      go_simp
      with_reducible rfl
     rotate_left
     ·simp only [Act.put, List.setIfInBounds_toArray, List.set_cons_zero, List.set_cons_succ, i64_w, i32_w]
      rfl
     refine pure_ (i := 27) (N := some 6) (v := ?_) (a' := ?_) #[true, true, true, true, true, true, true, true, true, true, true, true, true, true, true, true, true, true, true, true, true, true, true, true, true, true, true, true] rfl rfl (any_of HT_.out (by kernel_rfl)) (fun _ _ _ h => h) (Or.inl ⟨by rfl, ?_⟩) ?_ ?_
     rotate_left
     ·intro w'
      go_simp
      with_reducible rfl
     rotate_left
     ·simp only [Act.put, List.setIfInBounds_toArray, List.set_cons_zero, List.set_cons_succ, i64_w, i32_w]
      rfl
     refine done_ (done_of HT_.out (by kernel_rfl)) ?_
     try go_wp2
     go_ret
     exact ⟨by first | rfl | (simp [*, errW_none, errW_some] <;> rfl), HB.out⟩
   ·replace c88 := Bool.eq_false_iff.mpr c88
    subst c88
    replace H : (some false) = some r := by rw [if_neg (show ¬ (false = true) by decide)] at H; exact H
    obtain rfl := Option.some.inj H
    go_enter Tryd.func30, Tryd.ntmps30
    try go_wp2_with (first | ((with_reducible refine gate_callee (f := 62) rfl ?_); refine goesL_ (some 15) rfl rfl Tryd.func62 (by kernel_rfl) rfl #[.string a0] rfl (by (try simp only [List.map_toArray, List.map_cons, List.map_nil]); rfl) ?_; (with_reducible refine (impl_setOf.calls a0 t782 t785 true _ A4.out).mono ?_); rintro e w169 ⟨v783, v786, rfl, ho0, ho1, hb⟩; refine ⟨_, rfl, ?_⟩; have HO784 := Aside0.mk (Kd.R_lower ho0 (below_size HB.out)); have HO787 := Aside0.mk (Kd.R_lower ho1 (below_size HB.out)); replace HB := Aside0.mk (below_step HB.out hb); (try clear hb); (try clear ho0); (try clear ho1)) | ((with_reducible refine gate_dst (N := 7) rfl ?_); (try (refine gate_guard (by rfl) ?_; dsimp only)); refine box_event ?hg (N := 7) ?hd (cs := #[.slice none 0 0, .slice none 0 0]) (t := 49) ?hr ?_; (case hd => rfl); (case hg => rfl); (case hr => first | (go_simp; done)); intro gb789 hg w170 hbox hb; replace HO784 := Aside0.mk (Kd.R_below HO784.out hb); replace HO787 := Aside0.mk (Kd.R_below HO787.out hb); have BK789 := Aside0.mk hbox; have GW789 := Aside0.mk ((by rw [hg]; exact (below_size HB.out) : w.heap.size ≤ gb789)); have GE789 := Aside0.mk ((by rw [hg]; exact (below_size HB.out) : w.heap.size ≤ gb789)); replace HB := Aside0.mk (below_step HB.out hb); clear hb hbox hg; obtain ⟨Ao171, co171, eo171⟩ := Kd.R_slice HO784.out; subst eo171; have hcz172_0 : w170.cell? ⟨gb789, 0, none⟩ = some (.slice none 0 0) := (blk_cell BK789.out 0).trans rfl; have hcz172_1 : w170.cell? ⟨gb789, 1, none⟩ = some (.slice none 0 0) := (blk_cell BK789.out 1).trans rfl; have hfz172_0 := blk_frozen BK789.out 0; have hfz172_1 := blk_frozen BK789.out 1; obtain ⟨Ao173, co173, eo173⟩ := Kd.R_slice HO787.out; subst eo173) | ((with_reducible refine gate_callee (f := 62) rfl ?_); refine goesL_ (some 20) rfl rfl Tryd.func62 (by kernel_rfl) rfl #[.string a1] rfl (by (try simp only [List.map_toArray, List.map_cons, List.map_nil]); rfl) ?_; (with_reducible refine (impl_setOf.calls a1 t790 t793 false _ A5.out).mono ?_); rintro e w174 ⟨v791, v794, rfl, ho0, ho1, hb⟩; refine ⟨_, rfl, ?_⟩; have HO792 := Aside0.mk (Kd.R_lower (Kd.R_new' (Kd.R_new' ho0 (Kd.R_lt (by exact (Kd.R_mono (Kd.R_far (p := ⟨gb789, 1, none⟩) (Kd.R_far (p := ⟨gb789, 0, none⟩) (Kd.R_types HO784.out BK789.out (by decide)) (fun _ hk => hk.2) (.slice Ao171 t782.length co171)) (fun _ hk => hk.2) (.slice Ao173 t785.length co173)) (fun _ h_ => h_.1))))) (Kd.R_lt (by exact (Kd.R_mono (Kd.R_far (p := ⟨gb789, 1, none⟩) (Kd.R_far (p := ⟨gb789, 0, none⟩) (Kd.R_types HO787.out BK789.out (by decide)) (fun _ hk => hk.2) (.slice Ao171 t782.length co171)) (fun _ hk => hk.2) (.slice Ao173 t785.length co173)) (fun _ h_ => h_.1))))) (below_size (by repeat (first | (with_reducible first | exact HB.out | refine below_set ?_ GE789.out))))); have HO795 := Aside0.mk (Kd.R_lower (Kd.R_new' (Kd.R_new' ho1 (Kd.R_lt (by exact (Kd.R_mono (Kd.R_far (p := ⟨gb789, 1, none⟩) (Kd.R_far (p := ⟨gb789, 0, none⟩) (Kd.R_types HO784.out BK789.out (by decide)) (fun _ hk => hk.2) (.slice Ao171 t782.length co171)) (fun _ hk => hk.2) (.slice Ao173 t785.length co173)) (fun _ h_ => h_.1))))) (Kd.R_lt (by exact (Kd.R_mono (Kd.R_far (p := ⟨gb789, 1, none⟩) (Kd.R_far (p := ⟨gb789, 0, none⟩) (Kd.R_types HO787.out BK789.out (by decide)) (fun _ hk => hk.2) (.slice Ao171 t782.length co171)) (fun _ hk => hk.2) (.slice Ao173 t785.length co173)) (fun _ h_ => h_.1))))) (below_size (by repeat (first | (with_reducible first | exact HB.out | refine below_set ?_ GE789.out))))); replace HO784 := Aside0.mk (Kd.R_mono (Kd.R_told (Kd.R_told (Kd.R_old (by exact (Kd.R_mono (Kd.R_far (p := ⟨gb789, 1, none⟩) (Kd.R_far (p := ⟨gb789, 0, none⟩) (Kd.R_types HO784.out BK789.out (by decide)) (fun _ hk => hk.2) (.slice Ao171 t782.length co171)) (fun _ hk => hk.2) (.slice Ao173 t785.length co173)) (fun _ h_ => h_.1))) hb) (Kd.R_base ho0)) (Kd.R_base ho1)) (fun _ h_ => h_.1)); replace HO787 := Aside0.mk (Kd.R_mono (Kd.R_told (Kd.R_told (Kd.R_old (by exact (Kd.R_mono (Kd.R_far (p := ⟨gb789, 1, none⟩) (Kd.R_far (p := ⟨gb789, 0, none⟩) (Kd.R_types HO787.out BK789.out (by decide)) (fun _ hk => hk.2) (.slice Ao171 t782.length co171)) (fun _ hk => hk.2) (.slice Ao173 t785.length co173)) (fun _ h_ => h_.1))) hb) (Kd.R_base ho0)) (Kd.R_base ho1)) (fun _ h_ => h_.1)); replace BK789 := Aside0.mk (blk_below (g := gb789) (o := .cells #[.slice Ao171 t782.length co171, .slice Ao173 t785.length co173] 49 (0, 0)) (by refine blk_put (cs := #[.slice Ao171 t782.length co171, .slice none 0 0]) ?_ 1 _ rfl; refine blk_put (cs := #[.slice none 0 0, .slice none 0 0]) ?_ 0 _ rfl; exact BK789.out) hb); replace HB := Aside0.mk (below_step (by repeat (first | (with_reducible first | exact HB.out | refine below_set ?_ GE789.out))) hb); (try clear hb); (try clear ho0); (try clear ho1)) | ((with_reducible refine gate_dst (N := 9) rfl ?_); (try (refine gate_guard (by rfl) ?_; dsimp only)); refine box_event ?hg (N := 9) ?hd (cs := #[.slice none 0 0, .slice none 0 0]) (t := 49) ?hr ?_; (case hd => rfl); (case hg => rfl); (case hr => first | (go_simp; done)); intro gb797 hg w175 hbox hb; replace HO784 := Aside0.mk (Kd.R_below HO784.out hb); replace HO787 := Aside0.mk (Kd.R_below HO787.out hb); replace HO792 := Aside0.mk (Kd.R_below HO792.out hb); replace HO795 := Aside0.mk (Kd.R_below HO795.out hb); have BK797 := Aside0.mk hbox; have GW797 := Aside0.mk ((by rw [hg]; exact (below_size HB.out) : w.heap.size ≤ gb797)); have GE797 := Aside0.mk ((by rw [hg]; exact (below_size HB.out) : w.heap.size ≤ gb797)); replace HB := Aside0.mk (below_step HB.out hb); have NB789_797 := Aside0.mk ((by rw [hg]; exact Nat.ne_of_lt (blk_lt (g := gb789) (o := .cells #[.slice Ao171 t782.length co171, .slice Ao173 t785.length co173] 49 (0, 0)) BK789.out) : gb789 ≠ gb797)); have NB797_789 := Aside0.mk ((by rw [hg]; exact Nat.ne_of_gt (blk_lt (g := gb789) (o := .cells #[.slice Ao171 t782.length co171, .slice Ao173 t785.length co173] 49 (0, 0)) BK789.out) : gb797 ≠ gb789)); replace BK789 := Aside0.mk (blk_below (g := gb789) (o := .cells #[.slice Ao171 t782.length co171, .slice Ao173 t785.length co173] 49 (0, 0)) BK789.out hb); clear hb hbox hg; obtain ⟨Ao176, co176, eo176⟩ := Kd.R_slice HO792.out; subst eo176; have hnb177 := NB797_789.out; have hnc177 := NB789_797.out; have hcz178_0 : w175.cell? ⟨gb797, 0, none⟩ = some (.slice none 0 0) := (blk_cell BK797.out 0).trans rfl; have hcz178_1 : w175.cell? ⟨gb797, 1, none⟩ = some (.slice none 0 0) := (blk_cell BK797.out 1).trans rfl; have hfz178_0 := blk_frozen BK797.out 0; have hfz178_1 := blk_frozen BK797.out 1; obtain ⟨Ao179, co179, eo179⟩ := Kd.R_slice HO795.out; subst eo179) | ((with_reducible refine gate_callee (f := 48) rfl ?_); refine goesL_ (some 25) rfl rfl Tryd.func48 (by kernel_rfl) rfl #[.string a2, .string (⟨#[102, 105, 114, 115, 116]⟩ : ByteArray)] rfl (by (try simp only [List.map_toArray, List.map_cons, List.map_nil]); rfl) ?_; (with_reducible refine (impl_numbersOf.calls a2 (⟨#[102, 105, 114, 115, 116]⟩ : ByteArray) t798 false _ A6.out (GlobN.below hG (by repeat (first | (with_reducible first | exact HB.out | refine below_set ?_ GE797.out))))).mono ?_); rintro e w180 ⟨v800, rfl, ho0, hb⟩; refine ⟨_, rfl, ?_⟩; replace HO784 := Aside0.mk (Kd.R_below (by exact (Kd.R_mono (Kd.R_far (p := ⟨gb797, 1, none⟩) (Kd.R_far (p := ⟨gb797, 0, none⟩) (Kd.R_types HO784.out BK797.out (by decide)) (fun _ hk => hk.2) (.slice Ao176 t790.length co176)) (fun _ hk => hk.2) (.slice Ao179 t793.length co179)) (fun _ h_ => h_.1))) hb); replace HO787 := Aside0.mk (Kd.R_below (by exact (Kd.R_mono (Kd.R_far (p := ⟨gb797, 1, none⟩) (Kd.R_far (p := ⟨gb797, 0, none⟩) (Kd.R_types HO787.out BK797.out (by decide)) (fun _ hk => hk.2) (.slice Ao176 t790.length co176)) (fun _ hk => hk.2) (.slice Ao179 t793.length co179)) (fun _ h_ => h_.1))) hb); replace HO792 := Aside0.mk (Kd.R_below (by exact (Kd.R_mono (Kd.R_far (p := ⟨gb797, 1, none⟩) (Kd.R_far (p := ⟨gb797, 0, none⟩) (Kd.R_types HO792.out BK797.out (by decide)) (fun _ hk => hk.2) (.slice Ao176 t790.length co176)) (fun _ hk => hk.2) (.slice Ao179 t793.length co179)) (fun _ h_ => h_.1))) hb); replace HO795 := Aside0.mk (Kd.R_below (by exact (Kd.R_mono (Kd.R_far (p := ⟨gb797, 1, none⟩) (Kd.R_far (p := ⟨gb797, 0, none⟩) (Kd.R_types HO795.out BK797.out (by decide)) (fun _ hk => hk.2) (.slice Ao176 t790.length co176)) (fun _ hk => hk.2) (.slice Ao179 t793.length co179)) (fun _ h_ => h_.1))) hb); have HO801 := Aside0.mk (Kd.R_lower ho0 (below_size (by repeat (first | (with_reducible first | exact HB.out | refine below_set ?_ GE797.out))))); replace BK789 := Aside0.mk (blk_below (g := gb789) (o := .cells #[.slice Ao171 t782.length co171, .slice Ao173 t785.length co173] 49 (0, 0)) (by refine blk_far ?_ NB789_797.out _; refine blk_far ?_ NB789_797.out _; exact BK789.out) hb); replace BK797 := Aside0.mk (blk_below (g := gb797) (o := .cells #[.slice Ao176 t790.length co176, .slice Ao179 t793.length co179] 49 (0, 0)) (by refine blk_put (cs := #[.slice Ao176 t790.length co176, .slice none 0 0]) ?_ 1 _ rfl; refine blk_put (cs := #[.slice none 0 0, .slice none 0 0]) ?_ 0 _ rfl; exact BK797.out) hb); replace HB := Aside0.mk (below_step (by repeat (first | (with_reducible first | exact HB.out | refine below_set ?_ GE797.out))) hb); (try clear hb); (try clear ho0)) | ((with_reducible refine gate_callee (f := 48) rfl ?_); refine goesL_ (some 32) rfl rfl Tryd.func48 (by kernel_rfl) rfl #[.string a2, .string (⟨#[115, 101, 99, 111, 110, 100]⟩ : ByteArray)] rfl (by (try simp only [List.map_toArray, List.map_cons, List.map_nil]); rfl) ?_; (with_reducible refine (impl_numbersOf.calls a2 (⟨#[115, 101, 99, 111, 110, 100]⟩ : ByteArray) t806 t807 _ A86.out (GlobN.below hG HB.out)).mono ?_); rintro e w181 ⟨v808, rfl, ho0, hb⟩; refine ⟨_, rfl, ?_⟩; replace HO784 := Aside0.mk (Kd.R_below HO784.out hb); replace HO787 := Aside0.mk (Kd.R_below HO787.out hb); replace HO792 := Aside0.mk (Kd.R_below HO792.out hb); replace HO795 := Aside0.mk (Kd.R_below HO795.out hb); have HO809 := Aside0.mk (Kd.R_lower (Kd.R_new' ho0 (Kd.R_lt HO801.out)) (below_size HB.out)); replace HO801 := Aside0.mk (Kd.R_elder' HO801.out (Kd.R_base ho0) hb); replace BK789 := Aside0.mk (blk_below (g := gb789) (o := .cells #[.slice Ao171 t782.length co171, .slice Ao173 t785.length co173] 49 (0, 0)) BK789.out hb); replace BK797 := Aside0.mk (blk_below (g := gb797) (o := .cells #[.slice Ao176 t790.length co176, .slice Ao179 t793.length co179] 49 (0, 0)) BK797.out hb); replace HB := Aside0.mk (below_step HB.out hb); (try clear hb); (try clear ho0); have hcz182_0 : w181.cell? ⟨gb797, 0, none⟩ = some (.slice Ao176 t790.length co176) := (blk_cell BK797.out 0).trans rfl; have hcz182_1 : w181.cell? ⟨gb797, 1, none⟩ = some (.slice Ao179 t793.length co179) := (blk_cell BK797.out 1).trans rfl; have hfz182_0 := blk_frozen BK797.out 0; have hfz182_1 := blk_frozen BK797.out 1; have hcz183_0 : w181.cell? ⟨gb789, 0, none⟩ = some (.slice Ao171 t782.length co171) := (blk_cell BK789.out 0).trans rfl; have hcz183_1 : w181.cell? ⟨gb789, 1, none⟩ = some (.slice Ao173 t785.length co173) := (blk_cell BK789.out 1).trans rfl; have hfz183_0 := blk_frozen BK789.out 0; have hfz183_1 := blk_frozen BK789.out 1))
    have n0_ : Aside0 (Kd.R Kd.bool 4 ((((w181.setCell ⟨gb789, 0, none⟩ (.slice Ao176 t790.length co176)).setCell ⟨gb789, 1, none⟩ (.slice Ao179 t793.length co179)).setCell ⟨gb797, 0, none⟩ (.slice Ao171 t782.length co171)).setCell ⟨gb797, 1, none⟩ (.slice Ao173 t785.length co173)) w.heap.size (fun k_ => some k_ ≠ (.slice Ao173 t785.length co173 : Value).ownBlock ∧ some k_ ≠ (.slice Ao176 t790.length co176 : Value).ownBlock ∧ some k_ ≠ (.slice Ao179 t793.length co179 : Value).ownBlock) (.slice Ao171 t782.length co171) t782) := ⟨by exact Kd.R_mono (Kd.R_far (p := ⟨gb797, 1, none⟩) (Kd.R_far (p := ⟨gb797, 0, none⟩) (Kd.R_far (p := ⟨gb789, 1, none⟩) (Kd.R_far (p := ⟨gb789, 0, none⟩) (Kd.R_types (Kd.R_types HO784.out BK789.out (by decide)) BK797.out (by decide)) (fun _ hk => hk.1.2) (.slice Ao176 t790.length co176)) (fun _ hk => hk.1.2) (.slice Ao179 t793.length co179)) (fun _ hk => hk.2) (.slice Ao171 t782.length co171)) (fun _ hk => hk.2) (.slice Ao173 t785.length co173)) (fun _ hk => ⟨hk.1.1.1.1, ⟨hk.1.1.1.2, hk.1.1.2⟩⟩)⟩
    have n1_ : Aside0 (Kd.R Kd.bool 4 ((((w181.setCell ⟨gb789, 0, none⟩ (.slice Ao176 t790.length co176)).setCell ⟨gb789, 1, none⟩ (.slice Ao179 t793.length co179)).setCell ⟨gb797, 0, none⟩ (.slice Ao171 t782.length co171)).setCell ⟨gb797, 1, none⟩ (.slice Ao173 t785.length co173)) w.heap.size (fun k_ => some k_ ≠ (.slice Ao171 t782.length co171 : Value).ownBlock ∧ some k_ ≠ (.slice Ao176 t790.length co176 : Value).ownBlock ∧ some k_ ≠ (.slice Ao179 t793.length co179 : Value).ownBlock) (.slice Ao173 t785.length co173) t785) := ⟨by exact Kd.R_mono (Kd.R_far (p := ⟨gb797, 1, none⟩) (Kd.R_far (p := ⟨gb797, 0, none⟩) (Kd.R_far (p := ⟨gb789, 1, none⟩) (Kd.R_far (p := ⟨gb789, 0, none⟩) (Kd.R_types (Kd.R_types HO787.out BK789.out (by decide)) BK797.out (by decide)) (fun _ hk => hk.1.2) (.slice Ao176 t790.length co176)) (fun _ hk => hk.1.2) (.slice Ao179 t793.length co179)) (fun _ hk => hk.2) (.slice Ao171 t782.length co171)) (fun _ hk => hk.2) (.slice Ao173 t785.length co173)) (fun _ hk => ⟨hk.1.1.1.1, ⟨hk.1.1.1.2, hk.1.1.2⟩⟩)⟩
    have n2_ : Aside0 (Kd.R Kd.bool 4 ((((w181.setCell ⟨gb789, 0, none⟩ (.slice Ao176 t790.length co176)).setCell ⟨gb789, 1, none⟩ (.slice Ao179 t793.length co179)).setCell ⟨gb797, 0, none⟩ (.slice Ao171 t782.length co171)).setCell ⟨gb797, 1, none⟩ (.slice Ao173 t785.length co173)) w.heap.size (fun k_ => some k_ ≠ (.slice Ao171 t782.length co171 : Value).ownBlock ∧ some k_ ≠ (.slice Ao173 t785.length co173 : Value).ownBlock ∧ some k_ ≠ (.slice Ao179 t793.length co179 : Value).ownBlock) (.slice Ao176 t790.length co176) t790) := ⟨by exact Kd.R_mono (Kd.R_far (p := ⟨gb797, 1, none⟩) (Kd.R_far (p := ⟨gb797, 0, none⟩) (Kd.R_far (p := ⟨gb789, 1, none⟩) (Kd.R_far (p := ⟨gb789, 0, none⟩) (Kd.R_types (Kd.R_types HO792.out BK789.out (by decide)) BK797.out (by decide)) (fun _ hk => hk.1.2) (.slice Ao176 t790.length co176)) (fun _ hk => hk.1.2) (.slice Ao179 t793.length co179)) (fun _ hk => hk.2) (.slice Ao171 t782.length co171)) (fun _ hk => hk.2) (.slice Ao173 t785.length co173)) (fun _ hk => ⟨hk.1.1.1.2, ⟨hk.1.1.2, hk.1.1.1.1⟩⟩)⟩
    have n3_ : Aside0 (Kd.R Kd.bool 4 ((((w181.setCell ⟨gb789, 0, none⟩ (.slice Ao176 t790.length co176)).setCell ⟨gb789, 1, none⟩ (.slice Ao179 t793.length co179)).setCell ⟨gb797, 0, none⟩ (.slice Ao171 t782.length co171)).setCell ⟨gb797, 1, none⟩ (.slice Ao173 t785.length co173)) w.heap.size (fun k_ => some k_ ≠ (.slice Ao171 t782.length co171 : Value).ownBlock ∧ some k_ ≠ (.slice Ao173 t785.length co173 : Value).ownBlock ∧ some k_ ≠ (.slice Ao176 t790.length co176 : Value).ownBlock) (.slice Ao179 t793.length co179) t793) := ⟨by exact Kd.R_mono (Kd.R_far (p := ⟨gb797, 1, none⟩) (Kd.R_far (p := ⟨gb797, 0, none⟩) (Kd.R_far (p := ⟨gb789, 1, none⟩) (Kd.R_far (p := ⟨gb789, 0, none⟩) (Kd.R_types (Kd.R_types HO795.out BK789.out (by decide)) BK797.out (by decide)) (fun _ hk => hk.1.2) (.slice Ao176 t790.length co176)) (fun _ hk => hk.1.2) (.slice Ao179 t793.length co179)) (fun _ hk => hk.2) (.slice Ao171 t782.length co171)) (fun _ hk => hk.2) (.slice Ao173 t785.length co173)) (fun _ hk => ⟨hk.1.1.1.2, ⟨hk.1.1.2, hk.1.1.1.1⟩⟩)⟩
    have n4_ : Aside0 (Kd.R (Kd.int .i64) 3 ((((w181.setCell ⟨gb789, 0, none⟩ (.slice Ao176 t790.length co176)).setCell ⟨gb789, 1, none⟩ (.slice Ao179 t793.length co179)).setCell ⟨gb797, 0, none⟩ (.slice Ao171 t782.length co171)).setCell ⟨gb797, 1, none⟩ (.slice Ao173 t785.length co173)) w.heap.size (fun k_ => some k_ ≠ (v808 : Value).ownBlock) v800 t798) := ⟨by exact Kd.R_mono (Kd.R_far (p := ⟨gb797, 1, none⟩) (Kd.R_far (p := ⟨gb797, 0, none⟩) (Kd.R_far (p := ⟨gb789, 1, none⟩) (Kd.R_far (p := ⟨gb789, 0, none⟩) (Kd.R_types (Kd.R_types HO801.out BK789.out (by decide)) BK797.out (by decide)) (fun _ hk => hk.1.2) (.slice Ao176 t790.length co176)) (fun _ hk => hk.1.2) (.slice Ao179 t793.length co179)) (fun _ hk => hk.2) (.slice Ao171 t782.length co171)) (fun _ hk => hk.2) (.slice Ao173 t785.length co173)) (fun _ hk => hk.1.1.2)⟩
    have n5_ : Aside0 (Kd.R (Kd.int .i64) 3 ((((w181.setCell ⟨gb789, 0, none⟩ (.slice Ao176 t790.length co176)).setCell ⟨gb789, 1, none⟩ (.slice Ao179 t793.length co179)).setCell ⟨gb797, 0, none⟩ (.slice Ao171 t782.length co171)).setCell ⟨gb797, 1, none⟩ (.slice Ao173 t785.length co173)) w.heap.size (fun k_ => some k_ ≠ (v800 : Value).ownBlock) v808 t806) := ⟨by exact Kd.R_mono (Kd.R_far (p := ⟨gb797, 1, none⟩) (Kd.R_far (p := ⟨gb797, 0, none⟩) (Kd.R_far (p := ⟨gb789, 1, none⟩) (Kd.R_far (p := ⟨gb789, 0, none⟩) (Kd.R_types (Kd.R_types HO809.out BK789.out (by decide)) BK797.out (by decide)) (fun _ hk => hk.1.2) (.slice Ao176 t790.length co176)) (fun _ hk => hk.1.2) (.slice Ao179 t793.length co179)) (fun _ hk => hk.2) (.slice Ao171 t782.length co171)) (fun _ hk => hk.2) (.slice Ao173 t785.length co173)) (fun _ hk => hk.1.1.2)⟩
    have n6_ : Aside0 (((((w181.setCell ⟨gb789, 0, none⟩ (.slice Ao176 t790.length co176)).setCell ⟨gb789, 1, none⟩ (.slice Ao179 t793.length co179)).setCell ⟨gb797, 0, none⟩ (.slice Ao171 t782.length co171)).setCell ⟨gb797, 1, none⟩ (.slice Ao173 t785.length co173)).heap[gb789]? = some (.cells #[.slice Ao176 t790.length co176, .slice Ao179 t793.length co179] 49 (0, 0))) := ⟨by refine blk_far ?_ NB789_797.out _; refine blk_far ?_ NB789_797.out _; refine blk_put (cs := #[.slice Ao176 t790.length co176, .slice Ao173 t785.length co173]) ?_ 1 _ rfl; refine blk_put (cs := #[.slice Ao171 t782.length co171, .slice Ao173 t785.length co173]) ?_ 0 _ rfl; exact BK789.out⟩
    have n7_ : Aside0 (((((w181.setCell ⟨gb789, 0, none⟩ (.slice Ao176 t790.length co176)).setCell ⟨gb789, 1, none⟩ (.slice Ao179 t793.length co179)).setCell ⟨gb797, 0, none⟩ (.slice Ao171 t782.length co171)).setCell ⟨gb797, 1, none⟩ (.slice Ao173 t785.length co173)).heap[gb797]? = some (.cells #[.slice Ao171 t782.length co171, .slice Ao173 t785.length co173] 49 (0, 0))) := ⟨by refine blk_put (cs := #[.slice Ao171 t782.length co171, .slice Ao179 t793.length co179]) ?_ 1 _ rfl; refine blk_put (cs := #[.slice Ao176 t790.length co176, .slice Ao179 t793.length co179]) ?_ 0 _ rfl; refine blk_far ?_ NB797_789.out _; refine blk_far ?_ NB797_789.out _; exact BK797.out⟩
    have n8_ : Aside0 (Below w.heap.size w ((((w181.setCell ⟨gb789, 0, none⟩ (.slice Ao176 t790.length co176)).setCell ⟨gb789, 1, none⟩ (.slice Ao179 t793.length co179)).setCell ⟨gb797, 0, none⟩ (.slice Ao171 t782.length co171)).setCell ⟨gb797, 1, none⟩ (.slice Ao173 t785.length co173))) := ⟨by repeat (first | (with_reducible first | exact HB.out | refine below_set ?_ GE789.out | refine below_set ?_ GE797.out))⟩
    (try clear HO784)
    (try clear HO787)
    (try clear HO792)
    (try clear HO795)
    (try clear HO801)
    (try clear HO809)
    (try clear BK789)
    (try clear BK797)
    (try clear HB)
    generalize ((((w181.setCell ⟨gb789, 0, none⟩ (.slice Ao176 t790.length co176)).setCell ⟨gb789, 1, none⟩ (.slice Ao179 t793.length co179)).setCell ⟨gb797, 0, none⟩ (.slice Ao171 t782.length co171)).setCell ⟨gb797, 1, none⟩ (.slice Ao173 t785.length co173)) = w184 at n0_ n1_ n2_ n3_ n4_ n5_ n6_ n7_ n8_ ⊢
    have HO784 := n0_
    have HO787 := n1_
    have HO792 := n2_
    have HO795 := n3_
    have HO801 := n4_
    have HO809 := n5_
    have BK789 := n6_
    have BK797 := n7_
    have HB := n8_
    clear n0_ n1_ n2_ n3_ n4_ n5_ n6_ n7_ n8_
    replace HO784 := Aside0.mk (Kd.R_drew HO784.out)
    replace HO787 := Aside0.mk (Kd.R_drew HO787.out)
    replace HO792 := Aside0.mk (Kd.R_drew HO792.out)
    replace HO795 := Aside0.mk (Kd.R_drew HO795.out)
    replace HO801 := Aside0.mk (Kd.R_drew HO801.out)
    replace HO809 := Aside0.mk (Kd.R_drew HO809.out)
    replace BK789 := Aside0.mk (blk_drew BK789.out)
    replace BK797 := Aside0.mk (blk_drew BK797.out)
    replace HB := Aside0.mk (below_drew1 HB.out)
    refine start_ (n := 28) (S := fun w' => True) (ds := []) #[false, false, false, false, false, false, false, false, false, false, false, false, false, false, false, false, false, false, false, false, false, false, false, false, false, false, false, false] (by kernel_rfl) rfl rfl trivial (fun hHeld => ?_); refine with_tabW impl_ProofDifferIs.tab7 impl_ProofDifferIs.bits7 (fun HT_ HW_ => ?_)
    generalize w184.drew = w185 at HO784 HO787 HO792 HO795 HO801 HO809 BK789 BK797 HB hHeld ⊢
    refine pure_ (i := 0) (N := some 37) (v := ?_) (a' := ?_) #[true, false, false, false, false, false, false, false, false, false, false, false, false, false, false, false, false, false, false, false, false, false, false, false, false, false, false, false] rfl rfl (any_of HT_.out (by kernel_rfl)) (fun _ _ _ h => h) (Or.inl ⟨by rfl, ?_⟩) ?_ ?_
    rotate_left
    ·intro w'
     go_simp
     with_reducible rfl
    rotate_left
    ·simp only [Act.put, List.setIfInBounds_toArray, List.set_cons_zero, List.set_cons_succ, i64_w, i32_w]
     rfl
    refine pure_ (i := 1) (N := some 38) (v := ?_) (a' := ?_) #[true, true, false, false, false, false, false, false, false, false, false, false, false, false, false, false, false, false, false, false, false, false, false, false, false, false, false, false] rfl rfl (any_of HT_.out (by kernel_rfl)) (fun _ _ _ h => h) (Or.inl ⟨by rfl, ?_⟩) ?_ ?_
    rotate_left
    ·intro w'
     go_simp
     with_reducible rfl
    rotate_left
    ·simp only [Act.put, List.setIfInBounds_toArray, List.set_cons_zero, List.set_cons_succ, i64_w, i32_w]
     rfl
    refine pure_ (i := 2) (N := some 39) (v := ?_) (a' := ?_) #[true, true, true, false, false, false, false, false, false, false, false, false, false, false, false, false, false, false, false, false, false, false, false, false, false, false, false, false] rfl rfl (any_of HT_.out (by kernel_rfl)) (fun _ _ _ h => h) (Or.inl ⟨by rfl, ?_⟩) ?_ ?_
    rotate_left
    ·intro w'
     go_simp
     with_reducible rfl
    rotate_left
    ·simp only [Act.put, List.setIfInBounds_toArray, List.set_cons_zero, List.set_cons_succ, i64_w, i32_w]
     rfl
    refine pure_ (i := 3) (N := some 40) (v := ?_) (a' := ?_) #[true, true, true, true, false, false, false, false, false, false, false, false, false, false, false, false, false, false, false, false, false, false, false, false, false, false, false, false] rfl rfl (any_of HT_.out (by kernel_rfl)) (fun _ _ _ h => h) (Or.inl ⟨by rfl, ?_⟩) ?_ ?_
    rotate_left
    ·intro w'
     go_simp
     with_reducible rfl
    rotate_left
    ·simp only [Act.put, List.setIfInBounds_toArray, List.set_cons_zero, List.set_cons_succ, i64_w, i32_w]
     rfl
    refine pure_ (i := 4) (N := some 41) (v := ?_) (a' := ?_) #[true, true, true, true, true, false, false, false, false, false, false, false, false, false, false, false, false, false, false, false, false, false, false, false, false, false, false, false] rfl rfl (any_of HT_.out (by kernel_rfl)) (fun _ _ _ h => h) (Or.inl ⟨by rfl, ?_⟩) ?_ ?_
    rotate_left
    ·intro w'
     go_simp
     with_reducible rfl
    rotate_left
    ·simp only [Act.put, List.setIfInBounds_toArray, List.set_cons_zero, List.set_cons_succ, i64_w, i32_w]
     rfl
    refine pure_ (i := 5) (N := some 42) (v := undef) (a' := ?_) #[true, true, true, true, true, true, false, false, false, false, false, false, false, false, false, false, false, false, false, false, false, false, false, false, false, false, false, false] rfl rfl (any_of HT_.out (by kernel_rfl)) (fun _ _ _ h => h) (Or.inr ⟨by rfl, rfl⟩) ?_ ?_
    rotate_left
    ·simp only [Act.put, List.setIfInBounds_toArray, List.set_cons_zero, List.set_cons_succ, i64_w, i32_w]
     rfl
    refine pure_ (i := 6) (N := some 43) (v := ?_) (a' := ?_) #[true, true, true, true, true, true, true, false, false, false, false, false, false, false, false, false, false, false, false, false, false, false, false, false, false, false, false, false] rfl rfl (any_of HT_.out (by kernel_rfl)) (fun _ _ _ h => h) (Or.inl ⟨by rfl, ?_⟩) ?_ ?_
    rotate_left
    ·intro w'
     go_simp
     with_reducible rfl
    rotate_left
    ·simp only [Act.put, List.setIfInBounds_toArray, List.set_cons_zero, List.set_cons_succ, i64_w, i32_w]
     rfl
    refine pure_ (i := 7) (N := some 44) (v := ?_) (a' := ?_) #[true, true, true, true, true, true, true, true, false, false, false, false, false, false, false, false, false, false, false, false, false, false, false, false, false, false, false, false] rfl rfl (any_of HT_.out (by kernel_rfl)) (fun _ _ _ h => h) (Or.inl ⟨by rfl, ?_⟩) ?_ ?_
    rotate_left
    ·intro w'
     go_simp
     with_reducible rfl
    rotate_left
    ·simp only [Act.put, List.setIfInBounds_toArray, List.set_cons_zero, List.set_cons_succ, i64_w, i32_w]
     rfl
    refine pure_ (i := 8) (N := some 45) (v := undef) (a' := ?_) #[true, true, true, true, true, true, true, true, true, false, false, false, false, false, false, false, false, false, false, false, false, false, false, false, false, false, false, false] rfl rfl (any_of HT_.out (by kernel_rfl)) (fun _ _ _ h => h) (Or.inr ⟨by rfl, rfl⟩) ?_ ?_
    rotate_left
    ·simp only [Act.put, List.setIfInBounds_toArray, List.set_cons_zero, List.set_cons_succ, i64_w, i32_w]
     rfl
    refine pure_ (i := 9) (N := some 46) (v := undef) (a' := ?_) #[true, true, true, true, true, true, true, true, true, true, false, false, false, false, false, false, false, false, false, false, false, false, false, false, false, false, false, false] rfl rfl (any_of HT_.out (by kernel_rfl)) (fun _ _ _ h => h) (Or.inr ⟨by rfl, rfl⟩) ?_ ?_
    rotate_left
    ·simp only [Act.put, List.setIfInBounds_toArray, List.set_cons_zero, List.set_cons_succ, i64_w, i32_w]
     rfl
    refine pure_ (i := 10) (N := some 47) (v := undef) (a' := ?_) #[true, true, true, true, true, true, true, true, true, true, true, false, false, false, false, false, false, false, false, false, false, false, false, false, false, false, false, false] rfl rfl (any_of HT_.out (by kernel_rfl)) (fun _ _ _ h => h) (Or.inr ⟨by rfl, rfl⟩) ?_ ?_
    rotate_left
    ·simp only [Act.put, List.setIfInBounds_toArray, List.set_cons_zero, List.set_cons_succ, i64_w, i32_w]
     rfl
    refine pure_ (i := 11) (N := some 48) (v := ?_) (a' := ?_) #[true, true, true, true, true, true, true, true, true, true, true, true, false, false, false, false, false, false, false, false, false, false, false, false, false, false, false, false] rfl rfl (any_of HT_.out (by kernel_rfl)) (fun _ _ _ h => h) (Or.inl ⟨by rfl, ?_⟩) ?_ ?_
    rotate_left
    ·intro w'
     go_simp
     with_reducible rfl
    rotate_left
    ·simp only [Act.put, List.setIfInBounds_toArray, List.set_cons_zero, List.set_cons_succ, i64_w, i32_w]
     rfl
    refine pure_ (i := 12) (N := some 49) (v := ?_) (a' := ?_) #[true, true, true, true, true, true, true, true, true, true, true, true, true, false, false, false, false, false, false, false, false, false, false, false, false, false, false, false] rfl rfl (any_of HT_.out (by kernel_rfl)) (fun _ _ _ h => h) (Or.inl ⟨by rfl, ?_⟩) ?_ ?_
    rotate_left
    ·intro w'
     go_simp
     with_reducible rfl
    rotate_left
    ·simp only [Act.put, List.setIfInBounds_toArray, List.set_cons_zero, List.set_cons_succ, i64_w, i32_w]
     rfl
    refine pure_ (i := 13) (N := some 50) (v := undef) (a' := ?_) #[true, true, true, true, true, true, true, true, true, true, true, true, true, true, false, false, false, false, false, false, false, false, false, false, false, false, false, false] rfl rfl (any_of HT_.out (by kernel_rfl)) (fun _ _ _ h => h) (Or.inr ⟨by rfl, rfl⟩) ?_ ?_
    rotate_left
    ·simp only [Act.put, List.setIfInBounds_toArray, List.set_cons_zero, List.set_cons_succ, i64_w, i32_w]
     rfl
    refine pure_ (i := 14) (N := some 51) (v := undef) (a' := ?_) #[true, true, true, true, true, true, true, true, true, true, true, true, true, true, true, false, false, false, false, false, false, false, false, false, false, false, false, false] rfl rfl (any_of HT_.out (by kernel_rfl)) (fun _ _ _ h => h) (Or.inr ⟨by rfl, rfl⟩) ?_ ?_
    rotate_left
    ·simp only [Act.put, List.setIfInBounds_toArray, List.set_cons_zero, List.set_cons_succ, i64_w, i32_w]
     rfl
    refine pure_ (i := 15) (N := some 52) (v := undef) (a' := ?_) #[true, true, true, true, true, true, true, true, true, true, true, true, true, true, true, true, false, false, false, false, false, false, false, false, false, false, false, false] rfl rfl (any_of HT_.out (by kernel_rfl)) (fun _ _ _ h => h) (Or.inr ⟨by rfl, rfl⟩) ?_ ?_
    rotate_left
    ·simp only [Act.put, List.setIfInBounds_toArray, List.set_cons_zero, List.set_cons_succ, i64_w, i32_w]
     rfl
    refine pure_ (i := 16) (N := some 53) (v := undef) (a' := ?_) #[true, true, true, true, true, true, true, true, true, true, true, true, true, true, true, true, true, false, false, false, false, false, false, false, false, false, false, false] rfl rfl (any_of HT_.out (by kernel_rfl)) (fun _ _ _ h => h) (Or.inr ⟨by rfl, rfl⟩) ?_ ?_
    rotate_left
    ·simp only [Act.put, List.setIfInBounds_toArray, List.set_cons_zero, List.set_cons_succ, i64_w, i32_w]
     rfl
    refine pure_ (i := 17) (N := some 54) (v := undef) (a' := ?_) #[true, true, true, true, true, true, true, true, true, true, true, true, true, true, true, true, true, true, false, false, false, false, false, false, false, false, false, false] rfl rfl (any_of HT_.out (by kernel_rfl)) (fun _ _ _ h => h) (Or.inr ⟨by rfl, rfl⟩) ?_ ?_
    rotate_left
    ·simp only [Act.put, List.setIfInBounds_toArray, List.set_cons_zero, List.set_cons_succ, i64_w, i32_w]
     rfl
    refine pure_ (i := 18) (N := some 55) (v := ?_) (a' := ?_) #[true, true, true, true, true, true, true, true, true, true, true, true, true, true, true, true, true, true, true, false, false, false, false, false, false, false, false, false] rfl rfl (any_of HT_.out (by kernel_rfl)) (fun _ _ _ h => h) (Or.inl ⟨by rfl, ?_⟩) ?_ ?_
    rotate_left
    ·intro w'
     go_simp
     with_reducible rfl
    rotate_left
    ·simp only [Act.put, List.setIfInBounds_toArray, List.set_cons_zero, List.set_cons_succ, i64_w, i32_w]
     rfl
    refine pure_ (i := 19) (N := some 56) (v := ?_) (a' := ?_) #[true, true, true, true, true, true, true, true, true, true, true, true, true, true, true, true, true, true, true, true, false, false, false, false, false, false, false, false] rfl rfl (any_of HT_.out (by kernel_rfl)) (fun _ _ _ h => h) (Or.inl ⟨by rfl, ?_⟩) ?_ ?_
    rotate_left
    ·intro w'
     go_simp
     with_reducible rfl
    rotate_left
    ·simp only [Act.put, List.setIfInBounds_toArray, List.set_cons_zero, List.set_cons_succ, i64_w, i32_w]
     rfl
    refine pure_ (i := 20) (N := some 57) (v := undef) (a' := ?_) #[true, true, true, true, true, true, true, true, true, true, true, true, true, true, true, true, true, true, true, true, true, false, false, false, false, false, false, false] rfl rfl (any_of HT_.out (by kernel_rfl)) (fun _ _ _ h => h) (Or.inr ⟨by rfl, rfl⟩) ?_ ?_
    rotate_left
    ·simp only [Act.put, List.setIfInBounds_toArray, List.set_cons_zero, List.set_cons_succ, i64_w, i32_w]
     rfl
    refine pure_ (i := 21) (N := some 58) (v := undef) (a' := ?_) #[true, true, true, true, true, true, true, true, true, true, true, true, true, true, true, true, true, true, true, true, true, true, false, false, false, false, false, false] rfl rfl (any_of HT_.out (by kernel_rfl)) (fun _ _ _ h => h) (Or.inr ⟨by rfl, rfl⟩) ?_ ?_
    rotate_left
    ·simp only [Act.put, List.setIfInBounds_toArray, List.set_cons_zero, List.set_cons_succ, i64_w, i32_w]
     rfl
    refine pure_ (i := 22) (N := some 59) (v := undef) (a' := ?_) #[true, true, true, true, true, true, true, true, true, true, true, true, true, true, true, true, true, true, true, true, true, true, true, false, false, false, false, false] rfl rfl (any_of HT_.out (by kernel_rfl)) (fun _ _ _ h => h) (Or.inr ⟨by rfl, rfl⟩) ?_ ?_
    rotate_left
    ·simp only [Act.put, List.setIfInBounds_toArray, List.set_cons_zero, List.set_cons_succ, i64_w, i32_w]
     rfl
    refine pure_ (i := 23) (N := some 60) (v := undef) (a' := ?_) #[true, true, true, true, true, true, true, true, true, true, true, true, true, true, true, true, true, true, true, true, true, true, true, true, false, false, false, false] rfl rfl (any_of HT_.out (by kernel_rfl)) (fun _ _ _ h => h) (Or.inr ⟨by rfl, rfl⟩) ?_ ?_
    rotate_left
    ·simp only [Act.put, List.setIfInBounds_toArray, List.set_cons_zero, List.set_cons_succ, i64_w, i32_w]
     rfl
    refine pure_ (i := 24) (N := some 61) (v := undef) (a' := ?_) #[true, true, true, true, true, true, true, true, true, true, true, true, true, true, true, true, true, true, true, true, true, true, true, true, true, false, false, false] rfl rfl (any_of HT_.out (by kernel_rfl)) (fun _ _ _ h => h) (Or.inr ⟨by rfl, rfl⟩) ?_ ?_
    rotate_left
    ·simp only [Act.put, List.setIfInBounds_toArray, List.set_cons_zero, List.set_cons_succ, i64_w, i32_w]
     rfl
    refine pure_ (i := 25) (N := some 62) (v := undef) (a' := ?_) #[true, true, true, true, true, true, true, true, true, true, true, true, true, true, true, true, true, true, true, true, true, true, true, true, true, true, false, false] rfl rfl (any_of HT_.out (by kernel_rfl)) (fun _ _ _ h => h) (Or.inr ⟨by rfl, rfl⟩) ?_ ?_
    rotate_left
    ·simp only [Act.put, List.setIfInBounds_toArray, List.set_cons_zero, List.set_cons_succ, i64_w, i32_w]
     rfl
    refine pure_ (i := 26) (N := some 63) (v := ?_) (a' := ?_) #[true, true, true, true, true, true, true, true, true, true, true, true, true, true, true, true, true, true, true, true, true, true, true, true, true, true, true, false] rfl rfl (any_of HT_.out (by kernel_rfl)) (fun _ _ _ h => h) (Or.inl ⟨by rfl, ?_⟩) ?_ ?_
    rotate_left
    ·intro w'
     go_simp
     with_reducible rfl
    rotate_left
    ·simp only [Act.put, List.setIfInBounds_toArray, List.set_cons_zero, List.set_cons_succ, i64_w, i32_w]
     rfl
    refine pure_ (i := 27) (N := some 6) (v := ?_) (a' := ?_) #[true, true, true, true, true, true, true, true, true, true, true, true, true, true, true, true, true, true, true, true, true, true, true, true, true, true, true, true] rfl rfl (any_of HT_.out (by kernel_rfl)) (fun _ _ _ h => h) (Or.inl ⟨by rfl, ?_⟩) ?_ ?_
    rotate_left
    ·intro w'
     go_simp
     with_reducible rfl
    rotate_left
    ·simp only [Act.put, List.setIfInBounds_toArray, List.set_cons_zero, List.set_cons_succ, i64_w, i32_w]
     rfl
    refine done_ (done_of HT_.out (by kernel_rfl)) ?_
    try go_wp2
    go_ret
    exact ⟨by first | rfl | (simp [*, errW_none, errW_some] <;> rfl), HB.out⟩
  ·replace c87 := Bool.eq_false_iff.mpr c87
   subst c87
   replace H : (some false) = some r := by rw [if_neg (show ¬ (false = true) by decide)] at H; exact H
   obtain rfl := Option.some.inj H
   go_enter Tryd.func30, Tryd.ntmps30
   try go_wp2_with (first | ((with_reducible refine gate_callee (f := 62) rfl ?_); refine goesL_ (some 15) rfl rfl Tryd.func62 (by kernel_rfl) rfl #[.string a0] rfl (by (try simp only [List.map_toArray, List.map_cons, List.map_nil]); rfl) ?_; (with_reducible refine (impl_setOf.calls a0 t782 t785 false _ A4.out).mono ?_); rintro e w186 ⟨v783, v786, rfl, ho0, ho1, hb⟩; refine ⟨_, rfl, ?_⟩; have HO784 := Aside0.mk (Kd.R_lower ho0 (below_size HB.out)); have HO787 := Aside0.mk (Kd.R_lower ho1 (below_size HB.out)); replace HB := Aside0.mk (below_step HB.out hb); (try clear hb); (try clear ho0); (try clear ho1)) | ((with_reducible refine gate_dst (N := 7) rfl ?_); (try (refine gate_guard (by rfl) ?_; dsimp only)); refine box_event ?hg (N := 7) ?hd (cs := #[.slice none 0 0, .slice none 0 0]) (t := 49) ?hr ?_; (case hd => rfl); (case hg => rfl); (case hr => first | (go_simp; done)); intro gb789 hg w187 hbox hb; replace HO784 := Aside0.mk (Kd.R_below HO784.out hb); replace HO787 := Aside0.mk (Kd.R_below HO787.out hb); have BK789 := Aside0.mk hbox; have GW789 := Aside0.mk ((by rw [hg]; exact (below_size HB.out) : w.heap.size ≤ gb789)); have GE789 := Aside0.mk ((by rw [hg]; exact (below_size HB.out) : w.heap.size ≤ gb789)); replace HB := Aside0.mk (below_step HB.out hb); clear hb hbox hg; obtain ⟨Ao188, co188, eo188⟩ := Kd.R_slice HO784.out; subst eo188; have hcz189_0 : w187.cell? ⟨gb789, 0, none⟩ = some (.slice none 0 0) := (blk_cell BK789.out 0).trans rfl; have hcz189_1 : w187.cell? ⟨gb789, 1, none⟩ = some (.slice none 0 0) := (blk_cell BK789.out 1).trans rfl; have hfz189_0 := blk_frozen BK789.out 0; have hfz189_1 := blk_frozen BK789.out 1; obtain ⟨Ao190, co190, eo190⟩ := Kd.R_slice HO787.out; subst eo190) | ((with_reducible refine gate_callee (f := 62) rfl ?_); refine goesL_ (some 20) rfl rfl Tryd.func62 (by kernel_rfl) rfl #[.string a1] rfl (by (try simp only [List.map_toArray, List.map_cons, List.map_nil]); rfl) ?_; (with_reducible refine (impl_setOf.calls a1 t790 t793 t796 _ A5.out).mono ?_); rintro e w191 ⟨v791, v794, rfl, ho0, ho1, hb⟩; refine ⟨_, rfl, ?_⟩; have HO792 := Aside0.mk (Kd.R_lower (Kd.R_new' (Kd.R_new' ho0 (Kd.R_lt (by exact (Kd.R_mono (Kd.R_far (p := ⟨gb789, 1, none⟩) (Kd.R_far (p := ⟨gb789, 0, none⟩) (Kd.R_types HO784.out BK789.out (by decide)) (fun _ hk => hk.2) (.slice Ao188 t782.length co188)) (fun _ hk => hk.2) (.slice Ao190 t785.length co190)) (fun _ h_ => h_.1))))) (Kd.R_lt (by exact (Kd.R_mono (Kd.R_far (p := ⟨gb789, 1, none⟩) (Kd.R_far (p := ⟨gb789, 0, none⟩) (Kd.R_types HO787.out BK789.out (by decide)) (fun _ hk => hk.2) (.slice Ao188 t782.length co188)) (fun _ hk => hk.2) (.slice Ao190 t785.length co190)) (fun _ h_ => h_.1))))) (below_size (by repeat (first | (with_reducible first | exact HB.out | refine below_set ?_ GE789.out))))); have HO795 := Aside0.mk (Kd.R_lower (Kd.R_new' (Kd.R_new' ho1 (Kd.R_lt (by exact (Kd.R_mono (Kd.R_far (p := ⟨gb789, 1, none⟩) (Kd.R_far (p := ⟨gb789, 0, none⟩) (Kd.R_types HO784.out BK789.out (by decide)) (fun _ hk => hk.2) (.slice Ao188 t782.length co188)) (fun _ hk => hk.2) (.slice Ao190 t785.length co190)) (fun _ h_ => h_.1))))) (Kd.R_lt (by exact (Kd.R_mono (Kd.R_far (p := ⟨gb789, 1, none⟩) (Kd.R_far (p := ⟨gb789, 0, none⟩) (Kd.R_types HO787.out BK789.out (by decide)) (fun _ hk => hk.2) (.slice Ao188 t782.length co188)) (fun _ hk => hk.2) (.slice Ao190 t785.length co190)) (fun _ h_ => h_.1))))) (below_size (by repeat (first | (with_reducible first | exact HB.out | refine below_set ?_ GE789.out))))); replace HO784 := Aside0.mk (Kd.R_mono (Kd.R_told (Kd.R_told (Kd.R_old (by exact (Kd.R_mono (Kd.R_far (p := ⟨gb789, 1, none⟩) (Kd.R_far (p := ⟨gb789, 0, none⟩) (Kd.R_types HO784.out BK789.out (by decide)) (fun _ hk => hk.2) (.slice Ao188 t782.length co188)) (fun _ hk => hk.2) (.slice Ao190 t785.length co190)) (fun _ h_ => h_.1))) hb) (Kd.R_base ho0)) (Kd.R_base ho1)) (fun _ h_ => h_.1)); replace HO787 := Aside0.mk (Kd.R_mono (Kd.R_told (Kd.R_told (Kd.R_old (by exact (Kd.R_mono (Kd.R_far (p := ⟨gb789, 1, none⟩) (Kd.R_far (p := ⟨gb789, 0, none⟩) (Kd.R_types HO787.out BK789.out (by decide)) (fun _ hk => hk.2) (.slice Ao188 t782.length co188)) (fun _ hk => hk.2) (.slice Ao190 t785.length co190)) (fun _ h_ => h_.1))) hb) (Kd.R_base ho0)) (Kd.R_base ho1)) (fun _ h_ => h_.1)); replace BK789 := Aside0.mk (blk_below (g := gb789) (o := .cells #[.slice Ao188 t782.length co188, .slice Ao190 t785.length co190] 49 (0, 0)) (by refine blk_put (cs := #[.slice Ao188 t782.length co188, .slice none 0 0]) ?_ 1 _ rfl; refine blk_put (cs := #[.slice none 0 0, .slice none 0 0]) ?_ 0 _ rfl; exact BK789.out) hb); replace HB := Aside0.mk (below_step (by repeat (first | (with_reducible first | exact HB.out | refine below_set ?_ GE789.out))) hb); (try clear hb); (try clear ho0); (try clear ho1)) | ((with_reducible refine gate_dst (N := 9) rfl ?_); (try (refine gate_guard (by rfl) ?_; dsimp only)); refine box_event ?hg (N := 9) ?hd (cs := #[.slice none 0 0, .slice none 0 0]) (t := 49) ?hr ?_; (case hd => rfl); (case hg => rfl); (case hr => first | (go_simp; done)); intro gb797 hg w192 hbox hb; replace HO784 := Aside0.mk (Kd.R_below HO784.out hb); replace HO787 := Aside0.mk (Kd.R_below HO787.out hb); replace HO792 := Aside0.mk (Kd.R_below HO792.out hb); replace HO795 := Aside0.mk (Kd.R_below HO795.out hb); have BK797 := Aside0.mk hbox; have GW797 := Aside0.mk ((by rw [hg]; exact (below_size HB.out) : w.heap.size ≤ gb797)); have GE797 := Aside0.mk ((by rw [hg]; exact (below_size HB.out) : w.heap.size ≤ gb797)); replace HB := Aside0.mk (below_step HB.out hb); have NB789_797 := Aside0.mk ((by rw [hg]; exact Nat.ne_of_lt (blk_lt (g := gb789) (o := .cells #[.slice Ao188 t782.length co188, .slice Ao190 t785.length co190] 49 (0, 0)) BK789.out) : gb789 ≠ gb797)); have NB797_789 := Aside0.mk ((by rw [hg]; exact Nat.ne_of_gt (blk_lt (g := gb789) (o := .cells #[.slice Ao188 t782.length co188, .slice Ao190 t785.length co190] 49 (0, 0)) BK789.out) : gb797 ≠ gb789)); replace BK789 := Aside0.mk (blk_below (g := gb789) (o := .cells #[.slice Ao188 t782.length co188, .slice Ao190 t785.length co190] 49 (0, 0)) BK789.out hb); clear hb hbox hg; obtain ⟨Ao193, co193, eo193⟩ := Kd.R_slice HO792.out; subst eo193; have hnb194 := NB797_789.out; have hnc194 := NB789_797.out; have hcz195_0 : w192.cell? ⟨gb797, 0, none⟩ = some (.slice none 0 0) := (blk_cell BK797.out 0).trans rfl; have hcz195_1 : w192.cell? ⟨gb797, 1, none⟩ = some (.slice none 0 0) := (blk_cell BK797.out 1).trans rfl; have hfz195_0 := blk_frozen BK797.out 0; have hfz195_1 := blk_frozen BK797.out 1; obtain ⟨Ao196, co196, eo196⟩ := Kd.R_slice HO795.out; subst eo196) | ((with_reducible refine gate_callee (f := 48) rfl ?_); refine goesL_ (some 25) rfl rfl Tryd.func48 (by kernel_rfl) rfl #[.string a2, .string (⟨#[102, 105, 114, 115, 116]⟩ : ByteArray)] rfl (by (try simp only [List.map_toArray, List.map_cons, List.map_nil]); rfl) ?_; (with_reducible refine (impl_numbersOf.calls a2 (⟨#[102, 105, 114, 115, 116]⟩ : ByteArray) t798 false _ A6.out (GlobN.below hG (by repeat (first | (with_reducible first | exact HB.out | refine below_set ?_ GE797.out))))).mono ?_); rintro e w197 ⟨v800, rfl, ho0, hb⟩; refine ⟨_, rfl, ?_⟩; replace HO784 := Aside0.mk (Kd.R_below (by exact (Kd.R_mono (Kd.R_far (p := ⟨gb797, 1, none⟩) (Kd.R_far (p := ⟨gb797, 0, none⟩) (Kd.R_types HO784.out BK797.out (by decide)) (fun _ hk => hk.2) (.slice Ao193 t790.length co193)) (fun _ hk => hk.2) (.slice Ao196 t793.length co196)) (fun _ h_ => h_.1))) hb); replace HO787 := Aside0.mk (Kd.R_below (by exact (Kd.R_mono (Kd.R_far (p := ⟨gb797, 1, none⟩) (Kd.R_far (p := ⟨gb797, 0, none⟩) (Kd.R_types HO787.out BK797.out (by decide)) (fun _ hk => hk.2) (.slice Ao193 t790.length co193)) (fun _ hk => hk.2) (.slice Ao196 t793.length co196)) (fun _ h_ => h_.1))) hb); replace HO792 := Aside0.mk (Kd.R_below (by exact (Kd.R_mono (Kd.R_far (p := ⟨gb797, 1, none⟩) (Kd.R_far (p := ⟨gb797, 0, none⟩) (Kd.R_types HO792.out BK797.out (by decide)) (fun _ hk => hk.2) (.slice Ao193 t790.length co193)) (fun _ hk => hk.2) (.slice Ao196 t793.length co196)) (fun _ h_ => h_.1))) hb); replace HO795 := Aside0.mk (Kd.R_below (by exact (Kd.R_mono (Kd.R_far (p := ⟨gb797, 1, none⟩) (Kd.R_far (p := ⟨gb797, 0, none⟩) (Kd.R_types HO795.out BK797.out (by decide)) (fun _ hk => hk.2) (.slice Ao193 t790.length co193)) (fun _ hk => hk.2) (.slice Ao196 t793.length co196)) (fun _ h_ => h_.1))) hb); have HO801 := Aside0.mk (Kd.R_lower ho0 (below_size (by repeat (first | (with_reducible first | exact HB.out | refine below_set ?_ GE797.out))))); replace BK789 := Aside0.mk (blk_below (g := gb789) (o := .cells #[.slice Ao188 t782.length co188, .slice Ao190 t785.length co190] 49 (0, 0)) (by refine blk_far ?_ NB789_797.out _; refine blk_far ?_ NB789_797.out _; exact BK789.out) hb); replace BK797 := Aside0.mk (blk_below (g := gb797) (o := .cells #[.slice Ao193 t790.length co193, .slice Ao196 t793.length co196] 49 (0, 0)) (by refine blk_put (cs := #[.slice Ao193 t790.length co193, .slice none 0 0]) ?_ 1 _ rfl; refine blk_put (cs := #[.slice none 0 0, .slice none 0 0]) ?_ 0 _ rfl; exact BK797.out) hb); replace HB := Aside0.mk (below_step (by repeat (first | (with_reducible first | exact HB.out | refine below_set ?_ GE797.out))) hb); (try clear hb); (try clear ho0)) | ((with_reducible refine gate_callee (f := 48) rfl ?_); refine goesL_ (some 32) rfl rfl Tryd.func48 (by kernel_rfl) rfl #[.string a2, .string (⟨#[115, 101, 99, 111, 110, 100]⟩ : ByteArray)] rfl (by (try simp only [List.map_toArray, List.map_cons, List.map_nil]); rfl) ?_; (with_reducible refine (impl_numbersOf.calls a2 (⟨#[115, 101, 99, 111, 110, 100]⟩ : ByteArray) t806 t807 _ A86.out (GlobN.below hG HB.out)).mono ?_); rintro e w198 ⟨v808, rfl, ho0, hb⟩; refine ⟨_, rfl, ?_⟩; replace HO784 := Aside0.mk (Kd.R_below HO784.out hb); replace HO787 := Aside0.mk (Kd.R_below HO787.out hb); replace HO792 := Aside0.mk (Kd.R_below HO792.out hb); replace HO795 := Aside0.mk (Kd.R_below HO795.out hb); have HO809 := Aside0.mk (Kd.R_lower (Kd.R_new' ho0 (Kd.R_lt HO801.out)) (below_size HB.out)); replace HO801 := Aside0.mk (Kd.R_elder' HO801.out (Kd.R_base ho0) hb); replace BK789 := Aside0.mk (blk_below (g := gb789) (o := .cells #[.slice Ao188 t782.length co188, .slice Ao190 t785.length co190] 49 (0, 0)) BK789.out hb); replace BK797 := Aside0.mk (blk_below (g := gb797) (o := .cells #[.slice Ao193 t790.length co193, .slice Ao196 t793.length co196] 49 (0, 0)) BK797.out hb); replace HB := Aside0.mk (below_step HB.out hb); (try clear hb); (try clear ho0); have hcz199_0 : w198.cell? ⟨gb797, 0, none⟩ = some (.slice Ao193 t790.length co193) := (blk_cell BK797.out 0).trans rfl; have hcz199_1 : w198.cell? ⟨gb797, 1, none⟩ = some (.slice Ao196 t793.length co196) := (blk_cell BK797.out 1).trans rfl; have hfz199_0 := blk_frozen BK797.out 0; have hfz199_1 := blk_frozen BK797.out 1; have hcz200_0 : w198.cell? ⟨gb789, 0, none⟩ = some (.slice Ao188 t782.length co188) := (blk_cell BK789.out 0).trans rfl; have hcz200_1 : w198.cell? ⟨gb789, 1, none⟩ = some (.slice Ao190 t785.length co190) := (blk_cell BK789.out 1).trans rfl; have hfz200_0 := blk_frozen BK789.out 0; have hfz200_1 := blk_frozen BK789.out 1))
   have n0_ : Aside0 (Kd.R Kd.bool 4 ((((w198.setCell ⟨gb789, 0, none⟩ (.slice Ao193 t790.length co193)).setCell ⟨gb789, 1, none⟩ (.slice Ao196 t793.length co196)).setCell ⟨gb797, 0, none⟩ (.slice Ao188 t782.length co188)).setCell ⟨gb797, 1, none⟩ (.slice Ao190 t785.length co190)) w.heap.size (fun k_ => some k_ ≠ (.slice Ao190 t785.length co190 : Value).ownBlock ∧ some k_ ≠ (.slice Ao193 t790.length co193 : Value).ownBlock ∧ some k_ ≠ (.slice Ao196 t793.length co196 : Value).ownBlock) (.slice Ao188 t782.length co188) t782) := ⟨by exact Kd.R_mono (Kd.R_far (p := ⟨gb797, 1, none⟩) (Kd.R_far (p := ⟨gb797, 0, none⟩) (Kd.R_far (p := ⟨gb789, 1, none⟩) (Kd.R_far (p := ⟨gb789, 0, none⟩) (Kd.R_types (Kd.R_types HO784.out BK789.out (by decide)) BK797.out (by decide)) (fun _ hk => hk.1.2) (.slice Ao193 t790.length co193)) (fun _ hk => hk.1.2) (.slice Ao196 t793.length co196)) (fun _ hk => hk.2) (.slice Ao188 t782.length co188)) (fun _ hk => hk.2) (.slice Ao190 t785.length co190)) (fun _ hk => ⟨hk.1.1.1.1, ⟨hk.1.1.1.2, hk.1.1.2⟩⟩)⟩
   have n1_ : Aside0 (Kd.R Kd.bool 4 ((((w198.setCell ⟨gb789, 0, none⟩ (.slice Ao193 t790.length co193)).setCell ⟨gb789, 1, none⟩ (.slice Ao196 t793.length co196)).setCell ⟨gb797, 0, none⟩ (.slice Ao188 t782.length co188)).setCell ⟨gb797, 1, none⟩ (.slice Ao190 t785.length co190)) w.heap.size (fun k_ => some k_ ≠ (.slice Ao188 t782.length co188 : Value).ownBlock ∧ some k_ ≠ (.slice Ao193 t790.length co193 : Value).ownBlock ∧ some k_ ≠ (.slice Ao196 t793.length co196 : Value).ownBlock) (.slice Ao190 t785.length co190) t785) := ⟨by exact Kd.R_mono (Kd.R_far (p := ⟨gb797, 1, none⟩) (Kd.R_far (p := ⟨gb797, 0, none⟩) (Kd.R_far (p := ⟨gb789, 1, none⟩) (Kd.R_far (p := ⟨gb789, 0, none⟩) (Kd.R_types (Kd.R_types HO787.out BK789.out (by decide)) BK797.out (by decide)) (fun _ hk => hk.1.2) (.slice Ao193 t790.length co193)) (fun _ hk => hk.1.2) (.slice Ao196 t793.length co196)) (fun _ hk => hk.2) (.slice Ao188 t782.length co188)) (fun _ hk => hk.2) (.slice Ao190 t785.length co190)) (fun _ hk => ⟨hk.1.1.1.1, ⟨hk.1.1.1.2, hk.1.1.2⟩⟩)⟩
   have n2_ : Aside0 (Kd.R Kd.bool 4 ((((w198.setCell ⟨gb789, 0, none⟩ (.slice Ao193 t790.length co193)).setCell ⟨gb789, 1, none⟩ (.slice Ao196 t793.length co196)).setCell ⟨gb797, 0, none⟩ (.slice Ao188 t782.length co188)).setCell ⟨gb797, 1, none⟩ (.slice Ao190 t785.length co190)) w.heap.size (fun k_ => some k_ ≠ (.slice Ao188 t782.length co188 : Value).ownBlock ∧ some k_ ≠ (.slice Ao190 t785.length co190 : Value).ownBlock ∧ some k_ ≠ (.slice Ao196 t793.length co196 : Value).ownBlock) (.slice Ao193 t790.length co193) t790) := ⟨by exact Kd.R_mono (Kd.R_far (p := ⟨gb797, 1, none⟩) (Kd.R_far (p := ⟨gb797, 0, none⟩) (Kd.R_far (p := ⟨gb789, 1, none⟩) (Kd.R_far (p := ⟨gb789, 0, none⟩) (Kd.R_types (Kd.R_types HO792.out BK789.out (by decide)) BK797.out (by decide)) (fun _ hk => hk.1.2) (.slice Ao193 t790.length co193)) (fun _ hk => hk.1.2) (.slice Ao196 t793.length co196)) (fun _ hk => hk.2) (.slice Ao188 t782.length co188)) (fun _ hk => hk.2) (.slice Ao190 t785.length co190)) (fun _ hk => ⟨hk.1.1.1.2, ⟨hk.1.1.2, hk.1.1.1.1⟩⟩)⟩
   have n3_ : Aside0 (Kd.R Kd.bool 4 ((((w198.setCell ⟨gb789, 0, none⟩ (.slice Ao193 t790.length co193)).setCell ⟨gb789, 1, none⟩ (.slice Ao196 t793.length co196)).setCell ⟨gb797, 0, none⟩ (.slice Ao188 t782.length co188)).setCell ⟨gb797, 1, none⟩ (.slice Ao190 t785.length co190)) w.heap.size (fun k_ => some k_ ≠ (.slice Ao188 t782.length co188 : Value).ownBlock ∧ some k_ ≠ (.slice Ao190 t785.length co190 : Value).ownBlock ∧ some k_ ≠ (.slice Ao193 t790.length co193 : Value).ownBlock) (.slice Ao196 t793.length co196) t793) := ⟨by exact Kd.R_mono (Kd.R_far (p := ⟨gb797, 1, none⟩) (Kd.R_far (p := ⟨gb797, 0, none⟩) (Kd.R_far (p := ⟨gb789, 1, none⟩) (Kd.R_far (p := ⟨gb789, 0, none⟩) (Kd.R_types (Kd.R_types HO795.out BK789.out (by decide)) BK797.out (by decide)) (fun _ hk => hk.1.2) (.slice Ao193 t790.length co193)) (fun _ hk => hk.1.2) (.slice Ao196 t793.length co196)) (fun _ hk => hk.2) (.slice Ao188 t782.length co188)) (fun _ hk => hk.2) (.slice Ao190 t785.length co190)) (fun _ hk => ⟨hk.1.1.1.2, ⟨hk.1.1.2, hk.1.1.1.1⟩⟩)⟩
   have n4_ : Aside0 (Kd.R (Kd.int .i64) 3 ((((w198.setCell ⟨gb789, 0, none⟩ (.slice Ao193 t790.length co193)).setCell ⟨gb789, 1, none⟩ (.slice Ao196 t793.length co196)).setCell ⟨gb797, 0, none⟩ (.slice Ao188 t782.length co188)).setCell ⟨gb797, 1, none⟩ (.slice Ao190 t785.length co190)) w.heap.size (fun k_ => some k_ ≠ (v808 : Value).ownBlock) v800 t798) := ⟨by exact Kd.R_mono (Kd.R_far (p := ⟨gb797, 1, none⟩) (Kd.R_far (p := ⟨gb797, 0, none⟩) (Kd.R_far (p := ⟨gb789, 1, none⟩) (Kd.R_far (p := ⟨gb789, 0, none⟩) (Kd.R_types (Kd.R_types HO801.out BK789.out (by decide)) BK797.out (by decide)) (fun _ hk => hk.1.2) (.slice Ao193 t790.length co193)) (fun _ hk => hk.1.2) (.slice Ao196 t793.length co196)) (fun _ hk => hk.2) (.slice Ao188 t782.length co188)) (fun _ hk => hk.2) (.slice Ao190 t785.length co190)) (fun _ hk => hk.1.1.2)⟩
   have n5_ : Aside0 (Kd.R (Kd.int .i64) 3 ((((w198.setCell ⟨gb789, 0, none⟩ (.slice Ao193 t790.length co193)).setCell ⟨gb789, 1, none⟩ (.slice Ao196 t793.length co196)).setCell ⟨gb797, 0, none⟩ (.slice Ao188 t782.length co188)).setCell ⟨gb797, 1, none⟩ (.slice Ao190 t785.length co190)) w.heap.size (fun k_ => some k_ ≠ (v800 : Value).ownBlock) v808 t806) := ⟨by exact Kd.R_mono (Kd.R_far (p := ⟨gb797, 1, none⟩) (Kd.R_far (p := ⟨gb797, 0, none⟩) (Kd.R_far (p := ⟨gb789, 1, none⟩) (Kd.R_far (p := ⟨gb789, 0, none⟩) (Kd.R_types (Kd.R_types HO809.out BK789.out (by decide)) BK797.out (by decide)) (fun _ hk => hk.1.2) (.slice Ao193 t790.length co193)) (fun _ hk => hk.1.2) (.slice Ao196 t793.length co196)) (fun _ hk => hk.2) (.slice Ao188 t782.length co188)) (fun _ hk => hk.2) (.slice Ao190 t785.length co190)) (fun _ hk => hk.1.1.2)⟩
   have n6_ : Aside0 (((((w198.setCell ⟨gb789, 0, none⟩ (.slice Ao193 t790.length co193)).setCell ⟨gb789, 1, none⟩ (.slice Ao196 t793.length co196)).setCell ⟨gb797, 0, none⟩ (.slice Ao188 t782.length co188)).setCell ⟨gb797, 1, none⟩ (.slice Ao190 t785.length co190)).heap[gb789]? = some (.cells #[.slice Ao193 t790.length co193, .slice Ao196 t793.length co196] 49 (0, 0))) := ⟨by refine blk_far ?_ NB789_797.out _; refine blk_far ?_ NB789_797.out _; refine blk_put (cs := #[.slice Ao193 t790.length co193, .slice Ao190 t785.length co190]) ?_ 1 _ rfl; refine blk_put (cs := #[.slice Ao188 t782.length co188, .slice Ao190 t785.length co190]) ?_ 0 _ rfl; exact BK789.out⟩
   have n7_ : Aside0 (((((w198.setCell ⟨gb789, 0, none⟩ (.slice Ao193 t790.length co193)).setCell ⟨gb789, 1, none⟩ (.slice Ao196 t793.length co196)).setCell ⟨gb797, 0, none⟩ (.slice Ao188 t782.length co188)).setCell ⟨gb797, 1, none⟩ (.slice Ao190 t785.length co190)).heap[gb797]? = some (.cells #[.slice Ao188 t782.length co188, .slice Ao190 t785.length co190] 49 (0, 0))) := ⟨by refine blk_put (cs := #[.slice Ao188 t782.length co188, .slice Ao196 t793.length co196]) ?_ 1 _ rfl; refine blk_put (cs := #[.slice Ao193 t790.length co193, .slice Ao196 t793.length co196]) ?_ 0 _ rfl; refine blk_far ?_ NB797_789.out _; refine blk_far ?_ NB797_789.out _; exact BK797.out⟩
   have n8_ : Aside0 (Below w.heap.size w ((((w198.setCell ⟨gb789, 0, none⟩ (.slice Ao193 t790.length co193)).setCell ⟨gb789, 1, none⟩ (.slice Ao196 t793.length co196)).setCell ⟨gb797, 0, none⟩ (.slice Ao188 t782.length co188)).setCell ⟨gb797, 1, none⟩ (.slice Ao190 t785.length co190))) := ⟨by repeat (first | (with_reducible first | exact HB.out | refine below_set ?_ GE789.out | refine below_set ?_ GE797.out))⟩
   (try clear HO784)
   (try clear HO787)
   (try clear HO792)
   (try clear HO795)
   (try clear HO801)
   (try clear HO809)
   (try clear BK789)
   (try clear BK797)
   (try clear HB)
   generalize ((((w198.setCell ⟨gb789, 0, none⟩ (.slice Ao193 t790.length co193)).setCell ⟨gb789, 1, none⟩ (.slice Ao196 t793.length co196)).setCell ⟨gb797, 0, none⟩ (.slice Ao188 t782.length co188)).setCell ⟨gb797, 1, none⟩ (.slice Ao190 t785.length co190)) = w201 at n0_ n1_ n2_ n3_ n4_ n5_ n6_ n7_ n8_ ⊢
   have HO784 := n0_
   have HO787 := n1_
   have HO792 := n2_
   have HO795 := n3_
   have HO801 := n4_
   have HO809 := n5_
   have BK789 := n6_
   have BK797 := n7_
   have HB := n8_
   clear n0_ n1_ n2_ n3_ n4_ n5_ n6_ n7_ n8_
   replace HO784 := Aside0.mk (Kd.R_drew HO784.out)
   replace HO787 := Aside0.mk (Kd.R_drew HO787.out)
   replace HO792 := Aside0.mk (Kd.R_drew HO792.out)
   replace HO795 := Aside0.mk (Kd.R_drew HO795.out)
   replace HO801 := Aside0.mk (Kd.R_drew HO801.out)
   replace HO809 := Aside0.mk (Kd.R_drew HO809.out)
   replace BK789 := Aside0.mk (blk_drew BK789.out)
   replace BK797 := Aside0.mk (blk_drew BK797.out)
   replace HB := Aside0.mk (below_drew1 HB.out)
   refine start_ (n := 28) (S := fun w' => True) (ds := []) #[false, false, false, false, false, false, false, false, false, false, false, false, false, false, false, false, false, false, false, false, false, false, false, false, false, false, false, false] (by kernel_rfl) rfl rfl trivial (fun hHeld => ?_); refine with_tabW impl_ProofDifferIs.tab7 impl_ProofDifferIs.bits7 (fun HT_ HW_ => ?_)
   generalize w201.drew = w202 at HO784 HO787 HO792 HO795 HO801 HO809 BK789 BK797 HB hHeld ⊢
   refine pure_ (i := 0) (N := some 37) (v := ?_) (a' := ?_) #[true, false, false, false, false, false, false, false, false, false, false, false, false, false, false, false, false, false, false, false, false, false, false, false, false, false, false, false] rfl rfl (any_of HT_.out (by kernel_rfl)) (fun _ _ _ h => h) (Or.inl ⟨by rfl, ?_⟩) ?_ ?_
   rotate_left
   ·intro w'
    go_simp
    with_reducible rfl
   rotate_left
   ·simp only [Act.put, List.setIfInBounds_toArray, List.set_cons_zero, List.set_cons_succ, i64_w, i32_w]
    rfl
   refine pure_ (i := 1) (N := some 38) (v := ?_) (a' := ?_) #[true, true, false, false, false, false, false, false, false, false, false, false, false, false, false, false, false, false, false, false, false, false, false, false, false, false, false, false] rfl rfl (any_of HT_.out (by kernel_rfl)) (fun _ _ _ h => h) (Or.inl ⟨by rfl, ?_⟩) ?_ ?_
   rotate_left
   ·intro w'
    go_simp
    with_reducible rfl
   rotate_left
   ·simp only [Act.put, List.setIfInBounds_toArray, List.set_cons_zero, List.set_cons_succ, i64_w, i32_w]
    rfl
   refine pure_ (i := 2) (N := some 39) (v := undef) (a' := ?_) #[true, true, true, false, false, false, false, false, false, false, false, false, false, false, false, false, false, false, false, false, false, false, false, false, false, false, false, false] rfl rfl (any_of HT_.out (by kernel_rfl)) (fun _ _ _ h => h) (Or.inr ⟨by rfl, rfl⟩) ?_ ?_
   rotate_left
   ·simp only [Act.put, List.setIfInBounds_toArray, List.set_cons_zero, List.set_cons_succ, i64_w, i32_w]
    rfl
   refine pure_ (i := 3) (N := some 40) (v := ?_) (a' := ?_) #[true, true, true, true, false, false, false, false, false, false, false, false, false, false, false, false, false, false, false, false, false, false, false, false, false, false, false, false] rfl rfl (any_of HT_.out (by kernel_rfl)) (fun _ _ _ h => h) (Or.inl ⟨by rfl, ?_⟩) ?_ ?_
   rotate_left
   ·intro w'
    go_simp
    with_reducible rfl
   rotate_left
   ·simp only [Act.put, List.setIfInBounds_toArray, List.set_cons_zero, List.set_cons_succ, i64_w, i32_w]
    rfl
   refine pure_ (i := 4) (N := some 41) (v := ?_) (a' := ?_) #[true, true, true, true, true, false, false, false, false, false, false, false, false, false, false, false, false, false, false, false, false, false, false, false, false, false, false, false] rfl rfl (any_of HT_.out (by kernel_rfl)) (fun _ _ _ h => h) (Or.inl ⟨by rfl, ?_⟩) ?_ ?_
   rotate_left
   ·intro w'
    go_simp
    with_reducible rfl
   rotate_left
   ·simp only [Act.put, List.setIfInBounds_toArray, List.set_cons_zero, List.set_cons_succ, i64_w, i32_w]
    rfl
   refine pure_ (i := 5) (N := some 42) (v := undef) (a' := ?_) #[true, true, true, true, true, true, false, false, false, false, false, false, false, false, false, false, false, false, false, false, false, false, false, false, false, false, false, false] rfl rfl (any_of HT_.out (by kernel_rfl)) (fun _ _ _ h => h) (Or.inr ⟨by rfl, rfl⟩) ?_ ?_
   rotate_left
   ·simp only [Act.put, List.setIfInBounds_toArray, List.set_cons_zero, List.set_cons_succ, i64_w, i32_w]
    rfl
   refine pure_ (i := 6) (N := some 43) (v := ?_) (a' := ?_) #[true, true, true, true, true, true, true, false, false, false, false, false, false, false, false, false, false, false, false, false, false, false, false, false, false, false, false, false] rfl rfl (any_of HT_.out (by kernel_rfl)) (fun _ _ _ h => h) (Or.inl ⟨by rfl, ?_⟩) ?_ ?_
   rotate_left
   ·intro w'
    go_simp
    with_reducible rfl
   rotate_left
   ·simp only [Act.put, List.setIfInBounds_toArray, List.set_cons_zero, List.set_cons_succ, i64_w, i32_w]
    rfl
   refine pure_ (i := 7) (N := some 44) (v := ?_) (a' := ?_) #[true, true, true, true, true, true, true, true, false, false, false, false, false, false, false, false, false, false, false, false, false, false, false, false, false, false, false, false] rfl rfl (any_of HT_.out (by kernel_rfl)) (fun _ _ _ h => h) (Or.inl ⟨by rfl, ?_⟩) ?_ ?_
   rotate_left
   ·intro w'
    go_simp
    with_reducible rfl
   rotate_left
   ·simp only [Act.put, List.setIfInBounds_toArray, List.set_cons_zero, List.set_cons_succ, i64_w, i32_w]
    rfl
   refine pure_ (i := 8) (N := some 45) (v := undef) (a' := ?_) #[true, true, true, true, true, true, true, true, true, false, false, false, false, false, false, false, false, false, false, false, false, false, false, false, false, false, false, false] rfl rfl (any_of HT_.out (by kernel_rfl)) (fun _ _ _ h => h) (Or.inr ⟨by rfl, rfl⟩) ?_ ?_
   rotate_left
   ·simp only [Act.put, List.setIfInBounds_toArray, List.set_cons_zero, List.set_cons_succ, i64_w, i32_w]
    rfl
   refine pure_ (i := 9) (N := some 46) (v := undef) (a' := ?_) #[true, true, true, true, true, true, true, true, true, true, false, false, false, false, false, false, false, false, false, false, false, false, false, false, false, false, false, false] rfl rfl (any_of HT_.out (by kernel_rfl)) (fun _ _ _ h => h) (Or.inr ⟨by rfl, rfl⟩) ?_ ?_
   rotate_left
   ·simp only [Act.put, List.setIfInBounds_toArray, List.set_cons_zero, List.set_cons_succ, i64_w, i32_w]
    rfl
   refine pure_ (i := 10) (N := some 47) (v := undef) (a' := ?_) #[true, true, true, true, true, true, true, true, true, true, true, false, false, false, false, false, false, false, false, false, false, false, false, false, false, false, false, false] rfl rfl (any_of HT_.out (by kernel_rfl)) (fun _ _ _ h => h) (Or.inr ⟨by rfl, rfl⟩) ?_ ?_
   rotate_left
   ·simp only [Act.put, List.setIfInBounds_toArray, List.set_cons_zero, List.set_cons_succ, i64_w, i32_w]
    rfl
   refine pure_ (i := 11) (N := some 48) (v := ?_) (a' := ?_) #[true, true, true, true, true, true, true, true, true, true, true, true, false, false, false, false, false, false, false, false, false, false, false, false, false, false, false, false] rfl rfl (any_of HT_.out (by kernel_rfl)) (fun _ _ _ h => h) (Or.inl ⟨by rfl, ?_⟩) ?_ ?_
   rotate_left
   ·intro w'
    go_simp
    with_reducible rfl
   rotate_left
   ·simp only [Act.put, List.setIfInBounds_toArray, List.set_cons_zero, List.set_cons_succ, i64_w, i32_w]
    rfl
   refine pure_ (i := 12) (N := some 49) (v := ?_) (a' := ?_) #[true, true, true, true, true, true, true, true, true, true, true, true, true, false, false, false, false, false, false, false, false, false, false, false, false, false, false, false] rfl rfl (any_of HT_.out (by kernel_rfl)) (fun _ _ _ h => h) (Or.inl ⟨by rfl, ?_⟩) ?_ ?_
   rotate_left
   ·intro w'
    go_simp
    with_reducible rfl
   rotate_left
   ·simp only [Act.put, List.setIfInBounds_toArray, List.set_cons_zero, List.set_cons_succ, i64_w, i32_w]
    rfl
   refine pure_ (i := 13) (N := some 50) (v := undef) (a' := ?_) #[true, true, true, true, true, true, true, true, true, true, true, true, true, true, false, false, false, false, false, false, false, false, false, false, false, false, false, false] rfl rfl (any_of HT_.out (by kernel_rfl)) (fun _ _ _ h => h) (Or.inr ⟨by rfl, rfl⟩) ?_ ?_
   rotate_left
   ·simp only [Act.put, List.setIfInBounds_toArray, List.set_cons_zero, List.set_cons_succ, i64_w, i32_w]
    rfl
   refine pure_ (i := 14) (N := some 51) (v := undef) (a' := ?_) #[true, true, true, true, true, true, true, true, true, true, true, true, true, true, true, false, false, false, false, false, false, false, false, false, false, false, false, false] rfl rfl (any_of HT_.out (by kernel_rfl)) (fun _ _ _ h => h) (Or.inr ⟨by rfl, rfl⟩) ?_ ?_
   rotate_left
   ·simp only [Act.put, List.setIfInBounds_toArray, List.set_cons_zero, List.set_cons_succ, i64_w, i32_w]
    rfl
   refine pure_ (i := 15) (N := some 52) (v := undef) (a' := ?_) #[true, true, true, true, true, true, true, true, true, true, true, true, true, true, true, true, false, false, false, false, false, false, false, false, false, false, false, false] rfl rfl (any_of HT_.out (by kernel_rfl)) (fun _ _ _ h => h) (Or.inr ⟨by rfl, rfl⟩) ?_ ?_
   rotate_left
   ·simp only [Act.put, List.setIfInBounds_toArray, List.set_cons_zero, List.set_cons_succ, i64_w, i32_w]
    rfl
   refine pure_ (i := 16) (N := some 53) (v := undef) (a' := ?_) #[true, true, true, true, true, true, true, true, true, true, true, true, true, true, true, true, true, false, false, false, false, false, false, false, false, false, false, false] rfl rfl (any_of HT_.out (by kernel_rfl)) (fun _ _ _ h => h) (Or.inr ⟨by rfl, rfl⟩) ?_ ?_
   rotate_left
   ·simp only [Act.put, List.setIfInBounds_toArray, List.set_cons_zero, List.set_cons_succ, i64_w, i32_w]
    rfl
   refine pure_ (i := 17) (N := some 54) (v := undef) (a' := ?_) #[true, true, true, true, true, true, true, true, true, true, true, true, true, true, true, true, true, true, false, false, false, false, false, false, false, false, false, false] rfl rfl (any_of HT_.out (by kernel_rfl)) (fun _ _ _ h => h) (Or.inr ⟨by rfl, rfl⟩) ?_ ?_
   rotate_left
   ·simp only [Act.put, List.setIfInBounds_toArray, List.set_cons_zero, List.set_cons_succ, i64_w, i32_w]
    rfl
   refine pure_ (i := 18) (N := some 55) (v := ?_) (a' := ?_) #[true, true, true, true, true, true, true, true, true, true, true, true, true, true, true, true, true, true, true, false, false, false, false, false, false, false, false, false] rfl rfl (any_of HT_.out (by kernel_rfl)) (fun _ _ _ h => h) (Or.inl ⟨by rfl, ?_⟩) ?_ ?_
   rotate_left
   ·intro w'
    go_simp
    with_reducible rfl
   rotate_left
   ·simp only [Act.put, List.setIfInBounds_toArray, List.set_cons_zero, List.set_cons_succ, i64_w, i32_w]
    rfl
   refine pure_ (i := 19) (N := some 56) (v := ?_) (a' := ?_) #[true, true, true, true, true, true, true, true, true, true, true, true, true, true, true, true, true, true, true, true, false, false, false, false, false, false, false, false] rfl rfl (any_of HT_.out (by kernel_rfl)) (fun _ _ _ h => h) (Or.inl ⟨by rfl, ?_⟩) ?_ ?_
   rotate_left
   ·intro w'
    go_simp
    with_reducible rfl
   rotate_left
   ·simp only [Act.put, List.setIfInBounds_toArray, List.set_cons_zero, List.set_cons_succ, i64_w, i32_w]
    rfl
   refine pure_ (i := 20) (N := some 57) (v := undef) (a' := ?_) #[true, true, true, true, true, true, true, true, true, true, true, true, true, true, true, true, true, true, true, true, true, false, false, false, false, false, false, false] rfl rfl (any_of HT_.out (by kernel_rfl)) (fun _ _ _ h => h) (Or.inr ⟨by rfl, rfl⟩) ?_ ?_
   rotate_left
   ·simp only [Act.put, List.setIfInBounds_toArray, List.set_cons_zero, List.set_cons_succ, i64_w, i32_w]
    rfl
   refine pure_ (i := 21) (N := some 58) (v := undef) (a' := ?_) #[true, true, true, true, true, true, true, true, true, true, true, true, true, true, true, true, true, true, true, true, true, true, false, false, false, false, false, false] rfl rfl (any_of HT_.out (by kernel_rfl)) (fun _ _ _ h => h) (Or.inr ⟨by rfl, rfl⟩) ?_ ?_
   rotate_left
   ·simp only [Act.put, List.setIfInBounds_toArray, List.set_cons_zero, List.set_cons_succ, i64_w, i32_w]
    rfl
   refine pure_ (i := 22) (N := some 59) (v := undef) (a' := ?_) #[true, true, true, true, true, true, true, true, true, true, true, true, true, true, true, true, true, true, true, true, true, true, true, false, false, false, false, false] rfl rfl (any_of HT_.out (by kernel_rfl)) (fun _ _ _ h => h) (Or.inr ⟨by rfl, rfl⟩) ?_ ?_
   rotate_left
   ·simp only [Act.put, List.setIfInBounds_toArray, List.set_cons_zero, List.set_cons_succ, i64_w, i32_w]
    rfl
   refine pure_ (i := 23) (N := some 60) (v := undef) (a' := ?_) #[true, true, true, true, true, true, true, true, true, true, true, true, true, true, true, true, true, true, true, true, true, true, true, true, false, false, false, false] rfl rfl (any_of HT_.out (by kernel_rfl)) (fun _ _ _ h => h) (Or.inr ⟨by rfl, rfl⟩) ?_ ?_
   rotate_left
   ·simp only [Act.put, List.setIfInBounds_toArray, List.set_cons_zero, List.set_cons_succ, i64_w, i32_w]
    rfl
   refine pure_ (i := 24) (N := some 61) (v := undef) (a' := ?_) #[true, true, true, true, true, true, true, true, true, true, true, true, true, true, true, true, true, true, true, true, true, true, true, true, true, false, false, false] rfl rfl (any_of HT_.out (by kernel_rfl)) (fun _ _ _ h => h) (Or.inr ⟨by rfl, rfl⟩) ?_ ?_
   rotate_left
   ·simp only [Act.put, List.setIfInBounds_toArray, List.set_cons_zero, List.set_cons_succ, i64_w, i32_w]
    rfl
   refine pure_ (i := 25) (N := some 62) (v := undef) (a' := ?_) #[true, true, true, true, true, true, true, true, true, true, true, true, true, true, true, true, true, true, true, true, true, true, true, true, true, true, false, false] rfl rfl (any_of HT_.out (by kernel_rfl)) (fun _ _ _ h => h) (Or.inr ⟨by rfl, rfl⟩) ?_ ?_
   rotate_left
   ·simp only [Act.put, List.setIfInBounds_toArray, List.set_cons_zero, List.set_cons_succ, i64_w, i32_w]
    rfl
   refine pure_ (i := 26) (N := some 63) (v := ?_) (a' := ?_) #[true, true, true, true, true, true, true, true, true, true, true, true, true, true, true, true, true, true, true, true, true, true, true, true, true, true, true, false] rfl rfl (any_of HT_.out (by kernel_rfl)) (fun _ _ _ h => h) (Or.inl ⟨by rfl, ?_⟩) ?_ ?_
   rotate_left
   ·intro w'
    go_simp
    with_reducible rfl
   rotate_left
   ·simp only [Act.put, List.setIfInBounds_toArray, List.set_cons_zero, List.set_cons_succ, i64_w, i32_w]
    rfl
   refine pure_ (i := 27) (N := some 6) (v := ?_) (a' := ?_) #[true, true, true, true, true, true, true, true, true, true, true, true, true, true, true, true, true, true, true, true, true, true, true, true, true, true, true, true] rfl rfl (any_of HT_.out (by kernel_rfl)) (fun _ _ _ h => h) (Or.inl ⟨by rfl, ?_⟩) ?_ ?_
   rotate_left
   ·intro w'
    go_simp
    with_reducible rfl
   rotate_left
   ·simp only [Act.put, List.setIfInBounds_toArray, List.set_cons_zero, List.set_cons_succ, i64_w, i32_w]
    rfl
   refine done_ (done_of HT_.out (by kernel_rfl)) ?_
   try go_wp2
   go_ret
   exact ⟨by first | rfl | (simp [*, errW_none, errW_some] <;> rfl), HB.out⟩
theorem impl_ProofDifferIs.calls (a0 : ByteArray) (a1 : ByteArray) (a2 : ByteArray) (r : Bool) (w : World) (h : impl_ProofDifferIs.f a0 a1 a2 = some r) (hG : GlobN w) :
  Calls Tryd.prog 30 #[.string a0, .string a1, .string a2] w fun e w' => e = .returned (.bool r) ∧ Below w.heap.size w w' := by
 have h2 := h
 unfold impl_ProofDifferIs.f at h2
 obtain ⟨_, _, h2⟩ := Option.bind_eq_some_iff.mp h2
 obtain ⟨_, _, h2⟩ := Option.bind_eq_some_iff.mp h2
 obtain ⟨⟨l_, b_⟩, hl_, _⟩ := Option.bind_eq_some_iff.mp h2
 cases b_ with
 | true => exact impl_ProofDifferIs.calls_yes a0 a1 a2 r w h hG ⟨l_, hl_⟩
 | false => exact impl_ProofDifferIs.calls_no a0 a1 a2 r w h hG ⟨l_, hl_⟩

end Go.Proofs.YtinjblbfaijhdaaDoor.Q

namespace Go.Proofs.YtinjblbfaijhdaaDoor.Q
open Go.RowKit Go.Proofs.YtinjblbfaijhdaaDoorW.PrintWords Go.Proofs.YtinjblbfaijhdaaDoorW.PrintLast Go.Proofs.YtinjblbfaijhdaaDoorW.PrintMore
attribute [local go_sem] max2_int min2_int max_two min_two max_three min_three max_four min_four   -- for this text's walks alone
set_option linter.unusedVariables false
set_option linter.unusedSimpArgs false

end Go.Proofs.YtinjblbfaijhdaaDoor.Q

namespace Go.Proofs.YtinjblbfaijhdaaDoor.Q
open Go.RowKit Go.Proofs.YtinjblbfaijhdaaDoorW.PrintWords Go.Proofs.YtinjblbfaijhdaaDoorW.PrintLast Go.Proofs.YtinjblbfaijhdaaDoorW.PrintMore
attribute [local go_sem] max2_int min2_int max_two min_two max_three min_three max_four min_four   -- for this text's walks alone
set_option linter.unusedVariables false
set_option linter.unusedSimpArgs false
theorem impl_ProofRestIs.elem {W : World} {ad : Addr} {l0 : List Int} {cs : List Value} (hk : (Kd.int IntKind.i64).K W (l0.getD (Int.toNat 0) 0) cs) (hcell : ∀ (j : Nat) (u : Value), cs[j]? = some u → W.cell? (ad.add (Int.toNat 0 * (Kd.int IntKind.i64).sz + j)) = some u) : W.cell? ad = some (.int .i64 (rd l0 0)) := by
 have hk' : cs = [Value.int .i64 (l0.getD (Int.toNat 0) 0)] := hk
 have := hcell 0 (.int .i64 (l0.getD (Int.toNat 0) 0)) (by rw [hk']; rfl)
 rw [show (Int.toNat 0 * (Kd.int IntKind.i64).sz + 0) = 0 from rfl, show ad.add 0 = ad by simp [Addr.add]] at this
 exact this
end Go.Proofs.YtinjblbfaijhdaaDoor.Q
