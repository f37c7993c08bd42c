/- The law FnSolveOne holds for all that it draws. -/
import Derived.Test.YtpkpgdlbgcjloaaCFnSolveOne8
import Derived.Test.YtpkpgdlbgcjloaaCFnSolveOne9
namespace Go.Proofs.Ytpkpgdlbgcjloaa.Q
open Go.RowKit Go.Proofs.YtpkpgdlbgcjloaaW.PrintWords Go.Proofs.YtpkpgdlbgcjloaaW.PrintLast Go.Proofs.YtpkpgdlbgcjloaaW.PrintMore
attribute [local go_sem] max2_int min2_int max_two min_two max_three min_three max_four min_four   -- for this text's walks alone
set_option linter.unusedVariables false
set_option linter.unusedSimpArgs false
mutual
def impl_SolveIs.j0 : Nat → Bool → List Bool → List Bool → List Bool → List Bool → List Bool → List Bool → Option (Bool)
 | 0, _, _, _, _, _, _, _ => none
 | k + 1, x30, x640000, x640001, x641000, x641001, x649000, x649001 => if x30 = true then (some false) else (impl_SolveIs.l0 k 0 x640000 x640001 x641000 x641001 x649000 x649001)
def impl_SolveIs.l0 : Nat → Int → List Bool → List Bool → List Bool → List Bool → List Bool → List Bool → Option (Bool)
 | 0, _, _, _, _, _, _, _ => none
 | k + 1, x31, x640000, x640001, x641000, x641001, x649000, x649001 => if x31 < 400 then ((impl_set_has.f x649000 x649001 x31).bind fun t649 => ((impl_set_has.f x641000 x641001 x31).bind fun t650 => (if t650 = true then (if (t649 != true) = true then (some false) else (impl_SolveIs.l0 k (wrap64 (x31 + 1)) x640000 x640001 x641000 x641001 x649000 x649001)) else ((impl_sums.f k x640000 x640001 x649000 x649001 x31).bind fun t651 => (if (t649 != t651) = true then (some false) else (impl_SolveIs.l0 k (wrap64 (x31 + 1)) x640000 x640001 x641000 x641001 x649000 x649001)))))) else (some true)
end
def impl_SolveIs.f (k : Nat) (a0 : ByteArray) (a1 : ByteArray) (a2 : ByteArray) : Option (Bool) := (impl_two.f k a0 a1).bind fun bt626 => ((impl_small.f k a2).bind fun bt641 => (if bt626.2.2.2.2 = true then (impl_SolveIs.j0 k (!bt641.2.2) bt626.1 bt626.2.1 bt626.2.2.1 bt626.2.2.2.1 bt641.1 bt641.2.1) else (impl_SolveIs.j0 k true bt626.1 bt626.2.1 bt626.2.2.1 bt626.2.2.2.1 bt641.1 bt641.2.1)))
theorem impl_SolveIs.mono_l : ∀ k, (∀ y0 y1 y2 y3 y4 y5 y6, LeO (impl_SolveIs.j0 k y0 y1 y2 y3 y4 y5 y6) (impl_SolveIs.j0 (k + 1) y0 y1 y2 y3 y4 y5 y6)) ∧ (∀ y0 y1 y2 y3 y4 y5 y6, LeO (impl_SolveIs.l0 k y0 y1 y2 y3 y4 y5 y6) (impl_SolveIs.l0 (k + 1) y0 y1 y2 y3 y4 y5 y6))
 | 0 => ⟨fun _ _ _ _ _ _ _ r h => by simp [impl_SolveIs.j0] at h, fun _ _ _ _ _ _ _ r h => by simp [impl_SolveIs.l0] at h⟩
 | k + 1 => by
  obtain ⟨ih0, ih1⟩ := impl_SolveIs.mono_l k
  refine ⟨?_, ?_⟩
  ·intro y0 y1 y2 y3 y4 y5 y6
   unfold impl_SolveIs.j0
   repeat' first | (with_reducible exact ih1 _ _ _ _ _ _ _) | (with_reducible exact LeO.refl _) | (with_reducible refine LeO.ite ?_ ?_)
  ·intro y0 y1 y2 y3 y4 y5 y6
   unfold impl_SolveIs.l0
   repeat' first | (with_reducible exact ih1 _ _ _ _ _ _ _) | (with_reducible exact impl_sums.mono _ _ _ _ _ _) | (with_reducible exact LeO.refl _) | (with_reducible refine LeO.ite ?_ ?_) | (with_reducible refine LeO.bind ?_ (fun _ => ?_))
theorem impl_SolveIs.mono : ∀ a0 a1 a2 k, LeO (impl_SolveIs.f k a0 a1 a2) (impl_SolveIs.f (k + 1) a0 a1 a2) := by
 intro a0 a1 a2 k
 obtain ⟨ih0, ih1⟩ := impl_SolveIs.mono_l k
 unfold impl_SolveIs.f
 repeat' first | (with_reducible exact ih0 _ _ _ _ _ _ _) | (with_reducible exact impl_small.mono _ _) | (with_reducible exact impl_two.mono _ _ _) | (with_reducible refine LeO.ite ?_ ?_) | (with_reducible refine LeO.bind ?_ (fun _ => ?_))
def impl_SolveIs.T8 : Bool × List (List Nat × List Nat) := (true, [([], []), ([], []), ([0, 1], [0, 1]), ([], []), ([], []), ([3, 4, 2], [3, 4]), ([5, 5], [5]), ([6], [6]), ([6], [6]), ([6], [6]), ([7, 8, 9, 6, 6], [6, 7, 8, 9]), ([6, 10], [6, 10]), ([2, 11], [2, 11])])
def impl_SolveIs.B8 : List Nat := [0, 0, 3, 0, 0, 31, 63, 127, 127, 127, 1023, 2047, 4095]
theorem impl_SolveIs.tab8 : rtab .any (opsOf Try.f20 8) = impl_SolveIs.T8 := by kernel_rfl
theorem impl_SolveIs.bits8 : waitsOk impl_SolveIs.T8.2 impl_SolveIs.B8 = true := by kernel_rfl
set_option maxHeartbeats 8000000 in
set_option maxRecDepth 100000 in
theorem impl_SolveIs.calls (k : Nat) (a0 : ByteArray) (a1 : ByteArray) (a2 : ByteArray) (r : Bool) (w : World) (h : impl_SolveIs.f k a0 a1 a2 = some r) :
  Calls Try.prog 20 #[.string a0, .string a1, .string a2] w fun e w' => e = .returned (.bool r) ∧ Below w.heap.size w w' := by
 have hu60 := Try.underlying60
 have HB := aM (Below.refl w.heap.size w)
 have H : ((impl_two.f k a0 a1).bind fun bt626 => ((impl_small.f k a2).bind fun bt641 => (if bt626.2.2.2.2 = true then (impl_SolveIs.j0 k (!bt641.2.2) bt626.1 bt626.2.1 bt626.2.2.1 bt626.2.2.2.1 bt641.1 bt641.2.1) else (impl_SolveIs.j0 k true bt626.1 bt626.2.1 bt626.2.2.1 bt626.2.2.2.1 bt641.1 bt641.2.1)))) = some r := h
 clear h
 replace H := Option.bind_eq_some_iff.mp H
 obtain ⟨⟨t626, t629, t632, t635, t638⟩, A40, H⟩ := H
 replace H : ((impl_small.f k a2).bind fun bt641 => (if t638 = true then (impl_SolveIs.j0 k (!bt641.2.2) t626 t629 t632 t635 bt641.1 bt641.2.1) else (impl_SolveIs.j0 k true t626 t629 t632 t635 bt641.1 bt641.2.1))) = some r := H
 have A4 := aM A40
 clear A40
 replace H := Option.bind_eq_some_iff.mp H
 obtain ⟨⟨t641, t644, t647⟩, A50, H⟩ := H
 replace H : (if t638 = true then (impl_SolveIs.j0 k (!t647) t626 t629 t632 t635 t641 t644) else (impl_SolveIs.j0 k true t626 t629 t632 t635 t641 t644)) = some r := H
 have A5 := aM A50
 clear A50
 have HC6 := aM H
 clear H
 go_enter Try.func20, Try.ntmps20
 go_upto_region 3 with (first | ((with_reducible refine gate_callee (f := 54) rfl ?_); refine goesL_ (some 16) rfl rfl Try.func54 (by kernel_rfl) rfl #[.string a0, .string a1] rfl (by (try simp only [List.map_toArray, List.map_cons, List.map_nil]); rfl) ?_; (with_reducible refine (impl_two.calls k a0 a1 t626 t629 t632 t635 t638 _ A4.out).mono ?_); rintro e w7 ⟨v627, v630, v633, v636, rfl, ho0, ho1, ho2, ho3, hb⟩; refine ⟨_, rfl, ?_⟩; have HO628 := aM (Kd.R_lower ho0 (below_size HB.out)); have HO631 := aM (Kd.R_lower ho1 (below_size HB.out)); have HO634 := aM (Kd.R_lower ho2 (below_size HB.out)); have HO637 := aM (Kd.R_lower ho3 (below_size HB.out)); replace HB := aM (below_step HB.out hb); (try clear hb); (try clear ho0); (try clear ho1); (try clear ho2); (try clear ho3)) | ((with_reducible refine gate_dst (N := 7) rfl ?_); refine box_event ?hg (N := 7) ?hd (cs := #[.slice none 0 0, .slice none 0 0]) (t := 60) ?hr ?_; (case hd => rfl); (case hg => rfl); (case hr => first | (go_simp; done)); intro gb639 hg w8 hbox hb; replace HO628 := aM (Kd.R_below HO628.out hb); replace HO631 := aM (Kd.R_below HO631.out hb); replace HO634 := aM (Kd.R_below HO634.out hb); replace HO637 := aM (Kd.R_below HO637.out hb); have BK639 := aM hbox; have GW639 := aM ((by rw [hg]; exact (below_size HB.out) : w.heap.size ≤ gb639)); have GE639 := aM ((by rw [hg]; exact (below_size HB.out) : w.heap.size ≤ gb639)); replace HB := aM (below_step HB.out hb); clear hb hbox hg) | ((with_reducible refine gate_dst (N := 8) rfl ?_); refine box_event ?hg (N := 8) ?hd (cs := #[.slice none 0 0, .slice none 0 0]) (t := 60) ?hr ?_; (case hd => rfl); (case hg => rfl); (case hr => first | (go_simp; done)); intro gb640 hg w9 hbox hb; replace HO628 := aM (Kd.R_below HO628.out hb); replace HO631 := aM (Kd.R_below HO631.out hb); replace HO634 := aM (Kd.R_below HO634.out hb); replace HO637 := aM (Kd.R_below HO637.out hb); have BK640 := aM hbox; have GW640 := aM ((by rw [hg]; exact (below_size HB.out) : w.heap.size ≤ gb640)); have GE640 := aM ((by rw [hg]; exact (below_size HB.out) : w.heap.size ≤ gb640)); replace HB := aM (below_step HB.out hb); have NB639_640 := aM ((by rw [hg]; exact Nat.ne_of_lt (blk_lt (g := gb639) (o := .cells #[.slice none 0 0, .slice none 0 0] 60 (0, 0)) BK639.out) : gb639 ≠ gb640)); have NB640_639 := aM ((by rw [hg]; exact Nat.ne_of_gt (blk_lt (g := gb639) (o := .cells #[.slice none 0 0, .slice none 0 0] 60 (0, 0)) BK639.out) : gb640 ≠ gb639)); replace BK639 := aM (blk_below (g := gb639) (o := .cells #[.slice none 0 0, .slice none 0 0] 60 (0, 0)) BK639.out hb); clear hb hbox hg; obtain ⟨Ao10, co10, eo10⟩ := Kd.R_slice HO628.out; subst eo10; have hnb11 := NB639_640.out; have hnc11 := NB640_639.out; have hcz12_0 : w9.cell? ⟨gb639, 0, none⟩ = some (.slice none 0 0) := (blk_cell BK639.out 0).trans rfl; have hcz12_1 : w9.cell? ⟨gb639, 1, none⟩ = some (.slice none 0 0) := (blk_cell BK639.out 1).trans rfl; have hfz12_0 := blk_frozen BK639.out 0; have hfz12_1 := blk_frozen BK639.out 1; obtain ⟨Ao13, co13, eo13⟩ := Kd.R_slice HO631.out; subst eo13; obtain ⟨Ao14, co14, eo14⟩ := Kd.R_slice HO634.out; subst eo14; have hcz15_0 : w9.cell? ⟨gb640, 0, none⟩ = some (.slice none 0 0) := (blk_cell BK640.out 0).trans rfl; have hcz15_1 : w9.cell? ⟨gb640, 1, none⟩ = some (.slice none 0 0) := (blk_cell BK640.out 1).trans rfl; have hfz15_0 := blk_frozen BK640.out 0; have hfz15_1 := blk_frozen BK640.out 1; obtain ⟨Ao16, co16, eo16⟩ := Kd.R_slice HO637.out; subst eo16) | ((with_reducible refine gate_callee (f := 64) rfl ?_); refine goesL_ (some 22) rfl rfl Try.func64 (by kernel_rfl) rfl #[.string a2] rfl (by (try simp only [List.map_toArray, List.map_cons, List.map_nil]); rfl) ?_; (with_reducible refine (impl_small.calls k a2 t641 t644 t647 _ A5.out).mono ?_); rintro e w17 ⟨v642, v645, rfl, ho0, ho1, hb⟩; refine ⟨_, rfl, ?_⟩; have HO643 := aM (Kd.R_lower (Kd.R_new' (Kd.R_new' (Kd.R_new' (Kd.R_new' ho0 (Kd.R_lt (by exact (Kd.R_mono (Kd.R_mono (Kd.R_far (p := ⟨gb640, 1, none⟩) (Kd.R_far (p := ⟨gb640, 0, none⟩) (Kd.R_far (p := ⟨gb639, 1, none⟩) (Kd.R_far (p := ⟨gb639, 0, none⟩) (Kd.R_types (Kd.R_types HO628.out BK639.out (by decide)) BK640.out (by decide)) (fun _ hk => hk.1.2) (.slice Ao10 t626.length co10)) (fun _ hk => hk.1.2) (.slice Ao13 t629.length co13)) (fun _ hk => hk.2) (.slice Ao14 t632.length co14)) (fun _ hk => hk.2) (.slice Ao16 t635.length co16)) (fun _ h_ => h_.1)) (fun _ h_ => h_.1))))) (Kd.R_lt (by exact (Kd.R_mono (Kd.R_mono (Kd.R_far (p := ⟨gb640, 1, none⟩) (Kd.R_far (p := ⟨gb640, 0, none⟩) (Kd.R_far (p := ⟨gb639, 1, none⟩) (Kd.R_far (p := ⟨gb639, 0, none⟩) (Kd.R_types (Kd.R_types HO631.out BK639.out (by decide)) BK640.out (by decide)) (fun _ hk => hk.1.2) (.slice Ao10 t626.length co10)) (fun _ hk => hk.1.2) (.slice Ao13 t629.length co13)) (fun _ hk => hk.2) (.slice Ao14 t632.length co14)) (fun _ hk => hk.2) (.slice Ao16 t635.length co16)) (fun _ h_ => h_.1)) (fun _ h_ => h_.1))))) (Kd.R_lt (by exact (Kd.R_mono (Kd.R_mono (Kd.R_far (p := ⟨gb640, 1, none⟩) (Kd.R_far (p := ⟨gb640, 0, none⟩) (Kd.R_far (p := ⟨gb639, 1, none⟩) (Kd.R_far (p := ⟨gb639, 0, none⟩) (Kd.R_types (Kd.R_types HO634.out BK639.out (by decide)) BK640.out (by decide)) (fun _ hk => hk.1.2) (.slice Ao10 t626.length co10)) (fun _ hk => hk.1.2) (.slice Ao13 t629.length co13)) (fun _ hk => hk.2) (.slice Ao14 t632.length co14)) (fun _ hk => hk.2) (.slice Ao16 t635.length co16)) (fun _ h_ => h_.1)) (fun _ h_ => h_.1))))) (Kd.R_lt (by exact (Kd.R_mono (Kd.R_mono (Kd.R_far (p := ⟨gb640, 1, none⟩) (Kd.R_far (p := ⟨gb640, 0, none⟩) (Kd.R_far (p := ⟨gb639, 1, none⟩) (Kd.R_far (p := ⟨gb639, 0, none⟩) (Kd.R_types (Kd.R_types HO637.out BK639.out (by decide)) BK640.out (by decide)) (fun _ hk => hk.1.2) (.slice Ao10 t626.length co10)) (fun _ hk => hk.1.2) (.slice Ao13 t629.length co13)) (fun _ hk => hk.2) (.slice Ao14 t632.length co14)) (fun _ hk => hk.2) (.slice Ao16 t635.length co16)) (fun _ h_ => h_.1)) (fun _ h_ => h_.1))))) (below_size (by repeat (first | (with_reducible first | exact HB.out | refine bS ?_ GE639.out | refine bS ?_ GE640.out))))); have HO646 := aM (Kd.R_lower (Kd.R_new' (Kd.R_new' (Kd.R_new' (Kd.R_new' ho1 (Kd.R_lt (by exact (Kd.R_mono (Kd.R_mono (Kd.R_far (p := ⟨gb640, 1, none⟩) (Kd.R_far (p := ⟨gb640, 0, none⟩) (Kd.R_far (p := ⟨gb639, 1, none⟩) (Kd.R_far (p := ⟨gb639, 0, none⟩) (Kd.R_types (Kd.R_types HO628.out BK639.out (by decide)) BK640.out (by decide)) (fun _ hk => hk.1.2) (.slice Ao10 t626.length co10)) (fun _ hk => hk.1.2) (.slice Ao13 t629.length co13)) (fun _ hk => hk.2) (.slice Ao14 t632.length co14)) (fun _ hk => hk.2) (.slice Ao16 t635.length co16)) (fun _ h_ => h_.1)) (fun _ h_ => h_.1))))) (Kd.R_lt (by exact (Kd.R_mono (Kd.R_mono (Kd.R_far (p := ⟨gb640, 1, none⟩) (Kd.R_far (p := ⟨gb640, 0, none⟩) (Kd.R_far (p := ⟨gb639, 1, none⟩) (Kd.R_far (p := ⟨gb639, 0, none⟩) (Kd.R_types (Kd.R_types HO631.out BK639.out (by decide)) BK640.out (by decide)) (fun _ hk => hk.1.2) (.slice Ao10 t626.length co10)) (fun _ hk => hk.1.2) (.slice Ao13 t629.length co13)) (fun _ hk => hk.2) (.slice Ao14 t632.length co14)) (fun _ hk => hk.2) (.slice Ao16 t635.length co16)) (fun _ h_ => h_.1)) (fun _ h_ => h_.1))))) (Kd.R_lt (by exact (Kd.R_mono (Kd.R_mono (Kd.R_far (p := ⟨gb640, 1, none⟩) (Kd.R_far (p := ⟨gb640, 0, none⟩) (Kd.R_far (p := ⟨gb639, 1, none⟩) (Kd.R_far (p := ⟨gb639, 0, none⟩) (Kd.R_types (Kd.R_types HO634.out BK639.out (by decide)) BK640.out (by decide)) (fun _ hk => hk.1.2) (.slice Ao10 t626.length co10)) (fun _ hk => hk.1.2) (.slice Ao13 t629.length co13)) (fun _ hk => hk.2) (.slice Ao14 t632.length co14)) (fun _ hk => hk.2) (.slice Ao16 t635.length co16)) (fun _ h_ => h_.1)) (fun _ h_ => h_.1))))) (Kd.R_lt (by exact (Kd.R_mono (Kd.R_mono (Kd.R_far (p := ⟨gb640, 1, none⟩) (Kd.R_far (p := ⟨gb640, 0, none⟩) (Kd.R_far (p := ⟨gb639, 1, none⟩) (Kd.R_far (p := ⟨gb639, 0, none⟩) (Kd.R_types (Kd.R_types HO637.out BK639.out (by decide)) BK640.out (by decide)) (fun _ hk => hk.1.2) (.slice Ao10 t626.length co10)) (fun _ hk => hk.1.2) (.slice Ao13 t629.length co13)) (fun _ hk => hk.2) (.slice Ao14 t632.length co14)) (fun _ hk => hk.2) (.slice Ao16 t635.length co16)) (fun _ h_ => h_.1)) (fun _ h_ => h_.1))))) (below_size (by repeat (first | (with_reducible first | exact HB.out | refine bS ?_ GE639.out | refine bS ?_ GE640.out))))); replace HO628 := aM (Kd.R_mono (Kd.R_told (Kd.R_told (Kd.R_old (by exact (Kd.R_mono (Kd.R_mono (Kd.R_far (p := ⟨gb640, 1, none⟩) (Kd.R_far (p := ⟨gb640, 0, none⟩) (Kd.R_far (p := ⟨gb639, 1, none⟩) (Kd.R_far (p := ⟨gb639, 0, none⟩) (Kd.R_types (Kd.R_types HO628.out BK639.out (by decide)) BK640.out (by decide)) (fun _ hk => hk.1.2) (.slice Ao10 t626.length co10)) (fun _ hk => hk.1.2) (.slice Ao13 t629.length co13)) (fun _ hk => hk.2) (.slice Ao14 t632.length co14)) (fun _ hk => hk.2) (.slice Ao16 t635.length co16)) (fun _ h_ => h_.1)) (fun _ h_ => h_.1))) hb) (Kd.R_base ho0)) (Kd.R_base ho1)) (fun _ h_ => h_.1)); replace HO631 := aM (Kd.R_mono (Kd.R_told (Kd.R_told (Kd.R_old (by exact (Kd.R_mono (Kd.R_mono (Kd.R_far (p := ⟨gb640, 1, none⟩) (Kd.R_far (p := ⟨gb640, 0, none⟩) (Kd.R_far (p := ⟨gb639, 1, none⟩) (Kd.R_far (p := ⟨gb639, 0, none⟩) (Kd.R_types (Kd.R_types HO631.out BK639.out (by decide)) BK640.out (by decide)) (fun _ hk => hk.1.2) (.slice Ao10 t626.length co10)) (fun _ hk => hk.1.2) (.slice Ao13 t629.length co13)) (fun _ hk => hk.2) (.slice Ao14 t632.length co14)) (fun _ hk => hk.2) (.slice Ao16 t635.length co16)) (fun _ h_ => h_.1)) (fun _ h_ => h_.1))) hb) (Kd.R_base ho0)) (Kd.R_base ho1)) (fun _ h_ => h_.1)); replace HO634 := aM (Kd.R_mono (Kd.R_told (Kd.R_told (Kd.R_old (by exact (Kd.R_mono (Kd.R_mono (Kd.R_far (p := ⟨gb640, 1, none⟩) (Kd.R_far (p := ⟨gb640, 0, none⟩) (Kd.R_far (p := ⟨gb639, 1, none⟩) (Kd.R_far (p := ⟨gb639, 0, none⟩) (Kd.R_types (Kd.R_types HO634.out BK639.out (by decide)) BK640.out (by decide)) (fun _ hk => hk.1.2) (.slice Ao10 t626.length co10)) (fun _ hk => hk.1.2) (.slice Ao13 t629.length co13)) (fun _ hk => hk.2) (.slice Ao14 t632.length co14)) (fun _ hk => hk.2) (.slice Ao16 t635.length co16)) (fun _ h_ => h_.1)) (fun _ h_ => h_.1))) hb) (Kd.R_base ho0)) (Kd.R_base ho1)) (fun _ h_ => h_.1)); replace HO637 := aM (Kd.R_mono (Kd.R_told (Kd.R_told (Kd.R_old (by exact (Kd.R_mono (Kd.R_mono (Kd.R_far (p := ⟨gb640, 1, none⟩) (Kd.R_far (p := ⟨gb640, 0, none⟩) (Kd.R_far (p := ⟨gb639, 1, none⟩) (Kd.R_far (p := ⟨gb639, 0, none⟩) (Kd.R_types (Kd.R_types HO637.out BK639.out (by decide)) BK640.out (by decide)) (fun _ hk => hk.1.2) (.slice Ao10 t626.length co10)) (fun _ hk => hk.1.2) (.slice Ao13 t629.length co13)) (fun _ hk => hk.2) (.slice Ao14 t632.length co14)) (fun _ hk => hk.2) (.slice Ao16 t635.length co16)) (fun _ h_ => h_.1)) (fun _ h_ => h_.1))) hb) (Kd.R_base ho0)) (Kd.R_base ho1)) (fun _ h_ => h_.1)); replace BK639 := aM (blk_below (g := gb639) (o := .cells #[.slice Ao10 t626.length co10, .slice Ao13 t629.length co13] 60 (0, 0)) (by refine blk_far ?_ NB639_640.out _; refine blk_far ?_ NB639_640.out _; refine blk_put (cs := #[.slice Ao10 t626.length co10, .slice none 0 0]) ?_ 1 _ rfl; refine blk_put (cs := #[.slice none 0 0, .slice none 0 0]) ?_ 0 _ rfl; exact BK639.out) hb); replace BK640 := aM (blk_below (g := gb640) (o := .cells #[.slice Ao14 t632.length co14, .slice Ao16 t635.length co16] 60 (0, 0)) (by refine blk_put (cs := #[.slice Ao14 t632.length co14, .slice none 0 0]) ?_ 1 _ rfl; refine blk_put (cs := #[.slice none 0 0, .slice none 0 0]) ?_ 0 _ rfl; refine blk_far ?_ NB640_639.out _; refine blk_far ?_ NB640_639.out _; exact BK640.out) hb); replace HB := aM (below_step (by repeat (first | (with_reducible first | exact HB.out | refine bS ?_ GE639.out | refine bS ?_ GE640.out))) hb); (try clear hb); (try clear ho0); (try clear ho1)) | ((with_reducible refine gate_dst (N := 10) rfl ?_); refine box_event ?hg (N := 10) ?hd (cs := #[.slice none 0 0, .slice none 0 0]) (t := 60) ?hr ?_; (case hd => rfl); (case hg => rfl); (case hr => first | (go_simp; done)); intro gb648 hg w18 hbox hb; replace HO628 := aM (Kd.R_below HO628.out hb); replace HO631 := aM (Kd.R_below HO631.out hb); replace HO634 := aM (Kd.R_below HO634.out hb); replace HO637 := aM (Kd.R_below HO637.out hb); replace HO643 := aM (Kd.R_below HO643.out hb); replace HO646 := aM (Kd.R_below HO646.out hb); have BK648 := aM hbox; have GW648 := aM ((by rw [hg]; exact (below_size HB.out) : w.heap.size ≤ gb648)); have GE648 := aM ((by rw [hg]; exact (below_size HB.out) : w.heap.size ≤ gb648)); replace HB := aM (below_step HB.out hb); have NB639_648 := aM ((by rw [hg]; exact Nat.ne_of_lt (blk_lt (g := gb639) (o := .cells #[.slice Ao10 t626.length co10, .slice Ao13 t629.length co13] 60 (0, 0)) BK639.out) : gb639 ≠ gb648)); have NB648_639 := aM ((by rw [hg]; exact Nat.ne_of_gt (blk_lt (g := gb639) (o := .cells #[.slice Ao10 t626.length co10, .slice Ao13 t629.length co13] 60 (0, 0)) BK639.out) : gb648 ≠ gb639)); replace BK639 := aM (blk_below (g := gb639) (o := .cells #[.slice Ao10 t626.length co10, .slice Ao13 t629.length co13] 60 (0, 0)) BK639.out hb); have NB640_648 := aM ((by rw [hg]; exact Nat.ne_of_lt (blk_lt (g := gb640) (o := .cells #[.slice Ao14 t632.length co14, .slice Ao16 t635.length co16] 60 (0, 0)) BK640.out) : gb640 ≠ gb648)); have NB648_640 := aM ((by rw [hg]; exact Nat.ne_of_gt (blk_lt (g := gb640) (o := .cells #[.slice Ao14 t632.length co14, .slice Ao16 t635.length co16] 60 (0, 0)) BK640.out) : gb648 ≠ gb640)); replace BK640 := aM (blk_below (g := gb640) (o := .cells #[.slice Ao14 t632.length co14, .slice Ao16 t635.length co16] 60 (0, 0)) BK640.out hb); clear hb hbox hg; obtain ⟨Ao19, co19, eo19⟩ := Kd.R_slice HO643.out; subst eo19; have hnb20 := NB648_639.out; have hnc20 := NB639_648.out; have hnb21 := NB648_640.out; have hnc21 := NB640_648.out; have hcz22_0 : w18.cell? ⟨gb648, 0, none⟩ = some (.slice none 0 0) := (blk_cell BK648.out 0).trans rfl; have hcz22_1 : w18.cell? ⟨gb648, 1, none⟩ = some (.slice none 0 0) := (blk_cell BK648.out 1).trans rfl; have hfz22_0 := blk_frozen BK648.out 0; have hfz22_1 := blk_frozen BK648.out 1; obtain ⟨Ao23, co23, eo23⟩ := Kd.R_slice HO646.out; subst eo23))
 go_cut [30] (fun v30 wc => ∃ (kq : Nat) (x30_5 : Bool), v30 = .bool x30_5 ∧ Aside0 (impl_SolveIs.j0 kq x30_5 t626 t629 t632 t635 t641 t644 = some r) ∧ Aside0 (kq ≤ k) ∧ Aside0 (Kd.R Kd.bool 4 wc w.heap.size (fun k_ => some k_ ≠ ((.slice Ao13 t629.length co13) : Value).ownBlock ∧ some k_ ≠ ((.slice Ao14 t632.length co14) : Value).ownBlock ∧ some k_ ≠ ((.slice Ao16 t635.length co16) : Value).ownBlock ∧ some k_ ≠ ((.slice Ao19 t641.length co19) : Value).ownBlock ∧ some k_ ≠ ((.slice Ao23 t644.length co23) : Value).ownBlock) (.slice Ao10 t626.length co10) t626) ∧ Aside0 (Kd.R Kd.bool 4 wc w.heap.size (fun k_ => some k_ ≠ ((.slice Ao10 t626.length co10) : Value).ownBlock ∧ some k_ ≠ ((.slice Ao14 t632.length co14) : Value).ownBlock ∧ some k_ ≠ ((.slice Ao16 t635.length co16) : Value).ownBlock ∧ some k_ ≠ ((.slice Ao19 t641.length co19) : Value).ownBlock ∧ some k_ ≠ ((.slice Ao23 t644.length co23) : Value).ownBlock) (.slice Ao13 t629.length co13) t629) ∧ Aside0 (Kd.R Kd.bool 4 wc w.heap.size (fun k_ => some k_ ≠ ((.slice Ao10 t626.length co10) : Value).ownBlock ∧ some k_ ≠ ((.slice Ao13 t629.length co13) : Value).ownBlock ∧ some k_ ≠ ((.slice Ao16 t635.length co16) : Value).ownBlock ∧ some k_ ≠ ((.slice Ao19 t641.length co19) : Value).ownBlock ∧ some k_ ≠ ((.slice Ao23 t644.length co23) : Value).ownBlock) (.slice Ao14 t632.length co14) t632) ∧ Aside0 (Kd.R Kd.bool 4 wc w.heap.size (fun k_ => some k_ ≠ ((.slice Ao10 t626.length co10) : Value).ownBlock ∧ some k_ ≠ ((.slice Ao13 t629.length co13) : Value).ownBlock ∧ some k_ ≠ ((.slice Ao14 t632.length co14) : Value).ownBlock ∧ some k_ ≠ ((.slice Ao19 t641.length co19) : Value).ownBlock ∧ some k_ ≠ ((.slice Ao23 t644.length co23) : Value).ownBlock) (.slice Ao16 t635.length co16) t635) ∧ Aside0 (Kd.R Kd.bool 4 wc w.heap.size (fun k_ => some k_ ≠ ((.slice Ao10 t626.length co10) : Value).ownBlock ∧ some k_ ≠ ((.slice Ao13 t629.length co13) : Value).ownBlock ∧ some k_ ≠ ((.slice Ao14 t632.length co14) : Value).ownBlock ∧ some k_ ≠ ((.slice Ao16 t635.length co16) : Value).ownBlock ∧ some k_ ≠ ((.slice Ao23 t644.length co23) : Value).ownBlock) (.slice Ao19 t641.length co19) t641) ∧ Aside0 (Kd.R Kd.bool 4 wc w.heap.size (fun k_ => some k_ ≠ ((.slice Ao10 t626.length co10) : Value).ownBlock ∧ some k_ ≠ ((.slice Ao13 t629.length co13) : Value).ownBlock ∧ some k_ ≠ ((.slice Ao14 t632.length co14) : Value).ownBlock ∧ some k_ ≠ ((.slice Ao16 t635.length co16) : Value).ownBlock ∧ some k_ ≠ ((.slice Ao19 t641.length co19) : Value).ownBlock) (.slice Ao23 t644.length co23) t644) ∧ Aside0 (wc.heap[gb639]? = some (.cells #[(.slice Ao10 t626.length co10), (.slice Ao13 t629.length co13)] 60 (0, 0))) ∧ Aside0 (wc.heap[gb640]? = some (.cells #[(.slice Ao14 t632.length co14), (.slice Ao16 t635.length co16)] 60 (0, 0))) ∧ Aside0 (wc.heap[gb648]? = some (.cells #[(.slice Ao19 t641.length co19), (.slice Ao23 t644.length co23)] 60 (0, 0))) ∧ Aside0 (Below w.heap.size w wc))
 case first =>
  have H := HC6.out
  clear HC6
  by_cases c24 : t638 = true
  ·subst c24
   replace H : (impl_SolveIs.j0 k (!t647) t626 t629 t632 t635 t641 t644) = some r := by rw [if_pos rfl] at H; exact H
   have H' := aM H
   clear H
   go_wp2
   go_meet
   case rel => exact ⟨_, (!t647), (by rfl), H', ⟨by omega⟩, ⟨by exact Kd.R_mono (Kd.R_far (p := ⟨gb648, 1, none⟩) (Kd.R_far (p := ⟨gb648, 0, none⟩) (Kd.R_types HO628.out BK648.out (by decide)) (fun _ hk => hk.2) (.slice Ao19 t641.length co19)) (fun _ hk => hk.2) (.slice Ao23 t644.length co23)) (fun _ hk => ⟨hk.1.1.1.1, ⟨hk.1.1.1.2.1, ⟨hk.1.1.1.2.2, ⟨hk.1.1.2, hk.1.2⟩⟩⟩⟩)⟩, ⟨by exact Kd.R_mono (Kd.R_far (p := ⟨gb648, 1, none⟩) (Kd.R_far (p := ⟨gb648, 0, none⟩) (Kd.R_types HO631.out BK648.out (by decide)) (fun _ hk => hk.2) (.slice Ao19 t641.length co19)) (fun _ hk => hk.2) (.slice Ao23 t644.length co23)) (fun _ hk => ⟨hk.1.1.1.1, ⟨hk.1.1.1.2.1, ⟨hk.1.1.1.2.2, ⟨hk.1.1.2, hk.1.2⟩⟩⟩⟩)⟩, ⟨by exact Kd.R_mono (Kd.R_far (p := ⟨gb648, 1, none⟩) (Kd.R_far (p := ⟨gb648, 0, none⟩) (Kd.R_types HO634.out BK648.out (by decide)) (fun _ hk => hk.2) (.slice Ao19 t641.length co19)) (fun _ hk => hk.2) (.slice Ao23 t644.length co23)) (fun _ hk => ⟨hk.1.1.1.1, ⟨hk.1.1.1.2.1, ⟨hk.1.1.1.2.2, ⟨hk.1.1.2, hk.1.2⟩⟩⟩⟩)⟩, ⟨by exact Kd.R_mono (Kd.R_far (p := ⟨gb648, 1, none⟩) (Kd.R_far (p := ⟨gb648, 0, none⟩) (Kd.R_types HO637.out BK648.out (by decide)) (fun _ hk => hk.2) (.slice Ao19 t641.length co19)) (fun _ hk => hk.2) (.slice Ao23 t644.length co23)) (fun _ hk => ⟨hk.1.1.1.1, ⟨hk.1.1.1.2.1, ⟨hk.1.1.1.2.2, ⟨hk.1.1.2, hk.1.2⟩⟩⟩⟩)⟩, ⟨by exact Kd.R_mono (Kd.R_far (p := ⟨gb648, 1, none⟩) (Kd.R_far (p := ⟨gb648, 0, none⟩) (Kd.R_types HO643.out BK648.out (by decide)) (fun _ hk => hk.2) (.slice Ao19 t641.length co19)) (fun _ hk => hk.2) (.slice Ao23 t644.length co23)) (fun _ hk => ⟨hk.1.1.1.1.2, ⟨hk.1.1.1.2, ⟨hk.1.1.2, ⟨hk.1.2, hk.1.1.1.1.1⟩⟩⟩⟩)⟩, ⟨by exact Kd.R_mono (Kd.R_far (p := ⟨gb648, 1, none⟩) (Kd.R_far (p := ⟨gb648, 0, none⟩) (Kd.R_types HO646.out BK648.out (by decide)) (fun _ hk => hk.2) (.slice Ao19 t641.length co19)) (fun _ hk => hk.2) (.slice Ao23 t644.length co23)) (fun _ hk => ⟨hk.1.1.1.1.2, ⟨hk.1.1.1.2, ⟨hk.1.1.2, ⟨hk.1.2, hk.1.1.1.1.1⟩⟩⟩⟩)⟩, ⟨by refine blk_far ?_ NB639_648.out _; refine blk_far ?_ NB639_648.out _; exact BK639.out⟩, ⟨by refine blk_far ?_ NB640_648.out _; refine blk_far ?_ NB640_648.out _; exact BK640.out⟩, ⟨by refine blk_put (cs := #[.slice Ao19 t641.length co19, .slice none 0 0]) ?_ 1 _ rfl; refine blk_put (cs := #[.slice none 0 0, .slice none 0 0]) ?_ 0 _ rfl; exact BK648.out⟩, ⟨by repeat (first | (with_reducible first | exact HB.out | refine bS ?_ GE648.out))⟩⟩
  ·replace c24 := Bool.eq_false_iff.mpr c24
   subst c24
   replace H : (impl_SolveIs.j0 k true t626 t629 t632 t635 t641 t644) = some r := by rw [if_neg (show ¬ (false = true) by decide)] at H; exact H
   have H' := aM H
   clear H
   go_wp2
   go_meet
   case rel => exact ⟨_, (true), (by rfl), H', ⟨by omega⟩, ⟨by exact Kd.R_mono (Kd.R_far (p := ⟨gb648, 1, none⟩) (Kd.R_far (p := ⟨gb648, 0, none⟩) (Kd.R_types HO628.out BK648.out (by decide)) (fun _ hk => hk.2) (.slice Ao19 t641.length co19)) (fun _ hk => hk.2) (.slice Ao23 t644.length co23)) (fun _ hk => ⟨hk.1.1.1.1, ⟨hk.1.1.1.2.1, ⟨hk.1.1.1.2.2, ⟨hk.1.1.2, hk.1.2⟩⟩⟩⟩)⟩, ⟨by exact Kd.R_mono (Kd.R_far (p := ⟨gb648, 1, none⟩) (Kd.R_far (p := ⟨gb648, 0, none⟩) (Kd.R_types HO631.out BK648.out (by decide)) (fun _ hk => hk.2) (.slice Ao19 t641.length co19)) (fun _ hk => hk.2) (.slice Ao23 t644.length co23)) (fun _ hk => ⟨hk.1.1.1.1, ⟨hk.1.1.1.2.1, ⟨hk.1.1.1.2.2, ⟨hk.1.1.2, hk.1.2⟩⟩⟩⟩)⟩, ⟨by exact Kd.R_mono (Kd.R_far (p := ⟨gb648, 1, none⟩) (Kd.R_far (p := ⟨gb648, 0, none⟩) (Kd.R_types HO634.out BK648.out (by decide)) (fun _ hk => hk.2) (.slice Ao19 t641.length co19)) (fun _ hk => hk.2) (.slice Ao23 t644.length co23)) (fun _ hk => ⟨hk.1.1.1.1, ⟨hk.1.1.1.2.1, ⟨hk.1.1.1.2.2, ⟨hk.1.1.2, hk.1.2⟩⟩⟩⟩)⟩, ⟨by exact Kd.R_mono (Kd.R_far (p := ⟨gb648, 1, none⟩) (Kd.R_far (p := ⟨gb648, 0, none⟩) (Kd.R_types HO637.out BK648.out (by decide)) (fun _ hk => hk.2) (.slice Ao19 t641.length co19)) (fun _ hk => hk.2) (.slice Ao23 t644.length co23)) (fun _ hk => ⟨hk.1.1.1.1, ⟨hk.1.1.1.2.1, ⟨hk.1.1.1.2.2, ⟨hk.1.1.2, hk.1.2⟩⟩⟩⟩)⟩, ⟨by exact Kd.R_mono (Kd.R_far (p := ⟨gb648, 1, none⟩) (Kd.R_far (p := ⟨gb648, 0, none⟩) (Kd.R_types HO643.out BK648.out (by decide)) (fun _ hk => hk.2) (.slice Ao19 t641.length co19)) (fun _ hk => hk.2) (.slice Ao23 t644.length co23)) (fun _ hk => ⟨hk.1.1.1.1.2, ⟨hk.1.1.1.2, ⟨hk.1.1.2, ⟨hk.1.2, hk.1.1.1.1.1⟩⟩⟩⟩)⟩, ⟨by exact Kd.R_mono (Kd.R_far (p := ⟨gb648, 1, none⟩) (Kd.R_far (p := ⟨gb648, 0, none⟩) (Kd.R_types HO646.out BK648.out (by decide)) (fun _ hk => hk.2) (.slice Ao19 t641.length co19)) (fun _ hk => hk.2) (.slice Ao23 t644.length co23)) (fun _ hk => ⟨hk.1.1.1.1.2, ⟨hk.1.1.1.2, ⟨hk.1.1.2, ⟨hk.1.2, hk.1.1.1.1.1⟩⟩⟩⟩)⟩, ⟨by refine blk_far ?_ NB639_648.out _; refine blk_far ?_ NB639_648.out _; exact BK639.out⟩, ⟨by refine blk_far ?_ NB640_648.out _; refine blk_far ?_ NB640_648.out _; exact BK640.out⟩, ⟨by refine blk_put (cs := #[.slice Ao19 t641.length co19, .slice none 0 0]) ?_ 1 _ rfl; refine blk_put (cs := #[.slice none 0 0, .slice none 0 0]) ?_ 0 _ rfl; exact BK648.out⟩, ⟨by repeat (first | (with_reducible first | exact HB.out | refine bS ?_ GE648.out))⟩⟩
 case rest =>
  clear HC6
  try clear hcz12_0
  try clear hcz12_1
  try clear hcz15_0
  try clear hcz15_1
  try clear hcz22_0
  try clear hcz22_1
  try clear hfz12_0
  try clear hfz12_1
  try clear hfz15_0
  try clear hfz15_1
  try clear hfz22_0
  try clear hfz22_1
  obtain ⟨kq, x30_5, rfl, HA, HJ5, HO_640000, HO_640001, HO_641000, HO_641001, HO_649000, HO_649001, BK639, BK640, BK648, HB⟩ := hcut
  cases kq with
  | zero => exact absurd HA.out (by simp [impl_SolveIs.j0])
  | succ kj5 =>
   have H := HA.out
   clear HA
   simp only [impl_SolveIs.j0] at H
   by_cases c25 : x30_5 = true
   ·subst c25
    replace H : (some false) = some r := by rw [if_pos rfl] at H; exact H
    obtain rfl := Option.some.inj H
    go_wp2
    go_ret
    exact ⟨by first | rfl | (simp [*, errW_none, errW_some] <;> rfl), HB.out⟩
   ·replace c25 := Bool.eq_false_iff.mpr c25
    subst c25
    replace H : (impl_SolveIs.l0 kj5 0 t626 t629 t632 t635 t641 t644) = some r := by rw [if_neg (show ¬ (false = true) by decide)] at H; exact H
    have H' := aM H
    clear H
    go_wp2
    go_loopg [31] kj5 (fun kq v31 w' => ∃ (x31_2 : Int), v31 = .int .i64 x31_2 ∧ Aside0 (impl_SolveIs.l0 kq x31_2 t626 t629 t632 t635 t641 t644 = some r) ∧ Aside0 (kq ≤ kj5) ∧ Aside0 (Kd.R Kd.bool 4 w' w.heap.size (fun k_ => some k_ ≠ ((.slice Ao13 t629.length co13) : Value).ownBlock ∧ some k_ ≠ ((.slice Ao14 t632.length co14) : Value).ownBlock ∧ some k_ ≠ ((.slice Ao16 t635.length co16) : Value).ownBlock ∧ some k_ ≠ ((.slice Ao19 t641.length co19) : Value).ownBlock ∧ some k_ ≠ ((.slice Ao23 t644.length co23) : Value).ownBlock) (.slice Ao10 t626.length co10) t626) ∧ Aside0 (Kd.R Kd.bool 4 w' w.heap.size (fun k_ => some k_ ≠ ((.slice Ao10 t626.length co10) : Value).ownBlock ∧ some k_ ≠ ((.slice Ao14 t632.length co14) : Value).ownBlock ∧ some k_ ≠ ((.slice Ao16 t635.length co16) : Value).ownBlock ∧ some k_ ≠ ((.slice Ao19 t641.length co19) : Value).ownBlock ∧ some k_ ≠ ((.slice Ao23 t644.length co23) : Value).ownBlock) (.slice Ao13 t629.length co13) t629) ∧ Aside0 (Kd.R Kd.bool 4 w' w.heap.size (fun k_ => some k_ ≠ ((.slice Ao10 t626.length co10) : Value).ownBlock ∧ some k_ ≠ ((.slice Ao13 t629.length co13) : Value).ownBlock ∧ some k_ ≠ ((.slice Ao16 t635.length co16) : Value).ownBlock ∧ some k_ ≠ ((.slice Ao19 t641.length co19) : Value).ownBlock ∧ some k_ ≠ ((.slice Ao23 t644.length co23) : Value).ownBlock) (.slice Ao14 t632.length co14) t632) ∧ Aside0 (Kd.R Kd.bool 4 w' w.heap.size (fun k_ => some k_ ≠ ((.slice Ao10 t626.length co10) : Value).ownBlock ∧ some k_ ≠ ((.slice Ao13 t629.length co13) : Value).ownBlock ∧ some k_ ≠ ((.slice Ao14 t632.length co14) : Value).ownBlock ∧ some k_ ≠ ((.slice Ao19 t641.length co19) : Value).ownBlock ∧ some k_ ≠ ((.slice Ao23 t644.length co23) : Value).ownBlock) (.slice Ao16 t635.length co16) t635) ∧ Aside0 (Kd.R Kd.bool 4 w' w.heap.size (fun k_ => some k_ ≠ ((.slice Ao10 t626.length co10) : Value).ownBlock ∧ some k_ ≠ ((.slice Ao13 t629.length co13) : Value).ownBlock ∧ some k_ ≠ ((.slice Ao14 t632.length co14) : Value).ownBlock ∧ some k_ ≠ ((.slice Ao16 t635.length co16) : Value).ownBlock ∧ some k_ ≠ ((.slice Ao23 t644.length co23) : Value).ownBlock) (.slice Ao19 t641.length co19) t641) ∧ Aside0 (Kd.R Kd.bool 4 w' w.heap.size (fun k_ => some k_ ≠ ((.slice Ao10 t626.length co10) : Value).ownBlock ∧ some k_ ≠ ((.slice Ao13 t629.length co13) : Value).ownBlock ∧ some k_ ≠ ((.slice Ao14 t632.length co14) : Value).ownBlock ∧ some k_ ≠ ((.slice Ao16 t635.length co16) : Value).ownBlock ∧ some k_ ≠ ((.slice Ao19 t641.length co19) : Value).ownBlock) (.slice Ao23 t644.length co23) t644) ∧ Aside0 (w'.heap[gb639]? = some (.cells #[(.slice Ao10 t626.length co10), (.slice Ao13 t629.length co13)] 60 (0, 0))) ∧ Aside0 (w'.heap[gb640]? = some (.cells #[(.slice Ao14 t632.length co14), (.slice Ao16 t635.length co16)] 60 (0, 0))) ∧ Aside0 (w'.heap[gb648]? = some (.cells #[(.slice Ao19 t641.length co19), (.slice Ao23 t644.length co23)] 60 (0, 0))) ∧ Aside0 (Below w.heap.size w w'))
    case atStart => exact ⟨(0), (by rfl), H', ⟨Nat.le_refl _⟩, ⟨by exact HO_640000.out⟩, ⟨by exact HO_640001.out⟩, ⟨by exact HO_641000.out⟩, ⟨by exact HO_641001.out⟩, ⟨by exact HO_649000.out⟩, ⟨by exact HO_649001.out⟩, ⟨by exact BK639.out⟩, ⟨by exact BK640.out⟩, ⟨by exact BK648.out⟩, ⟨HB.out⟩⟩
    case round =>
     clear H'
     obtain ⟨x31_2, rfl, HA, HK2, HO_640000, HO_640001, HO_641000, HO_641001, HO_649000, HO_649001, BK639, BK640, BK648, HB⟩ := hrel
     cases gk with
     | zero => exact absurd HA.out (by simp [impl_SolveIs.l0])
     | succ k2 =>
      have H := HA.out
      clear HA
      simp only [impl_SolveIs.l0] at H
      by_cases c26 : x31_2 < 400
      ·rw [if_pos c26] at H
       have c26b0 : decide (x31_2 < 400) = true := decide_eq_true c26
       clear c26
       replace H := Option.bind_eq_some_iff.mp H
       obtain ⟨t649, A270, H⟩ := H
       replace H : ((impl_set_has.f t632 t635 x31_2).bind fun t650 => (if t650 = true then (if (t649 != true) = true then (some false) else (impl_SolveIs.l0 k2 (wrap64 (x31_2 + 1)) t626 t629 t632 t635 t641 t644)) else ((impl_sums.f k2 t626 t629 t641 t644 x31_2).bind fun t651 => (if (t649 != t651) = true then (some false) else (impl_SolveIs.l0 k2 (wrap64 (x31_2 + 1)) t626 t629 t632 t635 t641 t644))))) = some r := H
       have A27 := aM A270
       clear A270
       replace H := Option.bind_eq_some_iff.mp H
       obtain ⟨t650, A280, H⟩ := H
       replace H : (if t650 = true then (if (t649 != true) = true then (some false) else (impl_SolveIs.l0 k2 (wrap64 (x31_2 + 1)) t626 t629 t632 t635 t641 t644)) else ((impl_sums.f k2 t626 t629 t641 t644 x31_2).bind fun t651 => (if (t649 != t651) = true then (some false) else (impl_SolveIs.l0 k2 (wrap64 (x31_2 + 1)) t626 t629 t632 t635 t641 t644)))) = some r := H
       have A28 := aM A280
       clear A280
       by_cases c29 : t650 = true
       ·subst c29
        replace H : (if (t649 != true) = true then (some false) else (impl_SolveIs.l0 k2 (wrap64 (x31_2 + 1)) t626 t629 t632 t635 t641 t644)) = some r := by rw [if_pos rfl] at H; exact H
        by_cases c30 : (t649 != true) = true
        all_goals
         first
         |rw [if_pos c30] at H
          have c30b0 : (t649 != true) = true := c30
          (try (have c30b1 : decide (t649 = true) = false := by simpa using c30))
          (try (have c30b2 : (t649 == true) = false := by simpa using c30))
          (try (have c30b3 : ¬ (t649 = true) := by simpa using c30))
         |rw [if_neg c30] at H
          have c30b0 : (t649 != true) = false := by simpa using c30
          (try (have c30b1 : decide (t649 = true) = true := by simpa using c30))
          (try (have c30b2 : (t649 == true) = true := by simpa using c30))
         clear c30
         first
         |obtain rfl := Option.some.inj H
         |have H' := aM H
          clear H
         try go_wp2
         replace HO_640000 := aM (rD HO_640000.out)
         replace HO_640001 := aM (rD HO_640001.out)
         replace HO_641000 := aM (rD HO_641000.out)
         replace HO_641001 := aM (rD HO_641001.out)
         replace HO_649000 := aM (rD HO_649000.out)
         replace HO_649001 := aM (rD HO_649001.out)
         replace BK639 := aM (kD BK639.out)
         replace BK640 := aM (kD BK640.out)
         replace BK648 := aM (kD BK648.out)
         replace HB := aM (b1 HB.out)
         refine start_ (n := 13) (S := fun w' => w'.cell? ⟨gb648, 0, none⟩ = some (.slice Ao19 t641.length co19) ∧ w'.cell? ⟨gb648, 1, none⟩ = some (.slice Ao23 t644.length co23) ∧ w'.cell? ⟨gb640, 0, none⟩ = some (.slice Ao14 t632.length co14) ∧ w'.cell? ⟨gb640, 1, none⟩ = some (.slice Ao16 t635.length co16)) (ds := []) #[false, false, false, false, false, false, false, false, false, false, false, false, false] (by kernel_rfl) rfl rfl ⟨(blk_cell BK648.out 0).trans rfl, (blk_cell BK648.out 1).trans rfl, (blk_cell BK640.out 0).trans rfl, (blk_cell BK640.out 1).trans rfl⟩ (fun hHeld => ?_); refine with_tabW impl_SolveIs.tab8 impl_SolveIs.bits8 (fun HT_ HW_ => ?_)
         generalize wr.drew = w31 at HO_640000 HO_640001 HO_641000 HO_641001 HO_649000 HO_649001 BK639 BK640 BK648 HB hHeld ⊢
         refine pure_ (i := 1) (N := some 35) (v := ?_) (a' := ?_) #[false, true, false, false, false, false, false, false, false, false, false, false, false] rfl rfl (any_of HT_.out (by kernel_rfl)) (fun _ _ _ h => h) (Or.inl ⟨by rfl, ?_⟩) ?_ ?_
         rotate_left
         ·intro w'
          go_simp
          with_reducible rfl
         rotate_left
         ·simp only [Act.put, sA, sZ, sS, i64_w, i32_w]
          rfl
         refine pure_ (i := 4) (N := some 38) (v := ?_) (a' := ?_) #[false, true, false, false, true, false, false, false, false, false, false, false, false] rfl rfl (any_of HT_.out (by kernel_rfl)) (fun _ _ _ h => h) (Or.inl ⟨by rfl, ?_⟩) ?_ ?_
         rotate_left
         ·intro w'
          go_simp
          with_reducible rfl
         rotate_left
         ·simp only [Act.put, sA, sZ, sS, i64_w, i32_w]
          rfl
         refine take_ (i := 0) (N := some 34) (v := ?_) (a' := ?_) #[true, true, false, false, true, false, false, false, false, false, false, false, false] rfl rfl (take_ofW HT_.out HW_.out (by kernel_rfl)) (fun _ _ _ h => h) (Or.inl ⟨by rfl, ?_⟩) hHeld ?_ ?_
         rotate_left
         ·rintro w' ⟨s0, s1, s2, s3⟩
          go_simp
          with_reducible rfl
         rotate_left
         ·simp only [Act.put, sA, sZ, sS, i64_w, i32_w]
          rfl
         refine take_ (i := 3) (N := some 37) (v := ?_) (a' := ?_) #[true, true, false, true, true, false, false, false, false, false, false, false, false] rfl rfl (take_ofW HT_.out HW_.out (by kernel_rfl)) (fun _ _ _ h => h) (Or.inl ⟨by rfl, ?_⟩) hHeld ?_ ?_
         rotate_left
         ·rintro w' ⟨s0, s1, s2, s3⟩
          go_simp
          with_reducible rfl
         rotate_left
         ·simp only [Act.put, sA, sZ, sS, i64_w, i32_w]
          rfl
         refine one_ (i := 2) (N := some 36) #[true, true, true, true, true, false, false, false, false, false, false, false, false] rfl rfl (one_of HT_.out (by kernel_rfl)) (by decide) (fun K hK => ?_)
         refine goes_ Try.func61 (by kernel_rfl) rfl #[.agg #[.slice Ao19 t641.length co19, .slice Ao23 t644.length co23], .int .i64 x31_2] (by rfl) rfl rfl (by (try simp only [List.map_toArray, List.map_cons, List.map_nil]); rfl) ?_
         with_reducible refine (impl_set_has.calls _ _ t641 _ _ t644 x31_2 t649 _ ?side1 ?side2 ?side3 ?side4 A27.out).mono ?_
         (case side1 => repeat (exact (Kd.R_reads' HO_649000.out).2.2))
         (case side2 => exact (Kd.R_reads' HO_649000.out).2.1)
         (case side3 => repeat (exact (Kd.R_reads' HO_649001.out).2.2))
         (case side4 => exact (Kd.R_reads' HO_649001.out).2.1)
         rintro e w32 ⟨rfl, hb⟩
         refine ⟨_, rfl, ?_⟩
         replace HO_640000 := aM (Kd.R_below HO_640000.out hb)
         replace HO_640001 := aM (Kd.R_below HO_640001.out hb)
         replace HO_641000 := aM (Kd.R_below HO_641000.out hb)
         replace HO_641001 := aM (Kd.R_below HO_641001.out hb)
         replace HO_649000 := aM (Kd.R_below HO_649000.out hb)
         replace HO_649001 := aM (Kd.R_below HO_649001.out hb)
         replace BK639 := aM (blk_below (g := gb639) (o := .cells #[.slice Ao10 t626.length co10, .slice Ao13 t629.length co13] 60 (0, 0)) BK639.out hb)
         replace BK640 := aM (blk_below (g := gb640) (o := .cells #[.slice Ao14 t632.length co14, .slice Ao16 t635.length co16] 60 (0, 0)) BK640.out hb)
         replace BK648 := aM (blk_below (g := gb648) (o := .cells #[.slice Ao19 t641.length co19, .slice Ao23 t644.length co23] 60 (0, 0)) BK648.out hb)
         replace HB := aM (below_step HB.out hb)
         (try clear hb)
         refine hK.out _ _ ⟨(blk_cell BK648.out 0).trans rfl, (blk_cell BK648.out 1).trans rfl, (blk_cell BK640.out 0).trans rfl, (blk_cell BK640.out 1).trans rfl⟩ (fun hHeld => ?_)
         clear hK K
         refine norm_ (a' := ?_) ?_ ?_
         rotate_left
         ·show Act.put _ (some 36) _ = _
          simp only [Act.put, sA, sZ, sS, i64_w, i32_w]
          rfl
         refine one_ (i := 5) (N := some 39) #[true, true, true, true, true, true, false, false, false, false, false, false, false] rfl rfl (one_of HT_.out (by kernel_rfl)) (by decide) (fun K hK => ?_)
         refine goes_ Try.func61 (by kernel_rfl) rfl #[.agg #[.slice Ao14 t632.length co14, .slice Ao16 t635.length co16], .int .i64 x31_2] (by rfl) rfl rfl (by (try simp only [List.map_toArray, List.map_cons, List.map_nil]); rfl) ?_
         with_reducible refine (impl_set_has.calls _ _ t632 _ _ t635 x31_2 true _ ?side1 ?side2 ?side3 ?side4 A28.out).mono ?_
         (case side1 => repeat (exact (Kd.R_reads' HO_641000.out).2.2))
         (case side2 => exact (Kd.R_reads' HO_641000.out).2.1)
         (case side3 => repeat (exact (Kd.R_reads' HO_641001.out).2.2))
         (case side4 => exact (Kd.R_reads' HO_641001.out).2.1)
         rintro e w33 ⟨rfl, hb⟩
         refine ⟨_, rfl, ?_⟩
         replace HO_640000 := aM (Kd.R_below HO_640000.out hb)
         replace HO_640001 := aM (Kd.R_below HO_640001.out hb)
         replace HO_641000 := aM (Kd.R_below HO_641000.out hb)
         replace HO_641001 := aM (Kd.R_below HO_641001.out hb)
         replace HO_649000 := aM (Kd.R_below HO_649000.out hb)
         replace HO_649001 := aM (Kd.R_below HO_649001.out hb)
         replace BK639 := aM (blk_below (g := gb639) (o := .cells #[.slice Ao10 t626.length co10, .slice Ao13 t629.length co13] 60 (0, 0)) BK639.out hb)
         replace BK640 := aM (blk_below (g := gb640) (o := .cells #[.slice Ao14 t632.length co14, .slice Ao16 t635.length co16] 60 (0, 0)) BK640.out hb)
         replace BK648 := aM (blk_below (g := gb648) (o := .cells #[.slice Ao19 t641.length co19, .slice Ao23 t644.length co23] 60 (0, 0)) BK648.out hb)
         replace HB := aM (below_step HB.out hb)
         (try clear hb)
         refine hK.out _ _ ⟨(blk_cell BK648.out 0).trans rfl, (blk_cell BK648.out 1).trans rfl, (blk_cell BK640.out 0).trans rfl, (blk_cell BK640.out 1).trans rfl⟩ (fun hHeld => ?_)
         clear hK K
         refine norm_ (a' := ?_) ?_ ?_
         rotate_left
         ·show Act.put _ (some 39) _ = _
          simp only [Act.put, sA, sZ, sS, i64_w, i32_w]
          rfl
         refine pure_ (i := 6) (N := some 40) (v := ?_) (a' := ?_) #[true, true, true, true, true, true, true, false, false, false, false, false, false] rfl rfl (any_of HT_.out (by kernel_rfl)) (fun _ _ _ h => h) (Or.inl ⟨by rfl, ?_⟩) ?_ ?_
         rotate_left
         ·intro w'
          go_simp
          with_reducible rfl
         rotate_left
         ·simp only [Act.put, sA, sZ, sS, i64_w, i32_w]
          rfl
         refine pure_ (i := 7) (N := some 41) (v := undef) (a' := ?_) #[true, true, true, true, true, true, true, true, false, false, false, false, false] rfl rfl (any_of HT_.out (by kernel_rfl)) (fun _ _ _ h => h) (Or.inr ⟨by rfl, rfl⟩) ?_ ?_
         rotate_left
         ·simp only [Act.put, sA, sZ, sS, i64_w, i32_w]
          rfl
         refine pure_ (i := 8) (N := some 42) (v := undef) (a' := ?_) #[true, true, true, true, true, true, true, true, true, false, false, false, false] rfl rfl (any_of HT_.out (by kernel_rfl)) (fun _ _ _ h => h) (Or.inr ⟨by rfl, rfl⟩) ?_ ?_
         rotate_left
         ·simp only [Act.put, sA, sZ, sS, i64_w, i32_w]
          rfl
         refine pure_ (i := 9) (N := some 43) (v := undef) (a' := ?_) #[true, true, true, true, true, true, true, true, true, true, false, false, false] rfl rfl (any_of HT_.out (by kernel_rfl)) (fun _ _ _ h => h) (Or.inr ⟨by rfl, rfl⟩) ?_ ?_
         rotate_left
         ·simp only [Act.put, sA, sZ, sS, i64_w, i32_w]
          rfl
         refine pure_ (i := 10) (N := some 44) (v := undef) (a' := ?_) #[true, true, true, true, true, true, true, true, true, true, true, false, false] rfl rfl (any_of HT_.out (by kernel_rfl)) (fun _ _ _ h => h) (Or.inr ⟨by rfl, rfl⟩) ?_ ?_
         rotate_left
         ·simp only [Act.put, sA, sZ, sS, i64_w, i32_w]
          rfl
         refine pure_ (i := 11) (N := some 45) (v := ?_) (a' := ?_) #[true, true, true, true, true, true, true, true, true, true, true, true, false] rfl rfl (any_of HT_.out (by kernel_rfl)) (fun _ _ _ h => h) (Or.inl ⟨by rfl, ?_⟩) ?_ ?_
         rotate_left
         ·intro w'
          go_simp
          with_reducible rfl
         rotate_left
         ·simp only [Act.put, sA, sZ, sS, i64_w, i32_w]
          rfl
         refine pure_ (i := 12) (N := some 46) (v := ?_) (a' := ?_) #[true, true, true, true, true, true, true, true, true, true, true, true, true] rfl rfl (any_of HT_.out (by kernel_rfl)) (fun _ _ _ h => h) (Or.inl ⟨by rfl, ?_⟩) ?_ ?_
         rotate_left
         ·intro w'
          go_simp
          with_reducible rfl
         rotate_left
         ·simp only [Act.put, sA, sZ, sS, i64_w, i32_w]
          rfl
         refine done_ (done_of HT_.out (by kernel_rfl)) ?_
         try go_wp2
         first
         |go_ret
          exact ⟨by first | rfl | (simp [*, errW_none, errW_some] <;> rfl), HB.out⟩
         |go_roundg k2
          case measure => have := HJ5.out; have := HK2.out; omega
          case rel => exact ⟨(wrap64 (x31_2 + 1)), (by rfl), H', ⟨by have := HJ5.out; have := HK2.out; omega⟩, ⟨by exact HO_640000.out⟩, ⟨by exact HO_640001.out⟩, ⟨by exact HO_641000.out⟩, ⟨by exact HO_641001.out⟩, ⟨by exact HO_649000.out⟩, ⟨by exact HO_649001.out⟩, ⟨by exact BK639.out⟩, ⟨by exact BK640.out⟩, ⟨by exact BK648.out⟩, ⟨HB.out⟩⟩
       ·replace c29 := Bool.eq_false_iff.mpr c29
        subst c29
        replace H : ((impl_sums.f k2 t626 t629 t641 t644 x31_2).bind fun t651 => (if (t649 != t651) = true then (some false) else (impl_SolveIs.l0 k2 (wrap64 (x31_2 + 1)) t626 t629 t632 t635 t641 t644))) = some r := by rw [if_neg (show ¬ (false = true) by decide)] at H; exact H
        replace H := Option.bind_eq_some_iff.mp H
        obtain ⟨t651, A370, H⟩ := H
        replace H : (if (t649 != t651) = true then (some false) else (impl_SolveIs.l0 k2 (wrap64 (x31_2 + 1)) t626 t629 t632 t635 t641 t644)) = some r := H
        have A37 := aM A370
        clear A370
        by_cases c38 : (t649 != t651) = true
        all_goals
         first
         |rw [if_pos c38] at H
          have c38b0 : (t649 != t651) = true := c38
          (try (have c38b1 : decide (t649 = t651) = false := by simpa using c38))
          (try (have c38b2 : (t649 == t651) = false := by simpa using c38))
          (try (have c38b3 : ¬ (t649 = t651) := by simpa using c38))
         |rw [if_neg c38] at H
          have c38b0 : (t649 != t651) = false := by simpa using c38
          (try (have c38b1 : decide (t649 = t651) = true := by simpa using c38))
          (try (have c38b2 : (t649 == t651) = true := by simpa using c38))
         clear c38
         first
         |obtain rfl := Option.some.inj H
         |have H' := aM H
          clear H
         try go_wp2
         replace HO_640000 := aM (rD HO_640000.out)
         replace HO_640001 := aM (rD HO_640001.out)
         replace HO_641000 := aM (rD HO_641000.out)
         replace HO_641001 := aM (rD HO_641001.out)
         replace HO_649000 := aM (rD HO_649000.out)
         replace HO_649001 := aM (rD HO_649001.out)
         replace BK639 := aM (kD BK639.out)
         replace BK640 := aM (kD BK640.out)
         replace BK648 := aM (kD BK648.out)
         replace HB := aM (b1 HB.out)
         refine start_ (n := 13) (S := fun w' => w'.cell? ⟨gb648, 0, none⟩ = some (.slice Ao19 t641.length co19) ∧ w'.cell? ⟨gb648, 1, none⟩ = some (.slice Ao23 t644.length co23) ∧ w'.cell? ⟨gb640, 0, none⟩ = some (.slice Ao14 t632.length co14) ∧ w'.cell? ⟨gb640, 1, none⟩ = some (.slice Ao16 t635.length co16) ∧ w'.cell? ⟨gb639, 0, none⟩ = some (.slice Ao10 t626.length co10) ∧ w'.cell? ⟨gb639, 1, none⟩ = some (.slice Ao13 t629.length co13)) (ds := []) #[false, false, false, false, false, false, false, false, false, false, false, false, false] (by kernel_rfl) rfl rfl ⟨(blk_cell BK648.out 0).trans rfl, (blk_cell BK648.out 1).trans rfl, (blk_cell BK640.out 0).trans rfl, (blk_cell BK640.out 1).trans rfl, (blk_cell BK639.out 0).trans rfl, (blk_cell BK639.out 1).trans rfl⟩ (fun hHeld => ?_); refine with_tabW impl_SolveIs.tab8 impl_SolveIs.bits8 (fun HT_ HW_ => ?_)
         generalize wr.drew = w39 at HO_640000 HO_640001 HO_641000 HO_641001 HO_649000 HO_649001 BK639 BK640 BK648 HB hHeld ⊢
         refine pure_ (i := 1) (N := some 35) (v := ?_) (a' := ?_) #[false, true, false, false, false, false, false, false, false, false, false, false, false] rfl rfl (any_of HT_.out (by kernel_rfl)) (fun _ _ _ h => h) (Or.inl ⟨by rfl, ?_⟩) ?_ ?_
         rotate_left
         ·intro w'
          go_simp
          with_reducible rfl
         rotate_left
         ·simp only [Act.put, sA, sZ, sS, i64_w, i32_w]
          rfl
         refine pure_ (i := 4) (N := some 38) (v := ?_) (a' := ?_) #[false, true, false, false, true, false, false, false, false, false, false, false, false] rfl rfl (any_of HT_.out (by kernel_rfl)) (fun _ _ _ h => h) (Or.inl ⟨by rfl, ?_⟩) ?_ ?_
         rotate_left
         ·intro w'
          go_simp
          with_reducible rfl
         rotate_left
         ·simp only [Act.put, sA, sZ, sS, i64_w, i32_w]
          rfl
         refine take_ (i := 0) (N := some 34) (v := ?_) (a' := ?_) #[true, true, false, false, true, false, false, false, false, false, false, false, false] rfl rfl (take_ofW HT_.out HW_.out (by kernel_rfl)) (fun _ _ _ h => h) (Or.inl ⟨by rfl, ?_⟩) hHeld ?_ ?_
         rotate_left
         ·rintro w' ⟨s0, s1, s2, s3, s4, s5⟩
          go_simp
          with_reducible rfl
         rotate_left
         ·simp only [Act.put, sA, sZ, sS, i64_w, i32_w]
          rfl
         refine take_ (i := 3) (N := some 37) (v := ?_) (a' := ?_) #[true, true, false, true, true, false, false, false, false, false, false, false, false] rfl rfl (take_ofW HT_.out HW_.out (by kernel_rfl)) (fun _ _ _ h => h) (Or.inl ⟨by rfl, ?_⟩) hHeld ?_ ?_
         rotate_left
         ·rintro w' ⟨s0, s1, s2, s3, s4, s5⟩
          go_simp
          with_reducible rfl
         rotate_left
         ·simp only [Act.put, sA, sZ, sS, i64_w, i32_w]
          rfl
         refine one_ (i := 2) (N := some 36) #[true, true, true, true, true, false, false, false, false, false, false, false, false] rfl rfl (one_of HT_.out (by kernel_rfl)) (by decide) (fun K hK => ?_)
         refine goes_ Try.func61 (by kernel_rfl) rfl #[.agg #[.slice Ao19 t641.length co19, .slice Ao23 t644.length co23], .int .i64 x31_2] (by rfl) rfl rfl (by (try simp only [List.map_toArray, List.map_cons, List.map_nil]); rfl) ?_
         with_reducible refine (impl_set_has.calls _ _ t641 _ _ t644 x31_2 t649 _ ?side1 ?side2 ?side3 ?side4 A27.out).mono ?_
         (case side1 => repeat (exact (Kd.R_reads' HO_649000.out).2.2))
         (case side2 => exact (Kd.R_reads' HO_649000.out).2.1)
         (case side3 => repeat (exact (Kd.R_reads' HO_649001.out).2.2))
         (case side4 => exact (Kd.R_reads' HO_649001.out).2.1)
         rintro e w40 ⟨rfl, hb⟩
         refine ⟨_, rfl, ?_⟩
         replace HO_640000 := aM (Kd.R_below HO_640000.out hb)
         replace HO_640001 := aM (Kd.R_below HO_640001.out hb)
         replace HO_641000 := aM (Kd.R_below HO_641000.out hb)
         replace HO_641001 := aM (Kd.R_below HO_641001.out hb)
         replace HO_649000 := aM (Kd.R_below HO_649000.out hb)
         replace HO_649001 := aM (Kd.R_below HO_649001.out hb)
         replace BK639 := aM (blk_below (g := gb639) (o := .cells #[.slice Ao10 t626.length co10, .slice Ao13 t629.length co13] 60 (0, 0)) BK639.out hb)
         replace BK640 := aM (blk_below (g := gb640) (o := .cells #[.slice Ao14 t632.length co14, .slice Ao16 t635.length co16] 60 (0, 0)) BK640.out hb)
         replace BK648 := aM (blk_below (g := gb648) (o := .cells #[.slice Ao19 t641.length co19, .slice Ao23 t644.length co23] 60 (0, 0)) BK648.out hb)
         replace HB := aM (below_step HB.out hb)
         (try clear hb)
         refine hK.out _ _ ⟨(blk_cell BK648.out 0).trans rfl, (blk_cell BK648.out 1).trans rfl, (blk_cell BK640.out 0).trans rfl, (blk_cell BK640.out 1).trans rfl, (blk_cell BK639.out 0).trans rfl, (blk_cell BK639.out 1).trans rfl⟩ (fun hHeld => ?_)
         clear hK K
         refine norm_ (a' := ?_) ?_ ?_
         rotate_left
         ·show Act.put _ (some 36) _ = _
          simp only [Act.put, sA, sZ, sS, i64_w, i32_w]
          rfl
         refine one_ (i := 5) (N := some 39) #[true, true, true, true, true, true, false, false, false, false, false, false, false] rfl rfl (one_of HT_.out (by kernel_rfl)) (by decide) (fun K hK => ?_)
         refine goes_ Try.func61 (by kernel_rfl) rfl #[.agg #[.slice Ao14 t632.length co14, .slice Ao16 t635.length co16], .int .i64 x31_2] (by rfl) rfl rfl (by (try simp only [List.map_toArray, List.map_cons, List.map_nil]); rfl) ?_
         with_reducible refine (impl_set_has.calls _ _ t632 _ _ t635 x31_2 false _ ?side1 ?side2 ?side3 ?side4 A28.out).mono ?_
         (case side1 => repeat (exact (Kd.R_reads' HO_641000.out).2.2))
         (case side2 => exact (Kd.R_reads' HO_641000.out).2.1)
         (case side3 => repeat (exact (Kd.R_reads' HO_641001.out).2.2))
         (case side4 => exact (Kd.R_reads' HO_641001.out).2.1)
         rintro e w41 ⟨rfl, hb⟩
         refine ⟨_, rfl, ?_⟩
         replace HO_640000 := aM (Kd.R_below HO_640000.out hb)
         replace HO_640001 := aM (Kd.R_below HO_640001.out hb)
         replace HO_641000 := aM (Kd.R_below HO_641000.out hb)
         replace HO_641001 := aM (Kd.R_below HO_641001.out hb)
         replace HO_649000 := aM (Kd.R_below HO_649000.out hb)
         replace HO_649001 := aM (Kd.R_below HO_649001.out hb)
         replace BK639 := aM (blk_below (g := gb639) (o := .cells #[.slice Ao10 t626.length co10, .slice Ao13 t629.length co13] 60 (0, 0)) BK639.out hb)
         replace BK640 := aM (blk_below (g := gb640) (o := .cells #[.slice Ao14 t632.length co14, .slice Ao16 t635.length co16] 60 (0, 0)) BK640.out hb)
         replace BK648 := aM (blk_below (g := gb648) (o := .cells #[.slice Ao19 t641.length co19, .slice Ao23 t644.length co23] 60 (0, 0)) BK648.out hb)
         replace HB := aM (below_step HB.out hb)
         (try clear hb)
         refine hK.out _ _ ⟨(blk_cell BK648.out 0).trans rfl, (blk_cell BK648.out 1).trans rfl, (blk_cell BK640.out 0).trans rfl, (blk_cell BK640.out 1).trans rfl, (blk_cell BK639.out 0).trans rfl, (blk_cell BK639.out 1).trans rfl⟩ (fun hHeld => ?_)
         clear hK K
         refine norm_ (a' := ?_) ?_ ?_
         rotate_left
         ·show Act.put _ (some 39) _ = _
          simp only [Act.put, sA, sZ, sS, i64_w, i32_w]
          rfl
         refine pure_ (i := 6) (N := some 40) (v := ?_) (a' := ?_) #[true, true, true, true, true, true, true, false, false, false, false, false, false] rfl rfl (any_of HT_.out (by kernel_rfl)) (fun _ _ _ h => h) (Or.inl ⟨by rfl, ?_⟩) ?_ ?_
         rotate_left
         ·intro w'
          go_simp
          with_reducible rfl
         rotate_left
         ·simp only [Act.put, sA, sZ, sS, i64_w, i32_w]
          rfl
         refine pure_ (i := 9) (N := some 43) (v := ?_) (a' := ?_) #[true, true, true, true, true, true, true, false, false, true, false, false, false] rfl rfl (any_of HT_.out (by kernel_rfl)) (fun _ _ _ h => h) (Or.inl ⟨by rfl, ?_⟩) ?_ ?_
         rotate_left
         ·intro w'
          go_simp
          with_reducible rfl
         rotate_left
         ·simp only [Act.put, sA, sZ, sS, i64_w, i32_w]
          rfl
         refine take_ (i := 7) (N := some 41) (v := ?_) (a' := ?_) #[true, true, true, true, true, true, true, true, false, true, false, false, false] rfl rfl (take_ofW HT_.out HW_.out (by kernel_rfl)) (fun _ _ _ h => h) (Or.inl ⟨by rfl, ?_⟩) hHeld ?_ ?_
         rotate_left
         ·rintro w' ⟨s0, s1, s2, s3, s4, s5⟩
          go_simp
          with_reducible rfl
         rotate_left
         ·simp only [Act.put, sA, sZ, sS, i64_w, i32_w]
          rfl
         refine take_ (i := 8) (N := some 42) (v := ?_) (a' := ?_) #[true, true, true, true, true, true, true, true, true, true, false, false, false] rfl rfl (take_ofW HT_.out HW_.out (by kernel_rfl)) (fun _ _ _ h => h) (Or.inl ⟨by rfl, ?_⟩) hHeld ?_ ?_
         rotate_left
         ·rintro w' ⟨s0, s1, s2, s3, s4, s5⟩
          go_simp
          with_reducible rfl
         rotate_left
         ·simp only [Act.put, sA, sZ, sS, i64_w, i32_w]
          rfl
         refine one_ (i := 10) (N := some 44) #[true, true, true, true, true, true, true, true, true, true, true, false, false] rfl rfl (one_of HT_.out (by kernel_rfl)) (by decide) (fun K hK => ?_)
         refine goes_ Try.func65 (by kernel_rfl) rfl #[.agg #[.slice Ao10 t626.length co10, .slice Ao13 t629.length co13], .agg #[.slice Ao19 t641.length co19, .slice Ao23 t644.length co23], .int .i64 x31_2] (by rfl) rfl rfl (by (try simp only [List.map_toArray, List.map_cons, List.map_nil]); rfl) ?_
         with_reducible refine (impl_sums.calls k2 _ _ t626 _ _ t629 _ _ t641 _ _ t644 x31_2 t651 _ ?side1 ?side2 ?side3 ?side4 ?side5 ?side6 ?side7 ?side8 A37.out).mono ?_
         (case side1 => repeat (exact (Kd.R_reads' HO_640000.out).2.2))
         (case side2 => exact (Kd.R_reads' HO_640000.out).2.1)
         (case side3 => repeat (exact (Kd.R_reads' HO_640001.out).2.2))
         (case side4 => exact (Kd.R_reads' HO_640001.out).2.1)
         (case side5 => repeat (exact (Kd.R_reads' HO_649000.out).2.2))
         (case side6 => exact (Kd.R_reads' HO_649000.out).2.1)
         (case side7 => repeat (exact (Kd.R_reads' HO_649001.out).2.2))
         (case side8 => exact (Kd.R_reads' HO_649001.out).2.1)
         rintro e w42 ⟨rfl, hb⟩
         refine ⟨_, rfl, ?_⟩
         replace HO_640000 := aM (Kd.R_below HO_640000.out hb)
         replace HO_640001 := aM (Kd.R_below HO_640001.out hb)
         replace HO_641000 := aM (Kd.R_below HO_641000.out hb)
         replace HO_641001 := aM (Kd.R_below HO_641001.out hb)
         replace HO_649000 := aM (Kd.R_below HO_649000.out hb)
         replace HO_649001 := aM (Kd.R_below HO_649001.out hb)
         replace BK639 := aM (blk_below (g := gb639) (o := .cells #[.slice Ao10 t626.length co10, .slice Ao13 t629.length co13] 60 (0, 0)) BK639.out hb)
         replace BK640 := aM (blk_below (g := gb640) (o := .cells #[.slice Ao14 t632.length co14, .slice Ao16 t635.length co16] 60 (0, 0)) BK640.out hb)
         replace BK648 := aM (blk_below (g := gb648) (o := .cells #[.slice Ao19 t641.length co19, .slice Ao23 t644.length co23] 60 (0, 0)) BK648.out hb)
         replace HB := aM (below_step HB.out hb)
         (try clear hb)
         refine hK.out _ _ ⟨(blk_cell BK648.out 0).trans rfl, (blk_cell BK648.out 1).trans rfl, (blk_cell BK640.out 0).trans rfl, (blk_cell BK640.out 1).trans rfl, (blk_cell BK639.out 0).trans rfl, (blk_cell BK639.out 1).trans rfl⟩ (fun hHeld => ?_)
         clear hK K
         refine norm_ (a' := ?_) ?_ ?_
         rotate_left
         ·show Act.put _ (some 44) _ = _
          simp only [Act.put, sA, sZ, sS, i64_w, i32_w]
          rfl
         refine pure_ (i := 11) (N := some 45) (v := ?_) (a' := ?_) #[true, true, true, true, true, true, true, true, true, true, true, true, false] rfl rfl (any_of HT_.out (by kernel_rfl)) (fun _ _ _ h => h) (Or.inl ⟨by rfl, ?_⟩) ?_ ?_
         rotate_left
         ·intro w'
          go_simp
          with_reducible rfl
         rotate_left
         ·simp only [Act.put, sA, sZ, sS, i64_w, i32_w]
          rfl
         refine pure_ (i := 12) (N := some 46) (v := ?_) (a' := ?_) #[true, true, true, true, true, true, true, true, true, true, true, true, true] rfl rfl (any_of HT_.out (by kernel_rfl)) (fun _ _ _ h => h) (Or.inl ⟨by rfl, ?_⟩) ?_ ?_
         rotate_left
         ·intro w'
          go_simp
          with_reducible rfl
         rotate_left
         ·simp only [Act.put, sA, sZ, sS, i64_w, i32_w]
          rfl
         refine done_ (done_of HT_.out (by kernel_rfl)) ?_
         try go_wp2
         first
         |go_ret
          exact ⟨by first | rfl | (simp [*, errW_none, errW_some] <;> rfl), HB.out⟩
         |go_roundg k2
          case measure => have := HJ5.out; have := HK2.out; omega
          case rel => exact ⟨(wrap64 (x31_2 + 1)), (by rfl), H', ⟨by have := HJ5.out; have := HK2.out; omega⟩, ⟨by exact HO_640000.out⟩, ⟨by exact HO_640001.out⟩, ⟨by exact HO_641000.out⟩, ⟨by exact HO_641001.out⟩, ⟨by exact HO_649000.out⟩, ⟨by exact HO_649001.out⟩, ⟨by exact BK639.out⟩, ⟨by exact BK640.out⟩, ⟨by exact BK648.out⟩, ⟨HB.out⟩⟩
      ·rw [if_neg c26] at H
       have c26b0 : decide (x31_2 < 400) = false := decide_eq_false c26
       clear c26
       obtain rfl := Option.some.inj H
       go_wp2
       go_ret
       exact ⟨by first | rfl | (simp [*, errW_none, errW_some] <;> rfl), HB.out⟩


def impl_SolveMost.f (k : Nat) (a0 : ByteArray) (a1 : ByteArray) : Option (ByteArray × Bool) := (impl_two.f k a0 a1).bind fun bt682 => (if bt682.2.2.2.2 = true then ((impl_set_has.f bt682.1 bt682.2.1 0).bind fun t697 => (if t697 = true then (some ((⟨#[40, 49, 41]⟩ : ByteArray), true)) else ((impl_SolveLeast.f k a0 a1).bind fun bt698 => (some (bt698.1, bt698.2))))) else (some ((⟨#[]⟩ : ByteArray), false)))
theorem impl_SolveMost.mono : ∀ a0 a1 k, LeO (impl_SolveMost.f k a0 a1) (impl_SolveMost.f (k + 1) a0 a1) := by
 intro a0 a1 k
 unfold impl_SolveMost.f
 repeat' first | (with_reducible exact impl_SolveLeast.mono _ _ _) | (with_reducible exact impl_two.mono _ _ _) | (with_reducible exact LeO.refl _) | (with_reducible refine LeO.ite ?_ ?_) | (with_reducible refine LeO.bind ?_ (fun _ => ?_))
set_option maxHeartbeats 8000000 in
set_option maxRecDepth 100000 in
theorem impl_SolveMost.calls (k : Nat) (a0 : ByteArray) (a1 : ByteArray) (r1 : ByteArray) (r2 : Bool) (w : World) (h : impl_SolveMost.f k a0 a1 = some (r1, r2)) :
  Calls Try.prog 22 #[.string a0, .string a1] w fun e w' => e = .returned (.tuple #[.string r1, .bool r2]) ∧ Below w.heap.size w w' := by
 have hu60 := Try.underlying60
 have HB := aM (Below.refl w.heap.size w)
 have H : ((impl_two.f k a0 a1).bind fun bt682 => (if bt682.2.2.2.2 = true then ((impl_set_has.f bt682.1 bt682.2.1 0).bind fun t697 => (if t697 = true then (some ((⟨#[40, 49, 41]⟩ : ByteArray), true)) else ((impl_SolveLeast.f k a0 a1).bind fun bt698 => (some (bt698.1, bt698.2))))) else (some ((⟨#[]⟩ : ByteArray), false)))) = some (r1, r2) := h
 clear h
 replace H := Option.bind_eq_some_iff.mp H
 obtain ⟨⟨t682, t685, t688, t691, t694⟩, A30, H⟩ := H
 replace H : (if t694 = true then ((impl_set_has.f t682 t685 0).bind fun t697 => (if t697 = true then (some ((⟨#[40, 49, 41]⟩ : ByteArray), true)) else ((impl_SolveLeast.f k a0 a1).bind fun bt698 => (some (bt698.1, bt698.2))))) else (some ((⟨#[]⟩ : ByteArray), false))) = some (r1, r2) := H
 have A3 := aM A30
 clear A30
 by_cases c4 : t694 = true
 ·subst c4
  replace H : ((impl_set_has.f t682 t685 0).bind fun t697 => (if t697 = true then (some ((⟨#[40, 49, 41]⟩ : ByteArray), true)) else ((impl_SolveLeast.f k a0 a1).bind fun bt698 => (some (bt698.1, bt698.2))))) = some (r1, r2) := by rw [if_pos rfl] at H; exact H
  replace H := Option.bind_eq_some_iff.mp H
  obtain ⟨t697, A50, H⟩ := H
  replace H : (if t697 = true then (some ((⟨#[40, 49, 41]⟩ : ByteArray), true)) else ((impl_SolveLeast.f k a0 a1).bind fun bt698 => (some (bt698.1, bt698.2)))) = some (r1, r2) := H
  have A5 := aM A50
  clear A50
  by_cases c6 : t697 = true
  ·subst c6
   replace H : (some ((⟨#[40, 49, 41]⟩ : ByteArray), true)) = some (r1, r2) := by rw [if_pos rfl] at H; exact H
   simp only [Option.some.injEq, Prod.mk.injEq] at H
   obtain ⟨rfl, rfl⟩ := H
   go_enter Try.func22, Try.ntmps22
   go_wp2_with (first | ((with_reducible refine gate_callee (f := 54) rfl ?_); refine goesL_ (some 12) rfl rfl Try.func54 (by kernel_rfl) rfl #[.string a0, .string a1] rfl (by (try simp only [List.map_toArray, List.map_cons, List.map_nil]); rfl) ?_; (with_reducible refine (impl_two.calls k a0 a1 t682 t685 t688 t691 true _ A3.out).mono ?_); rintro e w7 ⟨v683, v686, v689, v692, rfl, ho0, ho1, ho2, ho3, hb⟩; refine ⟨_, rfl, ?_⟩; have HO684 := aM (Kd.R_lower ho0 (below_size HB.out)); have HO687 := aM (Kd.R_lower ho1 (below_size HB.out)); have HO690 := aM (Kd.R_lower ho2 (below_size HB.out)); have HO693 := aM (Kd.R_lower ho3 (below_size HB.out)); replace HB := aM (below_step HB.out hb); (try clear hb); (try clear ho0); (try clear ho1); (try clear ho2); (try clear ho3)) | ((with_reducible refine gate_dst (N := 6) rfl ?_); refine box_event ?hg (N := 6) ?hd (cs := #[.slice none 0 0, .slice none 0 0]) (t := 60) ?hr ?_; (case hd => rfl); (case hg => rfl); (case hr => first | (go_simp; done)); intro gb695 hg w8 hbox hb; replace HO684 := aM (Kd.R_below HO684.out hb); replace HO687 := aM (Kd.R_below HO687.out hb); replace HO690 := aM (Kd.R_below HO690.out hb); replace HO693 := aM (Kd.R_below HO693.out hb); have BK695 := aM hbox; have GW695 := aM ((by rw [hg]; exact (below_size HB.out) : w.heap.size ≤ gb695)); have GE695 := aM ((by rw [hg]; exact (below_size HB.out) : w.heap.size ≤ gb695)); replace HB := aM (below_step HB.out hb); clear hb hbox hg) | ((with_reducible refine gate_dst (N := 7) rfl ?_); refine box_event ?hg (N := 7) ?hd (cs := #[.slice none 0 0, .slice none 0 0]) (t := 60) ?hr ?_; (case hd => rfl); (case hg => rfl); (case hr => first | (go_simp; done)); intro gb696 hg w9 hbox hb; replace HO684 := aM (Kd.R_below HO684.out hb); replace HO687 := aM (Kd.R_below HO687.out hb); replace HO690 := aM (Kd.R_below HO690.out hb); replace HO693 := aM (Kd.R_below HO693.out hb); have BK696 := aM hbox; have GW696 := aM ((by rw [hg]; exact (below_size HB.out) : w.heap.size ≤ gb696)); have GE696 := aM ((by rw [hg]; exact (below_size HB.out) : w.heap.size ≤ gb696)); replace HB := aM (below_step HB.out hb); have NB695_696 := aM ((by rw [hg]; exact Nat.ne_of_lt (blk_lt (g := gb695) (o := .cells #[.slice none 0 0, .slice none 0 0] 60 (0, 0)) BK695.out) : gb695 ≠ gb696)); have NB696_695 := aM ((by rw [hg]; exact Nat.ne_of_gt (blk_lt (g := gb695) (o := .cells #[.slice none 0 0, .slice none 0 0] 60 (0, 0)) BK695.out) : gb696 ≠ gb695)); replace BK695 := aM (blk_below (g := gb695) (o := .cells #[.slice none 0 0, .slice none 0 0] 60 (0, 0)) BK695.out hb); clear hb hbox hg; obtain ⟨Ao10, co10, eo10⟩ := Kd.R_slice HO684.out; subst eo10; have hnb11 := NB695_696.out; have hnc11 := NB696_695.out; have hcz12_0 : w9.cell? ⟨gb695, 0, none⟩ = some (.slice none 0 0) := (blk_cell BK695.out 0).trans rfl; have hcz12_1 : w9.cell? ⟨gb695, 1, none⟩ = some (.slice none 0 0) := (blk_cell BK695.out 1).trans rfl; have hfz12_0 := blk_frozen BK695.out 0; have hfz12_1 := blk_frozen BK695.out 1; obtain ⟨Ao13, co13, eo13⟩ := Kd.R_slice HO687.out; subst eo13; obtain ⟨Ao14, co14, eo14⟩ := Kd.R_slice HO690.out; subst eo14; have hcz15_0 : w9.cell? ⟨gb696, 0, none⟩ = some (.slice none 0 0) := (blk_cell BK696.out 0).trans rfl; have hcz15_1 : w9.cell? ⟨gb696, 1, none⟩ = some (.slice none 0 0) := (blk_cell BK696.out 1).trans rfl; have hfz15_0 := blk_frozen BK696.out 0; have hfz15_1 := blk_frozen BK696.out 1; obtain ⟨Ao16, co16, eo16⟩ := Kd.R_slice HO693.out; subst eo16) | ((with_reducible refine gate_callee (f := 61) rfl ?_); refine goesL_ (some 21) rfl rfl Try.func61 (by kernel_rfl) rfl #[.agg #[.slice Ao10 t682.length co10, .slice Ao13 t685.length co13], .int .i64 0] rfl (by (try simp only [List.map_toArray, List.map_cons, List.map_nil]); rfl) ?_; (with_reducible refine (impl_set_has.calls _ _ t682 _ _ t685 0 true _ ?side1 ?side2 ?side3 ?side4 A5.out).mono ?_); (case side1 => refine (Kd.R_reads' (e := 4) (base := w.heap.size) (ok := fun k_ => (some k_ ≠ (.slice Ao13 t685.length co13 : Value).ownBlock ∧ (some k_ ≠ (.slice Ao14 t688.length co14 : Value).ownBlock ∧ some k_ ≠ (.slice Ao16 t691.length co16 : Value).ownBlock))) (n := t682.length) (c := co10) ?_).2.2; exact (by exact (Kd.R_mono (Kd.R_mono (Kd.R_far (p := ⟨gb696, 1, none⟩) (Kd.R_far (p := ⟨gb696, 0, none⟩) (Kd.R_far (p := ⟨gb695, 1, none⟩) (Kd.R_far (p := ⟨gb695, 0, none⟩) (Kd.R_types (Kd.R_types HO684.out BK695.out (by decide)) BK696.out (by decide)) (fun _ hk => hk.1.2) (.slice Ao10 t682.length co10)) (fun _ hk => hk.1.2) (.slice Ao13 t685.length co13)) (fun _ hk => hk.2) (.slice Ao14 t688.length co14)) (fun _ hk => hk.2) (.slice Ao16 t691.length co16)) (fun _ h_ => h_.1)) (fun _ h_ => h_.1)))); (case side2 => exact (Kd.R_reads' HO684.out).2.1); (case side3 => refine (Kd.R_reads' (e := 4) (base := w.heap.size) (ok := fun k_ => (some k_ ≠ (.slice Ao10 t682.length co10 : Value).ownBlock ∧ (some k_ ≠ (.slice Ao14 t688.length co14 : Value).ownBlock ∧ some k_ ≠ (.slice Ao16 t691.length co16 : Value).ownBlock))) (n := t685.length) (c := co13) ?_).2.2; exact (by exact (Kd.R_mono (Kd.R_mono (Kd.R_far (p := ⟨gb696, 1, none⟩) (Kd.R_far (p := ⟨gb696, 0, none⟩) (Kd.R_far (p := ⟨gb695, 1, none⟩) (Kd.R_far (p := ⟨gb695, 0, none⟩) (Kd.R_types (Kd.R_types HO687.out BK695.out (by decide)) BK696.out (by decide)) (fun _ hk => hk.1.2) (.slice Ao10 t682.length co10)) (fun _ hk => hk.1.2) (.slice Ao13 t685.length co13)) (fun _ hk => hk.2) (.slice Ao14 t688.length co14)) (fun _ hk => hk.2) (.slice Ao16 t691.length co16)) (fun _ h_ => h_.1)) (fun _ h_ => h_.1)))); (case side4 => exact (Kd.R_reads' HO687.out).2.1); rintro e w17 ⟨rfl, hb⟩; refine ⟨_, rfl, ?_⟩; replace HO684 := aM (Kd.R_below (by exact (Kd.R_mono (Kd.R_mono (Kd.R_far (p := ⟨gb696, 1, none⟩) (Kd.R_far (p := ⟨gb696, 0, none⟩) (Kd.R_far (p := ⟨gb695, 1, none⟩) (Kd.R_far (p := ⟨gb695, 0, none⟩) (Kd.R_types (Kd.R_types HO684.out BK695.out (by decide)) BK696.out (by decide)) (fun _ hk => hk.1.2) (.slice Ao10 t682.length co10)) (fun _ hk => hk.1.2) (.slice Ao13 t685.length co13)) (fun _ hk => hk.2) (.slice Ao14 t688.length co14)) (fun _ hk => hk.2) (.slice Ao16 t691.length co16)) (fun _ h_ => h_.1)) (fun _ h_ => h_.1))) hb); replace HO687 := aM (Kd.R_below (by exact (Kd.R_mono (Kd.R_mono (Kd.R_far (p := ⟨gb696, 1, none⟩) (Kd.R_far (p := ⟨gb696, 0, none⟩) (Kd.R_far (p := ⟨gb695, 1, none⟩) (Kd.R_far (p := ⟨gb695, 0, none⟩) (Kd.R_types (Kd.R_types HO687.out BK695.out (by decide)) BK696.out (by decide)) (fun _ hk => hk.1.2) (.slice Ao10 t682.length co10)) (fun _ hk => hk.1.2) (.slice Ao13 t685.length co13)) (fun _ hk => hk.2) (.slice Ao14 t688.length co14)) (fun _ hk => hk.2) (.slice Ao16 t691.length co16)) (fun _ h_ => h_.1)) (fun _ h_ => h_.1))) hb); replace HO690 := aM (Kd.R_below (by exact (Kd.R_mono (Kd.R_mono (Kd.R_far (p := ⟨gb696, 1, none⟩) (Kd.R_far (p := ⟨gb696, 0, none⟩) (Kd.R_far (p := ⟨gb695, 1, none⟩) (Kd.R_far (p := ⟨gb695, 0, none⟩) (Kd.R_types (Kd.R_types HO690.out BK695.out (by decide)) BK696.out (by decide)) (fun _ hk => hk.1.2) (.slice Ao10 t682.length co10)) (fun _ hk => hk.1.2) (.slice Ao13 t685.length co13)) (fun _ hk => hk.2) (.slice Ao14 t688.length co14)) (fun _ hk => hk.2) (.slice Ao16 t691.length co16)) (fun _ h_ => h_.1)) (fun _ h_ => h_.1))) hb); replace HO693 := aM (Kd.R_below (by exact (Kd.R_mono (Kd.R_mono (Kd.R_far (p := ⟨gb696, 1, none⟩) (Kd.R_far (p := ⟨gb696, 0, none⟩) (Kd.R_far (p := ⟨gb695, 1, none⟩) (Kd.R_far (p := ⟨gb695, 0, none⟩) (Kd.R_types (Kd.R_types HO693.out BK695.out (by decide)) BK696.out (by decide)) (fun _ hk => hk.1.2) (.slice Ao10 t682.length co10)) (fun _ hk => hk.1.2) (.slice Ao13 t685.length co13)) (fun _ hk => hk.2) (.slice Ao14 t688.length co14)) (fun _ hk => hk.2) (.slice Ao16 t691.length co16)) (fun _ h_ => h_.1)) (fun _ h_ => h_.1))) hb); replace BK695 := aM (blk_below (g := gb695) (o := .cells #[.slice Ao10 t682.length co10, .slice Ao13 t685.length co13] 60 (0, 0)) (by refine blk_far ?_ NB695_696.out _; refine blk_far ?_ NB695_696.out _; refine blk_put (cs := #[.slice Ao10 t682.length co10, .slice none 0 0]) ?_ 1 _ rfl; refine blk_put (cs := #[.slice none 0 0, .slice none 0 0]) ?_ 0 _ rfl; exact BK695.out) hb); replace BK696 := aM (blk_below (g := gb696) (o := .cells #[.slice Ao14 t688.length co14, .slice Ao16 t691.length co16] 60 (0, 0)) (by refine blk_put (cs := #[.slice Ao14 t688.length co14, .slice none 0 0]) ?_ 1 _ rfl; refine blk_put (cs := #[.slice none 0 0, .slice none 0 0]) ?_ 0 _ rfl; refine blk_far ?_ NB696_695.out _; refine blk_far ?_ NB696_695.out _; exact BK696.out) hb); replace HB := aM (below_step (by repeat (first | (with_reducible first | exact HB.out | refine bS ?_ GE695.out | refine bS ?_ GE696.out))) hb); (try clear hb)))
   go_ret2
   exact ⟨by first | rfl | (simp [*, errW_none, errW_some] <;> rfl), HB.out⟩
  ·replace c6 := Bool.eq_false_iff.mpr c6
   subst c6
   replace H : ((impl_SolveLeast.f k a0 a1).bind fun bt698 => (some (bt698.1, bt698.2))) = some (r1, r2) := by rw [if_neg (show ¬ (false = true) by decide)] at H; exact H
   replace H := Option.bind_eq_some_iff.mp H
   obtain ⟨⟨t698, t699⟩, A180, H⟩ := H
   replace H : (some (t698, t699)) = some (r1, r2) := H
   have A18 := aM A180
   clear A180
   simp only [Option.some.injEq, Prod.mk.injEq] at H
   obtain ⟨rfl, rfl⟩ := H
   go_enter Try.func22, Try.ntmps22
   go_wp2_with (first | ((with_reducible refine gate_callee (f := 54) rfl ?_); refine goesL_ (some 12) rfl rfl Try.func54 (by kernel_rfl) rfl #[.string a0, .string a1] rfl (by (try simp only [List.map_toArray, List.map_cons, List.map_nil]); rfl) ?_; (with_reducible refine (impl_two.calls k a0 a1 t682 t685 t688 t691 true _ A3.out).mono ?_); rintro e w19 ⟨v683, v686, v689, v692, rfl, ho0, ho1, ho2, ho3, hb⟩; refine ⟨_, rfl, ?_⟩; have HO684 := aM (Kd.R_lower ho0 (below_size HB.out)); have HO687 := aM (Kd.R_lower ho1 (below_size HB.out)); have HO690 := aM (Kd.R_lower ho2 (below_size HB.out)); have HO693 := aM (Kd.R_lower ho3 (below_size HB.out)); replace HB := aM (below_step HB.out hb); (try clear hb); (try clear ho0); (try clear ho1); (try clear ho2); (try clear ho3)) | ((with_reducible refine gate_dst (N := 6) rfl ?_); refine box_event ?hg (N := 6) ?hd (cs := #[.slice none 0 0, .slice none 0 0]) (t := 60) ?hr ?_; (case hd => rfl); (case hg => rfl); (case hr => first | (go_simp; done)); intro gb695 hg w20 hbox hb; replace HO684 := aM (Kd.R_below HO684.out hb); replace HO687 := aM (Kd.R_below HO687.out hb); replace HO690 := aM (Kd.R_below HO690.out hb); replace HO693 := aM (Kd.R_below HO693.out hb); have BK695 := aM hbox; have GW695 := aM ((by rw [hg]; exact (below_size HB.out) : w.heap.size ≤ gb695)); have GE695 := aM ((by rw [hg]; exact (below_size HB.out) : w.heap.size ≤ gb695)); replace HB := aM (below_step HB.out hb); clear hb hbox hg) | ((with_reducible refine gate_dst (N := 7) rfl ?_); refine box_event ?hg (N := 7) ?hd (cs := #[.slice none 0 0, .slice none 0 0]) (t := 60) ?hr ?_; (case hd => rfl); (case hg => rfl); (case hr => first | (go_simp; done)); intro gb696 hg w21 hbox hb; replace HO684 := aM (Kd.R_below HO684.out hb); replace HO687 := aM (Kd.R_below HO687.out hb); replace HO690 := aM (Kd.R_below HO690.out hb); replace HO693 := aM (Kd.R_below HO693.out hb); have BK696 := aM hbox; have GW696 := aM ((by rw [hg]; exact (below_size HB.out) : w.heap.size ≤ gb696)); have GE696 := aM ((by rw [hg]; exact (below_size HB.out) : w.heap.size ≤ gb696)); replace HB := aM (below_step HB.out hb); have NB695_696 := aM ((by rw [hg]; exact Nat.ne_of_lt (blk_lt (g := gb695) (o := .cells #[.slice none 0 0, .slice none 0 0] 60 (0, 0)) BK695.out) : gb695 ≠ gb696)); have NB696_695 := aM ((by rw [hg]; exact Nat.ne_of_gt (blk_lt (g := gb695) (o := .cells #[.slice none 0 0, .slice none 0 0] 60 (0, 0)) BK695.out) : gb696 ≠ gb695)); replace BK695 := aM (blk_below (g := gb695) (o := .cells #[.slice none 0 0, .slice none 0 0] 60 (0, 0)) BK695.out hb); clear hb hbox hg; obtain ⟨Ao22, co22, eo22⟩ := Kd.R_slice HO684.out; subst eo22; have hnb23 := NB695_696.out; have hnc23 := NB696_695.out; have hcz24_0 : w21.cell? ⟨gb695, 0, none⟩ = some (.slice none 0 0) := (blk_cell BK695.out 0).trans rfl; have hcz24_1 : w21.cell? ⟨gb695, 1, none⟩ = some (.slice none 0 0) := (blk_cell BK695.out 1).trans rfl; have hfz24_0 := blk_frozen BK695.out 0; have hfz24_1 := blk_frozen BK695.out 1; obtain ⟨Ao25, co25, eo25⟩ := Kd.R_slice HO687.out; subst eo25; obtain ⟨Ao26, co26, eo26⟩ := Kd.R_slice HO690.out; subst eo26; have hcz27_0 : w21.cell? ⟨gb696, 0, none⟩ = some (.slice none 0 0) := (blk_cell BK696.out 0).trans rfl; have hcz27_1 : w21.cell? ⟨gb696, 1, none⟩ = some (.slice none 0 0) := (blk_cell BK696.out 1).trans rfl; have hfz27_0 := blk_frozen BK696.out 0; have hfz27_1 := blk_frozen BK696.out 1; obtain ⟨Ao28, co28, eo28⟩ := Kd.R_slice HO693.out; subst eo28) | ((with_reducible refine gate_callee (f := 61) rfl ?_); refine goesL_ (some 21) rfl rfl Try.func61 (by kernel_rfl) rfl #[.agg #[.slice Ao22 t682.length co22, .slice Ao25 t685.length co25], .int .i64 0] rfl (by (try simp only [List.map_toArray, List.map_cons, List.map_nil]); rfl) ?_; (with_reducible refine (impl_set_has.calls _ _ t682 _ _ t685 0 false _ ?side1 ?side2 ?side3 ?side4 A5.out).mono ?_); (case side1 => refine (Kd.R_reads' (e := 4) (base := w.heap.size) (ok := fun k_ => (some k_ ≠ (.slice Ao25 t685.length co25 : Value).ownBlock ∧ (some k_ ≠ (.slice Ao26 t688.length co26 : Value).ownBlock ∧ some k_ ≠ (.slice Ao28 t691.length co28 : Value).ownBlock))) (n := t682.length) (c := co22) ?_).2.2; exact (by exact (Kd.R_mono (Kd.R_mono (Kd.R_far (p := ⟨gb696, 1, none⟩) (Kd.R_far (p := ⟨gb696, 0, none⟩) (Kd.R_far (p := ⟨gb695, 1, none⟩) (Kd.R_far (p := ⟨gb695, 0, none⟩) (Kd.R_types (Kd.R_types HO684.out BK695.out (by decide)) BK696.out (by decide)) (fun _ hk => hk.1.2) (.slice Ao22 t682.length co22)) (fun _ hk => hk.1.2) (.slice Ao25 t685.length co25)) (fun _ hk => hk.2) (.slice Ao26 t688.length co26)) (fun _ hk => hk.2) (.slice Ao28 t691.length co28)) (fun _ h_ => h_.1)) (fun _ h_ => h_.1)))); (case side2 => exact (Kd.R_reads' HO684.out).2.1); (case side3 => refine (Kd.R_reads' (e := 4) (base := w.heap.size) (ok := fun k_ => (some k_ ≠ (.slice Ao22 t682.length co22 : Value).ownBlock ∧ (some k_ ≠ (.slice Ao26 t688.length co26 : Value).ownBlock ∧ some k_ ≠ (.slice Ao28 t691.length co28 : Value).ownBlock))) (n := t685.length) (c := co25) ?_).2.2; exact (by exact (Kd.R_mono (Kd.R_mono (Kd.R_far (p := ⟨gb696, 1, none⟩) (Kd.R_far (p := ⟨gb696, 0, none⟩) (Kd.R_far (p := ⟨gb695, 1, none⟩) (Kd.R_far (p := ⟨gb695, 0, none⟩) (Kd.R_types (Kd.R_types HO687.out BK695.out (by decide)) BK696.out (by decide)) (fun _ hk => hk.1.2) (.slice Ao22 t682.length co22)) (fun _ hk => hk.1.2) (.slice Ao25 t685.length co25)) (fun _ hk => hk.2) (.slice Ao26 t688.length co26)) (fun _ hk => hk.2) (.slice Ao28 t691.length co28)) (fun _ h_ => h_.1)) (fun _ h_ => h_.1)))); (case side4 => exact (Kd.R_reads' HO687.out).2.1); rintro e w29 ⟨rfl, hb⟩; refine ⟨_, rfl, ?_⟩; replace HO684 := aM (Kd.R_below (by exact (Kd.R_mono (Kd.R_mono (Kd.R_far (p := ⟨gb696, 1, none⟩) (Kd.R_far (p := ⟨gb696, 0, none⟩) (Kd.R_far (p := ⟨gb695, 1, none⟩) (Kd.R_far (p := ⟨gb695, 0, none⟩) (Kd.R_types (Kd.R_types HO684.out BK695.out (by decide)) BK696.out (by decide)) (fun _ hk => hk.1.2) (.slice Ao22 t682.length co22)) (fun _ hk => hk.1.2) (.slice Ao25 t685.length co25)) (fun _ hk => hk.2) (.slice Ao26 t688.length co26)) (fun _ hk => hk.2) (.slice Ao28 t691.length co28)) (fun _ h_ => h_.1)) (fun _ h_ => h_.1))) hb); replace HO687 := aM (Kd.R_below (by exact (Kd.R_mono (Kd.R_mono (Kd.R_far (p := ⟨gb696, 1, none⟩) (Kd.R_far (p := ⟨gb696, 0, none⟩) (Kd.R_far (p := ⟨gb695, 1, none⟩) (Kd.R_far (p := ⟨gb695, 0, none⟩) (Kd.R_types (Kd.R_types HO687.out BK695.out (by decide)) BK696.out (by decide)) (fun _ hk => hk.1.2) (.slice Ao22 t682.length co22)) (fun _ hk => hk.1.2) (.slice Ao25 t685.length co25)) (fun _ hk => hk.2) (.slice Ao26 t688.length co26)) (fun _ hk => hk.2) (.slice Ao28 t691.length co28)) (fun _ h_ => h_.1)) (fun _ h_ => h_.1))) hb); replace HO690 := aM (Kd.R_below (by exact (Kd.R_mono (Kd.R_mono (Kd.R_far (p := ⟨gb696, 1, none⟩) (Kd.R_far (p := ⟨gb696, 0, none⟩) (Kd.R_far (p := ⟨gb695, 1, none⟩) (Kd.R_far (p := ⟨gb695, 0, none⟩) (Kd.R_types (Kd.R_types HO690.out BK695.out (by decide)) BK696.out (by decide)) (fun _ hk => hk.1.2) (.slice Ao22 t682.length co22)) (fun _ hk => hk.1.2) (.slice Ao25 t685.length co25)) (fun _ hk => hk.2) (.slice Ao26 t688.length co26)) (fun _ hk => hk.2) (.slice Ao28 t691.length co28)) (fun _ h_ => h_.1)) (fun _ h_ => h_.1))) hb); replace HO693 := aM (Kd.R_below (by exact (Kd.R_mono (Kd.R_mono (Kd.R_far (p := ⟨gb696, 1, none⟩) (Kd.R_far (p := ⟨gb696, 0, none⟩) (Kd.R_far (p := ⟨gb695, 1, none⟩) (Kd.R_far (p := ⟨gb695, 0, none⟩) (Kd.R_types (Kd.R_types HO693.out BK695.out (by decide)) BK696.out (by decide)) (fun _ hk => hk.1.2) (.slice Ao22 t682.length co22)) (fun _ hk => hk.1.2) (.slice Ao25 t685.length co25)) (fun _ hk => hk.2) (.slice Ao26 t688.length co26)) (fun _ hk => hk.2) (.slice Ao28 t691.length co28)) (fun _ h_ => h_.1)) (fun _ h_ => h_.1))) hb); replace BK695 := aM (blk_below (g := gb695) (o := .cells #[.slice Ao22 t682.length co22, .slice Ao25 t685.length co25] 60 (0, 0)) (by refine blk_far ?_ NB695_696.out _; refine blk_far ?_ NB695_696.out _; refine blk_put (cs := #[.slice Ao22 t682.length co22, .slice none 0 0]) ?_ 1 _ rfl; refine blk_put (cs := #[.slice none 0 0, .slice none 0 0]) ?_ 0 _ rfl; exact BK695.out) hb); replace BK696 := aM (blk_below (g := gb696) (o := .cells #[.slice Ao26 t688.length co26, .slice Ao28 t691.length co28] 60 (0, 0)) (by refine blk_put (cs := #[.slice Ao26 t688.length co26, .slice none 0 0]) ?_ 1 _ rfl; refine blk_put (cs := #[.slice none 0 0, .slice none 0 0]) ?_ 0 _ rfl; refine blk_far ?_ NB696_695.out _; refine blk_far ?_ NB696_695.out _; exact BK696.out) hb); replace HB := aM (below_step (by repeat (first | (with_reducible first | exact HB.out | refine bS ?_ GE695.out | refine bS ?_ GE696.out))) hb); (try clear hb)) | ((with_reducible refine gate_callee (f := 16) rfl ?_); refine goesL_ (some 24) rfl rfl Try.func16 (by kernel_rfl) rfl #[.string a0, .string a1] rfl (by (try simp only [List.map_toArray, List.map_cons, List.map_nil]); rfl) ?_; (with_reducible refine (impl_SolveLeast.calls k a0 a1 t698 t699 _ A18.out).mono ?_); rintro e w30 ⟨rfl, hb⟩; refine ⟨_, rfl, ?_⟩; replace HO684 := aM (Kd.R_below HO684.out hb); replace HO687 := aM (Kd.R_below HO687.out hb); replace HO690 := aM (Kd.R_below HO690.out hb); replace HO693 := aM (Kd.R_below HO693.out hb); replace BK695 := aM (blk_below (g := gb695) (o := .cells #[.slice Ao22 t682.length co22, .slice Ao25 t685.length co25] 60 (0, 0)) BK695.out hb); replace BK696 := aM (blk_below (g := gb696) (o := .cells #[.slice Ao26 t688.length co26, .slice Ao28 t691.length co28] 60 (0, 0)) BK696.out hb); replace HB := aM (below_step HB.out hb); (try clear hb)))
   go_ret2
   exact ⟨by first | rfl | (simp [*, errW_none, errW_some] <;> rfl), HB.out⟩
 ·replace c4 := Bool.eq_false_iff.mpr c4
  subst c4
  replace H : (some ((⟨#[]⟩ : ByteArray), false)) = some (r1, r2) := by rw [if_neg (show ¬ (false = true) by decide)] at H; exact H
  simp only [Option.some.injEq, Prod.mk.injEq] at H
  obtain ⟨rfl, rfl⟩ := H
  go_enter Try.func22, Try.ntmps22
  go_wp2_with (first | ((with_reducible refine gate_callee (f := 54) rfl ?_); refine goesL_ (some 12) rfl rfl Try.func54 (by kernel_rfl) rfl #[.string a0, .string a1] rfl (by (try simp only [List.map_toArray, List.map_cons, List.map_nil]); rfl) ?_; (with_reducible refine (impl_two.calls k a0 a1 t682 t685 t688 t691 false _ A3.out).mono ?_); rintro e w31 ⟨v683, v686, v689, v692, rfl, ho0, ho1, ho2, ho3, hb⟩; refine ⟨_, rfl, ?_⟩; have HO684 := aM (Kd.R_lower ho0 (below_size HB.out)); have HO687 := aM (Kd.R_lower ho1 (below_size HB.out)); have HO690 := aM (Kd.R_lower ho2 (below_size HB.out)); have HO693 := aM (Kd.R_lower ho3 (below_size HB.out)); replace HB := aM (below_step HB.out hb); (try clear hb); (try clear ho0); (try clear ho1); (try clear ho2); (try clear ho3)) | ((with_reducible refine gate_dst (N := 6) rfl ?_); refine box_event ?hg (N := 6) ?hd (cs := #[.slice none 0 0, .slice none 0 0]) (t := 60) ?hr ?_; (case hd => rfl); (case hg => rfl); (case hr => first | (go_simp; done)); intro gb695 hg w32 hbox hb; replace HO684 := aM (Kd.R_below HO684.out hb); replace HO687 := aM (Kd.R_below HO687.out hb); replace HO690 := aM (Kd.R_below HO690.out hb); replace HO693 := aM (Kd.R_below HO693.out hb); have BK695 := aM hbox; have GW695 := aM ((by rw [hg]; exact (below_size HB.out) : w.heap.size ≤ gb695)); have GE695 := aM ((by rw [hg]; exact (below_size HB.out) : w.heap.size ≤ gb695)); replace HB := aM (below_step HB.out hb); clear hb hbox hg) | ((with_reducible refine gate_dst (N := 7) rfl ?_); refine box_event ?hg (N := 7) ?hd (cs := #[.slice none 0 0, .slice none 0 0]) (t := 60) ?hr ?_; (case hd => rfl); (case hg => rfl); (case hr => first | (go_simp; done)); intro gb696 hg w33 hbox hb; replace HO684 := aM (Kd.R_below HO684.out hb); replace HO687 := aM (Kd.R_below HO687.out hb); replace HO690 := aM (Kd.R_below HO690.out hb); replace HO693 := aM (Kd.R_below HO693.out hb); have BK696 := aM hbox; have GW696 := aM ((by rw [hg]; exact (below_size HB.out) : w.heap.size ≤ gb696)); have GE696 := aM ((by rw [hg]; exact (below_size HB.out) : w.heap.size ≤ gb696)); replace HB := aM (below_step HB.out hb); have NB695_696 := aM ((by rw [hg]; exact Nat.ne_of_lt (blk_lt (g := gb695) (o := .cells #[.slice none 0 0, .slice none 0 0] 60 (0, 0)) BK695.out) : gb695 ≠ gb696)); have NB696_695 := aM ((by rw [hg]; exact Nat.ne_of_gt (blk_lt (g := gb695) (o := .cells #[.slice none 0 0, .slice none 0 0] 60 (0, 0)) BK695.out) : gb696 ≠ gb695)); replace BK695 := aM (blk_below (g := gb695) (o := .cells #[.slice none 0 0, .slice none 0 0] 60 (0, 0)) BK695.out hb); clear hb hbox hg; obtain ⟨Ao34, co34, eo34⟩ := Kd.R_slice HO684.out; subst eo34; have hnb35 := NB695_696.out; have hnc35 := NB696_695.out; have hcz36_0 : w33.cell? ⟨gb695, 0, none⟩ = some (.slice none 0 0) := (blk_cell BK695.out 0).trans rfl; have hcz36_1 : w33.cell? ⟨gb695, 1, none⟩ = some (.slice none 0 0) := (blk_cell BK695.out 1).trans rfl; have hfz36_0 := blk_frozen BK695.out 0; have hfz36_1 := blk_frozen BK695.out 1; obtain ⟨Ao37, co37, eo37⟩ := Kd.R_slice HO687.out; subst eo37; obtain ⟨Ao38, co38, eo38⟩ := Kd.R_slice HO690.out; subst eo38; have hcz39_0 : w33.cell? ⟨gb696, 0, none⟩ = some (.slice none 0 0) := (blk_cell BK696.out 0).trans rfl; have hcz39_1 : w33.cell? ⟨gb696, 1, none⟩ = some (.slice none 0 0) := (blk_cell BK696.out 1).trans rfl; have hfz39_0 := blk_frozen BK696.out 0; have hfz39_1 := blk_frozen BK696.out 1; obtain ⟨Ao40, co40, eo40⟩ := Kd.R_slice HO693.out; subst eo40))
  go_ret2
  exact ⟨by first | rfl | (simp [*, errW_none, errW_some] <;> rfl), by repeat (first | (with_reducible first | exact HB.out | refine bS ?_ GE695.out | refine bS ?_ GE696.out))⟩


/-- A state of type 102 at block g of W; what its slices lead to came in by w0. -/
def IsS102 (w0 W : World) (g : Nat) (f0 : List Int) (f1 : Int) : Prop := ∃ A0 c0, W.heap[g]? = some (.cells #[.slice A0 f0.length c0, .int .i64 f1] 102 (0, 0)) ∧ w0.heap.size ≤ g ∧ Kd.C (Kd.int .u8) w0 A0 f0.length f0
theorem IsS102.grown {w0 W : World} {g : Nat} {f0 : List Int} {f1 : Int} {W1 : World} {row : Option Nat} (h : IsS102 w0 W g f0 f1) (hw : W.grownBy W1 row) (hne : some g ≠ row) : IsS102 w0 W1 g f0 f1 := by
 obtain ⟨A0, c0, hb, hg, hr0⟩ := h
 exact ⟨A0, c0, blk_grown hb hw hne, hg, hr0⟩
theorem IsS102.kept {w0 W : World} {g : Nat} {f0 : List Int} {f1 : Int} {W1 : World} {S : Nat → Prop} (h : IsS102 w0 W g f0 f1) (hk : Kept W W1 S) (hne : ¬ S g) : IsS102 w0 W1 g f0 f1 := by
 obtain ⟨A0, c0, hb, hg, hr0⟩ := h
 exact ⟨A0, c0, blk_kept hb hk hne, hg, hr0⟩
theorem IsS102.below {w0 W : World} {g : Nat} {f0 : List Int} {f1 : Int} {W1 : World} (h : IsS102 w0 W g f0 f1) (hw : Below W.heap.size W W1) : IsS102 w0 W1 g f0 f1 := h.grown (grown_of_below hw none) (by simp)
theorem IsS102.alloc {w0 W : World} {g : Nat} {f0 : List Int} {f1 : Int} (h : IsS102 w0 W g f0 f1) (o : Obj) : IsS102 w0 (W.alloc o) g f0 f1 := h.below (bA (Below.refl _ _) o)
theorem IsS102.drewN {w0 W : World} {g : Nat} {f0 : List Int} {f1 : Int} (h : IsS102 w0 W g f0 f1) (m : Nat) : IsS102 w0 (W.drewN m) g f0 f1 := h
theorem IsS102.drew {w0 W : World} {g : Nat} {f0 : List Int} {f1 : Int} (h : IsS102 w0 W g f0 f1) : IsS102 w0 W.drew g f0 f1 := h
theorem IsS102.at_ {w0 W : World} {g : Nat} {f0 : List Int} {f1 : Int} {w' : World} {m : Nat} (hq : W.drewN m = w') (h : IsS102 w0 W g f0 f1) : IsS102 w0 w' g f0 f1 := by subst hq; exact IsS102.drewN h m
theorem IsS102.apart {w0 W : World} {g : Nat} {f0 : List Int} {f1 : Int} {α : Type} {d : Kd α} {e : Nat} {base : Nat} {ok : Nat → Prop} {v : Value} {xs : List α} (h : IsS102 w0 W g f0 f1) (ho : d.R e W base ok v xs) (ht : ∀ q, q ∈ e :: d.E → q ≠ 102) : d.R e W base (fun k => ok k ∧ k ≠ g) v xs := by
 obtain ⟨A0, c0, hb, hg, hr0⟩ := h
 exact Kd.R_types ho hb ht
theorem IsS102.own_ne {w0 W : World} {g : Nat} {f0 : List Int} {f1 : Int} {α : Type} {d : Kd α} {e : Nat} {base : Nat} {ok : Nat → Prop} {v : Value} {xs : List α} (h : IsS102 w0 W g f0 f1) (ho : d.R e W base ok v xs) (ht : e ≠ 102) : some g ≠ v.ownBlock := by
 obtain ⟨A0, c0, hb, hg, hr0⟩ := h
 exact Kd.R_ne ho hb ht
theorem IsS102.lt {w0 W : World} {g : Nat} {f0 : List Int} {f1 : Int} (h : IsS102 w0 W g f0 f1) : g < W.heap.size := by
 obtain ⟨A0, c0, hb, hg, hr0⟩ := h
 exact blk_lt hb
theorem IsS102.ge {w0 W : World} {g : Nat} {f0 : List Int} {f1 : Int} (h : IsS102 w0 W g f0 f1) : w0.heap.size ≤ g := by
 obtain ⟨A0, c0, hb, hg, hr0⟩ := h
 exact hg
theorem cellS102_0 {W : World} {g : Nat} {A0 : Option Addr} {c0 : Nat} {f0 : List Int} {f1 : Int} (h : W.heap[g]? = some (.cells #[.slice A0 f0.length c0, .int .i64 f1] 102 (0, 0))) : W.cell? ⟨g, 0, none⟩ = some (.slice A0 f0.length c0) := (blk_cell h 0).trans rfl
theorem cellS102_1 {W : World} {g : Nat} {A0 : Option Addr} {c0 : Nat} {f0 : List Int} {f1 : Int} (h : W.heap[g]? = some (.cells #[.slice A0 f0.length c0, .int .i64 f1] 102 (0, 0))) : W.cell? ⟨g, 1, none⟩ = some (.int .i64 f1) := (blk_cell h 1).trans rfl
theorem IsS102.set_1 {w0 W : World} {g : Nat} {f0 : List Int} {f1 : Int} (h : IsS102 w0 W g f0 f1) (x : Int) : IsS102 w0 (W.setCell ⟨g, 1, none⟩ (.int .i64 x)) g f0 x := by
 obtain ⟨A0, c0, hb, hg, hr0⟩ := h
 exact ⟨A0, c0, by simpa using blk_set hb 1 (.int .i64 x), hg, hr0⟩
def spec_l6Open.f (l0 : List Int) : Option (List Int × Int) := if (l0.length : Int) > 2000 then (if 2000 ≤ (l0.length : Int) then (some (l0.take 2000, 0)) else (none)) else (some (l0, 0))
set_option maxHeartbeats 8000000 in
set_option maxRecDepth 100000 in
theorem spec_l6Open.calls (A0 : Option Addr) (c0 : Nat) (l0 : List Int) (r1 : List Int) (r2 : Int) (w0 w : World) (hB : Below w0.heap.size w0 w) (hr0 : Kd.C (Kd.int .u8) w0 A0 l0.length l0) (hc0 : l0.length ≤ c0) (h : spec_l6Open.f l0 = some (r1, r2)) :
  Calls Try.prog 51 #[.slice A0 l0.length c0] w fun e w' => ∃ g_ : Nat, e = .returned (.pointer (some ⟨g_, 0, none⟩)) ∧ IsS102 w0 w' g_ r1 r2 ∧ Below w0.heap.size w0 w' ∧ Below w.heap.size w w' := by
 have hu102 := Try.underlying102
 have HR0 := aM hr0
 have HC0 := aM hc0
 clear hr0 hc0
 have HBW := aM (Below.refl w.heap.size w)
 have HW0 := aM hB.size
 have HB := aM hB
 clear hB
 have H : (if (l0.length : Int) > 2000 then (if 2000 ≤ (l0.length : Int) then (some (l0.take 2000, 0)) else (none)) else (some (l0, 0))) = some (r1, r2) := h
 clear h
 by_cases c2 : (l0.length : Int) > 2000
 ·rw [if_pos c2] at H
  have c2b0 : decide (2000 < (l0.length : Int)) = true := decide_eq_true c2
  have c2b1 : decide (2000 < l0.length) = true := decide_eq_true (by omega)
  clear c2
  by_cases c3 : 2000 ≤ (l0.length : Int)
  ·rw [if_pos c3] at H
   have c3b0 := eq_true c3
   have c3b1 : decide (2000 ≤ (l0.length : Int)) = true := decide_eq_true c3
   clear c3
   simp only [Option.some.injEq, Prod.mk.injEq] at H
   obtain ⟨rfl, rfl⟩ := H
   obtain ⟨i04, hi04, _, hsz4, _⟩ := info_parts info5
   obtain ⟨hcut4, hA4, hC4⟩ := print_take_of (P := Try.prog) (Value.int .u8) 0 22 5 .i64 Try.underlying22 hi04 hsz4 A0 c0 l0 2000 (by omega) (of_decide_eq_true (by (with_reducible assumption))) HC0.out
   have HR101 := aM (Kd.C_of_reads (h1 := fun _ => rfl) (hA4 _ (Kd.reads_of_C HR0.out)))
   have HC101 := aM hC4
   clear hA4 hC4 hi04 hsz4
   go_enter Try.func51, Try.ntmps51
   go_wp2_with (first | ((with_reducible refine gate_dst (N := 10) rfl ?_); refine box_event ?hg (N := 10) ?hd (cs := #[.slice A0 (l0.take 2000).length c0, .int .i64 0]) (t := 102) ?hr ?_; (case hd => rfl); (case hg => rfl); (case hr => first | (go_simp; done)); intro gb102 hg w5 hbox hb; replace HB := aM (below_step HB.out hb); have BK102 := aM hbox; have GW102 := aM ((by rw [hg]; exact (below_size HBW.out) : w.heap.size ≤ gb102)); have GE102 := aM ((Nat.le_trans HW0.out (by rw [hg]; exact (below_size HBW.out) : w.heap.size ≤ gb102) : w0.heap.size ≤ gb102)); replace HBW := aM (below_step HBW.out hb); clear hb hbox hg))
   go_ret
   exact ⟨_, rfl, (show IsS102 w0 _ gb102 (l0.take 2000) 0 from ⟨_, _, by exact BK102.out, GE102.out, HR101.out⟩), HB.out, HBW.out⟩
  ·rw [if_neg c3] at H
   exact absurd H (by simp)
 ·rw [if_neg c2] at H
  have c2b0 : decide (2000 < (l0.length : Int)) = false := decide_eq_false c2
  have c2b1 : decide (2000 < l0.length) = false := decide_eq_false (by omega)
  clear c2
  simp only [Option.some.injEq, Prod.mk.injEq] at H
  obtain ⟨rfl, rfl⟩ := H
  go_enter Try.func51, Try.ntmps51
  go_wp2_with (first | ((with_reducible refine gate_dst (N := 10) rfl ?_); refine box_event ?hg (N := 10) ?hd (cs := #[.slice A0 l0.length c0, .int .i64 0]) (t := 102) ?hr ?_; (case hd => rfl); (case hg => rfl); (case hr => first | (go_simp; done)); intro gb103 hg w6 hbox hb; replace HB := aM (below_step HB.out hb); have BK103 := aM hbox; have GW103 := aM ((by rw [hg]; exact (below_size HBW.out) : w.heap.size ≤ gb103)); have GE103 := aM ((Nat.le_trans HW0.out (by rw [hg]; exact (below_size HBW.out) : w.heap.size ≤ gb103) : w0.heap.size ≤ gb103)); replace HBW := aM (below_step HBW.out hb); clear hb hbox hg))
  go_ret
  exact ⟨_, rfl, (show IsS102 w0 _ gb103 l0 0 from ⟨_, _, by exact BK103.out, GE103.out, HR0.out⟩), HB.out, HBW.out⟩


def spec_l6Rd_pick.j0 : Nat → Int → Bool → List Int → Int → Option (Int × Int)
 | 0, _, _, _, _ => none
 | k + 1, x1, x24, x1000, x1001 => if x24 = true then (some (0, x1001)) else (if (wrap64 (x1001 - 1)) < (x1000.length : Int) then (if 0 ≤ (wrap64 (x1001 - 1)) then (if x1 = 0 then (none) else (some (Int.tmod (wrap64 (rd x1000 (wrap64 (x1001 - 1)))) x1, x1001))) else (none)) else (if (x1000.length : Int) = 0 then (none) else (if 0 ≤ (Int.tmod (wrap64 (x1001 - 1)) (x1000.length : Int)) then (if (Int.tmod (wrap64 (x1001 - 1)) (x1000.length : Int)) < (x1000.length : Int) then (if 0 ≤ (Int.tmod (wrap64 ((wrap64 ((wrap64 (x1001 - 1)) * 7)) + 3)) (x1000.length : Int)) then (if (Int.tmod (wrap64 ((wrap64 ((wrap64 (x1001 - 1)) * 7)) + 3)) (x1000.length : Int)) < (x1000.length : Int) then (if x1 = 0 then (none) else (some (Int.tmod (Go.bits .xor .i64 (wrap64 ((wrap64 ((wrap64 ((wrap64 ((wrap64 (rd x1000 (Int.tmod (wrap64 (x1001 - 1)) (x1000.length : Int)))) * 131)) + (wrap64 ((wrap64 (rd x1000 (Int.tmod (wrap64 ((wrap64 ((wrap64 (x1001 - 1)) * 7)) + 3)) (x1000.length : Int)))) * 1117)))) + (wrap64 ((wrap64 (x1001 - 1)) * 29)))) + (wrap64 ((wrap64 (Int.tdiv (wrap64 (x1001 - 1)) (x1000.length : Int))) * 53)))) (wrap64 (Int.tdiv (wrap64 ((wrap64 ((wrap64 ((wrap64 ((wrap64 (rd x1000 (Int.tmod (wrap64 (x1001 - 1)) (x1000.length : Int)))) * 131)) + (wrap64 ((wrap64 (rd x1000 (Int.tmod (wrap64 ((wrap64 ((wrap64 (x1001 - 1)) * 7)) + 3)) (x1000.length : Int)))) * 1117)))) + (wrap64 ((wrap64 (x1001 - 1)) * 29)))) + (wrap64 ((wrap64 (Int.tdiv (wrap64 (x1001 - 1)) (x1000.length : Int))) * 53)))) 64))) x1, x1001))) else (none)) else (none)) else (none)) else (none))))
def spec_l6Rd_pick.f (k : Nat) (s0_0 : List Int) (s0_1 : Int) (a1 : Int) : Option (Int × Int) := if a1 < 1 then (spec_l6Rd_pick.j0 k a1 true s0_0 (wrap64 (s0_1 + 1))) else (spec_l6Rd_pick.j0 k a1 ((s0_0.length : Int) == 0) s0_0 (wrap64 (s0_1 + 1)))
theorem spec_l6Rd_pick.mono_l : ∀ k, (∀ y0 y1 y2 y3, LeO (spec_l6Rd_pick.j0 k y0 y1 y2 y3) (spec_l6Rd_pick.j0 (k + 1) y0 y1 y2 y3))
 | 0 => fun _ _ _ _ r h => by simp [spec_l6Rd_pick.j0] at h
 | k + 1 => by
  have ih0 := spec_l6Rd_pick.mono_l k
  ·intro y0 y1 y2 y3
   unfold spec_l6Rd_pick.j0
   repeat' (with_reducible exact LeO.refl _)
theorem spec_l6Rd_pick.mono : ∀ a0 a1 a2 k, LeO (spec_l6Rd_pick.f k a0 a1 a2) (spec_l6Rd_pick.f (k + 1) a0 a1 a2) := by
 intro a0 a1 a2 k
 have ih0 := spec_l6Rd_pick.mono_l k
 unfold spec_l6Rd_pick.f
 repeat' first | (with_reducible exact ih0 _ _ _ _) | (with_reducible refine LeO.ite ?_ ?_)
set_option maxHeartbeats 8000000 in
set_option maxRecDepth 100000 in
theorem spec_l6Rd_pick.calls (k : Nat) (g : Nat) (s0_0 : List Int) (s0_1 : Int) (a1 : Int) (r1 : Int) (r2 : Int) (w0 w : World) (hI : IsS102 w0 w g s0_0 s0_1) (hB : Below w0.heap.size w0 w) (h : spec_l6Rd_pick.f k s0_0 s0_1 a1 = some (r1, r2)) :
  Calls Try.prog 53 #[.pointer (some ⟨g, 0, none⟩), .int .i64 a1] w fun e w' => e = .returned (.int .i64 r1) ∧ IsS102 w0 w' g s0_0 r2 ∧ Below w0.heap.size w0 w' ∧ KeepBut w w' g none := by
 have HI0 := aM hI
 have HK := aM (KeepBut.refl w g none)
 have HL := aM hB.size
 clear hI
 have HW0 := aM hB.size
 have HB := aM hB
 clear hB
 have H : (if a1 < 1 then (spec_l6Rd_pick.j0 k a1 true s0_0 (wrap64 (s0_1 + 1))) else (spec_l6Rd_pick.j0 k a1 ((s0_0.length : Int) == 0) s0_0 (wrap64 (s0_1 + 1)))) = some (r1, r2) := h
 clear h
 have HC3 := aM H
 clear H
 obtain ⟨ASz4_0, cSz4_0, HGz4, hgz4, HSz4_0⟩ := HI0.out
 have hcz4_0 := cellS102_0 HGz4
 have hcz4_1 := cellS102_1 HGz4
 have hfz4_1 := blk_frozen HGz4 1
 clear HGz4 hgz4
 go_enter Try.func53, Try.ntmps53
 go_upto_region 2 with (fail)
 repeat (go_quiet (fail); go_upto_region 2 with (fail))
 go_cut [24] (fun v24 wc => ∃ (kq : Nat) (x24_2 : Bool), v24 = .bool x24_2 ∧ Aside0 (spec_l6Rd_pick.j0 kq a1 x24_2 s0_0 (wrap64 (s0_1 + 1)) = some (r1, r2)) ∧ Aside0 (kq ≤ k) ∧ Aside0 (IsS102 w0 wc g s0_0 (wrap64 (s0_1 + 1))) ∧ Aside0 (KeepBut w wc g none) ∧ Aside0 (Below w0.heap.size w0 wc))
 case first =>
  have H := HC3.out
  clear HC3
  by_cases c5 : a1 < 1
  ·rw [if_pos c5] at H
   have c5b0 : decide (a1 < 1) = true := decide_eq_true c5
   clear c5
   have H' := aM H
   clear H
   go_wp2
   repeat (go_quiet (fail); try go_wp2)
   go_meet
   case rel => exact ⟨_, (true), (by rfl), H', ⟨by omega⟩, ⟨by repeat (first | (with_reducible first | exact HI0.out | apply IsS102.set_1))⟩, ⟨by repeat (first | (with_reducible first | exact HK.out | apply KeepBut.set_))⟩, ⟨by repeat (first | (with_reducible first | exact HB.out | refine bS ?_ (IsS102.ge HI0.out)))⟩⟩
  ·rw [if_neg c5] at H
   have c5b0 : decide (a1 < 1) = false := decide_eq_false c5
   clear c5
   have H' := aM H
   clear H
   obtain ⟨ASz6_0, cSz6_0, HGz6, hgz6, HSz6_0⟩ := HI0.out
   have hcz6_0 := cellS102_0 HGz6
   have hcz6_1 := cellS102_1 HGz6
   have hfz6_1 := blk_frozen HGz6 1
   clear HGz6 hgz6
   go_wp2
   repeat (go_quiet (fail); try go_wp2)
   go_meet
   case rel => exact ⟨_, (((s0_0.length : Int) == 0)), (by rfl), H', ⟨by omega⟩, ⟨by repeat (first | (with_reducible first | exact HI0.out | apply IsS102.set_1))⟩, ⟨by repeat (first | (with_reducible first | exact HK.out | apply KeepBut.set_))⟩, ⟨by repeat (first | (with_reducible first | exact HB.out | refine bS ?_ (IsS102.ge HI0.out)))⟩⟩
 case rest =>
  clear HC3
  try clear hcz4_0
  try clear hcz4_1
  try clear hfz4_1
  obtain ⟨kq, x24_2, rfl, HA, HJ2, HI0, HK, HB⟩ := hcut
  cases kq with
  | zero => exact absurd HA.out (by simp [spec_l6Rd_pick.j0])
  | succ kj2 =>
   have H := HA.out
   clear HA
   simp only [spec_l6Rd_pick.j0] at H
   by_cases c7 : x24_2 = true
   ·subst c7
    replace H : (some (0, (wrap64 (s0_1 + 1)))) = some (r1, r2) := by rw [if_pos rfl] at H; exact H
    simp only [Option.some.injEq, Prod.mk.injEq] at H
    obtain ⟨rfl, rfl⟩ := H
    go_wp2
    repeat (go_quiet (fail); try go_wp2)
    go_ret
    exact ⟨by first | rfl | (simp [*, errW_none, errW_some] <;> rfl), HI0.out, HB.out, HK.out⟩
   ·replace c7 := Bool.eq_false_iff.mpr c7
    subst c7
    replace H : (if (wrap64 ((wrap64 (s0_1 + 1)) - 1)) < (s0_0.length : Int) then (if 0 ≤ (wrap64 ((wrap64 (s0_1 + 1)) - 1)) then (if a1 = 0 then (none) else (some (Int.tmod (wrap64 (rd s0_0 (wrap64 ((wrap64 (s0_1 + 1)) - 1)))) a1, (wrap64 (s0_1 + 1))))) else (none)) else (if (s0_0.length : Int) = 0 then (none) else (if 0 ≤ (Int.tmod (wrap64 ((wrap64 (s0_1 + 1)) - 1)) (s0_0.length : Int)) then (if (Int.tmod (wrap64 ((wrap64 (s0_1 + 1)) - 1)) (s0_0.length : Int)) < (s0_0.length : Int) then (if 0 ≤ (Int.tmod (wrap64 ((wrap64 ((wrap64 ((wrap64 (s0_1 + 1)) - 1)) * 7)) + 3)) (s0_0.length : Int)) then (if (Int.tmod (wrap64 ((wrap64 ((wrap64 ((wrap64 (s0_1 + 1)) - 1)) * 7)) + 3)) (s0_0.length : Int)) < (s0_0.length : Int) then (if a1 = 0 then (none) else (some (Int.tmod (Go.bits .xor .i64 (wrap64 ((wrap64 ((wrap64 ((wrap64 ((wrap64 (rd s0_0 (Int.tmod (wrap64 ((wrap64 (s0_1 + 1)) - 1)) (s0_0.length : Int)))) * 131)) + (wrap64 ((wrap64 (rd s0_0 (Int.tmod (wrap64 ((wrap64 ((wrap64 ((wrap64 (s0_1 + 1)) - 1)) * 7)) + 3)) (s0_0.length : Int)))) * 1117)))) + (wrap64 ((wrap64 ((wrap64 (s0_1 + 1)) - 1)) * 29)))) + (wrap64 ((wrap64 (Int.tdiv (wrap64 ((wrap64 (s0_1 + 1)) - 1)) (s0_0.length : Int))) * 53)))) (wrap64 (Int.tdiv (wrap64 ((wrap64 ((wrap64 ((wrap64 ((wrap64 (rd s0_0 (Int.tmod (wrap64 ((wrap64 (s0_1 + 1)) - 1)) (s0_0.length : Int)))) * 131)) + (wrap64 ((wrap64 (rd s0_0 (Int.tmod (wrap64 ((wrap64 ((wrap64 ((wrap64 (s0_1 + 1)) - 1)) * 7)) + 3)) (s0_0.length : Int)))) * 1117)))) + (wrap64 ((wrap64 ((wrap64 (s0_1 + 1)) - 1)) * 29)))) + (wrap64 ((wrap64 (Int.tdiv (wrap64 ((wrap64 (s0_1 + 1)) - 1)) (s0_0.length : Int))) * 53)))) 64))) a1, (wrap64 (s0_1 + 1))))) else (none)) else (none)) else (none)) else (none)))) = some (r1, r2) := by rw [if_neg (show ¬ (false = true) by decide)] at H; exact H
    by_cases c8 : (wrap64 ((wrap64 (s0_1 + 1)) - 1)) < (s0_0.length : Int)
    ·rw [if_pos c8] at H
     have c8b0 : decide ((wrap64 ((wrap64 (s0_1 + 1)) - 1)) < (s0_0.length : Int)) = true := decide_eq_true c8
     clear c8
     obtain ⟨ji9, hji9⟩ : ∃ j_ : Int, (wrap64 ((wrap64 (s0_1 + 1)) - 1)) = j_ := ⟨_, rfl⟩
     replace H : (if 0 ≤ (ji9) then (if a1 = 0 then (none) else (some (Int.tmod (wrap64 (rd s0_0 (ji9))) a1, (wrap64 (s0_1 + 1))))) else (none)) = some (r1, r2) := by first | (rw [hji9] at H; exact H)
     (try rw [hji9] at c8b0)
     have hji9w : (IntKind.i64.wrap ((wrap64 (s0_1 + 1)) - 1)) = ji9 := (i64_w _).trans hji9
     by_cases c10 : 0 ≤ (ji9)
     ·rw [if_pos c10] at H
      have c10b0 : decide (0 ≤ (ji9)) = true := decide_eq_true c10
      clear c10
      by_cases c11 : a1 = 0
      ·rw [if_pos c11] at H
       exact absurd H (by simp)
      ·rw [if_neg c11] at H
       have c11b0 : (a1 == 0) = false := beq_eq_false_iff_ne.mpr c11
       have c11b1 : (a1 != 0) = true := bne_iff_ne.mpr c11
       simp only [Option.some.injEq, Prod.mk.injEq] at H
       obtain ⟨rfl, rfl⟩ := H
       obtain ⟨ASz12_0, cSz12_0, HGz12, hgz12, HSz12_0⟩ := HI0.out
       have hcz12_0 := cellS102_0 HGz12
       have hcz12_1 := cellS102_1 HGz12
       have hfz12_1 := blk_frozen HGz12 1
       clear HGz12 hgz12
       have p104 : 0 ≤ ((ji9) : Int) := of_decide_eq_true (by (with_reducible assumption))
       have q104 : (ji9) < (s0_0.length : Int) := of_decide_eq_true (by (with_reducible assumption))
       obtain ⟨ad104, e104, hx104_0⟩ := Kd.at_int HSz12_0 (ji9) p104 q104
       cases e104
       replace hx104_0 := pw_cell_below HB.out hx104_0
       replace p104 := eq_true p104
       replace q104 := eq_true q104
       go_wp2
       repeat (go_quiet (fail); try go_wp2)
       go_ret
       exact ⟨by first | rfl | (simp [*, errW_none, errW_some] <;> rfl), HI0.out, HB.out, HK.out⟩
     ·rw [if_neg c10] at H
      exact absurd H (by simp)
    ·rw [if_neg c8] at H
     have c8b0 : decide ((wrap64 ((wrap64 (s0_1 + 1)) - 1)) < (s0_0.length : Int)) = false := decide_eq_false c8
     clear c8
     by_cases c13 : (s0_0.length : Int) = 0
     ·rw [if_pos c13] at H
      exact absurd H (by simp)
     ·rw [if_neg c13] at H
      have c13b0 : ((s0_0.length : Int) == 0) = false := beq_eq_false_iff_ne.mpr c13
      have c13b1 : ((s0_0.length : Int) != 0) = true := bne_iff_ne.mpr c13
      have c13b2 : ¬ (s0_0 = []) := fun h_ => c13 (by rw [h_]; rfl)
      obtain ⟨ji14, hji14⟩ : ∃ j_ : Int, (Int.tmod (wrap64 ((wrap64 (s0_1 + 1)) - 1)) (s0_0.length : Int)) = j_ := ⟨_, rfl⟩
      replace H : (if 0 ≤ (ji14) then (if (ji14) < (s0_0.length : Int) then (if 0 ≤ (Int.tmod (wrap64 ((wrap64 ((wrap64 ((wrap64 (s0_1 + 1)) - 1)) * 7)) + 3)) (s0_0.length : Int)) then (if (Int.tmod (wrap64 ((wrap64 ((wrap64 ((wrap64 (s0_1 + 1)) - 1)) * 7)) + 3)) (s0_0.length : Int)) < (s0_0.length : Int) then (if a1 = 0 then (none) else (some (Int.tmod (Go.bits .xor .i64 (wrap64 ((wrap64 ((wrap64 ((wrap64 ((wrap64 (rd s0_0 (ji14))) * 131)) + (wrap64 ((wrap64 (rd s0_0 (Int.tmod (wrap64 ((wrap64 ((wrap64 ((wrap64 (s0_1 + 1)) - 1)) * 7)) + 3)) (s0_0.length : Int)))) * 1117)))) + (wrap64 ((wrap64 ((wrap64 (s0_1 + 1)) - 1)) * 29)))) + (wrap64 ((wrap64 (Int.tdiv (wrap64 ((wrap64 (s0_1 + 1)) - 1)) (s0_0.length : Int))) * 53)))) (wrap64 (Int.tdiv (wrap64 ((wrap64 ((wrap64 ((wrap64 ((wrap64 (rd s0_0 (ji14))) * 131)) + (wrap64 ((wrap64 (rd s0_0 (Int.tmod (wrap64 ((wrap64 ((wrap64 ((wrap64 (s0_1 + 1)) - 1)) * 7)) + 3)) (s0_0.length : Int)))) * 1117)))) + (wrap64 ((wrap64 ((wrap64 (s0_1 + 1)) - 1)) * 29)))) + (wrap64 ((wrap64 (Int.tdiv (wrap64 ((wrap64 (s0_1 + 1)) - 1)) (s0_0.length : Int))) * 53)))) 64))) a1, (wrap64 (s0_1 + 1))))) else (none)) else (none)) else (none)) else (none)) = some (r1, r2) := by first | (rw [hji14] at H; exact H)
      by_cases c15 : 0 ≤ (ji14)
      ·rw [if_pos c15] at H
       have c15b0 : decide (0 ≤ (ji14)) = true := decide_eq_true c15
       clear c15
       by_cases c16 : (ji14) < (s0_0.length : Int)
       ·rw [if_pos c16] at H
        have c16b0 : decide ((ji14) < (s0_0.length : Int)) = true := decide_eq_true c16
        clear c16
        obtain ⟨ji17, hji17⟩ : ∃ j_ : Int, (Int.tmod (wrap64 ((wrap64 ((wrap64 ((wrap64 (s0_1 + 1)) - 1)) * 7)) + 3)) (s0_0.length : Int)) = j_ := ⟨_, rfl⟩
        replace H : (if 0 ≤ (ji17) then (if (ji17) < (s0_0.length : Int) then (if a1 = 0 then (none) else (some (Int.tmod (Go.bits .xor .i64 (wrap64 ((wrap64 ((wrap64 ((wrap64 ((wrap64 (rd s0_0 (ji14))) * 131)) + (wrap64 ((wrap64 (rd s0_0 (ji17))) * 1117)))) + (wrap64 ((wrap64 ((wrap64 (s0_1 + 1)) - 1)) * 29)))) + (wrap64 ((wrap64 (Int.tdiv (wrap64 ((wrap64 (s0_1 + 1)) - 1)) (s0_0.length : Int))) * 53)))) (wrap64 (Int.tdiv (wrap64 ((wrap64 ((wrap64 ((wrap64 ((wrap64 (rd s0_0 (ji14))) * 131)) + (wrap64 ((wrap64 (rd s0_0 (ji17))) * 1117)))) + (wrap64 ((wrap64 ((wrap64 (s0_1 + 1)) - 1)) * 29)))) + (wrap64 ((wrap64 (Int.tdiv (wrap64 ((wrap64 (s0_1 + 1)) - 1)) (s0_0.length : Int))) * 53)))) 64))) a1, (wrap64 (s0_1 + 1))))) else (none)) else (none)) = some (r1, r2) := by first | (rw [hji17] at H; exact H)
        by_cases c18 : 0 ≤ (ji17)
        ·rw [if_pos c18] at H
         have c18b0 : decide (0 ≤ (ji17)) = true := decide_eq_true c18
         clear c18
         by_cases c19 : (ji17) < (s0_0.length : Int)
         ·rw [if_pos c19] at H
          have c19b0 : decide ((ji17) < (s0_0.length : Int)) = true := decide_eq_true c19
          clear c19
          by_cases c20 : a1 = 0
          ·rw [if_pos c20] at H
           exact absurd H (by simp)
          ·rw [if_neg c20] at H
           have c20b0 : (a1 == 0) = false := beq_eq_false_iff_ne.mpr c20
           have c20b1 : (a1 != 0) = true := bne_iff_ne.mpr c20
           simp only [Option.some.injEq, Prod.mk.injEq] at H
           obtain ⟨rfl, rfl⟩ := H
           obtain ⟨ASz21_0, cSz21_0, HGz21, hgz21, HSz21_0⟩ := HI0.out
           have hcz21_0 := cellS102_0 HGz21
           have hcz21_1 := cellS102_1 HGz21
           have hfz21_1 := blk_frozen HGz21 1
           clear HGz21 hgz21
           have p105 : 0 ≤ ((ji14) : Int) := of_decide_eq_true (by (with_reducible assumption))
           have q105 : (ji14) < (s0_0.length : Int) := of_decide_eq_true (by (with_reducible assumption))
           obtain ⟨ad105, e105, hx105_0⟩ := Kd.at_int HSz21_0 (ji14) p105 q105
           cases e105
           replace hx105_0 := pw_cell_below HB.out hx105_0
           replace p105 := eq_true p105
           replace q105 := eq_true q105
           have p106 : 0 ≤ ((ji17) : Int) := of_decide_eq_true (by (with_reducible assumption))
           have q106 : (ji17) < (s0_0.length : Int) := of_decide_eq_true (by (with_reducible assumption))
           obtain ⟨ad106, e106, hx106_0⟩ := Kd.at_int HSz21_0 (ji17) p106 q106
           obtain rfl : ad105 = ad106 := (by injection e106)
           replace hx106_0 := pw_cell_below HB.out hx106_0
           replace p106 := eq_true p106
           replace q106 := eq_true q106
           go_wp2
           repeat (go_quiet (fail); try go_wp2)
           go_ret
           exact ⟨by first | rfl | (simp [*, errW_none, errW_some] <;> rfl), by repeat (first | (with_reducible first | exact HI0.out | apply IsS102.drewN)), by repeat (first | (with_reducible first | exact HB.out | apply bN)), by repeat (first | (with_reducible first | exact HK.out | apply keep_drewN))⟩
         ·rw [if_neg c19] at H
          exact absurd H (by simp)
        ·rw [if_neg c18] at H
         exact absurd H (by simp)
       ·rw [if_neg c16] at H
        exact absurd H (by simp)
      ·rw [if_neg c15] at H
       exact absurd H (by simp)


def spec_l91Signs.l0 : Nat → List Int → Int → List Int → Int → Option (ByteArray × Int)
 | 0, _, _, _, _ => none
 | k + 1, x7, x8, x1000, x1001 => if x8 > 0 then ((spec_l6Rd_pick.f k x1000 x1001 2).bind fun bt112 => (if x7.length < 140737488355328 then (spec_l91Signs.l0 k (x7 ++ [(wrap64 (48 + bt112.1)) % 256]) (wrap64 (x8 - 1)) x1000 bt112.2) else (none))) else (some (strOfNums x7, x1001))
def spec_l91Signs.f (k : Nat) (s0_0 : List Int) (s0_1 : Int) (a1 : Int) (a2 : Int) : Option (ByteArray × Int) := (spec_l6Rd_pick.f k s0_0 s0_1 a2).bind fun bt110 => (spec_l91Signs.l0 k (([] : List Int)) (wrap64 (a1 + bt110.1)) s0_0 bt110.2)
theorem spec_l91Signs.mono_l : ∀ k, (∀ y0 y1 y2 y3, LeO (spec_l91Signs.l0 k y0 y1 y2 y3) (spec_l91Signs.l0 (k + 1) y0 y1 y2 y3))
 | 0 => fun _ _ _ _ r h => by simp [spec_l91Signs.l0] at h
 | k + 1 => by
  have ih0 := spec_l91Signs.mono_l k
  ·intro y0 y1 y2 y3
   unfold spec_l91Signs.l0
   repeat' first | (with_reducible exact ih0 _ _ _ _) | (with_reducible exact spec_l6Rd_pick.mono _ _ _ _) | (with_reducible exact LeO.refl _) | (with_reducible refine LeO.ite ?_ ?_) | (with_reducible refine LeO.bind ?_ (fun _ => ?_))
theorem spec_l91Signs.mono : ∀ a0 a1 a2 a3 k, LeO (spec_l91Signs.f k a0 a1 a2 a3) (spec_l91Signs.f (k + 1) a0 a1 a2 a3) := by
 intro a0 a1 a2 a3 k
 have ih0 := spec_l91Signs.mono_l k
 unfold spec_l91Signs.f
 repeat' first | (with_reducible exact ih0 _ _ _ _) | (with_reducible exact spec_l6Rd_pick.mono _ _ _ _) | (with_reducible refine LeO.bind ?_ (fun _ => ?_))
set_option maxHeartbeats 8000000 in
set_option maxRecDepth 100000 in
theorem spec_l91Signs.calls (k : Nat) (g : Nat) (s0_0 : List Int) (s0_1 : Int) (a1 : Int) (a2 : Int) (r1 : ByteArray) (r2 : Int) (w0 w : World) (hI : IsS102 w0 w g s0_0 s0_1) (hB : Below w0.heap.size w0 w) (h : spec_l91Signs.f k s0_0 s0_1 a1 a2 = some (r1, r2)) :
  Calls Try.prog 101 #[.pointer (some ⟨g, 0, none⟩), .int .i64 a1, .int .i64 a2] w fun e w' => e = .returned (.string r1) ∧ IsS102 w0 w' g s0_0 r2 ∧ Below w0.heap.size w0 w' ∧ KeepBut w w' g none := by
 have HI0 := aM hI
 have HK := aM (KeepBut.refl w g none)
 have HL := aM hB.size
 clear hI
 have HW0 := aM hB.size
 have HB := aM hB
 clear hB
 have H : ((spec_l6Rd_pick.f k s0_0 s0_1 a2).bind fun bt110 => (spec_l91Signs.l0 k (([] : List Int)) (wrap64 (a1 + bt110.1)) s0_0 bt110.2)) = some (r1, r2) := h
 clear h
 obtain ⟨y107, hy107⟩ : ∃ y_ : List Int, y_ = (([] : List Int)) := ⟨_, rfl⟩
 replace H : ((spec_l6Rd_pick.f k s0_0 s0_1 a2).bind fun bt110 => (spec_l91Signs.l0 k y107 (wrap64 (a1 + bt110.1)) s0_0 bt110.2)) = some (r1, r2) := by first | (rw [hy107]; with_reducible exact H)
 have Ny107 := aM hy107
 clear hy107
 replace H := Option.bind_eq_some_iff.mp H
 obtain ⟨⟨t110, t111⟩, A40, H⟩ := H
 replace H : (spec_l91Signs.l0 k y107 (wrap64 (a1 + t110)) s0_0 t111) = some (r1, r2) := H
 have A4 := aM A40
 clear A40
 have H' := aM H
 clear H
 go_enter Try.func101, Try.ntmps101
 go_wp2_with (first | ((with_reducible refine gate_dst (N := 9) rfl ?_); refine Kd.R_lit (Kd.int .u8) _ 5 ?hg (N := 9) ?hd (xs := ([] : List Int)) (inner := []) (ok := fun _ => True) (okp := fun _ => True) ?hr ?hp (fun _ hk => hk) trivial (Below.refl _ _) (Nat.le_refl _) (by simp) ?_; (case hd => rfl); (case hg => rfl); (case hr => first | (go_simp; done)); (case hp => exact (Reps.none _ _)); intro v108 w5 ho6 hb hg_ hnew_; clear hg_ hnew_; (rw [← Ny107.out] at ho6); have HO109 := aM (Kd.R_lower ho6 (keep_size (w := w) (g := g) (row := none) HK.out)); replace HI0 := aM (IsS102.below HI0.out hb); replace HK := aM (KeepBut.trans HK.out (KeepBut.of_below hb g none) (.inl rfl)); replace HB := aM (below_step HB.out hb); clear hb ho6) | ((with_reducible refine gate_callee (f := 53) rfl ?_); refine goesL_ (some 13) rfl rfl Try.func53 (by kernel_rfl) rfl #[.pointer (some ⟨g, 0, none⟩), .int .i64 a2] rfl (by (try simp only [List.map_toArray, List.map_cons, List.map_nil]); rfl) ?_; (with_reducible refine (spec_l6Rd_pick.calls k g s0_0 s0_1 a2 t110 t111 w0 _ ?side1 ?side2 A4.out).mono ?_); (case side1 => repeat ((with_reducible exact HI0.out))); (case side2 => repeat ((with_reducible exact HB.out))); rintro e w7 ⟨rfl, hi, hb, hk⟩; refine ⟨_, rfl, ?_⟩; replace HO109 := aM (Kd.R_mono (Kd.R_keep (IsS102.apart (show IsS102 w0 _ g s0_0 s0_1 from by repeat ((with_reducible exact HI0.out))) HO109.out (by decide)) hk (fun _ h => h.2)) (fun _ h => h.1)); replace HK := aM (KeepBut.trans HK.out hk (.inl rfl)); replace HB := aM hb; replace HI0 := aM hi; (try clear hb); (try clear hk); (try clear hi)))
 go_loopg [7, 8] k (fun kq v7 v8 w' => ∃ (x7_1 : List Int) (x8_1 : Int) (x1001_1 : Int), v8 = .int .i64 x8_1 ∧ Aside0 (spec_l91Signs.l0 kq x7_1 x8_1 s0_0 x1001_1 = some (r1, r2)) ∧ Aside0 (kq ≤ k) ∧ Aside0 (Kd.R (Kd.int .u8) 5 w' w.heap.size (fun _ => True) v7 x7_1) ∧ Aside0 (IsS102 w0 w' g s0_0 x1001_1) ∧ Aside0 (KeepBut w w' g none) ∧ Aside0 (Below w0.heap.size w0 w'))
 case atStart => exact ⟨(y107), (wrap64 (a1 + t110)), (t111), (by rfl), H', ⟨Nat.le_refl _⟩, ⟨by exact HO109.out⟩, ⟨HI0.out⟩, ⟨HK.out⟩, ⟨HB.out⟩⟩
 case round =>
  clear H'
  obtain ⟨x7_1, x8_1, x1001_1, rfl, HA, HK1, HO_7, HI0, HK, HB⟩ := hrel
  cases gk with
  | zero => exact absurd HA.out (by simp [spec_l91Signs.l0])
  | succ k1 =>
   have H := HA.out
   clear HA
   simp only [spec_l91Signs.l0] at H
   by_cases c8 : x8_1 > 0
   ·rw [if_pos c8] at H
    have c8b0 : decide (0 < x8_1) = true := decide_eq_true c8
    clear c8
    replace H := Option.bind_eq_some_iff.mp H
    obtain ⟨⟨t112, t113⟩, A90, H⟩ := H
    replace H : (if x7_1.length < 140737488355328 then (spec_l91Signs.l0 k1 (x7_1 ++ [(wrap64 (48 + t112)) % 256]) (wrap64 (x8_1 - 1)) s0_0 t113) else (none)) = some (r1, r2) := H
    have A9 := aM A90
    clear A90
    by_cases c10 : x7_1.length < 140737488355328
    ·rw [if_pos c10] at H
     have LMc10 := aM c10
     clear c10
     obtain ⟨y114, hy114⟩ : ∃ y_ : List Int, y_ = (x7_1 ++ [(wrap64 (48 + t112)) % 256]) := ⟨_, rfl⟩
     replace H : (spec_l91Signs.l0 k1 y114 (wrap64 (x8_1 - 1)) s0_0 t113) = some (r1, r2) := by first | (rw [hy114]; with_reducible exact H)
     have Ny114 := aM hy114
     clear hy114
     have H' := aM H
     clear H
     go_wp2_with (first | ((with_reducible refine gate_callee (f := 53) rfl ?_); refine goesL_ (some 21) rfl rfl Try.func53 (by kernel_rfl) rfl #[.pointer (some ⟨g, 0, none⟩), .int .i64 2] rfl (by (try simp only [List.map_toArray, List.map_cons, List.map_nil]); rfl) ?_; (with_reducible refine (spec_l6Rd_pick.calls k1 g s0_0 x1001_1 2 t112 t113 w0 _ ?side1 ?side2 A9.out).mono ?_); (case side1 => repeat ((with_reducible exact HI0.out))); (case side2 => repeat ((with_reducible exact HB.out))); rintro e w11 ⟨rfl, hi, hb, hk⟩; refine ⟨_, rfl, ?_⟩; replace HO_7 := aM (Kd.R_mono (Kd.R_keep (IsS102.apart (show IsS102 w0 _ g s0_0 x1001_1 from by repeat ((with_reducible exact HI0.out))) HO_7.out (by decide)) hk (fun _ h => h.2)) (fun _ h => h.1)); replace HK := aM (KeepBut.trans HK.out hk (.inl rfl)); replace HB := aM hb; replace HI0 := aM hi; (try clear hb); (try clear hk); (try clear hi)) | ((with_reducible refine gate_builtin (b := .append) (xs := #[.tmp 19, .tmp 24]) rfl ?_); at_builtin; refine Kd.R_append (Kd.int .u8) w.heap.size rfl (.tmp 19) (.tmp 24) 22 5 (.int .u8 0) 1 rfl Try.underlying22 info5 rfl (by decide) (by omega) u7 x7_1 ((wrap64 (48 + t112)) % 256) [.int .u8 ((wrap64 (48 + t112)) % 256)] (fun _ => True) (fun _ => False) rfl rfl ?aP (fun _ hk => hk.elim) ?aF ?aO (Below.refl _ _) ?aS ?aL ?_; (case aP => exact rfl); (case aF => exact (fun _ _ => trivial)); (case aO => exact HO_7.out); (case aS => exact (keep_size (w := w) (g := g) (row := none) HK.out)); (case aL => have := LMc10.out; omega); intro v115 w12 ho hb hg hat; rw [← Ny114.out] at ho; replace HI0 := aM (IsS102.grown HI0.out hg (IsS102.own_ne HI0.out HO_7.out (by decide))); replace HB := aM (below_weaken HB.out HL.out hb); replace HK := aM (KeepBut.trans HK.out (KeepBut.of_grown hg g) (Kd.R_base2 HO_7.out)); have HO116 := aM ho; clear HO_7; clear ho hb hg hat))
     go_roundg k1
     case measure => have := HK1.out; omega
     case rel => exact ⟨(y114), (wrap64 (x8_1 - 1)), (t113), (by rfl), H', ⟨by have := HK1.out; omega⟩, ⟨by exact HO116.out⟩, ⟨HI0.out⟩, ⟨HK.out⟩, ⟨HB.out⟩⟩
    ·rw [if_neg c10] at H
     exact absurd H (by simp)
   ·rw [if_neg c8] at H
    have c8b0 : decide (0 < x8_1) = false := decide_eq_false c8
    clear c8
    simp only [Option.some.injEq, Prod.mk.injEq] at H
    obtain ⟨rfl, rfl⟩ := H
    have hcv13 := own_string (P := Try.prog) Try.underlying22 Try.underlying5 Try.underlying9 (Kd.own_of_R HO_7.out)
    go_wp2
    go_ret
    exact ⟨by first | rfl | (simp [*, errW_none, errW_some] <;> rfl), HI0.out, HB.out, HK.out⟩


def spec_l91Set.f (k : Nat) (s0_0 : List Int) (s0_1 : Int) : Option (ByteArray × Int) := (spec_l91Signs.f k s0_0 s0_1 0 6).bind fun bt117 => (if bt117.1.size + 1 ≤ 9223372036854775807 then ((spec_l91Signs.f k s0_0 bt117.2 1 5).bind fun bt119 => (if bt117.1.size + 1 + bt119.1.size ≤ 9223372036854775807 then (if bt117.1.size + 1 + bt119.1.size + 1 ≤ 9223372036854775807 then ((spec_l6Rd_pick.f k s0_0 bt119.2 24).bind fun bt121 => (if bt121.1 = 0 then ((some (([(⟨#[]⟩ : ByteArray), (⟨#[48]⟩ : ByteArray), (⟨#[40, 41]⟩ : ByteArray), (⟨#[49, 40]⟩ : ByteArray), (⟨#[40, 48, 41, 41]⟩ : ByteArray), (⟨#[97, 40, 49, 41]⟩ : ByteArray), (⟨#[40, 49, 41, 48]⟩ : ByteArray), (⟨#[48, 49, 40, 48, 50, 41]⟩ : ByteArray), (⟨#[48, 40, 40, 49, 41]⟩ : ByteArray)] : List ByteArray) : List ByteArray)).bind fun y123 => ((spec_l6Rd_pick.f k s0_0 bt121.2 9).bind fun bt126 => (if 0 ≤ bt126.1 then (if bt126.1 < (y123.length : Int) then (some (rdOf ByteArray.empty y123 bt126.1, bt126.2)) else (none)) else (none)))) else (if bt121.1 = 1 then ((spec_l91Signs.f k s0_0 bt121.2 0 6).bind fun bt129 => (if bt129.1.size + 3 ≤ 9223372036854775807 then (some (bt129.1 ++ (⟨#[40, 48, 41]⟩ : ByteArray), bt129.2)) else (none))) else (if bt121.1 = 2 then (if 1 ≤ ((((bt117.1 ++ (⟨#[40]⟩ : ByteArray)) ++ bt119.1) ++ (⟨#[41]⟩ : ByteArray)).size : Int) then (if 1 + ((((bt117.1 ++ (⟨#[40]⟩ : ByteArray)) ++ bt119.1) ++ (⟨#[41]⟩ : ByteArray)).extract 1 (((bt117.1 ++ (⟨#[40]⟩ : ByteArray)) ++ bt119.1) ++ (⟨#[41]⟩ : ByteArray)).size).size ≤ 9223372036854775807 then (some ((⟨#[40]⟩ : ByteArray) ++ ((((bt117.1 ++ (⟨#[40]⟩ : ByteArray)) ++ bt119.1) ++ (⟨#[41]⟩ : ByteArray)).extract 1 (((bt117.1 ++ (⟨#[40]⟩ : ByteArray)) ++ bt119.1) ++ (⟨#[41]⟩ : ByteArray)).size), bt121.2)) else (none)) else (none)) else (some (((bt117.1 ++ (⟨#[40]⟩ : ByteArray)) ++ bt119.1) ++ (⟨#[41]⟩ : ByteArray), bt121.2)))))) else (none)) else (none))) else (none))
theorem spec_l91Set.mono : ∀ a0 a1 k, LeO (spec_l91Set.f k a0 a1) (spec_l91Set.f (k + 1) a0 a1) := by
 intro a0 a1 k
 unfold spec_l91Set.f
 repeat' first | (with_reducible exact spec_l6Rd_pick.mono _ _ _ _) | (with_reducible exact spec_l91Signs.mono _ _ _ _ _) | (with_reducible exact LeO.refl _) | (with_reducible refine LeO.ite ?_ ?_) | (with_reducible refine LeO.bind ?_ (fun _ => ?_))
set_option maxHeartbeats 8000000 in
set_option maxRecDepth 100000 in
theorem spec_l91Set.calls (k : Nat) (g : Nat) (s0_0 : List Int) (s0_1 : Int) (r1 : ByteArray) (r2 : Int) (w0 w : World) (hI : IsS102 w0 w g s0_0 s0_1) (hB : Below w0.heap.size w0 w) (h : spec_l91Set.f k s0_0 s0_1 = some (r1, r2)) :
  Calls Try.prog 52 #[.pointer (some ⟨g, 0, none⟩)] w fun e w' => e = .returned (.string r1) ∧ IsS102 w0 w' g s0_0 r2 ∧ Below w0.heap.size w0 w' ∧ KeepBut w w' g none := by
 have HI0 := aM hI
 have HK := aM (KeepBut.refl w g none)
 have HL := aM hB.size
 clear hI
 have HW0 := aM hB.size
 have HB := aM hB
 clear hB
 have H : ((spec_l91Signs.f k s0_0 s0_1 0 6).bind fun bt117 => (if bt117.1.size + 1 ≤ 9223372036854775807 then ((spec_l91Signs.f k s0_0 bt117.2 1 5).bind fun bt119 => (if bt117.1.size + 1 + bt119.1.size ≤ 9223372036854775807 then (if bt117.1.size + 1 + bt119.1.size + 1 ≤ 9223372036854775807 then ((spec_l6Rd_pick.f k s0_0 bt119.2 24).bind fun bt121 => (if bt121.1 = 0 then ((some (([(⟨#[]⟩ : ByteArray), (⟨#[48]⟩ : ByteArray), (⟨#[40, 41]⟩ : ByteArray), (⟨#[49, 40]⟩ : ByteArray), (⟨#[40, 48, 41, 41]⟩ : ByteArray), (⟨#[97, 40, 49, 41]⟩ : ByteArray), (⟨#[40, 49, 41, 48]⟩ : ByteArray), (⟨#[48, 49, 40, 48, 50, 41]⟩ : ByteArray), (⟨#[48, 40, 40, 49, 41]⟩ : ByteArray)] : List ByteArray) : List ByteArray)).bind fun y123 => ((spec_l6Rd_pick.f k s0_0 bt121.2 9).bind fun bt126 => (if 0 ≤ bt126.1 then (if bt126.1 < (y123.length : Int) then (some (rdOf ByteArray.empty y123 bt126.1, bt126.2)) else (none)) else (none)))) else (if bt121.1 = 1 then ((spec_l91Signs.f k s0_0 bt121.2 0 6).bind fun bt129 => (if bt129.1.size + 3 ≤ 9223372036854775807 then (some (bt129.1 ++ (⟨#[40, 48, 41]⟩ : ByteArray), bt129.2)) else (none))) else (if bt121.1 = 2 then (if 1 ≤ ((((bt117.1 ++ (⟨#[40]⟩ : ByteArray)) ++ bt119.1) ++ (⟨#[41]⟩ : ByteArray)).size : Int) then (if 1 + ((((bt117.1 ++ (⟨#[40]⟩ : ByteArray)) ++ bt119.1) ++ (⟨#[41]⟩ : ByteArray)).extract 1 (((bt117.1 ++ (⟨#[40]⟩ : ByteArray)) ++ bt119.1) ++ (⟨#[41]⟩ : ByteArray)).size).size ≤ 9223372036854775807 then (some ((⟨#[40]⟩ : ByteArray) ++ ((((bt117.1 ++ (⟨#[40]⟩ : ByteArray)) ++ bt119.1) ++ (⟨#[41]⟩ : ByteArray)).extract 1 (((bt117.1 ++ (⟨#[40]⟩ : ByteArray)) ++ bt119.1) ++ (⟨#[41]⟩ : ByteArray)).size), bt121.2)) else (none)) else (none)) else (some (((bt117.1 ++ (⟨#[40]⟩ : ByteArray)) ++ bt119.1) ++ (⟨#[41]⟩ : ByteArray), bt121.2)))))) else (none)) else (none))) else (none))) = some (r1, r2) := h
 clear h
 replace H := Option.bind_eq_some_iff.mp H
 obtain ⟨⟨t117, t118⟩, A20, H⟩ := H
 replace H : (if t117.size + 1 ≤ 9223372036854775807 then ((spec_l91Signs.f k s0_0 t118 1 5).bind fun bt119 => (if t117.size + 1 + bt119.1.size ≤ 9223372036854775807 then (if t117.size + 1 + bt119.1.size + 1 ≤ 9223372036854775807 then ((spec_l6Rd_pick.f k s0_0 bt119.2 24).bind fun bt121 => (if bt121.1 = 0 then ((some (([(⟨#[]⟩ : ByteArray), (⟨#[48]⟩ : ByteArray), (⟨#[40, 41]⟩ : ByteArray), (⟨#[49, 40]⟩ : ByteArray), (⟨#[40, 48, 41, 41]⟩ : ByteArray), (⟨#[97, 40, 49, 41]⟩ : ByteArray), (⟨#[40, 49, 41, 48]⟩ : ByteArray), (⟨#[48, 49, 40, 48, 50, 41]⟩ : ByteArray), (⟨#[48, 40, 40, 49, 41]⟩ : ByteArray)] : List ByteArray) : List ByteArray)).bind fun y123 => ((spec_l6Rd_pick.f k s0_0 bt121.2 9).bind fun bt126 => (if 0 ≤ bt126.1 then (if bt126.1 < (y123.length : Int) then (some (rdOf ByteArray.empty y123 bt126.1, bt126.2)) else (none)) else (none)))) else (if bt121.1 = 1 then ((spec_l91Signs.f k s0_0 bt121.2 0 6).bind fun bt129 => (if bt129.1.size + 3 ≤ 9223372036854775807 then (some (bt129.1 ++ (⟨#[40, 48, 41]⟩ : ByteArray), bt129.2)) else (none))) else (if bt121.1 = 2 then (if 1 ≤ ((((t117 ++ (⟨#[40]⟩ : ByteArray)) ++ bt119.1) ++ (⟨#[41]⟩ : ByteArray)).size : Int) then (if 1 + ((((t117 ++ (⟨#[40]⟩ : ByteArray)) ++ bt119.1) ++ (⟨#[41]⟩ : ByteArray)).extract 1 (((t117 ++ (⟨#[40]⟩ : ByteArray)) ++ bt119.1) ++ (⟨#[41]⟩ : ByteArray)).size).size ≤ 9223372036854775807 then (some ((⟨#[40]⟩ : ByteArray) ++ ((((t117 ++ (⟨#[40]⟩ : ByteArray)) ++ bt119.1) ++ (⟨#[41]⟩ : ByteArray)).extract 1 (((t117 ++ (⟨#[40]⟩ : ByteArray)) ++ bt119.1) ++ (⟨#[41]⟩ : ByteArray)).size), bt121.2)) else (none)) else (none)) else (some (((t117 ++ (⟨#[40]⟩ : ByteArray)) ++ bt119.1) ++ (⟨#[41]⟩ : ByteArray), bt121.2)))))) else (none)) else (none))) else (none)) = some (r1, r2) := H
 have A2 := aM A20
 clear A20
 by_cases c3 : t117.size + 1 ≤ 9223372036854775807
 ·rw [if_pos c3] at H
  have c3b0 := eq_true c3
  have c3b1 : decide (t117.size + 1 ≤ 9223372036854775807) = true := decide_eq_true c3
  try have c3b2 : (9223372036854775807 < t117.size + 1) = False := eq_false (Nat.not_lt.2 c3)
  replace H := Option.bind_eq_some_iff.mp H
  obtain ⟨⟨t119, t120⟩, A40, H⟩ := H
  replace H : (if t117.size + 1 + t119.size ≤ 9223372036854775807 then (if t117.size + 1 + t119.size + 1 ≤ 9223372036854775807 then ((spec_l6Rd_pick.f k s0_0 t120 24).bind fun bt121 => (if bt121.1 = 0 then ((some (([(⟨#[]⟩ : ByteArray), (⟨#[48]⟩ : ByteArray), (⟨#[40, 41]⟩ : ByteArray), (⟨#[49, 40]⟩ : ByteArray), (⟨#[40, 48, 41, 41]⟩ : ByteArray), (⟨#[97, 40, 49, 41]⟩ : ByteArray), (⟨#[40, 49, 41, 48]⟩ : ByteArray), (⟨#[48, 49, 40, 48, 50, 41]⟩ : ByteArray), (⟨#[48, 40, 40, 49, 41]⟩ : ByteArray)] : List ByteArray) : List ByteArray)).bind fun y123 => ((spec_l6Rd_pick.f k s0_0 bt121.2 9).bind fun bt126 => (if 0 ≤ bt126.1 then (if bt126.1 < (y123.length : Int) then (some (rdOf ByteArray.empty y123 bt126.1, bt126.2)) else (none)) else (none)))) else (if bt121.1 = 1 then ((spec_l91Signs.f k s0_0 bt121.2 0 6).bind fun bt129 => (if bt129.1.size + 3 ≤ 9223372036854775807 then (some (bt129.1 ++ (⟨#[40, 48, 41]⟩ : ByteArray), bt129.2)) else (none))) else (if bt121.1 = 2 then (if 1 ≤ ((((t117 ++ (⟨#[40]⟩ : ByteArray)) ++ t119) ++ (⟨#[41]⟩ : ByteArray)).size : Int) then (if 1 + ((((t117 ++ (⟨#[40]⟩ : ByteArray)) ++ t119) ++ (⟨#[41]⟩ : ByteArray)).extract 1 (((t117 ++ (⟨#[40]⟩ : ByteArray)) ++ t119) ++ (⟨#[41]⟩ : ByteArray)).size).size ≤ 9223372036854775807 then (some ((⟨#[40]⟩ : ByteArray) ++ ((((t117 ++ (⟨#[40]⟩ : ByteArray)) ++ t119) ++ (⟨#[41]⟩ : ByteArray)).extract 1 (((t117 ++ (⟨#[40]⟩ : ByteArray)) ++ t119) ++ (⟨#[41]⟩ : ByteArray)).size), bt121.2)) else (none)) else (none)) else (some (((t117 ++ (⟨#[40]⟩ : ByteArray)) ++ t119) ++ (⟨#[41]⟩ : ByteArray), bt121.2)))))) else (none)) else (none)) = some (r1, r2) := H
  have A4 := aM A40
  clear A40
  by_cases c5 : t117.size + 1 + t119.size ≤ 9223372036854775807
  ·rw [if_pos c5] at H
   have c5b0 := eq_true c5
   have c5b1 : decide (t117.size + 1 + t119.size ≤ 9223372036854775807) = true := decide_eq_true c5
   try have c5b2 : (9223372036854775807 < t117.size + 1 + t119.size) = False := eq_false (Nat.not_lt.2 c5)
   by_cases c6 : t117.size + 1 + t119.size + 1 ≤ 9223372036854775807
   ·rw [if_pos c6] at H
    have c6b0 := eq_true c6
    have c6b1 : decide (t117.size + 1 + t119.size + 1 ≤ 9223372036854775807) = true := decide_eq_true c6
    try have c6b2 : (9223372036854775807 < t117.size + 1 + t119.size + 1) = False := eq_false (Nat.not_lt.2 c6)
    replace H := Option.bind_eq_some_iff.mp H
    obtain ⟨⟨t121, t122⟩, A70, H⟩ := H
    replace H : (if t121 = 0 then ((some (([(⟨#[]⟩ : ByteArray), (⟨#[48]⟩ : ByteArray), (⟨#[40, 41]⟩ : ByteArray), (⟨#[49, 40]⟩ : ByteArray), (⟨#[40, 48, 41, 41]⟩ : ByteArray), (⟨#[97, 40, 49, 41]⟩ : ByteArray), (⟨#[40, 49, 41, 48]⟩ : ByteArray), (⟨#[48, 49, 40, 48, 50, 41]⟩ : ByteArray), (⟨#[48, 40, 40, 49, 41]⟩ : ByteArray)] : List ByteArray) : List ByteArray)).bind fun y123 => ((spec_l6Rd_pick.f k s0_0 t122 9).bind fun bt126 => (if 0 ≤ bt126.1 then (if bt126.1 < (y123.length : Int) then (some (rdOf ByteArray.empty y123 bt126.1, bt126.2)) else (none)) else (none)))) else (if t121 = 1 then ((spec_l91Signs.f k s0_0 t122 0 6).bind fun bt129 => (if bt129.1.size + 3 ≤ 9223372036854775807 then (some (bt129.1 ++ (⟨#[40, 48, 41]⟩ : ByteArray), bt129.2)) else (none))) else (if t121 = 2 then (if 1 ≤ ((((t117 ++ (⟨#[40]⟩ : ByteArray)) ++ t119) ++ (⟨#[41]⟩ : ByteArray)).size : Int) then (if 1 + ((((t117 ++ (⟨#[40]⟩ : ByteArray)) ++ t119) ++ (⟨#[41]⟩ : ByteArray)).extract 1 (((t117 ++ (⟨#[40]⟩ : ByteArray)) ++ t119) ++ (⟨#[41]⟩ : ByteArray)).size).size ≤ 9223372036854775807 then (some ((⟨#[40]⟩ : ByteArray) ++ ((((t117 ++ (⟨#[40]⟩ : ByteArray)) ++ t119) ++ (⟨#[41]⟩ : ByteArray)).extract 1 (((t117 ++ (⟨#[40]⟩ : ByteArray)) ++ t119) ++ (⟨#[41]⟩ : ByteArray)).size), t122)) else (none)) else (none)) else (some (((t117 ++ (⟨#[40]⟩ : ByteArray)) ++ t119) ++ (⟨#[41]⟩ : ByteArray), t122))))) = some (r1, r2) := H
    have A7 := aM A70
    clear A70
    by_cases c8 : t121 = 0
    ·rw [if_pos c8] at H
     have c8b0 : (t121 == 0) = true := beq_iff_eq.mpr c8
     have c8b1 : (t121 != 0) = false := bne_eq_false_iff_eq.mpr c8
     clear c8
     obtain ⟨y123, hy123⟩ : ∃ y_ : List ByteArray, y_ = (([(⟨#[]⟩ : ByteArray), (⟨#[48]⟩ : ByteArray), (⟨#[40, 41]⟩ : ByteArray), (⟨#[49, 40]⟩ : ByteArray), (⟨#[40, 48, 41, 41]⟩ : ByteArray), (⟨#[97, 40, 49, 41]⟩ : ByteArray), (⟨#[40, 49, 41, 48]⟩ : ByteArray), (⟨#[48, 49, 40, 48, 50, 41]⟩ : ByteArray), (⟨#[48, 40, 40, 49, 41]⟩ : ByteArray)] : List ByteArray)) := ⟨_, rfl⟩
     replace H : ((spec_l6Rd_pick.f k s0_0 t122 9).bind fun bt126 => (if 0 ≤ bt126.1 then (if bt126.1 < (y123.length : Int) then (some (rdOf ByteArray.empty y123 bt126.1, bt126.2)) else (none)) else (none))) = some (r1, r2) := by first | (have H2_ := (Option.bind_some _ _).symm.trans H; rw [hy123]; with_reducible exact H2_)
     have Ny123 := aM hy123
     clear hy123
     replace H := Option.bind_eq_some_iff.mp H
     obtain ⟨⟨t126, t127⟩, A90, H⟩ := H
     replace H : (if 0 ≤ t126 then (if t126 < (y123.length : Int) then (some (rdOf ByteArray.empty y123 t126, t127)) else (none)) else (none)) = some (r1, r2) := H
     have A9 := aM A90
     clear A90
     by_cases c10 : 0 ≤ t126
     ·rw [if_pos c10] at H
      have c10b0 : decide (0 ≤ t126) = true := decide_eq_true c10
      clear c10
      by_cases c11 : t126 < (y123.length : Int)
      ·rw [if_pos c11] at H
       have c11b0 : decide (t126 < (y123.length : Int)) = true := decide_eq_true c11
       clear c11
       simp only [Option.some.injEq, Prod.mk.injEq] at H
       obtain ⟨rfl, rfl⟩ := H
       go_enter Try.func52, Try.ntmps52
       go_wp2_with (first | ((with_reducible refine gate_callee (f := 101) rfl ?_); refine goesL_ (some 5) rfl rfl Try.func101 (by kernel_rfl) rfl #[.pointer (some ⟨g, 0, none⟩), .int .i64 0, .int .i64 6] rfl (by (try simp only [List.map_toArray, List.map_cons, List.map_nil]); rfl) ?_; (with_reducible refine (spec_l91Signs.calls k g s0_0 s0_1 0 6 t117 t118 w0 _ ?side1 ?side2 A2.out).mono ?_); (case side1 => repeat ((with_reducible exact HI0.out))); (case side2 => repeat ((with_reducible exact HB.out))); rintro e w12 ⟨rfl, hi, hb, hk⟩; refine ⟨_, rfl, ?_⟩; replace HK := aM (KeepBut.trans HK.out hk (.inl rfl)); replace HB := aM hb; replace HI0 := aM hi; (try clear hb); (try clear hk); (try clear hi)) | ((with_reducible refine gate_callee (f := 101) rfl ?_); refine goesL_ (some 8) rfl rfl Try.func101 (by kernel_rfl) rfl #[.pointer (some ⟨g, 0, none⟩), .int .i64 1, .int .i64 5] rfl (by (try simp only [List.map_toArray, List.map_cons, List.map_nil]); rfl) ?_; (with_reducible refine (spec_l91Signs.calls k g s0_0 t118 1 5 t119 t120 w0 _ ?side1 ?side2 A4.out).mono ?_); (case side1 => repeat ((with_reducible exact HI0.out))); (case side2 => repeat ((with_reducible exact HB.out))); rintro e w13 ⟨rfl, hi, hb, hk⟩; refine ⟨_, rfl, ?_⟩; replace HK := aM (KeepBut.trans HK.out hk (.inl rfl)); replace HB := aM hb; replace HI0 := aM hi; (try clear hb); (try clear hk); (try clear hi)) | ((with_reducible refine gate_callee (f := 53) rfl ?_); refine goesL_ (some 12) rfl rfl Try.func53 (by kernel_rfl) rfl #[.pointer (some ⟨g, 0, none⟩), .int .i64 24] rfl (by (try simp only [List.map_toArray, List.map_cons, List.map_nil]); rfl) ?_; (with_reducible refine (spec_l6Rd_pick.calls k g s0_0 t120 24 t121 t122 w0 _ ?side1 ?side2 A7.out).mono ?_); (case side1 => repeat ((with_reducible exact HI0.out))); (case side2 => repeat ((with_reducible exact HB.out))); rintro e w14 ⟨rfl, hi, hb, hk⟩; refine ⟨_, rfl, ?_⟩; replace HK := aM (KeepBut.trans HK.out hk (.inl rfl)); replace HB := aM hb; replace HI0 := aM hi; (try clear hb); (try clear hk); (try clear hi)) | ((with_reducible refine gate_dst (N := 15) rfl ?_); refine Kd.R_lit Kd.string _ 9 ?hg (N := 15) ?hd (xs := ([(⟨#[]⟩ : ByteArray), (⟨#[48]⟩ : ByteArray), (⟨#[40, 41]⟩ : ByteArray), (⟨#[49, 40]⟩ : ByteArray), (⟨#[40, 48, 41, 41]⟩ : ByteArray), (⟨#[97, 40, 49, 41]⟩ : ByteArray), (⟨#[40, 49, 41, 48]⟩ : ByteArray), (⟨#[48, 49, 40, 48, 50, 41]⟩ : ByteArray), (⟨#[48, 40, 40, 49, 41]⟩ : ByteArray)] : List ByteArray)) (inner := [.string (⟨#[]⟩ : ByteArray), .string (⟨#[48]⟩ : ByteArray), .string (⟨#[40, 41]⟩ : ByteArray), .string (⟨#[49, 40]⟩ : ByteArray), .string (⟨#[40, 48, 41, 41]⟩ : ByteArray), .string (⟨#[97, 40, 49, 41]⟩ : ByteArray), .string (⟨#[40, 49, 41, 48]⟩ : ByteArray), .string (⟨#[48, 49, 40, 48, 50, 41]⟩ : ByteArray), .string (⟨#[48, 40, 40, 49, 41]⟩ : ByteArray)]) (ok := fun _ => True) (okp := fun _ => True) ?hr ?hp (fun _ hk => hk) trivial (Below.refl _ _) (Nat.le_refl _) (by simp) ?_; (case hd => rfl); (case hg => rfl); (case hr => first | (go_simp; done)); (case hp => exact (Reps.one (show Kd.M Kd.string _ _ _ (⟨#[]⟩ : ByteArray) [.string (⟨#[]⟩ : ByteArray)] from rfl) (Reps.one (show Kd.M Kd.string _ _ _ (⟨#[48]⟩ : ByteArray) [.string (⟨#[48]⟩ : ByteArray)] from rfl) (Reps.one (show Kd.M Kd.string _ _ _ (⟨#[40, 41]⟩ : ByteArray) [.string (⟨#[40, 41]⟩ : ByteArray)] from rfl) (Reps.one (show Kd.M Kd.string _ _ _ (⟨#[49, 40]⟩ : ByteArray) [.string (⟨#[49, 40]⟩ : ByteArray)] from rfl) (Reps.one (show Kd.M Kd.string _ _ _ (⟨#[40, 48, 41, 41]⟩ : ByteArray) [.string (⟨#[40, 48, 41, 41]⟩ : ByteArray)] from rfl) (Reps.one (show Kd.M Kd.string _ _ _ (⟨#[97, 40, 49, 41]⟩ : ByteArray) [.string (⟨#[97, 40, 49, 41]⟩ : ByteArray)] from rfl) (Reps.one (show Kd.M Kd.string _ _ _ (⟨#[40, 49, 41, 48]⟩ : ByteArray) [.string (⟨#[40, 49, 41, 48]⟩ : ByteArray)] from rfl) (Reps.one (show Kd.M Kd.string _ _ _ (⟨#[48, 49, 40, 48, 50, 41]⟩ : ByteArray) [.string (⟨#[48, 49, 40, 48, 50, 41]⟩ : ByteArray)] from rfl) (Reps.one (show Kd.M Kd.string _ _ _ (⟨#[48, 40, 40, 49, 41]⟩ : ByteArray) [.string (⟨#[48, 40, 40, 49, 41]⟩ : ByteArray)] from rfl) (Reps.none _ _))))))))))); intro v124 w15 ho16 hb hg_ hnew_; clear hg_ hnew_; (rw [← Ny123.out] at ho16); have HO125 := aM (Kd.R_lower ho16 (keep_size (w := w) (g := g) (row := none) HK.out)); replace HI0 := aM (IsS102.below HI0.out hb); replace HK := aM (KeepBut.trans HK.out (KeepBut.of_below hb g none) (.inl rfl)); replace HB := aM (below_step HB.out hb); clear hb ho16) | ((with_reducible refine gate_callee (f := 53) rfl ?_); refine goesL_ (some 17) rfl rfl Try.func53 (by kernel_rfl) rfl #[.pointer (some ⟨g, 0, none⟩), .int .i64 9] rfl (by (try simp only [List.map_toArray, List.map_cons, List.map_nil]); rfl) ?_; (with_reducible refine (spec_l6Rd_pick.calls k g s0_0 t122 9 t126 t127 w0 _ ?side1 ?side2 A9.out).mono ?_); (case side1 => repeat ((with_reducible exact HI0.out))); (case side2 => repeat ((with_reducible exact HB.out))); rintro e w17 ⟨rfl, hi, hb, hk⟩; refine ⟨_, rfl, ?_⟩; replace HO125 := aM (Kd.R_mono (Kd.R_keep (IsS102.apart (show IsS102 w0 _ g s0_0 t122 from by repeat ((with_reducible exact HI0.out))) HO125.out (by decide)) hk (fun _ h => h.2)) (fun _ h => h.1)); replace HK := aM (KeepBut.trans HK.out hk (.inl rfl)); replace HB := aM hb; replace HI0 := aM hi; (try clear hb); (try clear hk); (try clear hi); obtain ⟨Ao18, co18, eo18⟩ := Kd.R_slice HO125.out; subst eo18; have p128 : 0 ≤ (t126 : Int) := of_decide_eq_true (by (with_reducible assumption)); have q128 : t126 < (y123.length : Int) := of_decide_eq_true (by (with_reducible assumption)); obtain ⟨ad128, e128, hx128_0⟩ := Kd.at_string (Kd.R_reads' HO125.out).2.2 t126 p128 q128; cases e128; replace p128 := eq_true p128; replace q128 := eq_true q128))
       go_ret
       exact ⟨by first | rfl | (simp [*, errW_none, errW_some] <;> rfl), HI0.out, HB.out, HK.out⟩
      ·rw [if_neg c11] at H
       exact absurd H (by simp)
     ·rw [if_neg c10] at H
      exact absurd H (by simp)
    ·rw [if_neg c8] at H
     have c8b0 : (t121 == 0) = false := beq_eq_false_iff_ne.mpr c8
     have c8b1 : (t121 != 0) = true := bne_iff_ne.mpr c8
     by_cases c19 : t121 = 1
     ·rw [if_pos c19] at H
      have c19b0 : (t121 == 1) = true := beq_iff_eq.mpr c19
      have c19b1 : (t121 != 1) = false := bne_eq_false_iff_eq.mpr c19
      clear c19
      replace H := Option.bind_eq_some_iff.mp H
      obtain ⟨⟨t129, t130⟩, A200, H⟩ := H
      replace H : (if t129.size + 3 ≤ 9223372036854775807 then (some (t129 ++ (⟨#[40, 48, 41]⟩ : ByteArray), t130)) else (none)) = some (r1, r2) := H
      have A20 := aM A200
      clear A200
      by_cases c21 : t129.size + 3 ≤ 9223372036854775807
      ·rw [if_pos c21] at H
       have c21b0 := eq_true c21
       have c21b1 : decide (t129.size + 3 ≤ 9223372036854775807) = true := decide_eq_true c21
       try have c21b2 : (9223372036854775807 < t129.size + 3) = False := eq_false (Nat.not_lt.2 c21)
       simp only [Option.some.injEq, Prod.mk.injEq] at H
       obtain ⟨rfl, rfl⟩ := H
       go_enter Try.func52, Try.ntmps52
       go_wp2_with (first | ((with_reducible refine gate_callee (f := 101) rfl ?_); refine goesL_ (some 5) rfl rfl Try.func101 (by kernel_rfl) rfl #[.pointer (some ⟨g, 0, none⟩), .int .i64 0, .int .i64 6] rfl (by (try simp only [List.map_toArray, List.map_cons, List.map_nil]); rfl) ?_; (with_reducible refine (spec_l91Signs.calls k g s0_0 s0_1 0 6 t117 t118 w0 _ ?side1 ?side2 A2.out).mono ?_); (case side1 => repeat ((with_reducible exact HI0.out))); (case side2 => repeat ((with_reducible exact HB.out))); rintro e w22 ⟨rfl, hi, hb, hk⟩; refine ⟨_, rfl, ?_⟩; replace HK := aM (KeepBut.trans HK.out hk (.inl rfl)); replace HB := aM hb; replace HI0 := aM hi; (try clear hb); (try clear hk); (try clear hi)) | ((with_reducible refine gate_callee (f := 101) rfl ?_); refine goesL_ (some 8) rfl rfl Try.func101 (by kernel_rfl) rfl #[.pointer (some ⟨g, 0, none⟩), .int .i64 1, .int .i64 5] rfl (by (try simp only [List.map_toArray, List.map_cons, List.map_nil]); rfl) ?_; (with_reducible refine (spec_l91Signs.calls k g s0_0 t118 1 5 t119 t120 w0 _ ?side1 ?side2 A4.out).mono ?_); (case side1 => repeat ((with_reducible exact HI0.out))); (case side2 => repeat ((with_reducible exact HB.out))); rintro e w23 ⟨rfl, hi, hb, hk⟩; refine ⟨_, rfl, ?_⟩; replace HK := aM (KeepBut.trans HK.out hk (.inl rfl)); replace HB := aM hb; replace HI0 := aM hi; (try clear hb); (try clear hk); (try clear hi)) | ((with_reducible refine gate_callee (f := 53) rfl ?_); refine goesL_ (some 12) rfl rfl Try.func53 (by kernel_rfl) rfl #[.pointer (some ⟨g, 0, none⟩), .int .i64 24] rfl (by (try simp only [List.map_toArray, List.map_cons, List.map_nil]); rfl) ?_; (with_reducible refine (spec_l6Rd_pick.calls k g s0_0 t120 24 t121 t122 w0 _ ?side1 ?side2 A7.out).mono ?_); (case side1 => repeat ((with_reducible exact HI0.out))); (case side2 => repeat ((with_reducible exact HB.out))); rintro e w24 ⟨rfl, hi, hb, hk⟩; refine ⟨_, rfl, ?_⟩; replace HK := aM (KeepBut.trans HK.out hk (.inl rfl)); replace HB := aM hb; replace HI0 := aM hi; (try clear hb); (try clear hk); (try clear hi)) | ((with_reducible refine gate_callee (f := 101) rfl ?_); refine goesL_ (some 23) rfl rfl Try.func101 (by kernel_rfl) rfl #[.pointer (some ⟨g, 0, none⟩), .int .i64 0, .int .i64 6] rfl (by (try simp only [List.map_toArray, List.map_cons, List.map_nil]); rfl) ?_; (with_reducible refine (spec_l91Signs.calls k g s0_0 t122 0 6 t129 t130 w0 _ ?side1 ?side2 A20.out).mono ?_); (case side1 => repeat ((with_reducible exact HI0.out))); (case side2 => repeat ((with_reducible exact HB.out))); rintro e w25 ⟨rfl, hi, hb, hk⟩; refine ⟨_, rfl, ?_⟩; replace HK := aM (KeepBut.trans HK.out hk (.inl rfl)); replace HB := aM hb; replace HI0 := aM hi; (try clear hb); (try clear hk); (try clear hi)))
       go_ret
       exact ⟨by first | rfl | (simp [*, errW_none, errW_some] <;> rfl), HI0.out, HB.out, HK.out⟩
      ·rw [if_neg c21] at H
       exact absurd H (by simp)
     ·rw [if_neg c19] at H
      have c19b0 : (t121 == 1) = false := beq_eq_false_iff_ne.mpr c19
      have c19b1 : (t121 != 1) = true := bne_iff_ne.mpr c19
      by_cases c26 : t121 = 2
      ·rw [if_pos c26] at H
       have c26b0 : (t121 == 2) = true := beq_iff_eq.mpr c26
       have c26b1 : (t121 != 2) = false := bne_eq_false_iff_eq.mpr c26
       clear c26
       by_cases c27 : 1 ≤ ((((t117 ++ (⟨#[40]⟩ : ByteArray)) ++ t119) ++ (⟨#[41]⟩ : ByteArray)).size : Int)
       ·rw [if_pos c27] at H
        have c27b0 := eq_true c27
        have c27b1 : decide (1 ≤ ((((t117 ++ (⟨#[40]⟩ : ByteArray)) ++ t119) ++ (⟨#[41]⟩ : ByteArray)).size : Int)) = true := decide_eq_true c27
        by_cases c28 : 1 + ((((t117 ++ (⟨#[40]⟩ : ByteArray)) ++ t119) ++ (⟨#[41]⟩ : ByteArray)).extract 1 (((t117 ++ (⟨#[40]⟩ : ByteArray)) ++ t119) ++ (⟨#[41]⟩ : ByteArray)).size).size ≤ 9223372036854775807
        ·rw [if_pos c28] at H
         have c28b0 := eq_true c28
         have c28b1 : decide (1 + ((((t117 ++ (⟨#[40]⟩ : ByteArray)) ++ t119) ++ (⟨#[41]⟩ : ByteArray)).extract 1 (((t117 ++ (⟨#[40]⟩ : ByteArray)) ++ t119) ++ (⟨#[41]⟩ : ByteArray)).size).size ≤ 9223372036854775807) = true := decide_eq_true c28
         try have c28b2 : (9223372036854775807 < 1 + ((((t117 ++ (⟨#[40]⟩ : ByteArray)) ++ t119) ++ (⟨#[41]⟩ : ByteArray)).extract 1 (((t117 ++ (⟨#[40]⟩ : ByteArray)) ++ t119) ++ (⟨#[41]⟩ : ByteArray)).size).size) = False := eq_false (Nat.not_lt.2 c28)
         simp only [Option.some.injEq, Prod.mk.injEq] at H
         obtain ⟨rfl, rfl⟩ := H
         go_enter Try.func52, Try.ntmps52
         go_wp2_with (first | ((with_reducible refine gate_callee (f := 101) rfl ?_); refine goesL_ (some 5) rfl rfl Try.func101 (by kernel_rfl) rfl #[.pointer (some ⟨g, 0, none⟩), .int .i64 0, .int .i64 6] rfl (by (try simp only [List.map_toArray, List.map_cons, List.map_nil]); rfl) ?_; (with_reducible refine (spec_l91Signs.calls k g s0_0 s0_1 0 6 t117 t118 w0 _ ?side1 ?side2 A2.out).mono ?_); (case side1 => repeat ((with_reducible exact HI0.out))); (case side2 => repeat ((with_reducible exact HB.out))); rintro e w29 ⟨rfl, hi, hb, hk⟩; refine ⟨_, rfl, ?_⟩; replace HK := aM (KeepBut.trans HK.out hk (.inl rfl)); replace HB := aM hb; replace HI0 := aM hi; (try clear hb); (try clear hk); (try clear hi)) | ((with_reducible refine gate_callee (f := 101) rfl ?_); refine goesL_ (some 8) rfl rfl Try.func101 (by kernel_rfl) rfl #[.pointer (some ⟨g, 0, none⟩), .int .i64 1, .int .i64 5] rfl (by (try simp only [List.map_toArray, List.map_cons, List.map_nil]); rfl) ?_; (with_reducible refine (spec_l91Signs.calls k g s0_0 t118 1 5 t119 t120 w0 _ ?side1 ?side2 A4.out).mono ?_); (case side1 => repeat ((with_reducible exact HI0.out))); (case side2 => repeat ((with_reducible exact HB.out))); rintro e w30 ⟨rfl, hi, hb, hk⟩; refine ⟨_, rfl, ?_⟩; replace HK := aM (KeepBut.trans HK.out hk (.inl rfl)); replace HB := aM hb; replace HI0 := aM hi; (try clear hb); (try clear hk); (try clear hi)) | ((with_reducible refine gate_callee (f := 53) rfl ?_); refine goesL_ (some 12) rfl rfl Try.func53 (by kernel_rfl) rfl #[.pointer (some ⟨g, 0, none⟩), .int .i64 24] rfl (by (try simp only [List.map_toArray, List.map_cons, List.map_nil]); rfl) ?_; (with_reducible refine (spec_l6Rd_pick.calls k g s0_0 t120 24 t121 t122 w0 _ ?side1 ?side2 A7.out).mono ?_); (case side1 => repeat ((with_reducible exact HI0.out))); (case side2 => repeat ((with_reducible exact HB.out))); rintro e w31 ⟨rfl, hi, hb, hk⟩; refine ⟨_, rfl, ?_⟩; replace HK := aM (KeepBut.trans HK.out hk (.inl rfl)); replace HB := aM hb; replace HI0 := aM hi; (try clear hb); (try clear hk); (try clear hi)))
         go_ret
         exact ⟨by first | (simp [errW_none, errW_some] <;> rfl) | (simp [*, errW_none, errW_some] <;> rfl), HI0.out, HB.out, HK.out⟩
        ·rw [if_neg c28] at H
         exact absurd H (by simp)
       ·rw [if_neg c27] at H
        exact absurd H (by simp)
      ·rw [if_neg c26] at H
       have c26b0 : (t121 == 2) = false := beq_eq_false_iff_ne.mpr c26
       have c26b1 : (t121 != 2) = true := bne_iff_ne.mpr c26
       simp only [Option.some.injEq, Prod.mk.injEq] at H
       obtain ⟨rfl, rfl⟩ := H
       go_enter Try.func52, Try.ntmps52
       go_wp2_with (first | ((with_reducible refine gate_callee (f := 101) rfl ?_); refine goesL_ (some 5) rfl rfl Try.func101 (by kernel_rfl) rfl #[.pointer (some ⟨g, 0, none⟩), .int .i64 0, .int .i64 6] rfl (by (try simp only [List.map_toArray, List.map_cons, List.map_nil]); rfl) ?_; (with_reducible refine (spec_l91Signs.calls k g s0_0 s0_1 0 6 t117 t118 w0 _ ?side1 ?side2 A2.out).mono ?_); (case side1 => repeat ((with_reducible exact HI0.out))); (case side2 => repeat ((with_reducible exact HB.out))); rintro e w32 ⟨rfl, hi, hb, hk⟩; refine ⟨_, rfl, ?_⟩; replace HK := aM (KeepBut.trans HK.out hk (.inl rfl)); replace HB := aM hb; replace HI0 := aM hi; (try clear hb); (try clear hk); (try clear hi)) | ((with_reducible refine gate_callee (f := 101) rfl ?_); refine goesL_ (some 8) rfl rfl Try.func101 (by kernel_rfl) rfl #[.pointer (some ⟨g, 0, none⟩), .int .i64 1, .int .i64 5] rfl (by (try simp only [List.map_toArray, List.map_cons, List.map_nil]); rfl) ?_; (with_reducible refine (spec_l91Signs.calls k g s0_0 t118 1 5 t119 t120 w0 _ ?side1 ?side2 A4.out).mono ?_); (case side1 => repeat ((with_reducible exact HI0.out))); (case side2 => repeat ((with_reducible exact HB.out))); rintro e w33 ⟨rfl, hi, hb, hk⟩; refine ⟨_, rfl, ?_⟩; replace HK := aM (KeepBut.trans HK.out hk (.inl rfl)); replace HB := aM hb; replace HI0 := aM hi; (try clear hb); (try clear hk); (try clear hi)) | ((with_reducible refine gate_callee (f := 53) rfl ?_); refine goesL_ (some 12) rfl rfl Try.func53 (by kernel_rfl) rfl #[.pointer (some ⟨g, 0, none⟩), .int .i64 24] rfl (by (try simp only [List.map_toArray, List.map_cons, List.map_nil]); rfl) ?_; (with_reducible refine (spec_l6Rd_pick.calls k g s0_0 t120 24 t121 t122 w0 _ ?side1 ?side2 A7.out).mono ?_); (case side1 => repeat ((with_reducible exact HI0.out))); (case side2 => repeat ((with_reducible exact HB.out))); rintro e w34 ⟨rfl, hi, hb, hk⟩; refine ⟨_, rfl, ?_⟩; replace HK := aM (KeepBut.trans HK.out hk (.inl rfl)); replace HB := aM hb; replace HI0 := aM hi; (try clear hb); (try clear hk); (try clear hi)))
       go_ret
       exact ⟨by first | rfl | (simp [*, errW_none, errW_some] <;> rfl), HI0.out, HB.out, HK.out⟩
   ·rw [if_neg c6] at H
    exact absurd H (by simp)
  ·rw [if_neg c5] at H
   exact absurd H (by simp)
 ·rw [if_neg c3] at H
  exact absurd H (by simp)


def spec_DrawSolveOne.f (k : Nat) (l0 : List Int) : Option (ByteArray × ByteArray) := (spec_l6Open.f l0).bind fun bt739 => ((spec_l91Set.f k bt739.1 bt739.2).bind fun bt742 => ((spec_l91Set.f k bt739.1 bt742.2).bind fun bt744 => (some (bt742.1, bt744.1))))
theorem spec_DrawSolveOne.mono : ∀ a0 k, LeO (spec_DrawSolveOne.f k a0) (spec_DrawSolveOne.f (k + 1) a0) := by
 intro a0 k
 unfold spec_DrawSolveOne.f
 repeat' first | (with_reducible exact spec_l91Set.mono _ _ _) | (with_reducible exact LeO.refl _) | (with_reducible refine LeO.bind ?_ (fun _ => ?_))
set_option maxHeartbeats 8000000 in
set_option maxRecDepth 100000 in
theorem spec_DrawSolveOne.calls (k : Nat) (A0 : Option Addr) (c0 : Nat) (l0 : List Int) (r1 : ByteArray) (r2 : ByteArray) (w : World) (hr0 : Kd.C (Kd.int .u8) w A0 l0.length l0) (hc0 : l0.length ≤ c0) (h : spec_DrawSolveOne.f k l0 = some (r1, r2)) :
  Calls Try.prog 24 #[.slice A0 l0.length c0] w fun e w' => e = .returned (.tuple #[.string r1, .string r2]) ∧ Below w.heap.size w w' := by
 have HR0 := aM hr0
 have HC0 := aM hc0
 clear hr0 hc0
 have HB := aM (Below.refl w.heap.size w)
 have H : ((spec_l6Open.f l0).bind fun bt739 => ((spec_l91Set.f k bt739.1 bt739.2).bind fun bt742 => ((spec_l91Set.f k bt739.1 bt742.2).bind fun bt744 => (some (bt742.1, bt744.1))))) = some (r1, r2) := h
 clear h
 replace H := Option.bind_eq_some_iff.mp H
 obtain ⟨⟨t739, t740⟩, A20, H⟩ := H
 replace H : ((spec_l91Set.f k t739 t740).bind fun bt742 => ((spec_l91Set.f k t739 bt742.2).bind fun bt744 => (some (bt742.1, bt744.1)))) = some (r1, r2) := H
 have A2 := aM A20
 clear A20
 replace H := Option.bind_eq_some_iff.mp H
 obtain ⟨⟨t742, t743⟩, A30, H⟩ := H
 replace H : ((spec_l91Set.f k t739 t743).bind fun bt744 => (some (t742, bt744.1))) = some (r1, r2) := H
 have A3 := aM A30
 clear A30
 replace H := Option.bind_eq_some_iff.mp H
 obtain ⟨⟨t744, t745⟩, A40, H⟩ := H
 replace H : (some (t742, t744)) = some (r1, r2) := H
 have A4 := aM A40
 clear A40
 simp only [Option.some.injEq, Prod.mk.injEq] at H
 obtain ⟨rfl, rfl⟩ := H
 go_enter Try.func24, Try.ntmps24
 go_wp2_with (first | ((with_reducible refine gate_callee (f := 51) rfl ?_); refine goesL_ (some 6) rfl rfl Try.func51 (by kernel_rfl) rfl #[.slice A0 l0.length c0] rfl (by (try simp only [List.map_toArray, List.map_cons, List.map_nil]); rfl) ?_; (with_reducible refine (spec_l6Open.calls _ _ l0 t739 t740 w _ ?side1 ?side2 ?side3 A2.out).mono ?_); (case side1 => repeat ((with_reducible exact HB.out))); (case side2 => exact HR0.out); (case side3 => exact HC0.out); rintro e w5 ⟨g741, rfl, hi, hb, hb2⟩; refine ⟨_, rfl, ?_⟩; replace HB := aM hb; have HI741 := aM hi; (try clear hb); (try clear hb2); (try clear hi)) | ((with_reducible refine gate_callee (f := 52) rfl ?_); refine goesL_ (some 8) rfl rfl Try.func52 (by kernel_rfl) rfl #[.pointer (some ⟨g741, 0, none⟩)] rfl (by (try simp only [List.map_toArray, List.map_cons, List.map_nil]); rfl) ?_; (with_reducible refine (spec_l91Set.calls k g741 t739 t740 t742 t743 w _ ?side1 ?side2 A3.out).mono ?_); (case side1 => repeat ((with_reducible exact HI741.out))); (case side2 => repeat ((with_reducible exact HB.out))); rintro e w6 ⟨rfl, hi, hb, hk⟩; refine ⟨_, rfl, ?_⟩; replace HB := aM hb; replace HI741 := aM hi; (try clear hb); (try clear hk); (try clear hi)) | ((with_reducible refine gate_callee (f := 52) rfl ?_); refine goesL_ (some 10) rfl rfl Try.func52 (by kernel_rfl) rfl #[.pointer (some ⟨g741, 0, none⟩)] rfl (by (try simp only [List.map_toArray, List.map_cons, List.map_nil]); rfl) ?_; (with_reducible refine (spec_l91Set.calls k g741 t739 t743 t744 t745 w _ ?side1 ?side2 A4.out).mono ?_); (case side1 => repeat ((with_reducible exact HI741.out))); (case side2 => repeat ((with_reducible exact HB.out))); rintro e w7 ⟨rfl, hi, hb, hk⟩; refine ⟨_, rfl, ?_⟩; replace HB := aM hb; replace HI741 := aM hi; (try clear hb); (try clear hk); (try clear hi)))
 go_ret2
 exact ⟨by first | rfl | (simp [*, errW_none, errW_some] <;> rfl), HB.out⟩


mutual
def impl_solved.l0 : Nat → List Bool → List Bool → Int → Int → List Bool → List Bool → Option (List Bool)
 | 0, _, _, _, _, _, _ => none
 | k + 1, x7, x8, x17, x18, x254000, x254001 => if x18 < x17 then (impl_solved.l1 k x7 x8 x18 0 x17 x18 x254000 x254001) else (some x8)
def impl_solved.l1 : Nat → List Bool → List Bool → Int → Int → Int → Int → List Bool → List Bool → Option (List Bool)
 | 0, _, _, _, _, _, _, _, _ => none
 | k + 1, x7, x8, x9, x10, x17, x18, x254000, x254001 => if x10 ≤ x9 then (if 0 ≤ x9 then (if x9 < (x8.length : Int) then (if rdOf false x8 x9 = true then (impl_solved.l0 k x7 x8 x17 (wrap64 (x18 + 1)) x254000 x254001) else (if 0 ≤ x10 then (if x10 < (x7.length : Int) then (if rdOf false x7 x10 = true then ((impl_set_has.f x254000 x254001 (wrap64 (x9 - x10))).bind fun t262 => (impl_solved.l1 k x7 (x8.set (x9 : Int).toNat t262) x9 (wrap64 (x10 + 1)) x17 x18 x254000 x254001)) else (impl_solved.l1 k x7 (x8.set (x9 : Int).toNat false) x9 (wrap64 (x10 + 1)) x17 x18 x254000 x254001)) else (none)) else (none))) else (none)) else (none)) else (impl_solved.l0 k x7 x8 x17 (wrap64 (x18 + 1)) x254000 x254001)
end
def impl_solved.f (k : Nat) (l0_0 : List Bool) (l0_1 : List Bool) (l1_0 : List Bool) (l1_1 : List Bool) (a2 : Int) : Option (List Bool) := (impl_star.f k l0_0 l0_1 a2).bind fun t254 => (if 0 ≤ a2 then (if (a2 : Int).toNat ≤ 281474976710656 then ((some (List.replicate (a2 : Int).toNat false : List Bool)).bind fun y257 => (impl_solved.l0 k t254 y257 (y257.length : Int) 0 l1_0 l1_1)) else (none)) else (none))
theorem impl_solved.mono_l : ∀ k, (∀ y0 y1 y2 y3 y4 y5, LeO (impl_solved.l0 k y0 y1 y2 y3 y4 y5) (impl_solved.l0 (k + 1) y0 y1 y2 y3 y4 y5)) ∧ (∀ y0 y1 y2 y3 y4 y5 y6 y7, LeO (impl_solved.l1 k y0 y1 y2 y3 y4 y5 y6 y7) (impl_solved.l1 (k + 1) y0 y1 y2 y3 y4 y5 y6 y7))
 | 0 => ⟨fun _ _ _ _ _ _ r h => by simp [impl_solved.l0] at h, fun _ _ _ _ _ _ _ _ r h => by simp [impl_solved.l1] at h⟩
 | k + 1 => by
  obtain ⟨ih0, ih1⟩ := impl_solved.mono_l k
  refine ⟨?_, ?_⟩
  ·intro y0 y1 y2 y3 y4 y5
   unfold impl_solved.l0
   repeat' first | (with_reducible exact ih1 _ _ _ _ _ _ _ _) | (with_reducible exact LeO.refl _) | (with_reducible refine LeO.ite ?_ ?_)
  ·intro y0 y1 y2 y3 y4 y5 y6 y7
   unfold impl_solved.l1
   repeat' first | (with_reducible exact ih0 _ _ _ _ _ _) | (with_reducible exact ih1 _ _ _ _ _ _ _ _) | (with_reducible exact LeO.refl _) | (with_reducible refine LeO.ite ?_ ?_) | (with_reducible refine LeO.bind ?_ (fun _ => ?_))
theorem impl_solved.mono : ∀ a0 a1 a2 a3 a4 k, LeO (impl_solved.f k a0 a1 a2 a3 a4) (impl_solved.f (k + 1) a0 a1 a2 a3 a4) := by
 intro a0 a1 a2 a3 a4 k
 obtain ⟨ih0, ih1⟩ := impl_solved.mono_l k
 unfold impl_solved.f
 repeat' first | (with_reducible exact ih0 _ _ _ _ _ _) | (with_reducible exact impl_star.mono _ _ _ _) | (with_reducible exact LeO.refl _) | (with_reducible refine LeO.ite ?_ ?_) | (with_reducible refine LeO.bind ?_ (fun _ => ?_))
set_option maxHeartbeats 8000000 in
set_option maxRecDepth 100000 in
theorem impl_solved.calls (k : Nat) (A0_0 : Option Addr) (c0_0 : Nat) (l0_0 : List Bool) (A0_1 : Option Addr) (c0_1 : Nat) (l0_1 : List Bool) (A1_0 : Option Addr) (c1_0 : Nat) (l1_0 : List Bool) (A1_1 : Option Addr) (c1_1 : Nat) (l1_1 : List Bool) (a2 : Int) (r : List Bool) (w : World) (hr0_0 : Kd.C Kd.bool w A0_0 l0_0.length l0_0) (hc0_0 : l0_0.length ≤ c0_0) (hr0_1 : Kd.C Kd.bool w A0_1 l0_1.length l0_1) (hc0_1 : l0_1.length ≤ c0_1) (hr1_0 : Kd.C Kd.bool w A1_0 l1_0.length l1_0) (hc1_0 : l1_0.length ≤ c1_0) (hr1_1 : Kd.C Kd.bool w A1_1 l1_1.length l1_1) (hc1_1 : l1_1.length ≤ c1_1) (h : impl_solved.f k l0_0 l0_1 l1_0 l1_1 a2 = some r) :
  Calls Try.prog 56 #[.agg #[.slice A0_0 l0_0.length c0_0, .slice A0_1 l0_1.length c0_1], .agg #[.slice A1_0 l1_0.length c1_0, .slice A1_1 l1_1.length c1_1], .int .i64 a2] w fun e w' => ∃ v0_ : Value, e = .returned (v0_) ∧ Kd.R Kd.bool 4 w' w.heap.size (fun _ => True) v0_ r ∧ Below w.heap.size w w' := by
 have hu60 := Try.underlying60
 have HR0_0 := aM hr0_0
 have HC0_0 := aM hc0_0
 clear hr0_0 hc0_0
 have HR0_1 := aM hr0_1
 have HC0_1 := aM hc0_1
 clear hr0_1 hc0_1
 have HR1_0 := aM hr1_0
 have HC1_0 := aM hc1_0
 clear hr1_0 hc1_0
 have HR1_1 := aM hr1_1
 have HC1_1 := aM hc1_1
 clear hr1_1 hc1_1
 have HB := aM (Below.refl w.heap.size w)
 have H : ((impl_star.f k l0_0 l0_1 a2).bind fun t254 => (if 0 ≤ a2 then (if (a2 : Int).toNat ≤ 281474976710656 then ((some (List.replicate (a2 : Int).toNat false : List Bool)).bind fun y257 => (impl_solved.l0 k t254 y257 (y257.length : Int) 0 l1_0 l1_1)) else (none)) else (none))) = some r := h
 clear h
 replace H := Option.bind_eq_some_iff.mp H
 obtain ⟨t254, A40, H⟩ := H
 replace H : (if 0 ≤ a2 then (if (a2 : Int).toNat ≤ 281474976710656 then ((some (List.replicate (a2 : Int).toNat false : List Bool)).bind fun y257 => (impl_solved.l0 k t254 y257 (y257.length : Int) 0 l1_0 l1_1)) else (none)) else (none)) = some r := H
 have A4 := aM A40
 clear A40
 by_cases c5 : 0 ≤ a2
 ·rw [if_pos c5] at H
  have c5b0 := eq_true c5
  have c5b1 : decide (0 ≤ a2) = true := decide_eq_true c5
  clear c5
  by_cases c6 : (a2 : Int).toNat ≤ 281474976710656
  ·rw [if_pos c6] at H
   have c6b0 := eq_true c6
   have c6b1 : decide ((a2 : Int).toNat ≤ 281474976710656) = true := decide_eq_true c6
   clear c6
   obtain ⟨y257, hy257⟩ : ∃ y_ : List Bool, y_ = (List.replicate (a2 : Int).toNat false) := ⟨_, rfl⟩
   replace H : (impl_solved.l0 k t254 y257 (y257.length : Int) 0 l1_0 l1_1) = some r := by first | (have H2_ := (Option.bind_some _ _).symm.trans H; rw [hy257]; with_reducible exact H2_)
   have Ny257 := aM hy257
   clear hy257
   have H' := aM H
   clear H
   go_enter Try.func56, Try.ntmps56
   go_wp2_with (first | ((with_reducible refine gate_dst (N := 3) rfl ?_); refine box_event ?hg (N := 3) ?hd (cs := #[.slice A0_0 l0_0.length c0_0, .slice A0_1 l0_1.length c0_1]) (t := 60) ?hr ?_; (case hd => rfl); (case hg => rfl); (case hr => first | (go_simp; done)); intro gb252 hg w7 hbox hb; have BK252 := aM hbox; have GW252 := aM ((by rw [hg]; exact (below_size HB.out) : w.heap.size ≤ gb252)); have GE252 := aM ((by rw [hg]; exact (below_size HB.out) : w.heap.size ≤ gb252)); replace HB := aM (below_step HB.out hb); clear hb hbox hg) | ((with_reducible refine gate_dst (N := 4) rfl ?_); refine box_event ?hg (N := 4) ?hd (cs := #[.slice A1_0 l1_0.length c1_0, .slice A1_1 l1_1.length c1_1]) (t := 60) ?hr ?_; (case hd => rfl); (case hg => rfl); (case hr => first | (go_simp; done)); intro gb253 hg w8 hbox hb; have BK253 := aM hbox; have GW253 := aM ((by rw [hg]; exact (below_size HB.out) : w.heap.size ≤ gb253)); have GE253 := aM ((by rw [hg]; exact (below_size HB.out) : w.heap.size ≤ gb253)); replace HB := aM (below_step HB.out hb); have NB252_253 := aM ((by rw [hg]; exact Nat.ne_of_lt (blk_lt (g := gb252) (o := .cells #[.slice A0_0 l0_0.length c0_0, .slice A0_1 l0_1.length c0_1] 60 (0, 0)) BK252.out) : gb252 ≠ gb253)); have NB253_252 := aM ((by rw [hg]; exact Nat.ne_of_gt (blk_lt (g := gb252) (o := .cells #[.slice A0_0 l0_0.length c0_0, .slice A0_1 l0_1.length c0_1] 60 (0, 0)) BK252.out) : gb253 ≠ gb252)); replace BK252 := aM (blk_below (g := gb252) (o := .cells #[.slice A0_0 l0_0.length c0_0, .slice A0_1 l0_1.length c0_1] 60 (0, 0)) BK252.out hb); clear hb hbox hg; have hnb9 := NB252_253.out; have hnc9 := NB253_252.out; have hcz10_0 : w8.cell? ⟨gb252, 0, none⟩ = some (.slice A0_0 l0_0.length c0_0) := (blk_cell BK252.out 0).trans rfl; have hcz10_1 : w8.cell? ⟨gb252, 1, none⟩ = some (.slice A0_1 l0_1.length c0_1) := (blk_cell BK252.out 1).trans rfl; have hfz10_0 := blk_frozen BK252.out 0; have hfz10_1 := blk_frozen BK252.out 1) | ((with_reducible refine gate_callee (f := 70) rfl ?_); refine goesL_ (some 13) rfl rfl Try.func70 (by kernel_rfl) rfl #[.agg #[.slice A0_0 l0_0.length c0_0, .slice A0_1 l0_1.length c0_1], .int .i64 a2] rfl (by (try simp only [List.map_toArray, List.map_cons, List.map_nil]); rfl) ?_; (with_reducible refine (impl_star.calls k _ _ l0_0 _ _ l0_1 a2 t254 _ ?side1 ?side2 ?side3 ?side4 A4.out).mono ?_); (case side1 => repeat (exact (Kd.C_below HR0_0.out HB.out))); (case side2 => exact HC0_0.out); (case side3 => repeat (exact (Kd.C_below HR0_1.out HB.out))); (case side4 => exact HC0_1.out); rintro e w11 ⟨v255, rfl, ho0, hb⟩; refine ⟨_, rfl, ?_⟩; have HO256 := aM (Kd.R_lower ho0 (below_size HB.out)); replace BK252 := aM (blk_below (g := gb252) (o := .cells #[.slice A0_0 l0_0.length c0_0, .slice A0_1 l0_1.length c0_1] 60 (0, 0)) BK252.out hb); replace BK253 := aM (blk_below (g := gb253) (o := .cells #[.slice A1_0 l1_0.length c1_0, .slice A1_1 l1_1.length c1_1] 60 (0, 0)) BK253.out hb); replace HB := aM (below_step HB.out hb); (try clear hb); (try clear ho0)) | ((with_reducible refine gate_dst (N := 15) rfl ?_); refine Kd.R_make Kd.bool _ 4 rfl (N := 15) rfl 58 _ _ rfl a2 rfl rfl Try.underlying58 (.bool false) 1 info4 rfl (by decide) (by omega) false (ok := fun _ => True) (okp := fun _ => True) rfl (fun _ hk => hk) trivial (of_decide_eq_true (by (with_reducible assumption))) (Nat.le_trans (Nat.mul_le_mul_right _ (of_decide_eq_true (by (with_reducible assumption)) : a2.toNat ≤ 281474976710656)) (by omega)) (Below.refl _ _) (Nat.le_refl _) ?_; intro v258 w12 ho13 hb hg_ hnew_; clear hg_ hnew_; (rw [← Ny257.out] at ho13); have HO259 := aM (Kd.R_lower (Kd.R_new' ho13 (Kd.R_lt HO256.out)) (below_size HB.out)); replace HO256 := aM (Kd.R_elder' HO256.out (Kd.R_base ho13) hb); replace BK252 := aM (blk_below (g := gb252) (o := .cells #[.slice A0_0 l0_0.length c0_0, .slice A0_1 l0_1.length c0_1] 60 (0, 0)) BK252.out hb); replace BK253 := aM (blk_below (g := gb253) (o := .cells #[.slice A1_0 l1_0.length c1_0, .slice A1_1 l1_1.length c1_1] 60 (0, 0)) BK253.out hb); replace HB := aM (below_step HB.out hb); clear hb ho13; obtain ⟨Ao14, co14, eo14⟩ := Kd.R_slice HO259.out; subst eo14))
   go_loopg [18] k (fun kq v18 w' => ∃ (x8_1 : List Bool) (x18_1 : Int), v18 = .int .i64 x18_1 ∧ Aside0 (impl_solved.l0 kq t254 x8_1 (y257.length : Int) x18_1 l1_0 l1_1 = some r) ∧ Aside0 (kq ≤ k) ∧ Aside0 (Kd.R Kd.bool 4 w' w.heap.size (fun k_ => some k_ ≠ ((.slice Ao14 y257.length co14) : Value).ownBlock) v255 t254) ∧ Aside0 (Kd.R Kd.bool 4 w' w.heap.size (fun k_ => some k_ ≠ (v255 : Value).ownBlock) (.slice Ao14 y257.length co14) x8_1) ∧ Aside0 (w'.heap[gb252]? = some (.cells #[(.slice A0_0 l0_0.length c0_0), (.slice A0_1 l0_1.length c0_1)] 60 (0, 0))) ∧ Aside0 (w'.heap[gb253]? = some (.cells #[(.slice A1_0 l1_0.length c1_0), (.slice A1_1 l1_1.length c1_1)] 60 (0, 0))) ∧ Aside0 (Below w.heap.size w w'))
   case atStart => exact ⟨(y257), (0), (by rfl), H', ⟨Nat.le_refl _⟩, ⟨by exact Kd.R_mono HO256.out (fun _ hk => hk.2)⟩, ⟨by exact Kd.R_mono HO259.out (fun _ hk => hk.2)⟩, ⟨by exact BK252.out⟩, ⟨by exact BK253.out⟩, ⟨HB.out⟩⟩
   case round =>
    clear H'
    try clear c5b0
    try clear c5b1
    try clear c6b0
    try clear c6b1
    try clear hcz10_0
    try clear hcz10_1
    try clear hfz10_0
    try clear hfz10_1
    obtain ⟨x8_1, x18_1, rfl, HA, HK1, HO_7, HO_8, BK252, BK253, HB⟩ := hrel
    have hl8_1 := (Kd.R_reads' HO_8.out).1
    rw [hl8_1] at HO_8
    (try simp only [hl8_1])
    (try simp only [hl8_1] at HO_7)
    cases gk with
    | zero => exact absurd HA.out (by simp [impl_solved.l0])
    | succ k1 =>
     have H := HA.out
     clear HA
     simp only [impl_solved.l0] at H
     by_cases c15 : x18_1 < (y257.length : Int)
     ·rw [if_pos c15] at H
      have c15b0 : decide (x18_1 < (y257.length : Int)) = true := decide_eq_true c15
      have c15b0z := c15b0
      (try simp only [hl8_1] at c15b0z)
      clear c15
      have H' := aM H
      clear H
      go_wp2
      go_loopg [10] k1 (fun kq v10 w' => ∃ (x8_2 : List Bool) (x10_2 : Int), v10 = .int .i64 x10_2 ∧ Aside0 (impl_solved.l1 kq t254 x8_2 x18_1 x10_2 (y257.length : Int) x18_1 l1_0 l1_1 = some r) ∧ Aside0 (kq ≤ k1) ∧ Aside0 (Kd.R Kd.bool 4 w' w.heap.size (fun k_ => some k_ ≠ ((.slice Ao14 x8_1.length co14) : Value).ownBlock) v255 t254) ∧ Aside0 (Kd.R Kd.bool 4 w' w.heap.size (fun k_ => some k_ ≠ (v255 : Value).ownBlock) (.slice Ao14 x8_1.length co14) x8_2) ∧ Aside0 (w'.heap[gb252]? = some (.cells #[(.slice A0_0 l0_0.length c0_0), (.slice A0_1 l0_1.length c0_1)] 60 (0, 0))) ∧ Aside0 (w'.heap[gb253]? = some (.cells #[(.slice A1_0 l1_0.length c1_0), (.slice A1_1 l1_1.length c1_1)] 60 (0, 0))) ∧ Aside0 (Below w.heap.size w w'))
      case atStart => exact ⟨(x8_1), (0), (by rfl), H', ⟨Nat.le_refl _⟩, ⟨by exact HO_7.out⟩, ⟨by exact HO_8.out⟩, ⟨by exact BK252.out⟩, ⟨by exact BK253.out⟩, ⟨HB.out⟩⟩
      case round =>
       clear H'
       try clear c15b0
       obtain ⟨x8_2, x10_2, rfl, HA, HK2, HO_7, HO_8, BK252, BK253, HB⟩ := hrel
       have hl8_2 := (Kd.R_reads' HO_8.out).1
       rw [hl8_2] at HO_8
       (try simp only [hl8_2])
       (try simp only [hl8_2] at HO_7)
       cases gk with
       | zero => exact absurd HA.out (by simp [impl_solved.l1])
       | succ k2 =>
        have H := HA.out
        clear HA
        simp only [impl_solved.l1] at H
        by_cases c16 : x10_2 ≤ x18_1
        ·rw [if_pos c16] at H
         have c16b0 : decide (x10_2 ≤ x18_1) = true := decide_eq_true c16
         clear c16
         by_cases c17 : 0 ≤ x18_1
         ·rw [if_pos c17] at H
          have c17b0 : decide (0 ≤ x18_1) = true := decide_eq_true c17
          clear c17
          by_cases c18 : x18_1 < (x8_2.length : Int)
          ·rw [if_pos c18] at H
           have c18b0 : decide (x18_1 < (x8_2.length : Int)) = true := decide_eq_true c18
           have c18b0z := c18b0
           clear c18
           obtain ⟨bq19, hbq19⟩ : ∃ b_ : Bool, b_ = (rdOf false x8_2 x18_1) := ⟨_, rfl⟩
           replace H : (if bq19 = true then (impl_solved.l0 k2 t254 x8_2 (y257.length : Int) (wrap64 (x18_1 + 1)) l1_0 l1_1) else (if 0 ≤ x10_2 then (if x10_2 < (t254.length : Int) then (if rdOf false t254 x10_2 = true then ((impl_set_has.f l1_0 l1_1 (wrap64 (x18_1 - x10_2))).bind fun t262 => (impl_solved.l1 k2 t254 (x8_2.set (x18_1 : Int).toNat t262) x18_1 (wrap64 (x10_2 + 1)) (y257.length : Int) x18_1 l1_0 l1_1)) else (impl_solved.l1 k2 t254 (x8_2.set (x18_1 : Int).toNat false) x18_1 (wrap64 (x10_2 + 1)) (y257.length : Int) x18_1 l1_0 l1_1)) else (none)) else (none))) = some r := by rw [← hbq19] at H; exact H
           have Nbq19 := aM hbq19
           clear hbq19
           by_cases c20 : bq19 = true
           ·subst c20
            replace H : (impl_solved.l0 k2 t254 x8_2 (y257.length : Int) (wrap64 (x18_1 + 1)) l1_0 l1_1) = some r := by rw [if_pos rfl] at H; exact H
            have H' := aM H
            clear H
            have p260 : 0 ≤ (x18_1 : Int) := of_decide_eq_true (by (with_reducible assumption))
            have q260 : x18_1 < (x8_2.length : Int) := of_decide_eq_true (by (with_reducible assumption))
            obtain ⟨ad260, e260, hx260_0⟩ := Kd.at_bool (Kd.R_reads' HO_8.out).2.2 x18_1 p260 q260
            (try rw [← Nbq19.out] at hx260_0)
            cases e260
            replace p260 := eq_true p260
            replace q260 := eq_true q260
            go_wp2
            (try simp only [← hl8_1, ← hl8_2])
            go_roundg k2
            case measure => have := HK1.out; have := HK2.out; omega
            case rel => exact ⟨(x8_2), (wrap64 (x18_1 + 1)), (by rfl), H', ⟨by have := HK1.out; have := HK2.out; omega⟩, ⟨by (try simp only [hl8_1]); (try simp only [hl8_2]); exact HO_7.out⟩, ⟨by (try simp only [hl8_1]); (try simp only [hl8_2]); exact HO_8.out⟩, ⟨by exact BK252.out⟩, ⟨by exact BK253.out⟩, ⟨HB.out⟩⟩
           ·replace c20 := Bool.eq_false_iff.mpr c20
            subst c20
            replace H : (if 0 ≤ x10_2 then (if x10_2 < (t254.length : Int) then (if rdOf false t254 x10_2 = true then ((impl_set_has.f l1_0 l1_1 (wrap64 (x18_1 - x10_2))).bind fun t262 => (impl_solved.l1 k2 t254 (x8_2.set (x18_1 : Int).toNat t262) x18_1 (wrap64 (x10_2 + 1)) (y257.length : Int) x18_1 l1_0 l1_1)) else (impl_solved.l1 k2 t254 (x8_2.set (x18_1 : Int).toNat false) x18_1 (wrap64 (x10_2 + 1)) (y257.length : Int) x18_1 l1_0 l1_1)) else (none)) else (none)) = some r := by rw [if_neg (show ¬ (false = true) by decide)] at H; exact H
            by_cases c21 : 0 ≤ x10_2
            ·rw [if_pos c21] at H
             have c21b0 : decide (0 ≤ x10_2) = true := decide_eq_true c21
             clear c21
             by_cases c22 : x10_2 < (t254.length : Int)
             ·rw [if_pos c22] at H
              have c22b0 : decide (x10_2 < (t254.length : Int)) = true := decide_eq_true c22
              have c22b0z := c22b0
              clear c22
              obtain ⟨bq23, hbq23⟩ : ∃ b_ : Bool, b_ = (rdOf false t254 x10_2) := ⟨_, rfl⟩
              replace H : (if bq23 = true then ((impl_set_has.f l1_0 l1_1 (wrap64 (x18_1 - x10_2))).bind fun t262 => (impl_solved.l1 k2 t254 (x8_2.set (x18_1 : Int).toNat t262) x18_1 (wrap64 (x10_2 + 1)) (y257.length : Int) x18_1 l1_0 l1_1)) else (impl_solved.l1 k2 t254 (x8_2.set (x18_1 : Int).toNat false) x18_1 (wrap64 (x10_2 + 1)) (y257.length : Int) x18_1 l1_0 l1_1)) = some r := by rw [← hbq23] at H; exact H
              have Nbq23 := aM hbq23
              clear hbq23
              by_cases c24 : bq23 = true
              ·subst c24
               replace H : ((impl_set_has.f l1_0 l1_1 (wrap64 (x18_1 - x10_2))).bind fun t262 => (impl_solved.l1 k2 t254 (x8_2.set (x18_1 : Int).toNat t262) x18_1 (wrap64 (x10_2 + 1)) (y257.length : Int) x18_1 l1_0 l1_1)) = some r := by rw [if_pos rfl] at H; exact H
               replace H := Option.bind_eq_some_iff.mp H
               obtain ⟨t262, A250, H⟩ := H
               replace H : (impl_solved.l1 k2 t254 (x8_2.set (x18_1 : Int).toNat t262) x18_1 (wrap64 (x10_2 + 1)) (y257.length : Int) x18_1 l1_0 l1_1) = some r := H
               have A25 := aM A250
               clear A250
               obtain ⟨y263, hy263⟩ : ∃ y_ : List Bool, y_ = (x8_2.set (x18_1 : Int).toNat t262) := ⟨_, rfl⟩
               replace H : (impl_solved.l1 k2 t254 y263 x18_1 (wrap64 (x10_2 + 1)) (y257.length : Int) x18_1 l1_0 l1_1) = some r := by first | (rw [hy263]; with_reducible exact H)
               have Ny263 := aM hy263
               clear hy263
               have H' := aM H
               clear H
               have p260 : 0 ≤ (x18_1 : Int) := of_decide_eq_true (by (with_reducible assumption))
               have q260 : x18_1 < (x8_2.length : Int) := of_decide_eq_true (by (with_reducible assumption))
               obtain ⟨ad260, e260, hx260_0⟩ := Kd.at_bool (Kd.R_reads' HO_8.out).2.2 x18_1 p260 q260
               (try rw [← Nbq19.out] at hx260_0)
               cases e260
               replace p260 := eq_true p260
               replace q260 := eq_true q260
               obtain ⟨Ao27, co27, eo27⟩ := Kd.R_slice HO_7.out
               subst eo27
               have p261 : 0 ≤ (x10_2 : Int) := of_decide_eq_true (by (with_reducible assumption))
               have q261 : x10_2 < (t254.length : Int) := of_decide_eq_true (by (with_reducible assumption))
               obtain ⟨ad261, e261, hx261_0⟩ := Kd.at_bool (Kd.R_reads' HO_7.out).2.2 x10_2 p261 q261
               (try rw [← Nbq23.out] at hx261_0)
               cases e261
               replace p261 := eq_true p261
               replace q261 := eq_true q261
               have hnb28 := NB253_252.out
               have hnc28 := NB252_253.out
               have hcz29_0 : wr.cell? ⟨gb253, 0, none⟩ = some (.slice A1_0 l1_0.length c1_0) := (blk_cell BK253.out 0).trans rfl
               have hcz29_1 : wr.cell? ⟨gb253, 1, none⟩ = some (.slice A1_1 l1_1.length c1_1) := (blk_cell BK253.out 1).trans rfl
               have hfz29_0 := blk_frozen BK253.out 0
               have hfz29_1 := blk_frozen BK253.out 1
               go_wp2_with (first | (go_at_call 61; (with_reducible refine (impl_set_has.calls _ _ l1_0 _ _ l1_1 (wrap64 (x18_1 - x10_2)) t262 _ ?side1 ?side2 ?side3 ?side4 A25.out).mono ?_); (case side1 => repeat (exact (Kd.C_below HR1_0.out HB.out))); (case side2 => exact HC1_0.out); (case side3 => repeat (exact (Kd.C_below HR1_1.out HB.out))); (case side4 => exact HC1_1.out); rintro e w30 ⟨rfl, hb⟩; replace HO_7 := aM (Kd.R_below HO_7.out hb); replace HO_8 := aM (Kd.R_below HO_8.out hb); replace BK252 := aM (blk_below (g := gb252) (o := .cells #[.slice A0_0 l0_0.length c0_0, .slice A0_1 l0_1.length c0_1] 60 (0, 0)) BK252.out hb); replace BK253 := aM (blk_below (g := gb253) (o := .cells #[.slice A1_0 l1_0.length c1_0, .slice A1_1 l1_1.length c1_1] 60 (0, 0)) BK253.out hb); replace HB := aM (below_step HB.out hb); (try clear hb); have p26 : 0 ≤ (x18_1 : Int) := of_decide_eq_true (by (with_reducible assumption)); have q26 : (x18_1 : Int) < ((x8_2.length : Int) : Int) := of_decide_eq_true (by (with_reducible assumption)); obtain ⟨go26, co26, eo26, gb26, gl26, cl26, HG26⟩ := Kd.R_form HO_8.out (by omega); (cases eo26); have GB26 := aM gb26; have GG26 := aM HG26; clear gb26 gl26 HG26; (simp only [add_plain] at hx260_0); obtain ⟨hx26_0, hf26_0⟩ := Kd.R_celln false HO_8.out (x18_1 : Int) p26 q26; replace p26 := eq_true p26; replace q26 := eq_true q26; obtain ⟨hy31_, hz31_⟩ := Kd.R_celln false HO_8.out (x18_1 : Int) (of_decide_eq_true (by (with_reducible assumption))) (of_decide_eq_true (by (with_reducible assumption))); have HP31 := Kd.R_putg HO_8.out (x18_1 : Int) t262) | ((with_reducible refine gate_store (t := 4) (p := 46) rfl ?_); refine store_event (t := 4) (p := 46) (v := ?vo_w32) (w1 := (w30.setCell ⟨go26, (x18_1 : Int).toNat, none⟩ (.bool t262))) ?hg ?ho ?hn ?hr ?_; (case ho => rfl); (case hg => rfl); (case hn => rfl); (case hr => first | (go_simp; done)); intro w32 hw; have hg : w30.grownBy w32 (some go26) := (by rw [hw]; exact HP31.2); have hp_ : Kd.R Kd.bool 4 w32 w.heap.size (fun k_ => some k_ ≠ (.slice (some ad261) t254.length co27 : Value).ownBlock) (.slice (some ⟨go26, 0, none⟩) x8_2.length co14) y263 := (by rw [hw, Ny263.out]; exact HP31.1); clear HP31; replace HO_7 := aM (Kd.R_after (v := (.slice (some ⟨go26, 0, none⟩) x8_2.length co14)) (v1 := (.slice (some ⟨go26, 0, none⟩) x8_2.length co14)) (ok := (fun _ => True)) (by exact Kd.R_mono HO_7.out (fun _ hk => ⟨trivial, hk⟩)) hg (.inl rfl)); replace BK252 := aM (blk_grown (g := gb252) (o := .cells #[.slice A0_0 l0_0.length c0_0, .slice A0_1 l0_1.length c0_1] 60 (0, 0)) BK252.out hg (Kd.R_ne HO_8.out BK252.out (by decide))); replace BK253 := aM (blk_grown (g := gb253) (o := .cells #[.slice A1_0 l1_0.length c1_0, .slice A1_1 l1_1.length c1_1] 60 (0, 0)) BK253.out hg (Kd.R_ne HO_8.out BK253.out (by decide))); replace HO_8 := aM hp_; replace HB := aM ((by rw [hw]; exact bS (HB.out) GB26.out : Below w.heap.size w w32)); clear hg hw hp_))
               (try simp only [← hl8_2])
               go_roundg k2
               case measure => have := HK1.out; have := HK2.out; omega
               case rel => exact ⟨(y263), (wrap64 (x10_2 + 1)), (by rfl), H', ⟨by have := HK1.out; have := HK2.out; omega⟩, ⟨by (try simp only [hl8_2]); exact Kd.R_mono HO_7.out (fun _ hk => hk.2)⟩, ⟨by (try simp only [hl8_2]); exact HO_8.out⟩, ⟨by exact BK252.out⟩, ⟨by exact BK253.out⟩, ⟨HB.out⟩⟩
              ·replace c24 := Bool.eq_false_iff.mpr c24
               subst c24
               replace H : (impl_solved.l1 k2 t254 (x8_2.set (x18_1 : Int).toNat false) x18_1 (wrap64 (x10_2 + 1)) (y257.length : Int) x18_1 l1_0 l1_1) = some r := by rw [if_neg (show ¬ (false = true) by decide)] at H; exact H
               obtain ⟨y264, hy264⟩ : ∃ y_ : List Bool, y_ = (x8_2.set (x18_1 : Int).toNat false) := ⟨_, rfl⟩
               replace H : (impl_solved.l1 k2 t254 y264 x18_1 (wrap64 (x10_2 + 1)) (y257.length : Int) x18_1 l1_0 l1_1) = some r := by first | (rw [hy264]; with_reducible exact H)
               have Ny264 := aM hy264
               clear hy264
               have H' := aM H
               clear H
               have p260 : 0 ≤ (x18_1 : Int) := of_decide_eq_true (by (with_reducible assumption))
               have q260 : x18_1 < (x8_2.length : Int) := of_decide_eq_true (by (with_reducible assumption))
               obtain ⟨ad260, e260, hx260_0⟩ := Kd.at_bool (Kd.R_reads' HO_8.out).2.2 x18_1 p260 q260
               (try rw [← Nbq19.out] at hx260_0)
               cases e260
               replace p260 := eq_true p260
               replace q260 := eq_true q260
               obtain ⟨Ao34, co34, eo34⟩ := Kd.R_slice HO_7.out
               subst eo34
               have p261 : 0 ≤ (x10_2 : Int) := of_decide_eq_true (by (with_reducible assumption))
               have q261 : x10_2 < (t254.length : Int) := of_decide_eq_true (by (with_reducible assumption))
               obtain ⟨ad261, e261, hx261_0⟩ := Kd.at_bool (Kd.R_reads' HO_7.out).2.2 x10_2 p261 q261
               (try rw [← Nbq23.out] at hx261_0)
               cases e261
               replace p261 := eq_true p261
               replace q261 := eq_true q261
               have p33 : 0 ≤ (x18_1 : Int) := of_decide_eq_true (by (with_reducible assumption))
               have q33 : (x18_1 : Int) < ((x8_2.length : Int) : Int) := of_decide_eq_true (by (with_reducible assumption))
               obtain ⟨go33, co33, eo33, gb33, gl33, cl33, HG33⟩ := Kd.R_form HO_8.out (by omega)
               (cases eo33)
               have GB33 := aM gb33
               have GG33 := aM HG33
               clear gb33 gl33 HG33
               (simp only [add_plain] at hx260_0)
               obtain ⟨hx33_0, hf33_0⟩ := Kd.R_celln false HO_8.out (x18_1 : Int) p33 q33
               replace p33 := eq_true p33
               replace q33 := eq_true q33
               have HP35 := Kd.R_putg HO_8.out (x18_1 : Int) false
               go_wp2_with (first | ((with_reducible refine gate_store (t := 4) (p := 46) rfl ?_); refine store_event (t := 4) (p := 46) (v := ?vo_w36) (w1 := (wr.setCell ⟨go33, (x18_1 : Int).toNat, none⟩ (.bool false))) ?hg ?ho ?hn ?hr ?_; (case ho => rfl); (case hg => rfl); (case hn => rfl); (case hr => first | (go_simp; done)); intro w36 hw; have hg : wr.grownBy w36 (some go33) := (by rw [hw]; exact HP35.2); have hp_ : Kd.R Kd.bool 4 w36 w.heap.size (fun k_ => some k_ ≠ (.slice (some ad261) t254.length co34 : Value).ownBlock) (.slice (some ⟨go33, 0, none⟩) x8_2.length co14) y264 := (by rw [hw, Ny264.out]; exact HP35.1); clear HP35; replace HO_7 := aM (Kd.R_after (v := (.slice (some ⟨go33, 0, none⟩) x8_2.length co14)) (v1 := (.slice (some ⟨go33, 0, none⟩) x8_2.length co14)) (ok := (fun _ => True)) (by exact Kd.R_mono HO_7.out (fun _ hk => ⟨trivial, hk⟩)) hg (.inl rfl)); replace BK252 := aM (blk_grown (g := gb252) (o := .cells #[.slice A0_0 l0_0.length c0_0, .slice A0_1 l0_1.length c0_1] 60 (0, 0)) BK252.out hg (Kd.R_ne HO_8.out BK252.out (by decide))); replace BK253 := aM (blk_grown (g := gb253) (o := .cells #[.slice A1_0 l1_0.length c1_0, .slice A1_1 l1_1.length c1_1] 60 (0, 0)) BK253.out hg (Kd.R_ne HO_8.out BK253.out (by decide))); replace HO_8 := aM hp_; replace HB := aM ((by rw [hw]; exact bS (HB.out) GB33.out : Below w.heap.size w w36)); clear hg hw hp_))
               (try simp only [← hl8_2])
               go_roundg k2
               case measure => have := HK1.out; have := HK2.out; omega
               case rel => exact ⟨(y264), (wrap64 (x10_2 + 1)), (by rfl), H', ⟨by have := HK1.out; have := HK2.out; omega⟩, ⟨by (try simp only [hl8_2]); exact Kd.R_mono HO_7.out (fun _ hk => hk.2)⟩, ⟨by (try simp only [hl8_2]); exact HO_8.out⟩, ⟨by exact BK252.out⟩, ⟨by exact BK253.out⟩, ⟨HB.out⟩⟩
             ·rw [if_neg c22] at H
              exact absurd H (by simp)
            ·rw [if_neg c21] at H
             exact absurd H (by simp)
          ·rw [if_neg c18] at H
           exact absurd H (by simp)
         ·rw [if_neg c17] at H
          exact absurd H (by simp)
        ·rw [if_neg c16] at H
         have c16b0 : decide (x10_2 ≤ x18_1) = false := decide_eq_false c16
         clear c16
         have H' := aM H
         clear H
         go_wp2
         (try simp only [← hl8_1, ← hl8_2])
         go_roundg k2
         case measure => have := HK1.out; have := HK2.out; omega
         case rel => exact ⟨(x8_2), (wrap64 (x18_1 + 1)), (by rfl), H', ⟨by have := HK1.out; have := HK2.out; omega⟩, ⟨by (try simp only [hl8_1]); (try simp only [hl8_2]); exact HO_7.out⟩, ⟨by (try simp only [hl8_1]); (try simp only [hl8_2]); exact HO_8.out⟩, ⟨by exact BK252.out⟩, ⟨by exact BK253.out⟩, ⟨HB.out⟩⟩
     ·rw [if_neg c15] at H
      have c15b0 : decide (x18_1 < (y257.length : Int)) = false := decide_eq_false c15
      have c15b0z := c15b0
      (try simp only [hl8_1] at c15b0z)
      clear c15
      obtain rfl := Option.some.inj H
      go_wp2
      go_ret
      exact ⟨_, by first | rfl | (simp [*, errW_none, errW_some] <;> rfl), by exact Kd.R_mono HO_8.out (fun _ hk => trivial), HB.out⟩
  ·rw [if_neg c6] at H
   exact absurd H (by simp)
 ·rw [if_neg c5] at H
  exact absurd H (by simp)


def impl_all.l0 : Nat → List Bool → Int → Int → Option (Bool)
 | 0, _, _, _ => none
 | k + 1, x5, x6, x7 => if x7 < x6 then (if 0 ≤ x7 then (if x7 < (x5.length : Int) then (if rdOf false x5 x7 = true then (impl_all.l0 k x5 x6 (wrap64 (x7 + 1))) else (some false)) else (none)) else (none)) else (some true)
def impl_all.f (k : Nat) (l0 : List Bool) : Option (Bool) := impl_all.l0 k l0 (l0.length : Int) 0
theorem impl_all.mono_l : ∀ k, (∀ y0 y1 y2, LeO (impl_all.l0 k y0 y1 y2) (impl_all.l0 (k + 1) y0 y1 y2))
 | 0 => fun _ _ _ r h => by simp [impl_all.l0] at h
 | k + 1 => by
  have ih0 := impl_all.mono_l k
  ·intro y0 y1 y2
   unfold impl_all.l0
   repeat' first | (with_reducible exact ih0 _ _ _) | (with_reducible exact LeO.refl _) | (with_reducible refine LeO.ite ?_ ?_)
theorem impl_all.mono : ∀ a0 k, LeO (impl_all.f k a0) (impl_all.f (k + 1) a0) := by
 intro a0 k
 have ih0 := impl_all.mono_l k
 unfold impl_all.f
 repeat' (with_reducible exact ih0 _ _ _)
set_option maxHeartbeats 8000000 in
set_option maxRecDepth 100000 in
theorem impl_all.calls (k : Nat) (A0 : Option Addr) (c0 : Nat) (l0 : List Bool) (r : Bool) (w : World) (hr0 : Kd.C Kd.bool w A0 l0.length l0) (hc0 : l0.length ≤ c0) (h : impl_all.f k l0 = some r) :
  Calls Try.prog 69 #[.slice A0 l0.length c0] w fun e w' => e = .returned (.bool r) ∧ Drawn0 w w' := by
 have HR0 := aM hr0
 have HC0 := aM hc0
 clear hr0 hc0
 have H : (impl_all.l0 k l0 (l0.length : Int) 0) = some r := h
 clear h
 have H' := aM H
 clear H
 go_enter Try.func69, Try.ntmps69
 go_wp2
 go_loopg [7] k (fun kq v7 w' => ∃ (x7_1 : Int), v7 = .int .i64 x7_1 ∧ Aside0 (impl_all.l0 kq l0 (l0.length : Int) x7_1 = some r) ∧ Aside0 (kq ≤ k) ∧ Drawn0 w w')
 case atStart => exact ⟨(0), (by rfl), H', ⟨Nat.le_refl _⟩, by repeat (exact Drawn0.refl _)⟩
 case round =>
  clear H'
  obtain ⟨x7_1, rfl, HA, HK1, ⟨m1, rfl⟩⟩ := hrel
  cases gk with
  | zero => exact absurd HA.out (by simp [impl_all.l0])
  | succ k1 =>
   have H := HA.out
   clear HA
   simp only [impl_all.l0] at H
   by_cases c2 : x7_1 < (l0.length : Int)
   ·rw [if_pos c2] at H
    have c2b0 : decide (x7_1 < (l0.length : Int)) = true := decide_eq_true c2
    clear c2
    by_cases c3 : 0 ≤ x7_1
    ·rw [if_pos c3] at H
     have c3b0 : decide (0 ≤ x7_1) = true := decide_eq_true c3
     clear c3
     by_cases c4 : x7_1 < (l0.length : Int)
     ·rw [if_pos c4] at H
      have c4b0 : decide (x7_1 < (l0.length : Int)) = true := decide_eq_true c4
      clear c4
      obtain ⟨bq5, hbq5⟩ : ∃ b_ : Bool, b_ = (rdOf false l0 x7_1) := ⟨_, rfl⟩
      replace H : (if bq5 = true then (impl_all.l0 k1 l0 (l0.length : Int) (wrap64 (x7_1 + 1))) else (some false)) = some r := by rw [← hbq5] at H; exact H
      have Nbq5 := aM hbq5
      clear hbq5
      by_cases c6 : bq5 = true
      ·subst c6
       replace H : (impl_all.l0 k1 l0 (l0.length : Int) (wrap64 (x7_1 + 1))) = some r := by rw [if_pos rfl] at H; exact H
       have H' := aM H
       clear H
       have p746 : 0 ≤ (x7_1 : Int) := of_decide_eq_true (by (with_reducible assumption))
       have q746 : x7_1 < (l0.length : Int) := of_decide_eq_true (by (with_reducible assumption))
       obtain ⟨ad746, e746, hx746_0⟩ := Kd.at_bool HR0.out x7_1 p746 q746
       (try rw [← Nbq5.out] at hx746_0)
       cases e746
       replace p746 := eq_true p746
       replace q746 := eq_true q746
       go_wp2
       go_roundg k1
       case measure => have := HK1.out; omega
       case rel => exact ⟨(wrap64 (x7_1 + 1)), (by rfl), H', ⟨by have := HK1.out; omega⟩, by repeat (first | exact Drawn0.refl _ | apply Drawn0.step)⟩
      ·replace c6 := Bool.eq_false_iff.mpr c6
       subst c6
       replace H : (some false) = some r := by rw [if_neg (show ¬ (false = true) by decide)] at H; exact H
       obtain rfl := Option.some.inj H
       have p746 : 0 ≤ (x7_1 : Int) := of_decide_eq_true (by (with_reducible assumption))
       have q746 : x7_1 < (l0.length : Int) := of_decide_eq_true (by (with_reducible assumption))
       obtain ⟨ad746, e746, hx746_0⟩ := Kd.at_bool HR0.out x7_1 p746 q746
       (try rw [← Nbq5.out] at hx746_0)
       cases e746
       replace p746 := eq_true p746
       replace q746 := eq_true q746
       go_wp2
       go_ret
       exact ⟨by first | rfl | (simp [*]; done), by repeat (first | exact Drawn0.refl _ | apply Drawn0.step)⟩
     ·rw [if_neg c4] at H
      exact absurd H (by simp)
    ·rw [if_neg c3] at H
     exact absurd H (by simp)
   ·rw [if_neg c2] at H
    have c2b0 : decide (x7_1 < (l0.length : Int)) = false := decide_eq_false c2
    clear c2
    obtain rfl := Option.some.inj H
    go_wp2
    go_ret
    exact ⟨by first | rfl | (simp [*]; done), by repeat (first | exact Drawn0.refl _ | apply Drawn0.step)⟩


def impl_SolveOne.f (k : Nat) (a0 : ByteArray) (a1 : ByteArray) : Option (Bool) := (impl_two.f k a0 a1).bind fun bt747 => (if bt747.2.2.2.2 = true then ((impl_set_has.f bt747.1 bt747.2.1 0).bind fun t762 => (if t762 = true then ((impl_solved.f k bt747.1 bt747.2.1 bt747.2.2.1 bt747.2.2.2.1 1000).bind fun t763 => ((impl_all.f k t763).bind fun t766 => (some t766))) else (some true))) else (some false))
theorem impl_SolveOne.mono : ∀ a0 a1 k, LeO (impl_SolveOne.f k a0 a1) (impl_SolveOne.f (k + 1) a0 a1) := by
 intro a0 a1 k
 unfold impl_SolveOne.f
 repeat' first | (with_reducible exact impl_all.mono _ _) | (with_reducible exact impl_solved.mono _ _ _ _ _ _) | (with_reducible exact impl_two.mono _ _ _) | (with_reducible exact LeO.refl _) | (with_reducible refine LeO.ite ?_ ?_) | (with_reducible refine LeO.bind ?_ (fun _ => ?_))
set_option maxHeartbeats 8000000 in
set_option maxRecDepth 100000 in
theorem impl_SolveOne.calls (k : Nat) (a0 : ByteArray) (a1 : ByteArray) (r : Bool) (w : World) (h : impl_SolveOne.f k a0 a1 = some r) :
  Calls Try.prog 25 #[.string a0, .string a1] w fun e w' => e = .returned (.bool r) ∧ Below w.heap.size w w' := by
 have hu60 := Try.underlying60
 have HB := aM (Below.refl w.heap.size w)
 have H : ((impl_two.f k a0 a1).bind fun bt747 => (if bt747.2.2.2.2 = true then ((impl_set_has.f bt747.1 bt747.2.1 0).bind fun t762 => (if t762 = true then ((impl_solved.f k bt747.1 bt747.2.1 bt747.2.2.1 bt747.2.2.2.1 1000).bind fun t763 => ((impl_all.f k t763).bind fun t766 => (some t766))) else (some true))) else (some false))) = some r := h
 clear h
 replace H := Option.bind_eq_some_iff.mp H
 obtain ⟨⟨t747, t750, t753, t756, t759⟩, A30, H⟩ := H
 replace H : (if t759 = true then ((impl_set_has.f t747 t750 0).bind fun t762 => (if t762 = true then ((impl_solved.f k t747 t750 t753 t756 1000).bind fun t763 => ((impl_all.f k t763).bind fun t766 => (some t766))) else (some true))) else (some false)) = some r := H
 have A3 := aM A30
 clear A30
 by_cases c4 : t759 = true
 ·subst c4
  replace H : ((impl_set_has.f t747 t750 0).bind fun t762 => (if t762 = true then ((impl_solved.f k t747 t750 t753 t756 1000).bind fun t763 => ((impl_all.f k t763).bind fun t766 => (some t766))) else (some true))) = some r := by rw [if_pos rfl] at H; exact H
  replace H := Option.bind_eq_some_iff.mp H
  obtain ⟨t762, A50, H⟩ := H
  replace H : (if t762 = true then ((impl_solved.f k t747 t750 t753 t756 1000).bind fun t763 => ((impl_all.f k t763).bind fun t766 => (some t766))) else (some true)) = some r := H
  have A5 := aM A50
  clear A50
  by_cases c6 : t762 = true
  ·subst c6
   replace H : ((impl_solved.f k t747 t750 t753 t756 1000).bind fun t763 => ((impl_all.f k t763).bind fun t766 => (some t766))) = some r := by rw [if_pos rfl] at H; exact H
   replace H := Option.bind_eq_some_iff.mp H
   obtain ⟨t763, A70, H⟩ := H
   replace H : ((impl_all.f k t763).bind fun t766 => (some t766)) = some r := H
   have A7 := aM A70
   clear A70
   replace H := Option.bind_eq_some_iff.mp H
   obtain ⟨t766, A80, H⟩ := H
   replace H : (some t766) = some r := H
   have A8 := aM A80
   clear A80
   obtain rfl := Option.some.inj H
   go_enter Try.func25, Try.ntmps25
   go_wp2_with (first | ((with_reducible refine gate_callee (f := 54) rfl ?_); refine goesL_ (some 11) rfl rfl Try.func54 (by kernel_rfl) rfl #[.string a0, .string a1] rfl (by (try simp only [List.map_toArray, List.map_cons, List.map_nil]); rfl) ?_; (with_reducible refine (impl_two.calls k a0 a1 t747 t750 t753 t756 true _ A3.out).mono ?_); rintro e w9 ⟨v748, v751, v754, v757, rfl, ho0, ho1, ho2, ho3, hb⟩; refine ⟨_, rfl, ?_⟩; have HO749 := aM (Kd.R_lower ho0 (below_size HB.out)); have HO752 := aM (Kd.R_lower ho1 (below_size HB.out)); have HO755 := aM (Kd.R_lower ho2 (below_size HB.out)); have HO758 := aM (Kd.R_lower ho3 (below_size HB.out)); replace HB := aM (below_step HB.out hb); (try clear hb); (try clear ho0); (try clear ho1); (try clear ho2); (try clear ho3)) | ((with_reducible refine gate_dst (N := 5) rfl ?_); refine box_event ?hg (N := 5) ?hd (cs := #[.slice none 0 0, .slice none 0 0]) (t := 60) ?hr ?_; (case hd => rfl); (case hg => rfl); (case hr => first | (go_simp; done)); intro gb760 hg w10 hbox hb; replace HO749 := aM (Kd.R_below HO749.out hb); replace HO752 := aM (Kd.R_below HO752.out hb); replace HO755 := aM (Kd.R_below HO755.out hb); replace HO758 := aM (Kd.R_below HO758.out hb); have BK760 := aM hbox; have GW760 := aM ((by rw [hg]; exact (below_size HB.out) : w.heap.size ≤ gb760)); have GE760 := aM ((by rw [hg]; exact (below_size HB.out) : w.heap.size ≤ gb760)); replace HB := aM (below_step HB.out hb); clear hb hbox hg) | ((with_reducible refine gate_dst (N := 6) rfl ?_); refine box_event ?hg (N := 6) ?hd (cs := #[.slice none 0 0, .slice none 0 0]) (t := 60) ?hr ?_; (case hd => rfl); (case hg => rfl); (case hr => first | (go_simp; done)); intro gb761 hg w11 hbox hb; replace HO749 := aM (Kd.R_below HO749.out hb); replace HO752 := aM (Kd.R_below HO752.out hb); replace HO755 := aM (Kd.R_below HO755.out hb); replace HO758 := aM (Kd.R_below HO758.out hb); have BK761 := aM hbox; have GW761 := aM ((by rw [hg]; exact (below_size HB.out) : w.heap.size ≤ gb761)); have GE761 := aM ((by rw [hg]; exact (below_size HB.out) : w.heap.size ≤ gb761)); replace HB := aM (below_step HB.out hb); have NB760_761 := aM ((by rw [hg]; exact Nat.ne_of_lt (blk_lt (g := gb760) (o := .cells #[.slice none 0 0, .slice none 0 0] 60 (0, 0)) BK760.out) : gb760 ≠ gb761)); have NB761_760 := aM ((by rw [hg]; exact Nat.ne_of_gt (blk_lt (g := gb760) (o := .cells #[.slice none 0 0, .slice none 0 0] 60 (0, 0)) BK760.out) : gb761 ≠ gb760)); replace BK760 := aM (blk_below (g := gb760) (o := .cells #[.slice none 0 0, .slice none 0 0] 60 (0, 0)) BK760.out hb); clear hb hbox hg; obtain ⟨Ao12, co12, eo12⟩ := Kd.R_slice HO749.out; subst eo12; have hnb13 := NB760_761.out; have hnc13 := NB761_760.out; have hcz14_0 : w11.cell? ⟨gb760, 0, none⟩ = some (.slice none 0 0) := (blk_cell BK760.out 0).trans rfl; have hcz14_1 : w11.cell? ⟨gb760, 1, none⟩ = some (.slice none 0 0) := (blk_cell BK760.out 1).trans rfl; have hfz14_0 := blk_frozen BK760.out 0; have hfz14_1 := blk_frozen BK760.out 1; obtain ⟨Ao15, co15, eo15⟩ := Kd.R_slice HO752.out; subst eo15; obtain ⟨Ao16, co16, eo16⟩ := Kd.R_slice HO755.out; subst eo16; have hcz17_0 : w11.cell? ⟨gb761, 0, none⟩ = some (.slice none 0 0) := (blk_cell BK761.out 0).trans rfl; have hcz17_1 : w11.cell? ⟨gb761, 1, none⟩ = some (.slice none 0 0) := (blk_cell BK761.out 1).trans rfl; have hfz17_0 := blk_frozen BK761.out 0; have hfz17_1 := blk_frozen BK761.out 1; obtain ⟨Ao18, co18, eo18⟩ := Kd.R_slice HO758.out; subst eo18) | (go_at_call 61; (with_reducible refine (impl_set_has.calls _ _ t747 _ _ t750 0 true _ ?side1 ?side2 ?side3 ?side4 A5.out).mono ?_); (case side1 => refine (Kd.R_reads' (e := 4) (base := w.heap.size) (ok := fun k_ => (some k_ ≠ (.slice Ao15 t750.length co15 : Value).ownBlock ∧ (some k_ ≠ (.slice Ao16 t753.length co16 : Value).ownBlock ∧ some k_ ≠ (.slice Ao18 t756.length co18 : Value).ownBlock))) (n := t747.length) (c := co12) ?_).2.2; exact (by exact (Kd.R_mono (Kd.R_mono (Kd.R_far (p := ⟨gb761, 1, none⟩) (Kd.R_far (p := ⟨gb761, 0, none⟩) (Kd.R_far (p := ⟨gb760, 1, none⟩) (Kd.R_far (p := ⟨gb760, 0, none⟩) (Kd.R_types (Kd.R_types HO749.out BK760.out (by decide)) BK761.out (by decide)) (fun _ hk => hk.1.2) (.slice Ao12 t747.length co12)) (fun _ hk => hk.1.2) (.slice Ao15 t750.length co15)) (fun _ hk => hk.2) (.slice Ao16 t753.length co16)) (fun _ hk => hk.2) (.slice Ao18 t756.length co18)) (fun _ h_ => h_.1)) (fun _ h_ => h_.1)))); (case side2 => exact (Kd.R_reads' HO749.out).2.1); (case side3 => refine (Kd.R_reads' (e := 4) (base := w.heap.size) (ok := fun k_ => (some k_ ≠ (.slice Ao12 t747.length co12 : Value).ownBlock ∧ (some k_ ≠ (.slice Ao16 t753.length co16 : Value).ownBlock ∧ some k_ ≠ (.slice Ao18 t756.length co18 : Value).ownBlock))) (n := t750.length) (c := co15) ?_).2.2; exact (by exact (Kd.R_mono (Kd.R_mono (Kd.R_far (p := ⟨gb761, 1, none⟩) (Kd.R_far (p := ⟨gb761, 0, none⟩) (Kd.R_far (p := ⟨gb760, 1, none⟩) (Kd.R_far (p := ⟨gb760, 0, none⟩) (Kd.R_types (Kd.R_types HO752.out BK760.out (by decide)) BK761.out (by decide)) (fun _ hk => hk.1.2) (.slice Ao12 t747.length co12)) (fun _ hk => hk.1.2) (.slice Ao15 t750.length co15)) (fun _ hk => hk.2) (.slice Ao16 t753.length co16)) (fun _ hk => hk.2) (.slice Ao18 t756.length co18)) (fun _ h_ => h_.1)) (fun _ h_ => h_.1)))); (case side4 => exact (Kd.R_reads' HO752.out).2.1); rintro e w19 ⟨rfl, hb⟩; replace HO749 := aM (Kd.R_below (by exact (Kd.R_mono (Kd.R_mono (Kd.R_far (p := ⟨gb761, 1, none⟩) (Kd.R_far (p := ⟨gb761, 0, none⟩) (Kd.R_far (p := ⟨gb760, 1, none⟩) (Kd.R_far (p := ⟨gb760, 0, none⟩) (Kd.R_types (Kd.R_types HO749.out BK760.out (by decide)) BK761.out (by decide)) (fun _ hk => hk.1.2) (.slice Ao12 t747.length co12)) (fun _ hk => hk.1.2) (.slice Ao15 t750.length co15)) (fun _ hk => hk.2) (.slice Ao16 t753.length co16)) (fun _ hk => hk.2) (.slice Ao18 t756.length co18)) (fun _ h_ => h_.1)) (fun _ h_ => h_.1))) hb); replace HO752 := aM (Kd.R_below (by exact (Kd.R_mono (Kd.R_mono (Kd.R_far (p := ⟨gb761, 1, none⟩) (Kd.R_far (p := ⟨gb761, 0, none⟩) (Kd.R_far (p := ⟨gb760, 1, none⟩) (Kd.R_far (p := ⟨gb760, 0, none⟩) (Kd.R_types (Kd.R_types HO752.out BK760.out (by decide)) BK761.out (by decide)) (fun _ hk => hk.1.2) (.slice Ao12 t747.length co12)) (fun _ hk => hk.1.2) (.slice Ao15 t750.length co15)) (fun _ hk => hk.2) (.slice Ao16 t753.length co16)) (fun _ hk => hk.2) (.slice Ao18 t756.length co18)) (fun _ h_ => h_.1)) (fun _ h_ => h_.1))) hb); replace HO755 := aM (Kd.R_below (by exact (Kd.R_mono (Kd.R_mono (Kd.R_far (p := ⟨gb761, 1, none⟩) (Kd.R_far (p := ⟨gb761, 0, none⟩) (Kd.R_far (p := ⟨gb760, 1, none⟩) (Kd.R_far (p := ⟨gb760, 0, none⟩) (Kd.R_types (Kd.R_types HO755.out BK760.out (by decide)) BK761.out (by decide)) (fun _ hk => hk.1.2) (.slice Ao12 t747.length co12)) (fun _ hk => hk.1.2) (.slice Ao15 t750.length co15)) (fun _ hk => hk.2) (.slice Ao16 t753.length co16)) (fun _ hk => hk.2) (.slice Ao18 t756.length co18)) (fun _ h_ => h_.1)) (fun _ h_ => h_.1))) hb); replace HO758 := aM (Kd.R_below (by exact (Kd.R_mono (Kd.R_mono (Kd.R_far (p := ⟨gb761, 1, none⟩) (Kd.R_far (p := ⟨gb761, 0, none⟩) (Kd.R_far (p := ⟨gb760, 1, none⟩) (Kd.R_far (p := ⟨gb760, 0, none⟩) (Kd.R_types (Kd.R_types HO758.out BK760.out (by decide)) BK761.out (by decide)) (fun _ hk => hk.1.2) (.slice Ao12 t747.length co12)) (fun _ hk => hk.1.2) (.slice Ao15 t750.length co15)) (fun _ hk => hk.2) (.slice Ao16 t753.length co16)) (fun _ hk => hk.2) (.slice Ao18 t756.length co18)) (fun _ h_ => h_.1)) (fun _ h_ => h_.1))) hb); replace BK760 := aM (blk_below (g := gb760) (o := .cells #[.slice Ao12 t747.length co12, .slice Ao15 t750.length co15] 60 (0, 0)) (by refine blk_far ?_ NB760_761.out _; refine blk_far ?_ NB760_761.out _; refine blk_put (cs := #[.slice Ao12 t747.length co12, .slice none 0 0]) ?_ 1 _ rfl; refine blk_put (cs := #[.slice none 0 0, .slice none 0 0]) ?_ 0 _ rfl; exact BK760.out) hb); replace BK761 := aM (blk_below (g := gb761) (o := .cells #[.slice Ao16 t753.length co16, .slice Ao18 t756.length co18] 60 (0, 0)) (by refine blk_put (cs := #[.slice Ao16 t753.length co16, .slice none 0 0]) ?_ 1 _ rfl; refine blk_put (cs := #[.slice none 0 0, .slice none 0 0]) ?_ 0 _ rfl; refine blk_far ?_ NB761_760.out _; refine blk_far ?_ NB761_760.out _; exact BK761.out) hb); replace HB := aM (below_step (by repeat (first | (with_reducible first | exact HB.out | refine bS ?_ GE760.out | refine bS ?_ GE761.out))) hb); (try clear hb); have hcz20_0 : w19.cell? ⟨gb760, 0, none⟩ = some (.slice Ao12 t747.length co12) := (blk_cell BK760.out 0).trans rfl; have hcz20_1 : w19.cell? ⟨gb760, 1, none⟩ = some (.slice Ao15 t750.length co15) := (blk_cell BK760.out 1).trans rfl; have hfz20_0 := blk_frozen BK760.out 0; have hfz20_1 := blk_frozen BK760.out 1; have hcz21_0 : w19.cell? ⟨gb761, 0, none⟩ = some (.slice Ao16 t753.length co16) := (blk_cell BK761.out 0).trans rfl; have hcz21_1 : w19.cell? ⟨gb761, 1, none⟩ = some (.slice Ao18 t756.length co18) := (blk_cell BK761.out 1).trans rfl; have hfz21_0 := blk_frozen BK761.out 0; have hfz21_1 := blk_frozen BK761.out 1) | (go_at_call 56; (with_reducible refine (impl_solved.calls k _ _ t747 _ _ t750 _ _ t753 _ _ t756 1000 t763 _ ?side1 ?side2 ?side3 ?side4 ?side5 ?side6 ?side7 ?side8 A7.out).mono ?_); (case side1 => repeat (exact (Kd.R_reads' HO749.out).2.2)); (case side2 => exact (Kd.R_reads' HO749.out).2.1); (case side3 => repeat (exact (Kd.R_reads' HO752.out).2.2)); (case side4 => exact (Kd.R_reads' HO752.out).2.1); (case side5 => repeat (exact (Kd.R_reads' HO755.out).2.2)); (case side6 => exact (Kd.R_reads' HO755.out).2.1); (case side7 => repeat (exact (Kd.R_reads' HO758.out).2.2)); (case side8 => exact (Kd.R_reads' HO758.out).2.1); rintro e w22 ⟨v764, rfl, ho0, hb⟩; have HO765 := aM (Kd.R_lower (Kd.R_new' (Kd.R_new' (Kd.R_new' (Kd.R_new' ho0 (Kd.R_lt HO749.out)) (Kd.R_lt HO752.out)) (Kd.R_lt HO755.out)) (Kd.R_lt HO758.out)) (below_size HB.out)); replace HO749 := aM (Kd.R_elder' HO749.out (Kd.R_base ho0) hb); replace HO752 := aM (Kd.R_elder' HO752.out (Kd.R_base ho0) hb); replace HO755 := aM (Kd.R_elder' HO755.out (Kd.R_base ho0) hb); replace HO758 := aM (Kd.R_elder' HO758.out (Kd.R_base ho0) hb); replace BK760 := aM (blk_below (g := gb760) (o := .cells #[.slice Ao12 t747.length co12, .slice Ao15 t750.length co15] 60 (0, 0)) BK760.out hb); replace BK761 := aM (blk_below (g := gb761) (o := .cells #[.slice Ao16 t753.length co16, .slice Ao18 t756.length co18] 60 (0, 0)) BK761.out hb); replace HB := aM (below_step HB.out hb); (try clear hb); (try clear ho0); obtain ⟨Ao23, co23, eo23⟩ := Kd.R_slice HO765.out; subst eo23) | (go_at_call 69; (with_reducible refine (impl_all.calls k _ _ t763 t766 _ ?side1 ?side2 A8.out).mono ?_); (case side1 => repeat (exact (Kd.R_reads' HO765.out).2.2)); (case side2 => exact (Kd.R_reads' HO765.out).2.1); rintro e w' ⟨rfl, ⟨nd, rfl⟩⟩))
   go_ret
   exact ⟨by first | rfl | (simp [*, errW_none, errW_some] <;> rfl), by repeat (first | (with_reducible first | exact HB.out | apply bN))⟩
  ·replace c6 := Bool.eq_false_iff.mpr c6
   subst c6
   replace H : (some true) = some r := by rw [if_neg (show ¬ (false = true) by decide)] at H; exact H
   obtain rfl := Option.some.inj H
   go_enter Try.func25, Try.ntmps25
   go_wp2_with (first | ((with_reducible refine gate_callee (f := 54) rfl ?_); refine goesL_ (some 11) rfl rfl Try.func54 (by kernel_rfl) rfl #[.string a0, .string a1] rfl (by (try simp only [List.map_toArray, List.map_cons, List.map_nil]); rfl) ?_; (with_reducible refine (impl_two.calls k a0 a1 t747 t750 t753 t756 true _ A3.out).mono ?_); rintro e w24 ⟨v748, v751, v754, v757, rfl, ho0, ho1, ho2, ho3, hb⟩; refine ⟨_, rfl, ?_⟩; have HO749 := aM (Kd.R_lower ho0 (below_size HB.out)); have HO752 := aM (Kd.R_lower ho1 (below_size HB.out)); have HO755 := aM (Kd.R_lower ho2 (below_size HB.out)); have HO758 := aM (Kd.R_lower ho3 (below_size HB.out)); replace HB := aM (below_step HB.out hb); (try clear hb); (try clear ho0); (try clear ho1); (try clear ho2); (try clear ho3)) | ((with_reducible refine gate_dst (N := 5) rfl ?_); refine box_event ?hg (N := 5) ?hd (cs := #[.slice none 0 0, .slice none 0 0]) (t := 60) ?hr ?_; (case hd => rfl); (case hg => rfl); (case hr => first | (go_simp; done)); intro gb760 hg w25 hbox hb; replace HO749 := aM (Kd.R_below HO749.out hb); replace HO752 := aM (Kd.R_below HO752.out hb); replace HO755 := aM (Kd.R_below HO755.out hb); replace HO758 := aM (Kd.R_below HO758.out hb); have BK760 := aM hbox; have GW760 := aM ((by rw [hg]; exact (below_size HB.out) : w.heap.size ≤ gb760)); have GE760 := aM ((by rw [hg]; exact (below_size HB.out) : w.heap.size ≤ gb760)); replace HB := aM (below_step HB.out hb); clear hb hbox hg) | ((with_reducible refine gate_dst (N := 6) rfl ?_); refine box_event ?hg (N := 6) ?hd (cs := #[.slice none 0 0, .slice none 0 0]) (t := 60) ?hr ?_; (case hd => rfl); (case hg => rfl); (case hr => first | (go_simp; done)); intro gb761 hg w26 hbox hb; replace HO749 := aM (Kd.R_below HO749.out hb); replace HO752 := aM (Kd.R_below HO752.out hb); replace HO755 := aM (Kd.R_below HO755.out hb); replace HO758 := aM (Kd.R_below HO758.out hb); have BK761 := aM hbox; have GW761 := aM ((by rw [hg]; exact (below_size HB.out) : w.heap.size ≤ gb761)); have GE761 := aM ((by rw [hg]; exact (below_size HB.out) : w.heap.size ≤ gb761)); replace HB := aM (below_step HB.out hb); have NB760_761 := aM ((by rw [hg]; exact Nat.ne_of_lt (blk_lt (g := gb760) (o := .cells #[.slice none 0 0, .slice none 0 0] 60 (0, 0)) BK760.out) : gb760 ≠ gb761)); have NB761_760 := aM ((by rw [hg]; exact Nat.ne_of_gt (blk_lt (g := gb760) (o := .cells #[.slice none 0 0, .slice none 0 0] 60 (0, 0)) BK760.out) : gb761 ≠ gb760)); replace BK760 := aM (blk_below (g := gb760) (o := .cells #[.slice none 0 0, .slice none 0 0] 60 (0, 0)) BK760.out hb); clear hb hbox hg; obtain ⟨Ao27, co27, eo27⟩ := Kd.R_slice HO749.out; subst eo27; have hnb28 := NB760_761.out; have hnc28 := NB761_760.out; have hcz29_0 : w26.cell? ⟨gb760, 0, none⟩ = some (.slice none 0 0) := (blk_cell BK760.out 0).trans rfl; have hcz29_1 : w26.cell? ⟨gb760, 1, none⟩ = some (.slice none 0 0) := (blk_cell BK760.out 1).trans rfl; have hfz29_0 := blk_frozen BK760.out 0; have hfz29_1 := blk_frozen BK760.out 1; obtain ⟨Ao30, co30, eo30⟩ := Kd.R_slice HO752.out; subst eo30; obtain ⟨Ao31, co31, eo31⟩ := Kd.R_slice HO755.out; subst eo31; have hcz32_0 : w26.cell? ⟨gb761, 0, none⟩ = some (.slice none 0 0) := (blk_cell BK761.out 0).trans rfl; have hcz32_1 : w26.cell? ⟨gb761, 1, none⟩ = some (.slice none 0 0) := (blk_cell BK761.out 1).trans rfl; have hfz32_0 := blk_frozen BK761.out 0; have hfz32_1 := blk_frozen BK761.out 1; obtain ⟨Ao33, co33, eo33⟩ := Kd.R_slice HO758.out; subst eo33) | (go_at_call 61; (with_reducible refine (impl_set_has.calls _ _ t747 _ _ t750 0 false _ ?side1 ?side2 ?side3 ?side4 A5.out).mono ?_); (case side1 => refine (Kd.R_reads' (e := 4) (base := w.heap.size) (ok := fun k_ => (some k_ ≠ (.slice Ao30 t750.length co30 : Value).ownBlock ∧ (some k_ ≠ (.slice Ao31 t753.length co31 : Value).ownBlock ∧ some k_ ≠ (.slice Ao33 t756.length co33 : Value).ownBlock))) (n := t747.length) (c := co27) ?_).2.2; exact (by exact (Kd.R_mono (Kd.R_mono (Kd.R_far (p := ⟨gb761, 1, none⟩) (Kd.R_far (p := ⟨gb761, 0, none⟩) (Kd.R_far (p := ⟨gb760, 1, none⟩) (Kd.R_far (p := ⟨gb760, 0, none⟩) (Kd.R_types (Kd.R_types HO749.out BK760.out (by decide)) BK761.out (by decide)) (fun _ hk => hk.1.2) (.slice Ao27 t747.length co27)) (fun _ hk => hk.1.2) (.slice Ao30 t750.length co30)) (fun _ hk => hk.2) (.slice Ao31 t753.length co31)) (fun _ hk => hk.2) (.slice Ao33 t756.length co33)) (fun _ h_ => h_.1)) (fun _ h_ => h_.1)))); (case side2 => exact (Kd.R_reads' HO749.out).2.1); (case side3 => refine (Kd.R_reads' (e := 4) (base := w.heap.size) (ok := fun k_ => (some k_ ≠ (.slice Ao27 t747.length co27 : Value).ownBlock ∧ (some k_ ≠ (.slice Ao31 t753.length co31 : Value).ownBlock ∧ some k_ ≠ (.slice Ao33 t756.length co33 : Value).ownBlock))) (n := t750.length) (c := co30) ?_).2.2; exact (by exact (Kd.R_mono (Kd.R_mono (Kd.R_far (p := ⟨gb761, 1, none⟩) (Kd.R_far (p := ⟨gb761, 0, none⟩) (Kd.R_far (p := ⟨gb760, 1, none⟩) (Kd.R_far (p := ⟨gb760, 0, none⟩) (Kd.R_types (Kd.R_types HO752.out BK760.out (by decide)) BK761.out (by decide)) (fun _ hk => hk.1.2) (.slice Ao27 t747.length co27)) (fun _ hk => hk.1.2) (.slice Ao30 t750.length co30)) (fun _ hk => hk.2) (.slice Ao31 t753.length co31)) (fun _ hk => hk.2) (.slice Ao33 t756.length co33)) (fun _ h_ => h_.1)) (fun _ h_ => h_.1)))); (case side4 => exact (Kd.R_reads' HO752.out).2.1); rintro e w34 ⟨rfl, hb⟩; replace HO749 := aM (Kd.R_below (by exact (Kd.R_mono (Kd.R_mono (Kd.R_far (p := ⟨gb761, 1, none⟩) (Kd.R_far (p := ⟨gb761, 0, none⟩) (Kd.R_far (p := ⟨gb760, 1, none⟩) (Kd.R_far (p := ⟨gb760, 0, none⟩) (Kd.R_types (Kd.R_types HO749.out BK760.out (by decide)) BK761.out (by decide)) (fun _ hk => hk.1.2) (.slice Ao27 t747.length co27)) (fun _ hk => hk.1.2) (.slice Ao30 t750.length co30)) (fun _ hk => hk.2) (.slice Ao31 t753.length co31)) (fun _ hk => hk.2) (.slice Ao33 t756.length co33)) (fun _ h_ => h_.1)) (fun _ h_ => h_.1))) hb); replace HO752 := aM (Kd.R_below (by exact (Kd.R_mono (Kd.R_mono (Kd.R_far (p := ⟨gb761, 1, none⟩) (Kd.R_far (p := ⟨gb761, 0, none⟩) (Kd.R_far (p := ⟨gb760, 1, none⟩) (Kd.R_far (p := ⟨gb760, 0, none⟩) (Kd.R_types (Kd.R_types HO752.out BK760.out (by decide)) BK761.out (by decide)) (fun _ hk => hk.1.2) (.slice Ao27 t747.length co27)) (fun _ hk => hk.1.2) (.slice Ao30 t750.length co30)) (fun _ hk => hk.2) (.slice Ao31 t753.length co31)) (fun _ hk => hk.2) (.slice Ao33 t756.length co33)) (fun _ h_ => h_.1)) (fun _ h_ => h_.1))) hb); replace HO755 := aM (Kd.R_below (by exact (Kd.R_mono (Kd.R_mono (Kd.R_far (p := ⟨gb761, 1, none⟩) (Kd.R_far (p := ⟨gb761, 0, none⟩) (Kd.R_far (p := ⟨gb760, 1, none⟩) (Kd.R_far (p := ⟨gb760, 0, none⟩) (Kd.R_types (Kd.R_types HO755.out BK760.out (by decide)) BK761.out (by decide)) (fun _ hk => hk.1.2) (.slice Ao27 t747.length co27)) (fun _ hk => hk.1.2) (.slice Ao30 t750.length co30)) (fun _ hk => hk.2) (.slice Ao31 t753.length co31)) (fun _ hk => hk.2) (.slice Ao33 t756.length co33)) (fun _ h_ => h_.1)) (fun _ h_ => h_.1))) hb); replace HO758 := aM (Kd.R_below (by exact (Kd.R_mono (Kd.R_mono (Kd.R_far (p := ⟨gb761, 1, none⟩) (Kd.R_far (p := ⟨gb761, 0, none⟩) (Kd.R_far (p := ⟨gb760, 1, none⟩) (Kd.R_far (p := ⟨gb760, 0, none⟩) (Kd.R_types (Kd.R_types HO758.out BK760.out (by decide)) BK761.out (by decide)) (fun _ hk => hk.1.2) (.slice Ao27 t747.length co27)) (fun _ hk => hk.1.2) (.slice Ao30 t750.length co30)) (fun _ hk => hk.2) (.slice Ao31 t753.length co31)) (fun _ hk => hk.2) (.slice Ao33 t756.length co33)) (fun _ h_ => h_.1)) (fun _ h_ => h_.1))) hb); replace BK760 := aM (blk_below (g := gb760) (o := .cells #[.slice Ao27 t747.length co27, .slice Ao30 t750.length co30] 60 (0, 0)) (by refine blk_far ?_ NB760_761.out _; refine blk_far ?_ NB760_761.out _; refine blk_put (cs := #[.slice Ao27 t747.length co27, .slice none 0 0]) ?_ 1 _ rfl; refine blk_put (cs := #[.slice none 0 0, .slice none 0 0]) ?_ 0 _ rfl; exact BK760.out) hb); replace BK761 := aM (blk_below (g := gb761) (o := .cells #[.slice Ao31 t753.length co31, .slice Ao33 t756.length co33] 60 (0, 0)) (by refine blk_put (cs := #[.slice Ao31 t753.length co31, .slice none 0 0]) ?_ 1 _ rfl; refine blk_put (cs := #[.slice none 0 0, .slice none 0 0]) ?_ 0 _ rfl; refine blk_far ?_ NB761_760.out _; refine blk_far ?_ NB761_760.out _; exact BK761.out) hb); replace HB := aM (below_step (by repeat (first | (with_reducible first | exact HB.out | refine bS ?_ GE760.out | refine bS ?_ GE761.out))) hb); (try clear hb)))
   go_ret
   exact ⟨by first | rfl | (simp [*, errW_none, errW_some] <;> rfl), HB.out⟩
 ·replace c4 := Bool.eq_false_iff.mpr c4
  subst c4
  replace H : (some false) = some r := by rw [if_neg (show ¬ (false = true) by decide)] at H; exact H
  obtain rfl := Option.some.inj H
  go_enter Try.func25, Try.ntmps25
  go_wp2_with (first | ((with_reducible refine gate_callee (f := 54) rfl ?_); refine goesL_ (some 11) rfl rfl Try.func54 (by kernel_rfl) rfl #[.string a0, .string a1] rfl (by (try simp only [List.map_toArray, List.map_cons, List.map_nil]); rfl) ?_; (with_reducible refine (impl_two.calls k a0 a1 t747 t750 t753 t756 false _ A3.out).mono ?_); rintro e w35 ⟨v748, v751, v754, v757, rfl, ho0, ho1, ho2, ho3, hb⟩; refine ⟨_, rfl, ?_⟩; have HO749 := aM (Kd.R_lower ho0 (below_size HB.out)); have HO752 := aM (Kd.R_lower ho1 (below_size HB.out)); have HO755 := aM (Kd.R_lower ho2 (below_size HB.out)); have HO758 := aM (Kd.R_lower ho3 (below_size HB.out)); replace HB := aM (below_step HB.out hb); (try clear hb); (try clear ho0); (try clear ho1); (try clear ho2); (try clear ho3)) | ((with_reducible refine gate_dst (N := 5) rfl ?_); refine box_event ?hg (N := 5) ?hd (cs := #[.slice none 0 0, .slice none 0 0]) (t := 60) ?hr ?_; (case hd => rfl); (case hg => rfl); (case hr => first | (go_simp; done)); intro gb760 hg w36 hbox hb; replace HO749 := aM (Kd.R_below HO749.out hb); replace HO752 := aM (Kd.R_below HO752.out hb); replace HO755 := aM (Kd.R_below HO755.out hb); replace HO758 := aM (Kd.R_below HO758.out hb); have BK760 := aM hbox; have GW760 := aM ((by rw [hg]; exact (below_size HB.out) : w.heap.size ≤ gb760)); have GE760 := aM ((by rw [hg]; exact (below_size HB.out) : w.heap.size ≤ gb760)); replace HB := aM (below_step HB.out hb); clear hb hbox hg) | ((with_reducible refine gate_dst (N := 6) rfl ?_); refine box_event ?hg (N := 6) ?hd (cs := #[.slice none 0 0, .slice none 0 0]) (t := 60) ?hr ?_; (case hd => rfl); (case hg => rfl); (case hr => first | (go_simp; done)); intro gb761 hg w37 hbox hb; replace HO749 := aM (Kd.R_below HO749.out hb); replace HO752 := aM (Kd.R_below HO752.out hb); replace HO755 := aM (Kd.R_below HO755.out hb); replace HO758 := aM (Kd.R_below HO758.out hb); have BK761 := aM hbox; have GW761 := aM ((by rw [hg]; exact (below_size HB.out) : w.heap.size ≤ gb761)); have GE761 := aM ((by rw [hg]; exact (below_size HB.out) : w.heap.size ≤ gb761)); replace HB := aM (below_step HB.out hb); have NB760_761 := aM ((by rw [hg]; exact Nat.ne_of_lt (blk_lt (g := gb760) (o := .cells #[.slice none 0 0, .slice none 0 0] 60 (0, 0)) BK760.out) : gb760 ≠ gb761)); have NB761_760 := aM ((by rw [hg]; exact Nat.ne_of_gt (blk_lt (g := gb760) (o := .cells #[.slice none 0 0, .slice none 0 0] 60 (0, 0)) BK760.out) : gb761 ≠ gb760)); replace BK760 := aM (blk_below (g := gb760) (o := .cells #[.slice none 0 0, .slice none 0 0] 60 (0, 0)) BK760.out hb); clear hb hbox hg; obtain ⟨Ao38, co38, eo38⟩ := Kd.R_slice HO749.out; subst eo38; have hnb39 := NB760_761.out; have hnc39 := NB761_760.out; have hcz40_0 : w37.cell? ⟨gb760, 0, none⟩ = some (.slice none 0 0) := (blk_cell BK760.out 0).trans rfl; have hcz40_1 : w37.cell? ⟨gb760, 1, none⟩ = some (.slice none 0 0) := (blk_cell BK760.out 1).trans rfl; have hfz40_0 := blk_frozen BK760.out 0; have hfz40_1 := blk_frozen BK760.out 1; obtain ⟨Ao41, co41, eo41⟩ := Kd.R_slice HO752.out; subst eo41; obtain ⟨Ao42, co42, eo42⟩ := Kd.R_slice HO755.out; subst eo42; have hcz43_0 : w37.cell? ⟨gb761, 0, none⟩ = some (.slice none 0 0) := (blk_cell BK761.out 0).trans rfl; have hcz43_1 : w37.cell? ⟨gb761, 1, none⟩ = some (.slice none 0 0) := (blk_cell BK761.out 1).trans rfl; have hfz43_0 := blk_frozen BK761.out 0; have hfz43_1 := blk_frozen BK761.out 1; obtain ⟨Ao44, co44, eo44⟩ := Kd.R_slice HO758.out; subst eo44))
  go_ret
  exact ⟨by first | rfl | (simp [*, errW_none, errW_some] <;> rfl), by repeat (first | (with_reducible first | exact HB.out | refine bS ?_ GE760.out | refine bS ?_ GE761.out))⟩

end Go.Proofs.Ytpkpgdlbgcjloaa.Q
