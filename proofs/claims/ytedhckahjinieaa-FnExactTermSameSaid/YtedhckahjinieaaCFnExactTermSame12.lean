/- The program's TermSame returns what the reference's returns, for all arguments; no condition beyond the statement's own. -/
import Derived.Test.YtedhckahjinieaaCFnExactTermSame1
import Derived.Test.YtedhckahjinieaaCFnExactTermSame7
import Derived.Test.YtedhckahjinieaaCFnExactTermSame8
import Derived.Test.YtedhckahjinieaaCFnExactTermSame9
import Derived.Test.YtedhckahjinieaaCFnExactTermSame10
import Derived.Test.YtedhckahjinieaaCFnExactTermSame11
namespace Go.Proofs.Ytedhckahjinieaa.Q
open Go.RowKit Go.Proofs.YtedhckahjinieaaW.PrintWords Go.Proofs.YtedhckahjinieaaW.PrintLast Go.Proofs.YtedhckahjinieaaW.PrintMore
attribute [local go_sem] max2_int min2_int max_two min_two max_three min_three max_four min_four   -- for this text's walks alone
set_option linter.unusedVariables false
set_option linter.unusedSimpArgs false
mutual
def spec_l2Two.j0 : Nat → Int → Bool → List Bool → List Bool → List Bool → List Bool → Option (ByteArray × Bool)
 | 0, _, _, _, _, _, _ => none
 | k + 1, x2, x32, x590000, x590001, x598000, x598001 => if x32 = true then (some ((⟨#[]⟩ : ByteArray), false)) else ((spec_l1Shape.f k x590000 x590001 x598000 x598001).bind fun bt598 => (spec_l2Two.l0 k x2 bt598.1 bt598.2 0 x590000 x590001 x598000 x598001 (([] : List Bool)) (([] : List Bool))))
def spec_l2Two.l0 : Nat → Int → Int → Int → Int → List Bool → List Bool → List Bool → List Bool → List Bool → List Bool → Option (ByteArray × Bool)
 | 0, _, _, _, _, _, _, _, _, _, _ => none
 | k + 1, x2, x12, x13, x15, x590000, x590001, x598000, x598001, x607000, x607001 => if x15 < (wrap64 (x12 + x13)) then ((spec_l1Has.f x590000 x590001 x15).bind fun t609 => ((spec_l1Bit.f t609).bind fun t610 => ((spec_l1Has.f x598000 x598001 x15).bind fun t611 => ((spec_l1Bit.f t611).bind fun t612 => (if 0 ≤ (wrap64 ((wrap64 (2 * t610)) + t612)) then (if x15 < x12 then (if x607000.length < 140737488355328 then (spec_l2Two.l0 k x2 x12 x13 (wrap64 (x15 + 1)) x590000 x590001 x598000 x598001 (x607000 ++ [((Go.bits .and .i64 (shr .i64 x2 (wrap64 ((wrap64 (2 * t610)) + t612))) 1) == 1)]) x607001) else (none)) else (if x607001.length < 140737488355328 then (spec_l2Two.l0 k x2 x12 x13 (wrap64 (x15 + 1)) x590000 x590001 x598000 x598001 x607000 (x607001 ++ [((Go.bits .and .i64 (shr .i64 x2 (wrap64 ((wrap64 (2 * t610)) + t612))) 1) == 1)])) else (none))) else (none)))))) else ((spec_l1Done.f k x607000 x607001).bind fun bt607 => (some (bt607.1, bt607.2)))
end
def spec_l2Two.f (k : Nat) (a0 : ByteArray) (a1 : ByteArray) (a2 : Int) : Option (ByteArray × Bool) := (spec_l1Read.f k a0).bind fun bt582 => ((spec_l1Read.f k a1).bind fun bt590 => (if bt582.2.2 = true then (spec_l2Two.j0 k a2 (!bt590.2.2) bt582.1 bt582.2.1 bt590.1 bt590.2.1) else (spec_l2Two.j0 k a2 true bt582.1 bt582.2.1 bt590.1 bt590.2.1)))
theorem spec_l2Two.mono_l : ∀ k, (∀ y0 y1 y2 y3 y4 y5, LeO (spec_l2Two.j0 k y0 y1 y2 y3 y4 y5) (spec_l2Two.j0 (k + 1) y0 y1 y2 y3 y4 y5)) ∧ (∀ y0 y1 y2 y3 y4 y5 y6 y7 y8 y9, LeO (spec_l2Two.l0 k y0 y1 y2 y3 y4 y5 y6 y7 y8 y9) (spec_l2Two.l0 (k + 1) y0 y1 y2 y3 y4 y5 y6 y7 y8 y9))
 | 0 => ⟨fun _ _ _ _ _ _ r h => by simp [spec_l2Two.j0] at h, fun _ _ _ _ _ _ _ _ _ _ r h => by simp [spec_l2Two.l0] at h⟩
 | k + 1 => by
  obtain ⟨ih0, ih1⟩ := spec_l2Two.mono_l k
  refine ⟨?_, ?_⟩
  ·intro y0 y1 y2 y3 y4 y5
   unfold spec_l2Two.j0
   repeat' first | (with_reducible exact ih1 _ _ _ _ _ _ _ _ _ _) | (with_reducible exact spec_l1Shape.mono _ _ _ _ _) | (with_reducible exact LeO.refl _) | (with_reducible refine LeO.ite ?_ ?_) | (with_reducible refine LeO.bind ?_ (fun _ => ?_))
  ·intro y0 y1 y2 y3 y4 y5 y6 y7 y8 y9
   unfold spec_l2Two.l0
   repeat' first | (with_reducible exact ih1 _ _ _ _ _ _ _ _ _ _) | (with_reducible exact spec_l1Done.mono _ _ _) | (with_reducible exact LeO.refl _) | (with_reducible refine LeO.ite ?_ ?_) | (with_reducible refine LeO.bind ?_ (fun _ => ?_))
theorem spec_l2Two.mono : ∀ a0 a1 a2 k, LeO (spec_l2Two.f k a0 a1 a2) (spec_l2Two.f (k + 1) a0 a1 a2) := by
 intro a0 a1 a2 k
 obtain ⟨ih0, ih1⟩ := spec_l2Two.mono_l k
 unfold spec_l2Two.f
 repeat' first | (with_reducible exact ih0 _ _ _ _ _ _) | (with_reducible exact spec_l1Read.mono _ _) | (with_reducible refine LeO.ite ?_ ?_) | (with_reducible refine LeO.bind ?_ (fun _ => ?_))
def spec_l2Two.T10 : Bool × List (List Nat × List Nat) := (true, [([], []), ([], []), ([], []), ([1, 2], [1, 2]), ([3, 3], [3]), ([4], [4]), ([], []), ([], []), ([6, 7, 4], [6, 7]), ([8, 8], [8]), ([5, 9], [5, 9]), ([0, 10], [0, 10]), ([11], [11]), ([12], [12]), ([13, 9, 0, 1, 2, 3, 4, 5, 6, 7, 8, 9, 10, 11, 12, 13], [13])])
def spec_l2Two.B10 : List Nat := [0, 0, 0, 6, 14, 30, 0, 0, 222, 478, 1022, 2047, 4095, 8191, 16383]
theorem spec_l2Two.tab10 : rtab .any (opsOf Try.f76 10) = spec_l2Two.T10 := by kernel_rfl
theorem spec_l2Two.bits10 : waitsOk spec_l2Two.T10.2 spec_l2Two.B10 = true := by kernel_rfl
set_option maxHeartbeats 8000000 in
set_option maxRecDepth 100000 in
theorem spec_l2Two.calls (k : Nat) (a0 : ByteArray) (a1 : ByteArray) (a2 : Int) (r1 : ByteArray) (r2 : Bool) (w : World) (h : spec_l2Two.f k a0 a1 a2 = some (r1, r2)) :
  Calls Try.prog 76 #[.string a0, .string a1, .int .i64 a2] w fun e w' => e = .returned (.tuple #[.string r1, .bool r2]) ∧ Below w.heap.size w w' := by
 have hu94 := Try.underlying94
 have HB := aM (Below.refl w.heap.size w)
 have H : ((spec_l1Read.f k a0).bind fun bt582 => ((spec_l1Read.f k a1).bind fun bt590 => (if bt582.2.2 = true then (spec_l2Two.j0 k a2 (!bt590.2.2) bt582.1 bt582.2.1 bt590.1 bt590.2.1) else (spec_l2Two.j0 k a2 true bt582.1 bt582.2.1 bt590.1 bt590.2.1)))) = some (r1, r2) := h
 clear h
 replace H := Option.bind_eq_some_iff.mp H
 obtain ⟨⟨t582, t585, t588⟩, A40, H⟩ := H
 replace H : ((spec_l1Read.f k a1).bind fun bt590 => (if t588 = true then (spec_l2Two.j0 k a2 (!bt590.2.2) t582 t585 bt590.1 bt590.2.1) else (spec_l2Two.j0 k a2 true t582 t585 bt590.1 bt590.2.1))) = some (r1, r2) := H
 have A4 := aM A40
 clear A40
 replace H := Option.bind_eq_some_iff.mp H
 obtain ⟨⟨t590, t593, t596⟩, A50, H⟩ := H
 replace H : (if t588 = true then (spec_l2Two.j0 k a2 (!t596) t582 t585 t590 t593) else (spec_l2Two.j0 k a2 true t582 t585 t590 t593)) = some (r1, r2) := H
 have A5 := aM A50
 clear A50
 have HC6 := aM H
 clear H
 go_enter Try.func76, Try.ntmps76
 go_upto_region 3 with (first | ((with_reducible refine gate_callee (f := 91) rfl ?_); refine goesL_ (some 19) rfl rfl Try.func91 (by kernel_rfl) rfl #[.string a0] rfl (by (try simp only [List.map_toArray, List.map_cons, List.map_nil]); rfl) ?_; (with_reducible refine (spec_l1Read.calls k a0 t582 t585 t588 _ A4.out).mono ?_); rintro e w7 ⟨v583, v586, rfl, ho0, ho1, hb⟩; refine ⟨_, rfl, ?_⟩; have HO584 := aM (Kd.R_lower ho0 (below_size HB.out)); have HO587 := aM (Kd.R_lower ho1 (below_size HB.out)); replace HB := aM (below_step HB.out hb); (try clear hb); (try clear ho0); (try clear ho1)) | ((with_reducible refine gate_dst (N := 8) rfl ?_); refine box_event ?hg (N := 8) ?hd (cs := #[.slice none 0 0, .slice none 0 0]) (t := 94) ?hr ?_; (case hd => rfl); (case hg => rfl); (case hr => first | (go_simp; done)); intro gb589 hg w8 hbox hb; replace HO584 := aM (Kd.R_below HO584.out hb); replace HO587 := aM (Kd.R_below HO587.out hb); have BK589 := aM hbox; have GW589 := aM ((by rw [hg]; exact (below_size HB.out) : w.heap.size ≤ gb589)); have GE589 := aM ((by rw [hg]; exact (below_size HB.out) : w.heap.size ≤ gb589)); replace HB := aM (below_step HB.out hb); clear hb hbox hg; obtain ⟨Ao9, co9, eo9⟩ := Kd.R_slice HO584.out; subst eo9; have hcz10_0 : w8.cell? ⟨gb589, 0, none⟩ = some (.slice none 0 0) := (blk_cell BK589.out 0).trans rfl; have hcz10_1 : w8.cell? ⟨gb589, 1, none⟩ = some (.slice none 0 0) := (blk_cell BK589.out 1).trans rfl; have hfz10_0 := blk_frozen BK589.out 0; have hfz10_1 := blk_frozen BK589.out 1; obtain ⟨Ao11, co11, eo11⟩ := Kd.R_slice HO587.out; subst eo11) | ((with_reducible refine gate_callee (f := 91) rfl ?_); refine goesL_ (some 24) rfl rfl Try.func91 (by kernel_rfl) rfl #[.string a1] rfl (by (try simp only [List.map_toArray, List.map_cons, List.map_nil]); rfl) ?_; (with_reducible refine (spec_l1Read.calls k a1 t590 t593 t596 _ A5.out).mono ?_); rintro e w12 ⟨v591, v594, rfl, ho0, ho1, hb⟩; refine ⟨_, rfl, ?_⟩; have HO592 := aM (Kd.R_lower (Kd.R_new' (Kd.R_new' ho0 (Kd.R_lt (by exact (Kd.R_mono (Kd.R_far (p := ⟨gb589, 1, none⟩) (Kd.R_far (p := ⟨gb589, 0, none⟩) (Kd.R_types HO584.out BK589.out (by decide)) (fun _ hk => hk.2) (.slice Ao9 t582.length co9)) (fun _ hk => hk.2) (.slice Ao11 t585.length co11)) (fun _ h_ => h_.1))))) (Kd.R_lt (by exact (Kd.R_mono (Kd.R_far (p := ⟨gb589, 1, none⟩) (Kd.R_far (p := ⟨gb589, 0, none⟩) (Kd.R_types HO587.out BK589.out (by decide)) (fun _ hk => hk.2) (.slice Ao9 t582.length co9)) (fun _ hk => hk.2) (.slice Ao11 t585.length co11)) (fun _ h_ => h_.1))))) (below_size (by repeat (first | (with_reducible first | exact HB.out | refine bS ?_ GE589.out))))); have HO595 := aM (Kd.R_lower (Kd.R_new' (Kd.R_new' ho1 (Kd.R_lt (by exact (Kd.R_mono (Kd.R_far (p := ⟨gb589, 1, none⟩) (Kd.R_far (p := ⟨gb589, 0, none⟩) (Kd.R_types HO584.out BK589.out (by decide)) (fun _ hk => hk.2) (.slice Ao9 t582.length co9)) (fun _ hk => hk.2) (.slice Ao11 t585.length co11)) (fun _ h_ => h_.1))))) (Kd.R_lt (by exact (Kd.R_mono (Kd.R_far (p := ⟨gb589, 1, none⟩) (Kd.R_far (p := ⟨gb589, 0, none⟩) (Kd.R_types HO587.out BK589.out (by decide)) (fun _ hk => hk.2) (.slice Ao9 t582.length co9)) (fun _ hk => hk.2) (.slice Ao11 t585.length co11)) (fun _ h_ => h_.1))))) (below_size (by repeat (first | (with_reducible first | exact HB.out | refine bS ?_ GE589.out))))); replace HO584 := aM (Kd.R_mono (Kd.R_told (Kd.R_told (Kd.R_old (by exact (Kd.R_mono (Kd.R_far (p := ⟨gb589, 1, none⟩) (Kd.R_far (p := ⟨gb589, 0, none⟩) (Kd.R_types HO584.out BK589.out (by decide)) (fun _ hk => hk.2) (.slice Ao9 t582.length co9)) (fun _ hk => hk.2) (.slice Ao11 t585.length co11)) (fun _ h_ => h_.1))) hb) (Kd.R_base ho0)) (Kd.R_base ho1)) (fun _ h_ => h_.1)); replace HO587 := aM (Kd.R_mono (Kd.R_told (Kd.R_told (Kd.R_old (by exact (Kd.R_mono (Kd.R_far (p := ⟨gb589, 1, none⟩) (Kd.R_far (p := ⟨gb589, 0, none⟩) (Kd.R_types HO587.out BK589.out (by decide)) (fun _ hk => hk.2) (.slice Ao9 t582.length co9)) (fun _ hk => hk.2) (.slice Ao11 t585.length co11)) (fun _ h_ => h_.1))) hb) (Kd.R_base ho0)) (Kd.R_base ho1)) (fun _ h_ => h_.1)); replace BK589 := aM (blk_below (g := gb589) (o := .cells #[.slice Ao9 t582.length co9, .slice Ao11 t585.length co11] 94 (0, 0)) (by refine blk_put (cs := #[.slice Ao9 t582.length co9, .slice none 0 0]) ?_ 1 _ rfl; refine blk_put (cs := #[.slice none 0 0, .slice none 0 0]) ?_ 0 _ rfl; exact BK589.out) hb); replace HB := aM (below_step (by repeat (first | (with_reducible first | exact HB.out | refine bS ?_ GE589.out))) hb); (try clear hb); (try clear ho0); (try clear ho1)) | ((with_reducible refine gate_dst (N := 10) rfl ?_); refine box_event ?hg (N := 10) ?hd (cs := #[.slice none 0 0, .slice none 0 0]) (t := 94) ?hr ?_; (case hd => rfl); (case hg => rfl); (case hr => first | (go_simp; done)); intro gb597 hg w13 hbox hb; replace HO584 := aM (Kd.R_below HO584.out hb); replace HO587 := aM (Kd.R_below HO587.out hb); replace HO592 := aM (Kd.R_below HO592.out hb); replace HO595 := aM (Kd.R_below HO595.out hb); have BK597 := aM hbox; have GW597 := aM ((by rw [hg]; exact (below_size HB.out) : w.heap.size ≤ gb597)); have GE597 := aM ((by rw [hg]; exact (below_size HB.out) : w.heap.size ≤ gb597)); replace HB := aM (below_step HB.out hb); have NB589_597 := aM ((by rw [hg]; exact Nat.ne_of_lt (blk_lt (g := gb589) (o := .cells #[.slice Ao9 t582.length co9, .slice Ao11 t585.length co11] 94 (0, 0)) BK589.out) : gb589 ≠ gb597)); have NB597_589 := aM ((by rw [hg]; exact Nat.ne_of_gt (blk_lt (g := gb589) (o := .cells #[.slice Ao9 t582.length co9, .slice Ao11 t585.length co11] 94 (0, 0)) BK589.out) : gb597 ≠ gb589)); replace BK589 := aM (blk_below (g := gb589) (o := .cells #[.slice Ao9 t582.length co9, .slice Ao11 t585.length co11] 94 (0, 0)) BK589.out hb); clear hb hbox hg; obtain ⟨Ao14, co14, eo14⟩ := Kd.R_slice HO592.out; subst eo14; have hnb15 := NB597_589.out; have hnc15 := NB589_597.out; have hcz16_0 : w13.cell? ⟨gb597, 0, none⟩ = some (.slice none 0 0) := (blk_cell BK597.out 0).trans rfl; have hcz16_1 : w13.cell? ⟨gb597, 1, none⟩ = some (.slice none 0 0) := (blk_cell BK597.out 1).trans rfl; have hfz16_0 := blk_frozen BK597.out 0; have hfz16_1 := blk_frozen BK597.out 1; obtain ⟨Ao17, co17, eo17⟩ := Kd.R_slice HO595.out; subst eo17))
 go_cut [32] (fun v32 wc => ∃ (kq : Nat) (x32_5 : Bool), v32 = .bool x32_5 ∧ Aside0 (spec_l2Two.j0 kq a2 x32_5 t582 t585 t590 t593 = some (r1, r2)) ∧ Aside0 (kq ≤ k) ∧ Aside0 (Kd.R Kd.bool 4 wc w.heap.size (fun k_ => some k_ ≠ ((.slice Ao11 t585.length co11) : Value).ownBlock ∧ some k_ ≠ ((.slice Ao14 t590.length co14) : Value).ownBlock ∧ some k_ ≠ ((.slice Ao17 t593.length co17) : Value).ownBlock) (.slice Ao9 t582.length co9) t582) ∧ Aside0 (Kd.R Kd.bool 4 wc w.heap.size (fun k_ => some k_ ≠ ((.slice Ao9 t582.length co9) : Value).ownBlock ∧ some k_ ≠ ((.slice Ao14 t590.length co14) : Value).ownBlock ∧ some k_ ≠ ((.slice Ao17 t593.length co17) : Value).ownBlock) (.slice Ao11 t585.length co11) t585) ∧ Aside0 (Kd.R Kd.bool 4 wc w.heap.size (fun k_ => some k_ ≠ ((.slice Ao9 t582.length co9) : Value).ownBlock ∧ some k_ ≠ ((.slice Ao11 t585.length co11) : Value).ownBlock ∧ some k_ ≠ ((.slice Ao17 t593.length co17) : Value).ownBlock) (.slice Ao14 t590.length co14) t590) ∧ Aside0 (Kd.R Kd.bool 4 wc w.heap.size (fun k_ => some k_ ≠ ((.slice Ao9 t582.length co9) : Value).ownBlock ∧ some k_ ≠ ((.slice Ao11 t585.length co11) : Value).ownBlock ∧ some k_ ≠ ((.slice Ao14 t590.length co14) : Value).ownBlock) (.slice Ao17 t593.length co17) t593) ∧ Aside0 (wc.heap[gb589]? = some (.cells #[(.slice Ao9 t582.length co9), (.slice Ao11 t585.length co11)] 94 (0, 0))) ∧ Aside0 (wc.heap[gb597]? = some (.cells #[(.slice Ao14 t590.length co14), (.slice Ao17 t593.length co17)] 94 (0, 0))) ∧ Aside0 (Below w.heap.size w wc))
 case first =>
  have H := HC6.out
  clear HC6
  by_cases c18 : t588 = true
  ·subst c18
   replace H : (spec_l2Two.j0 k a2 (!t596) t582 t585 t590 t593) = some (r1, r2) := by rw [if_pos rfl] at H; exact H
   have H' := aM H
   clear H
   go_wp2
   go_meet
   case rel => exact ⟨_, (!t596), (by rfl), H', ⟨by omega⟩, ⟨by exact Kd.R_mono (Kd.R_far (p := ⟨gb597, 1, none⟩) (Kd.R_far (p := ⟨gb597, 0, none⟩) (Kd.R_types HO584.out BK597.out (by decide)) (fun _ hk => hk.2) (.slice Ao14 t590.length co14)) (fun _ hk => hk.2) (.slice Ao17 t593.length co17)) (fun _ hk => ⟨hk.1.1.1, ⟨hk.1.1.2, hk.1.2⟩⟩)⟩, ⟨by exact Kd.R_mono (Kd.R_far (p := ⟨gb597, 1, none⟩) (Kd.R_far (p := ⟨gb597, 0, none⟩) (Kd.R_types HO587.out BK597.out (by decide)) (fun _ hk => hk.2) (.slice Ao14 t590.length co14)) (fun _ hk => hk.2) (.slice Ao17 t593.length co17)) (fun _ hk => ⟨hk.1.1.1, ⟨hk.1.1.2, hk.1.2⟩⟩)⟩, ⟨by exact Kd.R_mono (Kd.R_far (p := ⟨gb597, 1, none⟩) (Kd.R_far (p := ⟨gb597, 0, none⟩) (Kd.R_types HO592.out BK597.out (by decide)) (fun _ hk => hk.2) (.slice Ao14 t590.length co14)) (fun _ hk => hk.2) (.slice Ao17 t593.length co17)) (fun _ hk => ⟨hk.1.1.2, ⟨hk.1.2, hk.1.1.1⟩⟩)⟩, ⟨by exact Kd.R_mono (Kd.R_far (p := ⟨gb597, 1, none⟩) (Kd.R_far (p := ⟨gb597, 0, none⟩) (Kd.R_types HO595.out BK597.out (by decide)) (fun _ hk => hk.2) (.slice Ao14 t590.length co14)) (fun _ hk => hk.2) (.slice Ao17 t593.length co17)) (fun _ hk => ⟨hk.1.1.2, ⟨hk.1.2, hk.1.1.1⟩⟩)⟩, ⟨by refine blk_far ?_ NB589_597.out _; refine blk_far ?_ NB589_597.out _; exact BK589.out⟩, ⟨by refine blk_put (cs := #[.slice Ao14 t590.length co14, .slice none 0 0]) ?_ 1 _ rfl; refine blk_put (cs := #[.slice none 0 0, .slice none 0 0]) ?_ 0 _ rfl; exact BK597.out⟩, ⟨by repeat (first | (with_reducible first | exact HB.out | refine bS ?_ GE597.out))⟩⟩
  ·replace c18 := Bool.eq_false_iff.mpr c18
   subst c18
   replace H : (spec_l2Two.j0 k a2 true t582 t585 t590 t593) = some (r1, r2) := by rw [if_neg (show ¬ (false = true) by decide)] at H; exact H
   have H' := aM H
   clear H
   go_wp2
   go_meet
   case rel => exact ⟨_, (true), (by rfl), H', ⟨by omega⟩, ⟨by exact Kd.R_mono (Kd.R_far (p := ⟨gb597, 1, none⟩) (Kd.R_far (p := ⟨gb597, 0, none⟩) (Kd.R_types HO584.out BK597.out (by decide)) (fun _ hk => hk.2) (.slice Ao14 t590.length co14)) (fun _ hk => hk.2) (.slice Ao17 t593.length co17)) (fun _ hk => ⟨hk.1.1.1, ⟨hk.1.1.2, hk.1.2⟩⟩)⟩, ⟨by exact Kd.R_mono (Kd.R_far (p := ⟨gb597, 1, none⟩) (Kd.R_far (p := ⟨gb597, 0, none⟩) (Kd.R_types HO587.out BK597.out (by decide)) (fun _ hk => hk.2) (.slice Ao14 t590.length co14)) (fun _ hk => hk.2) (.slice Ao17 t593.length co17)) (fun _ hk => ⟨hk.1.1.1, ⟨hk.1.1.2, hk.1.2⟩⟩)⟩, ⟨by exact Kd.R_mono (Kd.R_far (p := ⟨gb597, 1, none⟩) (Kd.R_far (p := ⟨gb597, 0, none⟩) (Kd.R_types HO592.out BK597.out (by decide)) (fun _ hk => hk.2) (.slice Ao14 t590.length co14)) (fun _ hk => hk.2) (.slice Ao17 t593.length co17)) (fun _ hk => ⟨hk.1.1.2, ⟨hk.1.2, hk.1.1.1⟩⟩)⟩, ⟨by exact Kd.R_mono (Kd.R_far (p := ⟨gb597, 1, none⟩) (Kd.R_far (p := ⟨gb597, 0, none⟩) (Kd.R_types HO595.out BK597.out (by decide)) (fun _ hk => hk.2) (.slice Ao14 t590.length co14)) (fun _ hk => hk.2) (.slice Ao17 t593.length co17)) (fun _ hk => ⟨hk.1.1.2, ⟨hk.1.2, hk.1.1.1⟩⟩)⟩, ⟨by refine blk_far ?_ NB589_597.out _; refine blk_far ?_ NB589_597.out _; exact BK589.out⟩, ⟨by refine blk_put (cs := #[.slice Ao14 t590.length co14, .slice none 0 0]) ?_ 1 _ rfl; refine blk_put (cs := #[.slice none 0 0, .slice none 0 0]) ?_ 0 _ rfl; exact BK597.out⟩, ⟨by repeat (first | (with_reducible first | exact HB.out | refine bS ?_ GE597.out))⟩⟩
 case rest =>
  clear HC6
  try clear hcz10_0
  try clear hcz10_1
  try clear hcz16_0
  try clear hcz16_1
  try clear hfz10_0
  try clear hfz10_1
  try clear hfz16_0
  try clear hfz16_1
  obtain ⟨kq, x32_5, rfl, HA, HJ5, HO_590000, HO_590001, HO_598000, HO_598001, BK589, BK597, HB⟩ := hcut
  cases kq with
  | zero => exact absurd HA.out (by simp [spec_l2Two.j0])
  | succ kj5 =>
   have H := HA.out
   clear HA
   simp only [spec_l2Two.j0] at H
   by_cases c19 : x32_5 = true
   ·subst c19
    replace H : (some ((⟨#[]⟩ : ByteArray), false)) = some (r1, r2) := by rw [if_pos rfl] at H; exact H
    simp only [Option.some.injEq, Prod.mk.injEq] at H
    obtain ⟨rfl, rfl⟩ := H
    go_wp2
    go_ret2
    exact ⟨by first | rfl | (simp [*, errW_none, errW_some] <;> rfl), HB.out⟩
   ·replace c19 := Bool.eq_false_iff.mpr c19
    subst c19
    replace H : ((spec_l1Shape.f kj5 t582 t585 t590 t593).bind fun bt598 => (spec_l2Two.l0 kj5 a2 bt598.1 bt598.2 0 t582 t585 t590 t593 (([] : List Bool)) (([] : List Bool)))) = some (r1, r2) := by rw [if_neg (show ¬ (false = true) by decide)] at H; exact H
    replace H := Option.bind_eq_some_iff.mp H
    obtain ⟨⟨t598, t599⟩, A200, H⟩ := H
    replace H : (spec_l2Two.l0 kj5 a2 t598 t599 0 t582 t585 t590 t593 (([] : List Bool)) (([] : List Bool))) = some (r1, r2) := H
    have A20 := aM A200
    clear A200
    obtain ⟨y600, hy600⟩ : ∃ y_ : List Bool, y_ = (([] : List Bool)) := ⟨_, rfl⟩
    replace H : (spec_l2Two.l0 kj5 a2 t598 t599 0 t582 t585 t590 t593 y600 (([] : List Bool))) = some (r1, r2) := by first | (rw [hy600]; with_reducible exact H)
    have Ny600 := aM hy600
    clear hy600
    obtain ⟨y603, hy603⟩ : ∃ y_ : List Bool, y_ = (([] : List Bool)) := ⟨_, rfl⟩
    replace H : (spec_l2Two.l0 kj5 a2 t598 t599 0 t582 t585 t590 t593 y600 y603) = some (r1, r2) := by first | (rw [hy603]; with_reducible exact H)
    have Ny603 := aM hy603
    clear hy603
    have H' := aM H
    clear H
    have hnb21 := NB589_597.out
    have hnc21 := NB597_589.out
    have hcz22_0 : wc.cell? ⟨gb589, 0, none⟩ = some (.slice Ao9 t582.length co9) := (blk_cell BK589.out 0).trans rfl
    have hcz22_1 : wc.cell? ⟨gb589, 1, none⟩ = some (.slice Ao11 t585.length co11) := (blk_cell BK589.out 1).trans rfl
    have hfz22_0 := blk_frozen BK589.out 0
    have hfz22_1 := blk_frozen BK589.out 1
    have hcz23_0 : wc.cell? ⟨gb597, 0, none⟩ = some (.slice Ao14 t590.length co14) := (blk_cell BK597.out 0).trans rfl
    have hcz23_1 : wc.cell? ⟨gb597, 1, none⟩ = some (.slice Ao17 t593.length co17) := (blk_cell BK597.out 1).trans rfl
    have hfz23_0 := blk_frozen BK597.out 0
    have hfz23_1 := blk_frozen BK597.out 1
    go_wp2_with (first | ((with_reducible refine gate_callee (f := 96) rfl ?_); refine goesL_ (some 36) rfl rfl Try.func96 (by kernel_rfl) rfl #[.agg #[.slice Ao9 t582.length co9, .slice Ao11 t585.length co11], .agg #[.slice Ao14 t590.length co14, .slice Ao17 t593.length co17]] rfl (by (try simp only [List.map_toArray, List.map_cons, List.map_nil]); rfl) ?_; (with_reducible refine (spec_l1Shape.calls kj5 _ _ t582 _ _ t585 _ _ t590 _ _ t593 t598 t599 _ ?side1 ?side2 ?side3 ?side4 ?side5 ?side6 ?side7 ?side8 A20.out).mono ?_); (case side1 => repeat (exact (Kd.R_reads' HO_590000.out).2.2)); (case side2 => exact (Kd.R_reads' HO_590000.out).2.1); (case side3 => repeat (exact (Kd.R_reads' HO_590001.out).2.2)); (case side4 => exact (Kd.R_reads' HO_590001.out).2.1); (case side5 => repeat (exact (Kd.R_reads' HO_598000.out).2.2)); (case side6 => exact (Kd.R_reads' HO_598000.out).2.1); (case side7 => repeat (exact (Kd.R_reads' HO_598001.out).2.2)); (case side8 => exact (Kd.R_reads' HO_598001.out).2.1); rintro e w24 ⟨rfl, hb⟩; refine ⟨_, rfl, ?_⟩; replace HO_590000 := aM (Kd.R_below HO_590000.out hb); replace HO_590001 := aM (Kd.R_below HO_590001.out hb); replace HO_598000 := aM (Kd.R_below HO_598000.out hb); replace HO_598001 := aM (Kd.R_below HO_598001.out hb); replace BK589 := aM (blk_below (g := gb589) (o := .cells #[.slice Ao9 t582.length co9, .slice Ao11 t585.length co11] 94 (0, 0)) BK589.out hb); replace BK597 := aM (blk_below (g := gb597) (o := .cells #[.slice Ao14 t590.length co14, .slice Ao17 t593.length co17] 94 (0, 0)) BK597.out hb); replace HB := aM (below_step HB.out hb); (try clear hb)) | ((with_reducible refine gate_dst (N := 39) rfl ?_); refine Kd.R_lit Kd.bool _ 4 ?hg (N := 39) ?hd (xs := ([] : List Bool)) (inner := []) (ok := fun _ => True) (okp := fun _ => True) ?hr ?hp (fun _ hk => hk) trivial (Below.refl _ _) (Nat.le_refl _) (by simp) ?_; (case hd => rfl); (case hg => rfl); (case hr => first | (go_simp; done)); (case hp => exact (Reps.none _ _)); intro v601 w25 ho26 hb hg_ hnew_; clear hg_ hnew_; (rw [← Ny600.out] at ho26); have HO602 := aM (Kd.R_lower (Kd.R_new' (Kd.R_new' (Kd.R_new' (Kd.R_new' ho26 (Kd.R_lt HO_590000.out)) (Kd.R_lt HO_590001.out)) (Kd.R_lt HO_598000.out)) (Kd.R_lt HO_598001.out)) (below_size HB.out)); replace HO_590000 := aM (Kd.R_elder' HO_590000.out (Kd.R_base ho26) hb); replace HO_590001 := aM (Kd.R_elder' HO_590001.out (Kd.R_base ho26) hb); replace HO_598000 := aM (Kd.R_elder' HO_598000.out (Kd.R_base ho26) hb); replace HO_598001 := aM (Kd.R_elder' HO_598001.out (Kd.R_base ho26) hb); replace BK589 := aM (blk_below (g := gb589) (o := .cells #[.slice Ao9 t582.length co9, .slice Ao11 t585.length co11] 94 (0, 0)) BK589.out hb); replace BK597 := aM (blk_below (g := gb597) (o := .cells #[.slice Ao14 t590.length co14, .slice Ao17 t593.length co17] 94 (0, 0)) BK597.out hb); replace HB := aM (below_step HB.out hb); clear hb ho26) | ((with_reducible refine gate_dst (N := 40) rfl ?_); refine Kd.R_lit Kd.bool _ 4 ?hg (N := 40) ?hd (xs := ([] : List Bool)) (inner := []) (ok := fun _ => True) (okp := fun _ => True) ?hr ?hp (fun _ hk => hk) trivial (Below.refl _ _) (Nat.le_refl _) (by simp) ?_; (case hd => rfl); (case hg => rfl); (case hr => first | (go_simp; done)); (case hp => exact (Reps.none _ _)); intro v604 w27 ho28 hb hg_ hnew_; clear hg_ hnew_; (rw [← Ny603.out] at ho28); have HO605 := aM (Kd.R_lower (Kd.R_new' (Kd.R_new' (Kd.R_new' (Kd.R_new' (Kd.R_new' ho28 (Kd.R_lt HO_590000.out)) (Kd.R_lt HO_590001.out)) (Kd.R_lt HO_598000.out)) (Kd.R_lt HO_598001.out)) (Kd.R_lt HO602.out)) (below_size HB.out)); replace HO_590000 := aM (Kd.R_elder' HO_590000.out (Kd.R_base ho28) hb); replace HO_590001 := aM (Kd.R_elder' HO_590001.out (Kd.R_base ho28) hb); replace HO_598000 := aM (Kd.R_elder' HO_598000.out (Kd.R_base ho28) hb); replace HO_598001 := aM (Kd.R_elder' HO_598001.out (Kd.R_base ho28) hb); replace HO602 := aM (Kd.R_elder' HO602.out (Kd.R_base ho28) hb); replace BK589 := aM (blk_below (g := gb589) (o := .cells #[.slice Ao9 t582.length co9, .slice Ao11 t585.length co11] 94 (0, 0)) BK589.out hb); replace BK597 := aM (blk_below (g := gb597) (o := .cells #[.slice Ao14 t590.length co14, .slice Ao17 t593.length co17] 94 (0, 0)) BK597.out hb); replace HB := aM (below_step HB.out hb); clear hb ho28; obtain ⟨Ao29, co29, eo29⟩ := Kd.R_slice HO605.out; subst eo29; obtain ⟨Ao30, co30, eo30⟩ := Kd.R_slice HO602.out; subst eo30) | ((with_reducible refine gate_dst (N := 14) rfl ?_); refine box_event ?hg (N := 14) ?hd (cs := #[.slice none 0 0, .slice none 0 0]) (t := 94) ?hr ?_; (case hd => rfl); (case hg => rfl); (case hr => first | (go_simp; done)); intro gb606 hg w31 hbox hb; replace HO_590000 := aM (Kd.R_below HO_590000.out hb); replace HO_590001 := aM (Kd.R_below HO_590001.out hb); replace HO_598000 := aM (Kd.R_below HO_598000.out hb); replace HO_598001 := aM (Kd.R_below HO_598001.out hb); replace HO602 := aM (Kd.R_below HO602.out hb); replace HO605 := aM (Kd.R_below HO605.out hb); have BK606 := aM hbox; have GW606 := aM ((by rw [hg]; exact (below_size HB.out) : w.heap.size ≤ gb606)); have GE606 := aM ((by rw [hg]; exact (below_size HB.out) : w.heap.size ≤ gb606)); replace HB := aM (below_step HB.out hb); have NB589_606 := aM ((by rw [hg]; exact Nat.ne_of_lt (blk_lt (g := gb589) (o := .cells #[.slice Ao9 t582.length co9, .slice Ao11 t585.length co11] 94 (0, 0)) BK589.out) : gb589 ≠ gb606)); have NB606_589 := aM ((by rw [hg]; exact Nat.ne_of_gt (blk_lt (g := gb589) (o := .cells #[.slice Ao9 t582.length co9, .slice Ao11 t585.length co11] 94 (0, 0)) BK589.out) : gb606 ≠ gb589)); replace BK589 := aM (blk_below (g := gb589) (o := .cells #[.slice Ao9 t582.length co9, .slice Ao11 t585.length co11] 94 (0, 0)) BK589.out hb); have NB597_606 := aM ((by rw [hg]; exact Nat.ne_of_lt (blk_lt (g := gb597) (o := .cells #[.slice Ao14 t590.length co14, .slice Ao17 t593.length co17] 94 (0, 0)) BK597.out) : gb597 ≠ gb606)); have NB606_597 := aM ((by rw [hg]; exact Nat.ne_of_gt (blk_lt (g := gb597) (o := .cells #[.slice Ao14 t590.length co14, .slice Ao17 t593.length co17] 94 (0, 0)) BK597.out) : gb606 ≠ gb597)); replace BK597 := aM (blk_below (g := gb597) (o := .cells #[.slice Ao14 t590.length co14, .slice Ao17 t593.length co17] 94 (0, 0)) BK597.out hb); clear hb hbox hg; have hnb32 := NB606_589.out; have hnc32 := NB589_606.out; have hnb33 := NB606_597.out; have hnc33 := NB597_606.out; have hcz34_0 : w31.cell? ⟨gb606, 0, none⟩ = some (.slice none 0 0) := (blk_cell BK606.out 0).trans rfl; have hcz34_1 : w31.cell? ⟨gb606, 1, none⟩ = some (.slice none 0 0) := (blk_cell BK606.out 1).trans rfl; have hfz34_0 := blk_frozen BK606.out 0; have hfz34_1 := blk_frozen BK606.out 1))
    go_loopg [15] kj5 (fun kq v15 w' => ∃ (x15_2 : Int) (x607000_2 : List Bool) (x607001_2 : List Bool) (u607000 : Value) (u607001 : Value), v15 = .int .i64 x15_2 ∧ Aside0 (spec_l2Two.l0 kq a2 t598 t599 x15_2 t582 t585 t590 t593 x607000_2 x607001_2 = some (r1, r2)) ∧ Aside0 (kq ≤ kj5) ∧ Aside0 (Kd.R Kd.bool 4 w' w.heap.size (fun k_ => some k_ ≠ ((.slice Ao11 t585.length co11) : Value).ownBlock ∧ some k_ ≠ ((.slice Ao14 t590.length co14) : Value).ownBlock ∧ some k_ ≠ ((.slice Ao17 t593.length co17) : Value).ownBlock ∧ some k_ ≠ (u607000 : Value).ownBlock ∧ some k_ ≠ (u607001 : Value).ownBlock) (.slice Ao9 t582.length co9) t582) ∧ Aside0 (Kd.R Kd.bool 4 w' w.heap.size (fun k_ => some k_ ≠ ((.slice Ao9 t582.length co9) : Value).ownBlock ∧ some k_ ≠ ((.slice Ao14 t590.length co14) : Value).ownBlock ∧ some k_ ≠ ((.slice Ao17 t593.length co17) : Value).ownBlock ∧ some k_ ≠ (u607000 : Value).ownBlock ∧ some k_ ≠ (u607001 : Value).ownBlock) (.slice Ao11 t585.length co11) t585) ∧ Aside0 (Kd.R Kd.bool 4 w' w.heap.size (fun k_ => some k_ ≠ ((.slice Ao9 t582.length co9) : Value).ownBlock ∧ some k_ ≠ ((.slice Ao11 t585.length co11) : Value).ownBlock ∧ some k_ ≠ ((.slice Ao17 t593.length co17) : Value).ownBlock ∧ some k_ ≠ (u607000 : Value).ownBlock ∧ some k_ ≠ (u607001 : Value).ownBlock) (.slice Ao14 t590.length co14) t590) ∧ Aside0 (Kd.R Kd.bool 4 w' w.heap.size (fun k_ => some k_ ≠ ((.slice Ao9 t582.length co9) : Value).ownBlock ∧ some k_ ≠ ((.slice Ao11 t585.length co11) : Value).ownBlock ∧ some k_ ≠ ((.slice Ao14 t590.length co14) : Value).ownBlock ∧ some k_ ≠ (u607000 : Value).ownBlock ∧ some k_ ≠ (u607001 : Value).ownBlock) (.slice Ao17 t593.length co17) t593) ∧ Aside0 (Kd.R Kd.bool 4 w' w.heap.size (fun k_ => some k_ ≠ ((.slice Ao9 t582.length co9) : Value).ownBlock ∧ some k_ ≠ ((.slice Ao11 t585.length co11) : Value).ownBlock ∧ some k_ ≠ ((.slice Ao14 t590.length co14) : Value).ownBlock ∧ some k_ ≠ ((.slice Ao17 t593.length co17) : Value).ownBlock ∧ some k_ ≠ (u607001 : Value).ownBlock) u607000 x607000_2) ∧ Aside0 (Kd.R Kd.bool 4 w' w.heap.size (fun k_ => some k_ ≠ ((.slice Ao9 t582.length co9) : Value).ownBlock ∧ some k_ ≠ ((.slice Ao11 t585.length co11) : Value).ownBlock ∧ some k_ ≠ ((.slice Ao14 t590.length co14) : Value).ownBlock ∧ some k_ ≠ ((.slice Ao17 t593.length co17) : Value).ownBlock ∧ some k_ ≠ (u607000 : Value).ownBlock) u607001 x607001_2) ∧ Aside0 (w'.heap[gb589]? = some (.cells #[(.slice Ao9 t582.length co9), (.slice Ao11 t585.length co11)] 94 (0, 0))) ∧ Aside0 (w'.heap[gb597]? = some (.cells #[(.slice Ao14 t590.length co14), (.slice Ao17 t593.length co17)] 94 (0, 0))) ∧ Aside0 (w'.heap[gb606]? = some (.cells #[u607000, u607001] 94 (0, 0))) ∧ Aside0 (Below w.heap.size w w'))
    case atStart => exact ⟨(0), (y600), (y603), (.slice Ao30 y600.length co30), (.slice Ao29 y603.length co29), (by rfl), H', ⟨Nat.le_refl _⟩, ⟨by exact Kd.R_mono (Kd.R_far (p := ⟨gb606, 1, none⟩) (Kd.R_far (p := ⟨gb606, 0, none⟩) (Kd.R_types HO_590000.out BK606.out (by decide)) (fun _ hk => hk.2) (.slice Ao30 y600.length co30)) (fun _ hk => hk.2) (.slice Ao29 y603.length co29)) (fun _ hk => ⟨hk.1.1.1.1, ⟨hk.1.1.1.2.1, ⟨hk.1.1.1.2.2, ⟨hk.1.1.2, hk.1.2⟩⟩⟩⟩)⟩, ⟨by exact Kd.R_mono (Kd.R_far (p := ⟨gb606, 1, none⟩) (Kd.R_far (p := ⟨gb606, 0, none⟩) (Kd.R_types HO_590001.out BK606.out (by decide)) (fun _ hk => hk.2) (.slice Ao30 y600.length co30)) (fun _ hk => hk.2) (.slice Ao29 y603.length co29)) (fun _ hk => ⟨hk.1.1.1.1, ⟨hk.1.1.1.2.1, ⟨hk.1.1.1.2.2, ⟨hk.1.1.2, hk.1.2⟩⟩⟩⟩)⟩, ⟨by exact Kd.R_mono (Kd.R_far (p := ⟨gb606, 1, none⟩) (Kd.R_far (p := ⟨gb606, 0, none⟩) (Kd.R_types HO_598000.out BK606.out (by decide)) (fun _ hk => hk.2) (.slice Ao30 y600.length co30)) (fun _ hk => hk.2) (.slice Ao29 y603.length co29)) (fun _ hk => ⟨hk.1.1.1.1, ⟨hk.1.1.1.2.1, ⟨hk.1.1.1.2.2, ⟨hk.1.1.2, hk.1.2⟩⟩⟩⟩)⟩, ⟨by exact Kd.R_mono (Kd.R_far (p := ⟨gb606, 1, none⟩) (Kd.R_far (p := ⟨gb606, 0, none⟩) (Kd.R_types HO_598001.out BK606.out (by decide)) (fun _ hk => hk.2) (.slice Ao30 y600.length co30)) (fun _ hk => hk.2) (.slice Ao29 y603.length co29)) (fun _ hk => ⟨hk.1.1.1.1, ⟨hk.1.1.1.2.1, ⟨hk.1.1.1.2.2, ⟨hk.1.1.2, hk.1.2⟩⟩⟩⟩)⟩, ⟨by exact Kd.R_mono (Kd.R_far (p := ⟨gb606, 1, none⟩) (Kd.R_far (p := ⟨gb606, 0, none⟩) (Kd.R_types HO602.out BK606.out (by decide)) (fun _ hk => hk.2) (.slice Ao30 y600.length co30)) (fun _ hk => hk.2) (.slice Ao29 y603.length co29)) (fun _ hk => ⟨hk.1.1.1.1.1.2, ⟨hk.1.1.1.1.2, ⟨hk.1.1.1.2, ⟨hk.1.1.2, hk.1.2⟩⟩⟩⟩)⟩, ⟨by exact Kd.R_mono (Kd.R_far (p := ⟨gb606, 1, none⟩) (Kd.R_far (p := ⟨gb606, 0, none⟩) (Kd.R_types HO605.out BK606.out (by decide)) (fun _ hk => hk.2) (.slice Ao30 y600.length co30)) (fun _ hk => hk.2) (.slice Ao29 y603.length co29)) (fun _ hk => ⟨hk.1.1.1.1.1.2, ⟨hk.1.1.1.1.2, ⟨hk.1.1.1.2, ⟨hk.1.1.2, hk.1.2⟩⟩⟩⟩)⟩, ⟨by refine blk_far ?_ NB589_606.out _; refine blk_far ?_ NB589_606.out _; exact BK589.out⟩, ⟨by refine blk_far ?_ NB597_606.out _; refine blk_far ?_ NB597_606.out _; exact BK597.out⟩, ⟨by refine blk_put (cs := #[.slice Ao30 y600.length co30, .slice none 0 0]) ?_ 1 _ rfl; refine blk_put (cs := #[.slice none 0 0, .slice none 0 0]) ?_ 0 _ rfl; exact BK606.out⟩, ⟨by repeat (first | (with_reducible first | exact HB.out | refine bS ?_ GE606.out))⟩⟩
    case round =>
     clear H'
     try clear hcz22_0
     try clear hcz22_1
     try clear hcz23_0
     try clear hcz23_1
     try clear hcz34_0
     try clear hcz34_1
     try clear hfz22_0
     try clear hfz22_1
     try clear hfz23_0
     try clear hfz23_1
     try clear hfz34_0
     try clear hfz34_1
     obtain ⟨x15_2, x607000_2, x607001_2, u607000, u607001, rfl, HA, HK2, HO_590000, HO_590001, HO_598000, HO_598001, HO_607000, HO_607001, BK589, BK597, BK606, HB⟩ := hrel
     cases gk with
     | zero => exact absurd HA.out (by simp [spec_l2Two.l0])
     | succ k2 =>
      have H := HA.out
      clear HA
      simp only [spec_l2Two.l0] at H
      by_cases c35 : x15_2 < (wrap64 (t598 + t599))
      ·rw [if_pos c35] at H
       have c35b0 : decide (x15_2 < (wrap64 (t598 + t599))) = true := decide_eq_true c35
       clear c35
       replace H := Option.bind_eq_some_iff.mp H
       obtain ⟨t609, A360, H⟩ := H
       replace H : ((spec_l1Bit.f t609).bind fun t610 => ((spec_l1Has.f t590 t593 x15_2).bind fun t611 => ((spec_l1Bit.f t611).bind fun t612 => (if 0 ≤ (wrap64 ((wrap64 (2 * t610)) + t612)) then (if x15_2 < t598 then (if x607000_2.length < 140737488355328 then (spec_l2Two.l0 k2 a2 t598 t599 (wrap64 (x15_2 + 1)) t582 t585 t590 t593 (x607000_2 ++ [((Go.bits .and .i64 (shr .i64 a2 (wrap64 ((wrap64 (2 * t610)) + t612))) 1) == 1)]) x607001_2) else (none)) else (if x607001_2.length < 140737488355328 then (spec_l2Two.l0 k2 a2 t598 t599 (wrap64 (x15_2 + 1)) t582 t585 t590 t593 x607000_2 (x607001_2 ++ [((Go.bits .and .i64 (shr .i64 a2 (wrap64 ((wrap64 (2 * t610)) + t612))) 1) == 1)])) else (none))) else (none))))) = some (r1, r2) := H
       have A36 := aM A360
       clear A360
       replace H := Option.bind_eq_some_iff.mp H
       obtain ⟨t610, A370, H⟩ := H
       replace H : ((spec_l1Has.f t590 t593 x15_2).bind fun t611 => ((spec_l1Bit.f t611).bind fun t612 => (if 0 ≤ (wrap64 ((wrap64 (2 * t610)) + t612)) then (if x15_2 < t598 then (if x607000_2.length < 140737488355328 then (spec_l2Two.l0 k2 a2 t598 t599 (wrap64 (x15_2 + 1)) t582 t585 t590 t593 (x607000_2 ++ [((Go.bits .and .i64 (shr .i64 a2 (wrap64 ((wrap64 (2 * t610)) + t612))) 1) == 1)]) x607001_2) else (none)) else (if x607001_2.length < 140737488355328 then (spec_l2Two.l0 k2 a2 t598 t599 (wrap64 (x15_2 + 1)) t582 t585 t590 t593 x607000_2 (x607001_2 ++ [((Go.bits .and .i64 (shr .i64 a2 (wrap64 ((wrap64 (2 * t610)) + t612))) 1) == 1)])) else (none))) else (none)))) = some (r1, r2) := H
       have A37 := aM A370
       clear A370
       replace H := Option.bind_eq_some_iff.mp H
       obtain ⟨t611, A380, H⟩ := H
       replace H : ((spec_l1Bit.f t611).bind fun t612 => (if 0 ≤ (wrap64 ((wrap64 (2 * t610)) + t612)) then (if x15_2 < t598 then (if x607000_2.length < 140737488355328 then (spec_l2Two.l0 k2 a2 t598 t599 (wrap64 (x15_2 + 1)) t582 t585 t590 t593 (x607000_2 ++ [((Go.bits .and .i64 (shr .i64 a2 (wrap64 ((wrap64 (2 * t610)) + t612))) 1) == 1)]) x607001_2) else (none)) else (if x607001_2.length < 140737488355328 then (spec_l2Two.l0 k2 a2 t598 t599 (wrap64 (x15_2 + 1)) t582 t585 t590 t593 x607000_2 (x607001_2 ++ [((Go.bits .and .i64 (shr .i64 a2 (wrap64 ((wrap64 (2 * t610)) + t612))) 1) == 1)])) else (none))) else (none))) = some (r1, r2) := H
       have A38 := aM A380
       clear A380
       replace H := Option.bind_eq_some_iff.mp H
       obtain ⟨t612, A390, H⟩ := H
       replace H : (if 0 ≤ (wrap64 ((wrap64 (2 * t610)) + t612)) then (if x15_2 < t598 then (if x607000_2.length < 140737488355328 then (spec_l2Two.l0 k2 a2 t598 t599 (wrap64 (x15_2 + 1)) t582 t585 t590 t593 (x607000_2 ++ [((Go.bits .and .i64 (shr .i64 a2 (wrap64 ((wrap64 (2 * t610)) + t612))) 1) == 1)]) x607001_2) else (none)) else (if x607001_2.length < 140737488355328 then (spec_l2Two.l0 k2 a2 t598 t599 (wrap64 (x15_2 + 1)) t582 t585 t590 t593 x607000_2 (x607001_2 ++ [((Go.bits .and .i64 (shr .i64 a2 (wrap64 ((wrap64 (2 * t610)) + t612))) 1) == 1)])) else (none))) else (none)) = some (r1, r2) := H
       have A39 := aM A390
       clear A390
       obtain ⟨ji40, hji40⟩ : ∃ j_ : Int, (wrap64 ((wrap64 (2 * t610)) + t612)) = j_ := ⟨_, rfl⟩
       replace H : (if 0 ≤ (ji40) then (if x15_2 < t598 then (if x607000_2.length < 140737488355328 then (spec_l2Two.l0 k2 a2 t598 t599 (wrap64 (x15_2 + 1)) t582 t585 t590 t593 (x607000_2 ++ [((Go.bits .and .i64 (shr .i64 a2 (ji40)) 1) == 1)]) x607001_2) else (none)) else (if x607001_2.length < 140737488355328 then (spec_l2Two.l0 k2 a2 t598 t599 (wrap64 (x15_2 + 1)) t582 t585 t590 t593 x607000_2 (x607001_2 ++ [((Go.bits .and .i64 (shr .i64 a2 (ji40)) 1) == 1)])) else (none))) else (none)) = some (r1, r2) := by first | (rw [hji40] at H; exact H)
       have hji40w : (IntKind.i64.wrap ((wrap64 (2 * t610)) + t612)) = ji40 := (i64_w _).trans hji40
       by_cases c41 : 0 ≤ (ji40)
       ·rw [if_pos c41] at H
        have c41b0 := eq_true c41
        have c41b1 : decide (0 ≤ (ji40)) = true := decide_eq_true c41
        clear c41
        obtain ⟨ji42, hji42⟩ : ∃ j_ : Int, (shr .i64 a2 (ji40)) = j_ := ⟨_, rfl⟩
        replace H : (if x15_2 < t598 then (if x607000_2.length < 140737488355328 then (spec_l2Two.l0 k2 a2 t598 t599 (wrap64 (x15_2 + 1)) t582 t585 t590 t593 (x607000_2 ++ [((Go.bits .and .i64 (ji42) 1) == 1)]) x607001_2) else (none)) else (if x607001_2.length < 140737488355328 then (spec_l2Two.l0 k2 a2 t598 t599 (wrap64 (x15_2 + 1)) t582 t585 t590 t593 x607000_2 (x607001_2 ++ [((Go.bits .and .i64 (ji42) 1) == 1)])) else (none))) = some (r1, r2) := by first | (rw [hji42] at H; exact H)
        have hji42_ : (a2 / 2 ^ min (ji40).toNat 64) = ji42 := hji42
        have hji42z : (ji40) ≤ 64 → (a2 / 2 ^ (ji40).toNat) = ji42 := shr_small hji42
        by_cases c43 : x15_2 < t598
        ·rw [if_pos c43] at H
         have c43b0 : decide (x15_2 < t598) = true := decide_eq_true c43
         clear c43
         by_cases c44 : x607000_2.length < 140737488355328
         ·rw [if_pos c44] at H
          have LMc44 := aM c44
          clear c44
          obtain ⟨y613, hy613⟩ : ∃ y_ : List Bool, y_ = (x607000_2 ++ [((Go.bits .and .i64 (ji42) 1) == 1)]) := ⟨_, rfl⟩
          replace H : (spec_l2Two.l0 k2 a2 t598 t599 (wrap64 (x15_2 + 1)) t582 t585 t590 t593 y613 x607001_2) = some (r1, r2) := by first | (rw [hy613]; with_reducible exact H)
          have Ny613 := aM hy613
          clear hy613
          have H' := aM H
          clear H
          try go_wp2
          replace HO_590000 := aM (rD HO_590000.out)
          replace HO_590001 := aM (rD HO_590001.out)
          replace HO_598000 := aM (rD HO_598000.out)
          replace HO_598001 := aM (rD HO_598001.out)
          replace HO_607000 := aM (rD HO_607000.out)
          replace HO_607001 := aM (rD HO_607001.out)
          replace BK589 := aM (kD BK589.out)
          replace BK597 := aM (kD BK597.out)
          replace BK606 := aM (kD BK606.out)
          replace HB := aM (b1 HB.out)
          refine start_ (n := 15) (S := fun w' => w'.cell? ⟨gb589, 0, none⟩ = some (.slice Ao9 t582.length co9) ∧ w'.cell? ⟨gb589, 1, none⟩ = some (.slice Ao11 t585.length co11) ∧ w'.cell? ⟨gb597, 0, none⟩ = some (.slice Ao14 t590.length co14) ∧ w'.cell? ⟨gb597, 1, none⟩ = some (.slice Ao17 t593.length co17)) (ds := []) #[false, false, false, false, false, false, false, false, false, false, false, false, false, false, false] (by kernel_rfl) rfl rfl ⟨(blk_cell BK589.out 0).trans rfl, (blk_cell BK589.out 1).trans rfl, (blk_cell BK597.out 0).trans rfl, (blk_cell BK597.out 1).trans rfl⟩ (fun hHeld => ?_); refine with_tabW spec_l2Two.tab10 spec_l2Two.bits10 (fun HT_ HW_ => ?_)
          generalize wr.drew = w45 at HO_590000 HO_590001 HO_598000 HO_598001 HO_607000 HO_607001 BK589 BK597 BK606 HB hHeld ⊢
          refine pure_ (i := 0) (N := some 49) (v := ?_) (a' := ?_) #[true, false, false, false, false, false, false, false, false, false, false, false, false, false, false] rfl rfl (any_of HT_.out (by kernel_rfl)) (fun _ _ _ h => h) (Or.inl ⟨by rfl, ?_⟩) ?_ ?_
          rotate_left
          ·intro w'
           go_simp
           with_reducible rfl
          rotate_left
          ·simp only [Act.put, sA, sZ, sS, i64_w, i32_w]
           rfl
          refine pure_ (i := 2) (N := some 51) (v := ?_) (a' := ?_) #[true, false, true, false, false, false, false, false, false, false, false, false, false, false, false] rfl rfl (any_of HT_.out (by kernel_rfl)) (fun _ _ _ h => h) (Or.inl ⟨by rfl, ?_⟩) ?_ ?_
          rotate_left
          ·intro w'
           go_simp
           with_reducible rfl
          rotate_left
          ·simp only [Act.put, sA, sZ, sS, i64_w, i32_w]
           rfl
          refine pure_ (i := 7) (N := some 56) (v := ?_) (a' := ?_) #[true, false, true, false, false, false, false, true, false, false, false, false, false, false, false] rfl rfl (any_of HT_.out (by kernel_rfl)) (fun _ _ _ h => h) (Or.inl ⟨by rfl, ?_⟩) ?_ ?_
          rotate_left
          ·intro w'
           go_simp
           with_reducible rfl
          rotate_left
          ·simp only [Act.put, sA, sZ, sS, i64_w, i32_w]
           rfl
          refine take_ (i := 1) (N := some 50) (v := ?_) (a' := ?_) #[true, true, true, false, false, false, false, true, false, false, false, false, false, false, false] rfl rfl (take_ofW HT_.out HW_.out (by kernel_rfl)) (fun _ _ _ h => h) (Or.inl ⟨by rfl, ?_⟩) hHeld ?_ ?_
          rotate_left
          ·rintro w' ⟨s0, s1, s2, s3⟩
           go_simp
           with_reducible rfl
          rotate_left
          ·simp only [Act.put, sA, sZ, sS, i64_w, i32_w]
           rfl
          refine take_ (i := 6) (N := some 55) (v := ?_) (a' := ?_) #[true, true, true, false, false, false, true, true, false, false, false, false, false, false, false] rfl rfl (take_ofW HT_.out HW_.out (by kernel_rfl)) (fun _ _ _ h => h) (Or.inl ⟨by rfl, ?_⟩) hHeld ?_ ?_
          rotate_left
          ·rintro w' ⟨s0, s1, s2, s3⟩
           go_simp
           with_reducible rfl
          rotate_left
          ·simp only [Act.put, sA, sZ, sS, i64_w, i32_w]
           rfl
          refine one_ (i := 3) (N := some 52) #[true, true, true, true, false, false, true, true, false, false, false, false, false, false, false] rfl rfl (one_of HT_.out (by kernel_rfl)) (by decide) (fun K hK => ?_)
          refine goes_ Try.func97 (by kernel_rfl) rfl #[.agg #[.slice Ao9 t582.length co9, .slice Ao11 t585.length co11], .int .i64 x15_2] (by rfl) rfl rfl (by (try simp only [List.map_toArray, List.map_cons, List.map_nil]); rfl) ?_
          with_reducible refine (spec_l1Has.calls _ _ t582 _ _ t585 x15_2 t609 _ ?side1 ?side2 ?side3 ?side4 A36.out).mono ?_
          (case side1 => repeat (exact (Kd.R_reads' HO_590000.out).2.2))
          (case side2 => exact (Kd.R_reads' HO_590000.out).2.1)
          (case side3 => repeat (exact (Kd.R_reads' HO_590001.out).2.2))
          (case side4 => exact (Kd.R_reads' HO_590001.out).2.1)
          rintro e w46 ⟨rfl, hb⟩
          refine ⟨_, rfl, ?_⟩
          replace HO_590000 := aM (Kd.R_below HO_590000.out hb)
          replace HO_590001 := aM (Kd.R_below HO_590001.out hb)
          replace HO_598000 := aM (Kd.R_below HO_598000.out hb)
          replace HO_598001 := aM (Kd.R_below HO_598001.out hb)
          replace HO_607000 := aM (Kd.R_below HO_607000.out hb)
          replace HO_607001 := aM (Kd.R_below HO_607001.out hb)
          replace BK589 := aM (blk_below (g := gb589) (o := .cells #[.slice Ao9 t582.length co9, .slice Ao11 t585.length co11] 94 (0, 0)) BK589.out hb)
          replace BK597 := aM (blk_below (g := gb597) (o := .cells #[.slice Ao14 t590.length co14, .slice Ao17 t593.length co17] 94 (0, 0)) BK597.out hb)
          replace BK606 := aM (blk_below (g := gb606) (o := .cells #[u607000, u607001] 94 (0, 0)) BK606.out hb)
          replace HB := aM (below_step HB.out hb)
          (try clear hb)
          refine hK.out _ _ ⟨(blk_cell BK589.out 0).trans rfl, (blk_cell BK589.out 1).trans rfl, (blk_cell BK597.out 0).trans rfl, (blk_cell BK597.out 1).trans rfl⟩ (fun hHeld => ?_)
          clear hK K
          refine norm_ (a' := ?_) ?_ ?_
          rotate_left
          ·show Act.put _ (some 52) _ = _
           simp only [Act.put, sA, sZ, sS, i64_w, i32_w]
           rfl
          refine one_ (i := 4) (N := some 53) #[true, true, true, true, true, false, true, true, false, false, false, false, false, false, false] rfl rfl (one_of HT_.out (by kernel_rfl)) (by decide) (fun K hK => ?_)
          refine goes_ Try.func44 (by kernel_rfl) rfl #[.bool t609] (by rfl) rfl rfl (by (try simp only [List.map_toArray, List.map_cons, List.map_nil]); rfl) ?_
          with_reducible refine (spec_l1Bit.calls t609 t610 _ A37.out).mono ?_
          rintro e w' ⟨rfl, ⟨nd, rfl⟩⟩
          refine ⟨_, rfl, ?_⟩
          refine hK.out _ _ ⟨(blk_cell BK589.out 0).trans rfl, (blk_cell BK589.out 1).trans rfl, (blk_cell BK597.out 0).trans rfl, (blk_cell BK597.out 1).trans rfl⟩ (fun hHeld => ?_)
          clear hK K
          refine norm_ (a' := ?_) ?_ ?_
          rotate_left
          ·show Act.put _ (some 53) _ = _
           simp only [Act.put, sA, sZ, sS, i64_w, i32_w]
           rfl
          refine pure_ (i := 5) (N := some 54) (v := ?_) (a' := ?_) #[true, true, true, true, true, true, true, true, false, false, false, false, false, false, false] rfl rfl (any_of HT_.out (by kernel_rfl)) (fun _ _ _ h => h) (Or.inl ⟨by rfl, ?_⟩) ?_ ?_
          rotate_left
          ·intro w'
           go_simp
           with_reducible rfl
          rotate_left
          ·simp only [Act.put, sA, sZ, sS, i64_w, i32_w]
           rfl
          refine one_ (i := 8) (N := some 57) #[true, true, true, true, true, true, true, true, true, false, false, false, false, false, false] rfl rfl (one_of HT_.out (by kernel_rfl)) (by decide) (fun K hK => ?_)
          refine goes_ Try.func97 (by kernel_rfl) rfl #[.agg #[.slice Ao14 t590.length co14, .slice Ao17 t593.length co17], .int .i64 x15_2] (by rfl) rfl rfl (by (try simp only [List.map_toArray, List.map_cons, List.map_nil]); rfl) ?_
          with_reducible refine (spec_l1Has.calls _ _ t590 _ _ t593 x15_2 t611 _ ?side1 ?side2 ?side3 ?side4 A38.out).mono ?_
          (case side1 => repeat (exact (Kd.R_reads' HO_598000.out).2.2))
          (case side2 => exact (Kd.R_reads' HO_598000.out).2.1)
          (case side3 => repeat (exact (Kd.R_reads' HO_598001.out).2.2))
          (case side4 => exact (Kd.R_reads' HO_598001.out).2.1)
          rintro e w47 ⟨rfl, hb⟩
          refine ⟨_, rfl, ?_⟩
          replace HO_590000 := aM (Kd.R_below (by (with_reducible repeat (apply rN)); exact HO_590000.out) hb)
          replace HO_590001 := aM (Kd.R_below (by (with_reducible repeat (apply rN)); exact HO_590001.out) hb)
          replace HO_598000 := aM (Kd.R_below (by (with_reducible repeat (apply rN)); exact HO_598000.out) hb)
          replace HO_598001 := aM (Kd.R_below (by (with_reducible repeat (apply rN)); exact HO_598001.out) hb)
          replace HO_607000 := aM (Kd.R_below (by (with_reducible repeat (apply rN)); exact HO_607000.out) hb)
          replace HO_607001 := aM (Kd.R_below (by (with_reducible repeat (apply rN)); exact HO_607001.out) hb)
          replace BK589 := aM (blk_below (g := gb589) (o := .cells #[.slice Ao9 t582.length co9, .slice Ao11 t585.length co11] 94 (0, 0)) (by (with_reducible repeat (refine kN ?_ _)); exact BK589.out) hb)
          replace BK597 := aM (blk_below (g := gb597) (o := .cells #[.slice Ao14 t590.length co14, .slice Ao17 t593.length co17] 94 (0, 0)) (by (with_reducible repeat (refine kN ?_ _)); exact BK597.out) hb)
          replace BK606 := aM (blk_below (g := gb606) (o := .cells #[u607000, u607001] 94 (0, 0)) (by (with_reducible repeat (refine kN ?_ _)); exact BK606.out) hb)
          replace HB := aM (below_step (by repeat (first | (with_reducible first | exact HB.out | apply bN))) hb)
          (try clear hb)
          refine hK.out _ _ ⟨(blk_cell BK589.out 0).trans rfl, (blk_cell BK589.out 1).trans rfl, (blk_cell BK597.out 0).trans rfl, (blk_cell BK597.out 1).trans rfl⟩ (fun hHeld => ?_)
          clear hK K
          refine norm_ (a' := ?_) ?_ ?_
          rotate_left
          ·show Act.put _ (some 57) _ = _
           simp only [Act.put, sA, sZ, sS, i64_w, i32_w]
           rfl
          refine one_ (i := 9) (N := some 58) #[true, true, true, true, true, true, true, true, true, true, false, false, false, false, false] rfl rfl (one_of HT_.out (by kernel_rfl)) (by decide) (fun K hK => ?_)
          refine goes_ Try.func44 (by kernel_rfl) rfl #[.bool t611] (by rfl) rfl rfl (by (try simp only [List.map_toArray, List.map_cons, List.map_nil]); rfl) ?_
          with_reducible refine (spec_l1Bit.calls t611 t612 _ A39.out).mono ?_
          rintro e w' ⟨rfl, ⟨nd, rfl⟩⟩
          refine ⟨_, rfl, ?_⟩
          refine hK.out _ _ ⟨(blk_cell BK589.out 0).trans rfl, (blk_cell BK589.out 1).trans rfl, (blk_cell BK597.out 0).trans rfl, (blk_cell BK597.out 1).trans rfl⟩ (fun hHeld => ?_)
          clear hK K
          refine norm_ (a' := ?_) ?_ ?_
          rotate_left
          ·show Act.put _ (some 58) _ = _
           simp only [Act.put, sA, sZ, sS, i64_w, i32_w]
           rfl
          refine pure_ (i := 10) (N := some 59) (v := ?_) (a' := ?_) #[true, true, true, true, true, true, true, true, true, true, true, false, false, false, false] rfl rfl (any_of HT_.out (by kernel_rfl)) (fun _ _ _ h => h) (Or.inl ⟨by rfl, ?_⟩) ?_ ?_
          rotate_left
          ·intro w'
           go_simp
           with_reducible rfl
          rotate_left
          ·simp only [Act.put, sA, sZ, sS, i64_w, i32_w]
           rfl
          refine pure_ (i := 11) (N := some 60) (v := ?_) (a' := ?_) #[true, true, true, true, true, true, true, true, true, true, true, true, false, false, false] rfl rfl (any_of HT_.out (by kernel_rfl)) (fun _ _ _ h => h) (Or.inl ⟨by rfl, ?_⟩) ?_ ?_
          rotate_left
          ·intro w'
           go_simp
           with_reducible rfl
          rotate_left
          ·simp only [Act.put, sA, sZ, sS, i64_w, i32_w]
           rfl
          refine pure_ (i := 12) (N := some 61) (v := ?_) (a' := ?_) #[true, true, true, true, true, true, true, true, true, true, true, true, true, false, false] rfl rfl (any_of HT_.out (by kernel_rfl)) (fun _ _ _ h => h) (Or.inl ⟨by rfl, ?_⟩) ?_ ?_
          rotate_left
          ·intro w'
           go_simp
           with_reducible rfl
          rotate_left
          ·simp only [Act.put, sA, sZ, sS, i64_w, i32_w]
           rfl
          refine pure_ (i := 13) (N := some 62) (v := ?_) (a' := ?_) #[true, true, true, true, true, true, true, true, true, true, true, true, true, true, false] rfl rfl (any_of HT_.out (by kernel_rfl)) (fun _ _ _ h => h) (Or.inl ⟨by rfl, ?_⟩) ?_ ?_
          rotate_left
          ·intro w'
           go_simp
           with_reducible rfl
          rotate_left
          ·simp only [Act.put, sA, sZ, sS, i64_w, i32_w]
           rfl
          refine pure_ (i := 14) (N := some 16) (v := ?_) (a' := ?_) #[true, true, true, true, true, true, true, true, true, true, true, true, true, true, true] rfl rfl (any_of HT_.out (by kernel_rfl)) (fun _ _ _ h => h) (Or.inl ⟨by rfl, ?_⟩) ?_ ?_
          rotate_left
          ·intro w'
           go_simp
           with_reducible rfl
          rotate_left
          ·simp only [Act.put, sA, sZ, sS, i64_w, i32_w]
           rfl
          refine done_ (done_of HT_.out (by kernel_rfl)) ?_
          have hnb48 := NB606_589.out
          have hnc48 := NB589_606.out
          have hnb49 := NB606_597.out
          have hnc49 := NB597_606.out
          have hcz50_0 : w47.cell? ⟨gb606, 0, none⟩ = some (u607000) := (blk_cell BK606.out 0).trans rfl
          have hcz50_1 : w47.cell? ⟨gb606, 1, none⟩ = some (u607001) := (blk_cell BK606.out 1).trans rfl
          have hfz50_0 := blk_frozen BK606.out 0
          have hfz50_1 := blk_frozen BK606.out 1
          try go_wp2_with (first | ((with_reducible refine gate_builtin (b := .append) (xs := #[.tmp 67, .tmp 69]) rfl ?_); at_builtin; refine Kd.R_append Kd.bool (w0 := w) w.heap.size rfl (.tmp 67) (.tmp 69) 52 4 (.bool false) 1 rfl Try.underlying52 info4 rfl (by decide) (by omega) u607000 x607000_2 ((Go.bits .and .i64 (ji42) 1) == 1) [.bool ((Go.bits .and .i64 (ji42) 1) == 1)] (fun k_ => some k_ ≠ (.slice Ao9 t582.length co9 : Value).ownBlock ∧ some k_ ≠ (.slice Ao11 t585.length co11 : Value).ownBlock ∧ some k_ ≠ (.slice Ao14 t590.length co14 : Value).ownBlock ∧ some k_ ≠ (.slice Ao17 t593.length co17 : Value).ownBlock ∧ some k_ ≠ (u607001 : Value).ownBlock) (fun _ => False) rfl rfl ?aP (fun _ hk => hk.elim) ?aF ?aO ?aB ?aS ?aL ?_; (case aP => exact rfl); (case aB => exact (by repeat (first | (with_reducible first | exact HB.out | apply bN)))); (case aF => exact (fun k_ hk => ⟨Kd.fresh' (Kd.R_lt (by (with_reducible repeat (apply rN)); exact HO_590000.out)) k_ hk, Kd.fresh' (Kd.R_lt (by (with_reducible repeat (apply rN)); exact HO_590001.out)) k_ hk, Kd.fresh' (Kd.R_lt (by (with_reducible repeat (apply rN)); exact HO_598000.out)) k_ hk, Kd.fresh' (Kd.R_lt (by (with_reducible repeat (apply rN)); exact HO_598001.out)) k_ hk, Kd.fresh' (Kd.R_lt (by (with_reducible repeat (apply rN)); exact HO_607001.out)) k_ hk⟩)); (case aO => exact (by (with_reducible repeat (apply rN)); exact HO_607000.out)); (case aS => exact (below_size (by repeat (first | (with_reducible first | exact HB.out | apply bN))))); (case aL => have := LMc44.out; omega); intro v614 w51 ho hb hg hat; rw [← Ny613.out] at ho; replace HO_590000 := aM (Kd.R_after (ok := (fun k_ => some k_ ≠ (.slice Ao11 t585.length co11 : Value).ownBlock ∧ some k_ ≠ (.slice Ao14 t590.length co14 : Value).ownBlock ∧ some k_ ≠ (.slice Ao17 t593.length co17 : Value).ownBlock ∧ some k_ ≠ (u607001 : Value).ownBlock)) (by (with_reducible repeat (apply rN)); exact Kd.R_mono HO_590000.out (fun _ hk => ⟨⟨hk.1, ⟨hk.2.1, ⟨hk.2.2.1, hk.2.2.2.2⟩⟩⟩, hk.2.2.2.1⟩)) hg hat); replace HO_590001 := aM (Kd.R_after (ok := (fun k_ => some k_ ≠ (.slice Ao9 t582.length co9 : Value).ownBlock ∧ some k_ ≠ (.slice Ao14 t590.length co14 : Value).ownBlock ∧ some k_ ≠ (.slice Ao17 t593.length co17 : Value).ownBlock ∧ some k_ ≠ (u607001 : Value).ownBlock)) (by (with_reducible repeat (apply rN)); exact Kd.R_mono HO_590001.out (fun _ hk => ⟨⟨hk.1, ⟨hk.2.1, ⟨hk.2.2.1, hk.2.2.2.2⟩⟩⟩, hk.2.2.2.1⟩)) hg hat); replace HO_598000 := aM (Kd.R_after (ok := (fun k_ => some k_ ≠ (.slice Ao9 t582.length co9 : Value).ownBlock ∧ some k_ ≠ (.slice Ao11 t585.length co11 : Value).ownBlock ∧ some k_ ≠ (.slice Ao17 t593.length co17 : Value).ownBlock ∧ some k_ ≠ (u607001 : Value).ownBlock)) (by (with_reducible repeat (apply rN)); exact Kd.R_mono HO_598000.out (fun _ hk => ⟨⟨hk.1, ⟨hk.2.1, ⟨hk.2.2.1, hk.2.2.2.2⟩⟩⟩, hk.2.2.2.1⟩)) hg hat); replace HO_598001 := aM (Kd.R_after (ok := (fun k_ => some k_ ≠ (.slice Ao9 t582.length co9 : Value).ownBlock ∧ some k_ ≠ (.slice Ao11 t585.length co11 : Value).ownBlock ∧ some k_ ≠ (.slice Ao14 t590.length co14 : Value).ownBlock ∧ some k_ ≠ (u607001 : Value).ownBlock)) (by (with_reducible repeat (apply rN)); exact Kd.R_mono HO_598001.out (fun _ hk => ⟨⟨hk.1, ⟨hk.2.1, ⟨hk.2.2.1, hk.2.2.2.2⟩⟩⟩, hk.2.2.2.1⟩)) hg hat); replace HO_607001 := aM (Kd.R_after (ok := (fun k_ => some k_ ≠ (.slice Ao9 t582.length co9 : Value).ownBlock ∧ some k_ ≠ (.slice Ao11 t585.length co11 : Value).ownBlock ∧ some k_ ≠ (.slice Ao14 t590.length co14 : Value).ownBlock ∧ some k_ ≠ (.slice Ao17 t593.length co17 : Value).ownBlock)) (by (with_reducible repeat (apply rN)); exact Kd.R_mono HO_607001.out (fun _ hk => ⟨⟨hk.1, ⟨hk.2.1, ⟨hk.2.2.1, hk.2.2.2.1⟩⟩⟩, hk.2.2.2.2⟩)) hg hat); replace BK589 := aM (blk_grown (g := gb589) (o := .cells #[.slice Ao9 t582.length co9, .slice Ao11 t585.length co11] 94 (0, 0)) (by (with_reducible repeat (refine kN ?_ _)); exact BK589.out) hg (Kd.R_ne HO_607000.out BK589.out (by decide))); replace BK597 := aM (blk_grown (g := gb597) (o := .cells #[.slice Ao14 t590.length co14, .slice Ao17 t593.length co17] 94 (0, 0)) (by (with_reducible repeat (refine kN ?_ _)); exact BK597.out) hg (Kd.R_ne HO_607000.out BK597.out (by decide))); replace BK606 := aM (blk_grown (g := gb606) (o := .cells #[u607000, u607001] 94 (0, 0)) (by (with_reducible repeat (refine kN ?_ _)); exact BK606.out) hg (Kd.R_ne HO_607000.out BK606.out (by decide))); replace HB := aM hb; have HO615 := aM ho; clear HO_607000; clear ho hb hg hat; obtain ⟨Ao52, co52, eo52⟩ := Kd.R_slice HO615.out; subst eo52; have hcz53_0 : w51.cell? ⟨gb606, 0, none⟩ = some (u607000) := (blk_cell BK606.out 0).trans rfl; have hcz53_1 : w51.cell? ⟨gb606, 1, none⟩ = some (u607001) := (blk_cell BK606.out 1).trans rfl; have hfz53_0 := blk_frozen BK606.out 0; have hfz53_1 := blk_frozen BK606.out 1))
          go_roundg k2
          case measure => have := HJ5.out; have := HK2.out; omega
          case rel => exact ⟨(wrap64 (x15_2 + 1)), (y613), (x607001_2), (.slice Ao52 y613.length co52), (u607001), (by rfl), H', ⟨by have := HJ5.out; have := HK2.out; omega⟩, ⟨by exact Kd.R_mono (Kd.R_far (p := ⟨gb606, 0, none⟩) (Kd.R_types HO_590000.out BK606.out (by decide)) (fun _ hk => hk.2) (.slice Ao52 y613.length co52)) (fun _ hk => ⟨hk.1.1.1, ⟨hk.1.1.2.1, ⟨hk.1.1.2.2.1, ⟨hk.1.2, hk.1.1.2.2.2⟩⟩⟩⟩)⟩, ⟨by exact Kd.R_mono (Kd.R_far (p := ⟨gb606, 0, none⟩) (Kd.R_types HO_590001.out BK606.out (by decide)) (fun _ hk => hk.2) (.slice Ao52 y613.length co52)) (fun _ hk => ⟨hk.1.1.1, ⟨hk.1.1.2.1, ⟨hk.1.1.2.2.1, ⟨hk.1.2, hk.1.1.2.2.2⟩⟩⟩⟩)⟩, ⟨by exact Kd.R_mono (Kd.R_far (p := ⟨gb606, 0, none⟩) (Kd.R_types HO_598000.out BK606.out (by decide)) (fun _ hk => hk.2) (.slice Ao52 y613.length co52)) (fun _ hk => ⟨hk.1.1.1, ⟨hk.1.1.2.1, ⟨hk.1.1.2.2.1, ⟨hk.1.2, hk.1.1.2.2.2⟩⟩⟩⟩)⟩, ⟨by exact Kd.R_mono (Kd.R_far (p := ⟨gb606, 0, none⟩) (Kd.R_types HO_598001.out BK606.out (by decide)) (fun _ hk => hk.2) (.slice Ao52 y613.length co52)) (fun _ hk => ⟨hk.1.1.1, ⟨hk.1.1.2.1, ⟨hk.1.1.2.2.1, ⟨hk.1.2, hk.1.1.2.2.2⟩⟩⟩⟩)⟩, ⟨by exact Kd.R_mono (Kd.R_far (p := ⟨gb606, 0, none⟩) (Kd.R_types HO615.out BK606.out (by decide)) (fun _ hk => hk.2) (.slice Ao52 y613.length co52)) (fun _ hk => ⟨hk.1.1, ⟨hk.1.2.1, ⟨hk.1.2.2.1, ⟨hk.1.2.2.2.1, hk.1.2.2.2.2⟩⟩⟩⟩)⟩, ⟨by exact Kd.R_mono (Kd.R_far (p := ⟨gb606, 0, none⟩) (Kd.R_types HO_607001.out BK606.out (by decide)) (fun _ hk => hk.2) (.slice Ao52 y613.length co52)) (fun _ hk => ⟨hk.1.1.1, ⟨hk.1.1.2.1, ⟨hk.1.1.2.2.1, ⟨hk.1.1.2.2.2, hk.1.2⟩⟩⟩⟩)⟩, ⟨by refine blk_far ?_ NB589_606.out _; exact BK589.out⟩, ⟨by refine blk_far ?_ NB597_606.out _; exact BK597.out⟩, ⟨by refine blk_put (cs := #[u607000, u607001]) ?_ 0 _ rfl; exact BK606.out⟩, ⟨by repeat (first | (with_reducible first | exact HB.out | refine bS ?_ GE606.out))⟩⟩
         ·rw [if_neg c44] at H
          exact absurd H (by simp)
        ·rw [if_neg c43] at H
         have c43b0 : decide (x15_2 < t598) = false := decide_eq_false c43
         clear c43
         by_cases c54 : x607001_2.length < 140737488355328
         ·rw [if_pos c54] at H
          have LMc54 := aM c54
          clear c54
          obtain ⟨y616, hy616⟩ : ∃ y_ : List Bool, y_ = (x607001_2 ++ [((Go.bits .and .i64 (ji42) 1) == 1)]) := ⟨_, rfl⟩
          replace H : (spec_l2Two.l0 k2 a2 t598 t599 (wrap64 (x15_2 + 1)) t582 t585 t590 t593 x607000_2 y616) = some (r1, r2) := by first | (rw [hy616]; with_reducible exact H)
          have Ny616 := aM hy616
          clear hy616
          have H' := aM H
          clear H
          try go_wp2
          replace HO_590000 := aM (rD HO_590000.out)
          replace HO_590001 := aM (rD HO_590001.out)
          replace HO_598000 := aM (rD HO_598000.out)
          replace HO_598001 := aM (rD HO_598001.out)
          replace HO_607000 := aM (rD HO_607000.out)
          replace HO_607001 := aM (rD HO_607001.out)
          replace BK589 := aM (kD BK589.out)
          replace BK597 := aM (kD BK597.out)
          replace BK606 := aM (kD BK606.out)
          replace HB := aM (b1 HB.out)
          refine start_ (n := 15) (S := fun w' => w'.cell? ⟨gb589, 0, none⟩ = some (.slice Ao9 t582.length co9) ∧ w'.cell? ⟨gb589, 1, none⟩ = some (.slice Ao11 t585.length co11) ∧ w'.cell? ⟨gb597, 0, none⟩ = some (.slice Ao14 t590.length co14) ∧ w'.cell? ⟨gb597, 1, none⟩ = some (.slice Ao17 t593.length co17)) (ds := []) #[false, false, false, false, false, false, false, false, false, false, false, false, false, false, false] (by kernel_rfl) rfl rfl ⟨(blk_cell BK589.out 0).trans rfl, (blk_cell BK589.out 1).trans rfl, (blk_cell BK597.out 0).trans rfl, (blk_cell BK597.out 1).trans rfl⟩ (fun hHeld => ?_); refine with_tabW spec_l2Two.tab10 spec_l2Two.bits10 (fun HT_ HW_ => ?_)
          generalize wr.drew = w55 at HO_590000 HO_590001 HO_598000 HO_598001 HO_607000 HO_607001 BK589 BK597 BK606 HB hHeld ⊢
          refine pure_ (i := 0) (N := some 49) (v := ?_) (a' := ?_) #[true, false, false, false, false, false, false, false, false, false, false, false, false, false, false] rfl rfl (any_of HT_.out (by kernel_rfl)) (fun _ _ _ h => h) (Or.inl ⟨by rfl, ?_⟩) ?_ ?_
          rotate_left
          ·intro w'
           go_simp
           with_reducible rfl
          rotate_left
          ·simp only [Act.put, sA, sZ, sS, i64_w, i32_w]
           rfl
          refine pure_ (i := 2) (N := some 51) (v := ?_) (a' := ?_) #[true, false, true, false, false, false, false, false, false, false, false, false, false, false, false] rfl rfl (any_of HT_.out (by kernel_rfl)) (fun _ _ _ h => h) (Or.inl ⟨by rfl, ?_⟩) ?_ ?_
          rotate_left
          ·intro w'
           go_simp
           with_reducible rfl
          rotate_left
          ·simp only [Act.put, sA, sZ, sS, i64_w, i32_w]
           rfl
          refine pure_ (i := 7) (N := some 56) (v := ?_) (a' := ?_) #[true, false, true, false, false, false, false, true, false, false, false, false, false, false, false] rfl rfl (any_of HT_.out (by kernel_rfl)) (fun _ _ _ h => h) (Or.inl ⟨by rfl, ?_⟩) ?_ ?_
          rotate_left
          ·intro w'
           go_simp
           with_reducible rfl
          rotate_left
          ·simp only [Act.put, sA, sZ, sS, i64_w, i32_w]
           rfl
          refine take_ (i := 1) (N := some 50) (v := ?_) (a' := ?_) #[true, true, true, false, false, false, false, true, false, false, false, false, false, false, false] rfl rfl (take_ofW HT_.out HW_.out (by kernel_rfl)) (fun _ _ _ h => h) (Or.inl ⟨by rfl, ?_⟩) hHeld ?_ ?_
          rotate_left
          ·rintro w' ⟨s0, s1, s2, s3⟩
           go_simp
           with_reducible rfl
          rotate_left
          ·simp only [Act.put, sA, sZ, sS, i64_w, i32_w]
           rfl
          refine take_ (i := 6) (N := some 55) (v := ?_) (a' := ?_) #[true, true, true, false, false, false, true, true, false, false, false, false, false, false, false] rfl rfl (take_ofW HT_.out HW_.out (by kernel_rfl)) (fun _ _ _ h => h) (Or.inl ⟨by rfl, ?_⟩) hHeld ?_ ?_
          rotate_left
          ·rintro w' ⟨s0, s1, s2, s3⟩
           go_simp
           with_reducible rfl
          rotate_left
          ·simp only [Act.put, sA, sZ, sS, i64_w, i32_w]
           rfl
          refine one_ (i := 3) (N := some 52) #[true, true, true, true, false, false, true, true, false, false, false, false, false, false, false] rfl rfl (one_of HT_.out (by kernel_rfl)) (by decide) (fun K hK => ?_)
          refine goes_ Try.func97 (by kernel_rfl) rfl #[.agg #[.slice Ao9 t582.length co9, .slice Ao11 t585.length co11], .int .i64 x15_2] (by rfl) rfl rfl (by (try simp only [List.map_toArray, List.map_cons, List.map_nil]); rfl) ?_
          with_reducible refine (spec_l1Has.calls _ _ t582 _ _ t585 x15_2 t609 _ ?side1 ?side2 ?side3 ?side4 A36.out).mono ?_
          (case side1 => repeat (exact (Kd.R_reads' HO_590000.out).2.2))
          (case side2 => exact (Kd.R_reads' HO_590000.out).2.1)
          (case side3 => repeat (exact (Kd.R_reads' HO_590001.out).2.2))
          (case side4 => exact (Kd.R_reads' HO_590001.out).2.1)
          rintro e w56 ⟨rfl, hb⟩
          refine ⟨_, rfl, ?_⟩
          replace HO_590000 := aM (Kd.R_below HO_590000.out hb)
          replace HO_590001 := aM (Kd.R_below HO_590001.out hb)
          replace HO_598000 := aM (Kd.R_below HO_598000.out hb)
          replace HO_598001 := aM (Kd.R_below HO_598001.out hb)
          replace HO_607000 := aM (Kd.R_below HO_607000.out hb)
          replace HO_607001 := aM (Kd.R_below HO_607001.out hb)
          replace BK589 := aM (blk_below (g := gb589) (o := .cells #[.slice Ao9 t582.length co9, .slice Ao11 t585.length co11] 94 (0, 0)) BK589.out hb)
          replace BK597 := aM (blk_below (g := gb597) (o := .cells #[.slice Ao14 t590.length co14, .slice Ao17 t593.length co17] 94 (0, 0)) BK597.out hb)
          replace BK606 := aM (blk_below (g := gb606) (o := .cells #[u607000, u607001] 94 (0, 0)) BK606.out hb)
          replace HB := aM (below_step HB.out hb)
          (try clear hb)
          refine hK.out _ _ ⟨(blk_cell BK589.out 0).trans rfl, (blk_cell BK589.out 1).trans rfl, (blk_cell BK597.out 0).trans rfl, (blk_cell BK597.out 1).trans rfl⟩ (fun hHeld => ?_)
          clear hK K
          refine norm_ (a' := ?_) ?_ ?_
          rotate_left
          ·show Act.put _ (some 52) _ = _
           simp only [Act.put, sA, sZ, sS, i64_w, i32_w]
           rfl
          refine one_ (i := 4) (N := some 53) #[true, true, true, true, true, false, true, true, false, false, false, false, false, false, false] rfl rfl (one_of HT_.out (by kernel_rfl)) (by decide) (fun K hK => ?_)
          refine goes_ Try.func44 (by kernel_rfl) rfl #[.bool t609] (by rfl) rfl rfl (by (try simp only [List.map_toArray, List.map_cons, List.map_nil]); rfl) ?_
          with_reducible refine (spec_l1Bit.calls t609 t610 _ A37.out).mono ?_
          rintro e w' ⟨rfl, ⟨nd, rfl⟩⟩
          refine ⟨_, rfl, ?_⟩
          refine hK.out _ _ ⟨(blk_cell BK589.out 0).trans rfl, (blk_cell BK589.out 1).trans rfl, (blk_cell BK597.out 0).trans rfl, (blk_cell BK597.out 1).trans rfl⟩ (fun hHeld => ?_)
          clear hK K
          refine norm_ (a' := ?_) ?_ ?_
          rotate_left
          ·show Act.put _ (some 53) _ = _
           simp only [Act.put, sA, sZ, sS, i64_w, i32_w]
           rfl
          refine pure_ (i := 5) (N := some 54) (v := ?_) (a' := ?_) #[true, true, true, true, true, true, true, true, false, false, false, false, false, false, false] rfl rfl (any_of HT_.out (by kernel_rfl)) (fun _ _ _ h => h) (Or.inl ⟨by rfl, ?_⟩) ?_ ?_
          rotate_left
          ·intro w'
           go_simp
           with_reducible rfl
          rotate_left
          ·simp only [Act.put, sA, sZ, sS, i64_w, i32_w]
           rfl
          refine one_ (i := 8) (N := some 57) #[true, true, true, true, true, true, true, true, true, false, false, false, false, false, false] rfl rfl (one_of HT_.out (by kernel_rfl)) (by decide) (fun K hK => ?_)
          refine goes_ Try.func97 (by kernel_rfl) rfl #[.agg #[.slice Ao14 t590.length co14, .slice Ao17 t593.length co17], .int .i64 x15_2] (by rfl) rfl rfl (by (try simp only [List.map_toArray, List.map_cons, List.map_nil]); rfl) ?_
          with_reducible refine (spec_l1Has.calls _ _ t590 _ _ t593 x15_2 t611 _ ?side1 ?side2 ?side3 ?side4 A38.out).mono ?_
          (case side1 => repeat (exact (Kd.R_reads' HO_598000.out).2.2))
          (case side2 => exact (Kd.R_reads' HO_598000.out).2.1)
          (case side3 => repeat (exact (Kd.R_reads' HO_598001.out).2.2))
          (case side4 => exact (Kd.R_reads' HO_598001.out).2.1)
          rintro e w57 ⟨rfl, hb⟩
          refine ⟨_, rfl, ?_⟩
          replace HO_590000 := aM (Kd.R_below (by (with_reducible repeat (apply rN)); exact HO_590000.out) hb)
          replace HO_590001 := aM (Kd.R_below (by (with_reducible repeat (apply rN)); exact HO_590001.out) hb)
          replace HO_598000 := aM (Kd.R_below (by (with_reducible repeat (apply rN)); exact HO_598000.out) hb)
          replace HO_598001 := aM (Kd.R_below (by (with_reducible repeat (apply rN)); exact HO_598001.out) hb)
          replace HO_607000 := aM (Kd.R_below (by (with_reducible repeat (apply rN)); exact HO_607000.out) hb)
          replace HO_607001 := aM (Kd.R_below (by (with_reducible repeat (apply rN)); exact HO_607001.out) hb)
          replace BK589 := aM (blk_below (g := gb589) (o := .cells #[.slice Ao9 t582.length co9, .slice Ao11 t585.length co11] 94 (0, 0)) (by (with_reducible repeat (refine kN ?_ _)); exact BK589.out) hb)
          replace BK597 := aM (blk_below (g := gb597) (o := .cells #[.slice Ao14 t590.length co14, .slice Ao17 t593.length co17] 94 (0, 0)) (by (with_reducible repeat (refine kN ?_ _)); exact BK597.out) hb)
          replace BK606 := aM (blk_below (g := gb606) (o := .cells #[u607000, u607001] 94 (0, 0)) (by (with_reducible repeat (refine kN ?_ _)); exact BK606.out) hb)
          replace HB := aM (below_step (by repeat (first | (with_reducible first | exact HB.out | apply bN))) hb)
          (try clear hb)
          refine hK.out _ _ ⟨(blk_cell BK589.out 0).trans rfl, (blk_cell BK589.out 1).trans rfl, (blk_cell BK597.out 0).trans rfl, (blk_cell BK597.out 1).trans rfl⟩ (fun hHeld => ?_)
          clear hK K
          refine norm_ (a' := ?_) ?_ ?_
          rotate_left
          ·show Act.put _ (some 57) _ = _
           simp only [Act.put, sA, sZ, sS, i64_w, i32_w]
           rfl
          refine one_ (i := 9) (N := some 58) #[true, true, true, true, true, true, true, true, true, true, false, false, false, false, false] rfl rfl (one_of HT_.out (by kernel_rfl)) (by decide) (fun K hK => ?_)
          refine goes_ Try.func44 (by kernel_rfl) rfl #[.bool t611] (by rfl) rfl rfl (by (try simp only [List.map_toArray, List.map_cons, List.map_nil]); rfl) ?_
          with_reducible refine (spec_l1Bit.calls t611 t612 _ A39.out).mono ?_
          rintro e w' ⟨rfl, ⟨nd, rfl⟩⟩
          refine ⟨_, rfl, ?_⟩
          refine hK.out _ _ ⟨(blk_cell BK589.out 0).trans rfl, (blk_cell BK589.out 1).trans rfl, (blk_cell BK597.out 0).trans rfl, (blk_cell BK597.out 1).trans rfl⟩ (fun hHeld => ?_)
          clear hK K
          refine norm_ (a' := ?_) ?_ ?_
          rotate_left
          ·show Act.put _ (some 58) _ = _
           simp only [Act.put, sA, sZ, sS, i64_w, i32_w]
           rfl
          refine pure_ (i := 10) (N := some 59) (v := ?_) (a' := ?_) #[true, true, true, true, true, true, true, true, true, true, true, false, false, false, false] rfl rfl (any_of HT_.out (by kernel_rfl)) (fun _ _ _ h => h) (Or.inl ⟨by rfl, ?_⟩) ?_ ?_
          rotate_left
          ·intro w'
           go_simp
           with_reducible rfl
          rotate_left
          ·simp only [Act.put, sA, sZ, sS, i64_w, i32_w]
           rfl
          refine pure_ (i := 11) (N := some 60) (v := ?_) (a' := ?_) #[true, true, true, true, true, true, true, true, true, true, true, true, false, false, false] rfl rfl (any_of HT_.out (by kernel_rfl)) (fun _ _ _ h => h) (Or.inl ⟨by rfl, ?_⟩) ?_ ?_
          rotate_left
          ·intro w'
           go_simp
           with_reducible rfl
          rotate_left
          ·simp only [Act.put, sA, sZ, sS, i64_w, i32_w]
           rfl
          refine pure_ (i := 12) (N := some 61) (v := ?_) (a' := ?_) #[true, true, true, true, true, true, true, true, true, true, true, true, true, false, false] rfl rfl (any_of HT_.out (by kernel_rfl)) (fun _ _ _ h => h) (Or.inl ⟨by rfl, ?_⟩) ?_ ?_
          rotate_left
          ·intro w'
           go_simp
           with_reducible rfl
          rotate_left
          ·simp only [Act.put, sA, sZ, sS, i64_w, i32_w]
           rfl
          refine pure_ (i := 13) (N := some 62) (v := ?_) (a' := ?_) #[true, true, true, true, true, true, true, true, true, true, true, true, true, true, false] rfl rfl (any_of HT_.out (by kernel_rfl)) (fun _ _ _ h => h) (Or.inl ⟨by rfl, ?_⟩) ?_ ?_
          rotate_left
          ·intro w'
           go_simp
           with_reducible rfl
          rotate_left
          ·simp only [Act.put, sA, sZ, sS, i64_w, i32_w]
           rfl
          refine pure_ (i := 14) (N := some 16) (v := ?_) (a' := ?_) #[true, true, true, true, true, true, true, true, true, true, true, true, true, true, true] rfl rfl (any_of HT_.out (by kernel_rfl)) (fun _ _ _ h => h) (Or.inl ⟨by rfl, ?_⟩) ?_ ?_
          rotate_left
          ·intro w'
           go_simp
           with_reducible rfl
          rotate_left
          ·simp only [Act.put, sA, sZ, sS, i64_w, i32_w]
           rfl
          refine done_ (done_of HT_.out (by kernel_rfl)) ?_
          have hnb58 := NB606_589.out
          have hnc58 := NB589_606.out
          have hnb59 := NB606_597.out
          have hnc59 := NB597_606.out
          have hcz60_0 : w57.cell? ⟨gb606, 0, none⟩ = some (u607000) := (blk_cell BK606.out 0).trans rfl
          have hcz60_1 : w57.cell? ⟨gb606, 1, none⟩ = some (u607001) := (blk_cell BK606.out 1).trans rfl
          have hfz60_0 := blk_frozen BK606.out 0
          have hfz60_1 := blk_frozen BK606.out 1
          try go_wp2_with (first | ((with_reducible refine gate_builtin (b := .append) (xs := #[.tmp 73, .tmp 75]) rfl ?_); at_builtin; refine Kd.R_append Kd.bool (w0 := w) w.heap.size rfl (.tmp 73) (.tmp 75) 52 4 (.bool false) 1 rfl Try.underlying52 info4 rfl (by decide) (by omega) u607001 x607001_2 ((Go.bits .and .i64 (ji42) 1) == 1) [.bool ((Go.bits .and .i64 (ji42) 1) == 1)] (fun k_ => some k_ ≠ (.slice Ao9 t582.length co9 : Value).ownBlock ∧ some k_ ≠ (.slice Ao11 t585.length co11 : Value).ownBlock ∧ some k_ ≠ (.slice Ao14 t590.length co14 : Value).ownBlock ∧ some k_ ≠ (.slice Ao17 t593.length co17 : Value).ownBlock ∧ some k_ ≠ (u607000 : Value).ownBlock) (fun _ => False) rfl rfl ?aP (fun _ hk => hk.elim) ?aF ?aO ?aB ?aS ?aL ?_; (case aP => exact rfl); (case aB => exact (by repeat (first | (with_reducible first | exact HB.out | apply bN)))); (case aF => exact (fun k_ hk => ⟨Kd.fresh' (Kd.R_lt (by (with_reducible repeat (apply rN)); exact HO_590000.out)) k_ hk, Kd.fresh' (Kd.R_lt (by (with_reducible repeat (apply rN)); exact HO_590001.out)) k_ hk, Kd.fresh' (Kd.R_lt (by (with_reducible repeat (apply rN)); exact HO_598000.out)) k_ hk, Kd.fresh' (Kd.R_lt (by (with_reducible repeat (apply rN)); exact HO_598001.out)) k_ hk, Kd.fresh' (Kd.R_lt (by (with_reducible repeat (apply rN)); exact HO_607000.out)) k_ hk⟩)); (case aO => exact (by (with_reducible repeat (apply rN)); exact HO_607001.out)); (case aS => exact (below_size (by repeat (first | (with_reducible first | exact HB.out | apply bN))))); (case aL => have := LMc54.out; omega); intro v617 w61 ho hb hg hat; rw [← Ny616.out] at ho; replace HO_590000 := aM (Kd.R_after (ok := (fun k_ => some k_ ≠ (.slice Ao11 t585.length co11 : Value).ownBlock ∧ some k_ ≠ (.slice Ao14 t590.length co14 : Value).ownBlock ∧ some k_ ≠ (.slice Ao17 t593.length co17 : Value).ownBlock ∧ some k_ ≠ (u607000 : Value).ownBlock)) (by (with_reducible repeat (apply rN)); exact Kd.R_mono HO_590000.out (fun _ hk => ⟨⟨hk.1, ⟨hk.2.1, ⟨hk.2.2.1, hk.2.2.2.1⟩⟩⟩, hk.2.2.2.2⟩)) hg hat); replace HO_590001 := aM (Kd.R_after (ok := (fun k_ => some k_ ≠ (.slice Ao9 t582.length co9 : Value).ownBlock ∧ some k_ ≠ (.slice Ao14 t590.length co14 : Value).ownBlock ∧ some k_ ≠ (.slice Ao17 t593.length co17 : Value).ownBlock ∧ some k_ ≠ (u607000 : Value).ownBlock)) (by (with_reducible repeat (apply rN)); exact Kd.R_mono HO_590001.out (fun _ hk => ⟨⟨hk.1, ⟨hk.2.1, ⟨hk.2.2.1, hk.2.2.2.1⟩⟩⟩, hk.2.2.2.2⟩)) hg hat); replace HO_598000 := aM (Kd.R_after (ok := (fun k_ => some k_ ≠ (.slice Ao9 t582.length co9 : Value).ownBlock ∧ some k_ ≠ (.slice Ao11 t585.length co11 : Value).ownBlock ∧ some k_ ≠ (.slice Ao17 t593.length co17 : Value).ownBlock ∧ some k_ ≠ (u607000 : Value).ownBlock)) (by (with_reducible repeat (apply rN)); exact Kd.R_mono HO_598000.out (fun _ hk => ⟨⟨hk.1, ⟨hk.2.1, ⟨hk.2.2.1, hk.2.2.2.1⟩⟩⟩, hk.2.2.2.2⟩)) hg hat); replace HO_598001 := aM (Kd.R_after (ok := (fun k_ => some k_ ≠ (.slice Ao9 t582.length co9 : Value).ownBlock ∧ some k_ ≠ (.slice Ao11 t585.length co11 : Value).ownBlock ∧ some k_ ≠ (.slice Ao14 t590.length co14 : Value).ownBlock ∧ some k_ ≠ (u607000 : Value).ownBlock)) (by (with_reducible repeat (apply rN)); exact Kd.R_mono HO_598001.out (fun _ hk => ⟨⟨hk.1, ⟨hk.2.1, ⟨hk.2.2.1, hk.2.2.2.1⟩⟩⟩, hk.2.2.2.2⟩)) hg hat); replace HO_607000 := aM (Kd.R_after (ok := (fun k_ => some k_ ≠ (.slice Ao9 t582.length co9 : Value).ownBlock ∧ some k_ ≠ (.slice Ao11 t585.length co11 : Value).ownBlock ∧ some k_ ≠ (.slice Ao14 t590.length co14 : Value).ownBlock ∧ some k_ ≠ (.slice Ao17 t593.length co17 : Value).ownBlock)) (by (with_reducible repeat (apply rN)); exact Kd.R_mono HO_607000.out (fun _ hk => ⟨⟨hk.1, ⟨hk.2.1, ⟨hk.2.2.1, hk.2.2.2.1⟩⟩⟩, hk.2.2.2.2⟩)) hg hat); replace BK589 := aM (blk_grown (g := gb589) (o := .cells #[.slice Ao9 t582.length co9, .slice Ao11 t585.length co11] 94 (0, 0)) (by (with_reducible repeat (refine kN ?_ _)); exact BK589.out) hg (Kd.R_ne HO_607001.out BK589.out (by decide))); replace BK597 := aM (blk_grown (g := gb597) (o := .cells #[.slice Ao14 t590.length co14, .slice Ao17 t593.length co17] 94 (0, 0)) (by (with_reducible repeat (refine kN ?_ _)); exact BK597.out) hg (Kd.R_ne HO_607001.out BK597.out (by decide))); replace BK606 := aM (blk_grown (g := gb606) (o := .cells #[u607000, u607001] 94 (0, 0)) (by (with_reducible repeat (refine kN ?_ _)); exact BK606.out) hg (Kd.R_ne HO_607001.out BK606.out (by decide))); replace HB := aM hb; have HO618 := aM ho; clear HO_607001; clear ho hb hg hat; obtain ⟨Ao62, co62, eo62⟩ := Kd.R_slice HO618.out; subst eo62; have hcz63_0 : w61.cell? ⟨gb606, 0, none⟩ = some (u607000) := (blk_cell BK606.out 0).trans rfl; have hcz63_1 : w61.cell? ⟨gb606, 1, none⟩ = some (u607001) := (blk_cell BK606.out 1).trans rfl; have hfz63_0 := blk_frozen BK606.out 0; have hfz63_1 := blk_frozen BK606.out 1))
          go_roundg k2
          case measure => have := HJ5.out; have := HK2.out; omega
          case rel => exact ⟨(wrap64 (x15_2 + 1)), (x607000_2), (y616), (u607000), (.slice Ao62 y616.length co62), (by rfl), H', ⟨by have := HJ5.out; have := HK2.out; omega⟩, ⟨by exact Kd.R_mono (Kd.R_far (p := ⟨gb606, 1, none⟩) (Kd.R_types HO_590000.out BK606.out (by decide)) (fun _ hk => hk.2) (.slice Ao62 y616.length co62)) (fun _ hk => ⟨hk.1.1.1, ⟨hk.1.1.2.1, ⟨hk.1.1.2.2.1, ⟨hk.1.1.2.2.2, hk.1.2⟩⟩⟩⟩)⟩, ⟨by exact Kd.R_mono (Kd.R_far (p := ⟨gb606, 1, none⟩) (Kd.R_types HO_590001.out BK606.out (by decide)) (fun _ hk => hk.2) (.slice Ao62 y616.length co62)) (fun _ hk => ⟨hk.1.1.1, ⟨hk.1.1.2.1, ⟨hk.1.1.2.2.1, ⟨hk.1.1.2.2.2, hk.1.2⟩⟩⟩⟩)⟩, ⟨by exact Kd.R_mono (Kd.R_far (p := ⟨gb606, 1, none⟩) (Kd.R_types HO_598000.out BK606.out (by decide)) (fun _ hk => hk.2) (.slice Ao62 y616.length co62)) (fun _ hk => ⟨hk.1.1.1, ⟨hk.1.1.2.1, ⟨hk.1.1.2.2.1, ⟨hk.1.1.2.2.2, hk.1.2⟩⟩⟩⟩)⟩, ⟨by exact Kd.R_mono (Kd.R_far (p := ⟨gb606, 1, none⟩) (Kd.R_types HO_598001.out BK606.out (by decide)) (fun _ hk => hk.2) (.slice Ao62 y616.length co62)) (fun _ hk => ⟨hk.1.1.1, ⟨hk.1.1.2.1, ⟨hk.1.1.2.2.1, ⟨hk.1.1.2.2.2, hk.1.2⟩⟩⟩⟩)⟩, ⟨by exact Kd.R_mono (Kd.R_far (p := ⟨gb606, 1, none⟩) (Kd.R_types HO_607000.out BK606.out (by decide)) (fun _ hk => hk.2) (.slice Ao62 y616.length co62)) (fun _ hk => ⟨hk.1.1.1, ⟨hk.1.1.2.1, ⟨hk.1.1.2.2.1, ⟨hk.1.1.2.2.2, hk.1.2⟩⟩⟩⟩)⟩, ⟨by exact Kd.R_mono (Kd.R_far (p := ⟨gb606, 1, none⟩) (Kd.R_types HO618.out BK606.out (by decide)) (fun _ hk => hk.2) (.slice Ao62 y616.length co62)) (fun _ hk => ⟨hk.1.1, ⟨hk.1.2.1, ⟨hk.1.2.2.1, ⟨hk.1.2.2.2.1, hk.1.2.2.2.2⟩⟩⟩⟩)⟩, ⟨by refine blk_far ?_ NB589_606.out _; exact BK589.out⟩, ⟨by refine blk_far ?_ NB597_606.out _; exact BK597.out⟩, ⟨by refine blk_put (cs := #[u607000, u607001]) ?_ 1 _ rfl; exact BK606.out⟩, ⟨by repeat (first | (with_reducible first | exact HB.out | refine bS ?_ GE606.out))⟩⟩
         ·rw [if_neg c54] at H
          exact absurd H (by simp)
       ·rw [if_neg c41] at H
        exact absurd H (by simp)
      ·rw [if_neg c35] at H
       have c35b0 : decide (x15_2 < (wrap64 (t598 + t599))) = false := decide_eq_false c35
       clear c35
       replace H := Option.bind_eq_some_iff.mp H
       obtain ⟨⟨t607, t608⟩, A640, H⟩ := H
       replace H : (some (t607, t608)) = some (r1, r2) := H
       have A64 := aM A640
       clear A640
       simp only [Option.some.injEq, Prod.mk.injEq] at H
       obtain ⟨rfl, rfl⟩ := H
       have hnb65 := NB606_589.out
       have hnc65 := NB589_606.out
       have hnb66 := NB606_597.out
       have hnc66 := NB597_606.out
       have hcz67_0 : wr.cell? ⟨gb606, 0, none⟩ = some (u607000) := (blk_cell BK606.out 0).trans rfl
       have hcz67_1 : wr.cell? ⟨gb606, 1, none⟩ = some (u607001) := (blk_cell BK606.out 1).trans rfl
       have hfz67_0 := blk_frozen BK606.out 0
       have hfz67_1 := blk_frozen BK606.out 1
       obtain ⟨Ao68, co68, eo68⟩ := Kd.R_slice HO_607000.out
       subst eo68
       obtain ⟨Ao69, co69, eo69⟩ := Kd.R_slice HO_607001.out
       subst eo69
       go_wp2_with (first | ((with_reducible refine gate_callee (f := 98) rfl ?_); refine goesL_ (some 79) rfl rfl Try.func98 (by kernel_rfl) rfl #[.agg #[.slice Ao68 x607000_2.length co68, .slice Ao69 x607001_2.length co69]] rfl (by (try simp only [List.map_toArray, List.map_cons, List.map_nil]); rfl) ?_; (with_reducible refine (spec_l1Done.calls k2 _ _ x607000_2 _ _ x607001_2 t607 t608 _ ?side1 ?side2 ?side3 ?side4 A64.out).mono ?_); (case side1 => repeat (exact (Kd.R_reads' HO_607000.out).2.2)); (case side2 => exact (Kd.R_reads' HO_607000.out).2.1); (case side3 => repeat (exact (Kd.R_reads' HO_607001.out).2.2)); (case side4 => exact (Kd.R_reads' HO_607001.out).2.1); rintro e w70 ⟨rfl, hb⟩; refine ⟨_, rfl, ?_⟩; replace HO_590000 := aM (Kd.R_below HO_590000.out hb); replace HO_590001 := aM (Kd.R_below HO_590001.out hb); replace HO_598000 := aM (Kd.R_below HO_598000.out hb); replace HO_598001 := aM (Kd.R_below HO_598001.out hb); replace HO_607000 := aM (Kd.R_below HO_607000.out hb); replace HO_607001 := aM (Kd.R_below HO_607001.out hb); replace BK589 := aM (blk_below (g := gb589) (o := .cells #[.slice Ao9 t582.length co9, .slice Ao11 t585.length co11] 94 (0, 0)) BK589.out hb); replace BK597 := aM (blk_below (g := gb597) (o := .cells #[.slice Ao14 t590.length co14, .slice Ao17 t593.length co17] 94 (0, 0)) BK597.out hb); replace BK606 := aM (blk_below (g := gb606) (o := .cells #[.slice Ao68 x607000_2.length co68, .slice Ao69 x607001_2.length co69] 94 (0, 0)) BK606.out hb); replace HB := aM (below_step HB.out hb); (try clear hb)))
       go_ret2
       exact ⟨by first | rfl | (simp [*, errW_none, errW_some] <;> rfl), HB.out⟩


def spec_MakeEither.f (k : Nat) (a0 : ByteArray) (a1 : ByteArray) : Option (ByteArray × Bool) := (spec_l2Two.f k a0 a1 14).bind fun bt619 => (some (bt619.1, bt619.2))
theorem spec_MakeEither.mono : ∀ a0 a1 k, LeO (spec_MakeEither.f k a0 a1) (spec_MakeEither.f (k + 1) a0 a1) := by
 intro a0 a1 k
 unfold spec_MakeEither.f
 repeat' first
   |(with_reducible exact spec_l2Two.mono _ _ _ _)
   |(with_reducible exact LeO.refl _)
   |(with_reducible exact LeO.none _)
   |(with_reducible refine LeO.ite ?_ ?_)
   |(with_reducible refine LeO.bind ?_ (fun _ => ?_))
   |exact spec_l2Two.mono _ _ _ _
   |exact LeO.none _
   |refine LeO.ite ?_ ?_
   |refine LeO.bind ?_ (fun _ => ?_)
set_option maxHeartbeats 8000000 in
set_option maxRecDepth 100000 in
theorem spec_MakeEither.calls (k : Nat) (a0 : ByteArray) (a1 : ByteArray) (r1 : ByteArray) (r2 : Bool) (w : World) (h : spec_MakeEither.f k a0 a1 = some (r1, r2)) :
  Calls Try.prog 56 #[.string a0, .string a1] w fun e w' => e = .returned (.tuple #[.string r1, .bool r2]) ∧ Below w.heap.size w w' := by
 have HB := aM (Below.refl w.heap.size w)
 have H : ((spec_l2Two.f k a0 a1 14).bind fun bt619 => (some (bt619.1, bt619.2))) = some (r1, r2) := h
 clear h
 replace H := Option.bind_eq_some_iff.mp H
 obtain ⟨⟨t619, t620⟩, A30, H⟩ := H
 replace H : (some (t619, t620)) = some (r1, r2) := H
 have A3 := aM A30
 clear A30
 simp only [Option.some.injEq, Prod.mk.injEq] at H
 obtain ⟨rfl, rfl⟩ := H
 go_enter Try.func56, Try.ntmps56
 go_wp2_with (first | ((with_reducible refine gate_callee (f := 76) rfl ?_); refine goesL_ (some 8) rfl rfl Try.func76 (by kernel_rfl) rfl #[.string a0, .string a1, .int .i64 14] rfl (by (try simp only [List.map_toArray, List.map_cons, List.map_nil]); first | done | rfl | (simp only [List.length_drop, List.length_take]; rfl)) ?_; (with_reducible refine (spec_l2Two.calls k a0 a1 14 t619 t620 _ A3.out).mono ?_); rintro e w4 ⟨rfl, hb⟩; refine ⟨_, rfl, ?_⟩; have n0_ := aM (below_step (by repeat (first | (with_reducible first | exact HB.out | apply bA | apply bN | apply b1) | exact HB.out)) hb); clear HB; have HB := n0_; clear n0_; (try clear hb); (try clear hb2); (try clear hk); (try clear hi)))
 go_ret2
 exact ⟨by first | rfl | (simp [errW_none, errW_some] <;> rfl) | (simp [errW_none, errW_some]; exact ⟨rfl, rfl⟩) | (simp [errW_none, errW_some]; exact ⟨rfl, rfl, rfl⟩) | (simp [*, errW_none, errW_some] <;> rfl), by repeat (first | (with_reducible first | exact HB.out | apply bA | apply bN | apply b1) | exact HB.out)⟩


def spec_MakeBoth.f (k : Nat) (a0 : ByteArray) (a1 : ByteArray) : Option (ByteArray × Bool) := (spec_l2Two.f k a0 a1 8).bind fun bt621 => (some (bt621.1, bt621.2))
theorem spec_MakeBoth.mono : ∀ a0 a1 k, LeO (spec_MakeBoth.f k a0 a1) (spec_MakeBoth.f (k + 1) a0 a1) := by
 intro a0 a1 k
 unfold spec_MakeBoth.f
 repeat' first
   |(with_reducible exact spec_l2Two.mono _ _ _ _)
   |(with_reducible exact LeO.refl _)
   |(with_reducible exact LeO.none _)
   |(with_reducible refine LeO.ite ?_ ?_)
   |(with_reducible refine LeO.bind ?_ (fun _ => ?_))
   |exact spec_l2Two.mono _ _ _ _
   |exact LeO.none _
   |refine LeO.ite ?_ ?_
   |refine LeO.bind ?_ (fun _ => ?_)
set_option maxHeartbeats 8000000 in
set_option maxRecDepth 100000 in
theorem spec_MakeBoth.calls (k : Nat) (a0 : ByteArray) (a1 : ByteArray) (r1 : ByteArray) (r2 : Bool) (w : World) (h : spec_MakeBoth.f k a0 a1 = some (r1, r2)) :
  Calls Try.prog 58 #[.string a0, .string a1] w fun e w' => e = .returned (.tuple #[.string r1, .bool r2]) ∧ Below w.heap.size w w' := by
 have HB := aM (Below.refl w.heap.size w)
 have H : ((spec_l2Two.f k a0 a1 8).bind fun bt621 => (some (bt621.1, bt621.2))) = some (r1, r2) := h
 clear h
 replace H := Option.bind_eq_some_iff.mp H
 obtain ⟨⟨t621, t622⟩, A30, H⟩ := H
 replace H : (some (t621, t622)) = some (r1, r2) := H
 have A3 := aM A30
 clear A30
 simp only [Option.some.injEq, Prod.mk.injEq] at H
 obtain ⟨rfl, rfl⟩ := H
 go_enter Try.func58, Try.ntmps58
 go_wp2_with (first | ((with_reducible refine gate_callee (f := 76) rfl ?_); refine goesL_ (some 8) rfl rfl Try.func76 (by kernel_rfl) rfl #[.string a0, .string a1, .int .i64 8] rfl (by (try simp only [List.map_toArray, List.map_cons, List.map_nil]); first | done | rfl | (simp only [List.length_drop, List.length_take]; rfl)) ?_; (with_reducible refine (spec_l2Two.calls k a0 a1 8 t621 t622 _ A3.out).mono ?_); rintro e w4 ⟨rfl, hb⟩; refine ⟨_, rfl, ?_⟩; have n0_ := aM (below_step (by repeat (first | (with_reducible first | exact HB.out | apply bA | apply bN | apply b1) | exact HB.out)) hb); clear HB; have HB := n0_; clear n0_; (try clear hb); (try clear hb2); (try clear hk); (try clear hi)))
 go_ret2
 exact ⟨by first | rfl | (simp [errW_none, errW_some] <;> rfl) | (simp [errW_none, errW_some]; exact ⟨rfl, rfl⟩) | (simp [errW_none, errW_some]; exact ⟨rfl, rfl, rfl⟩) | (simp [*, errW_none, errW_some] <;> rfl), by repeat (first | (with_reducible first | exact HB.out | apply bA | apply bN | apply b1) | exact HB.out)⟩


mutual
def spec_l7Set.j0 : Nat → ByteArray → Int → List (S49) → Option (ByteArray × Bool)
 | 0, _, _, _ => none
 | k + 1, x4, x624000, x624001 => if 1 < (x624001.length : Int) then ((spec_l7Set.f k ((rd_T49 x624001 1).f0) ((rd_T49 x624001 1).f1)).bind fun bt632 => (if bt632.2 = true then (if x624000 = 43 then ((spec_MakeEither.f k x4 bt632.1).bind fun bt634 => (some (bt634.1, bt634.2))) else (if x624000 = 46 then ((spec_SumOf.f k x4 bt632.1).bind fun bt636 => (some (bt636.1, bt636.2))) else ((spec_MakeBoth.f k x4 bt632.1).bind fun bt638 => (some (bt638.1, bt638.2))))) else (some ((⟨#[]⟩ : ByteArray), false)))) else (none)
def spec_l7Set.f : Nat → Int → List (S49) → Option (ByteArray × Bool)
 | 0, _, _ => none
 | k + 1, a0_0, l0_1 => if a0_0 = 48 then (some ((⟨#[40, 48, 41]⟩ : ByteArray), true)) else (if a0_0 = 49 then (some ((⟨#[49, 40, 48, 41]⟩ : ByteArray), true)) else (if a0_0 = 97 then (some ((⟨#[48, 49, 40, 48, 41]⟩ : ByteArray), true)) else (if 0 < (l0_1.length : Int) then ((spec_l7Set.f k ((rd_T49 l0_1 0).f0) ((rd_T49 l0_1 0).f1)).bind fun bt625 => (if bt625.2 = true then (if a0_0 = 42 then ((spec_StarOf.f k bt625.1).bind fun bt627 => (some (bt627.1, bt627.2))) else (if a0_0 ≥ 50 then (if a0_0 ≤ 53 then ((spec_SumTimes.f k bt625.1 ((a0_0 - 48) % 256)).bind fun bt629 => (some (bt629.1, bt629.2))) else (spec_l7Set.j0 k bt625.1 a0_0 l0_1)) else (spec_l7Set.j0 k bt625.1 a0_0 l0_1))) else (some ((⟨#[]⟩ : ByteArray), false)))) else (none))))
end
theorem spec_l7Set.mono_l : ∀ k, (∀ y0 y1, LeO (spec_l7Set.f k y0 y1) (spec_l7Set.f (k + 1) y0 y1)) ∧ (∀ y0 y1 y2, LeO (spec_l7Set.j0 k y0 y1 y2) (spec_l7Set.j0 (k + 1) y0 y1 y2))
 | 0 => ⟨fun _ _ r h => by simp [spec_l7Set.f] at h, fun _ _ _ r h => by simp [spec_l7Set.j0] at h⟩
 | k + 1 => by
  obtain ⟨ih0, ih1⟩ := spec_l7Set.mono_l k
  refine ⟨?_, ?_⟩
  ·intro y0 y1
   unfold spec_l7Set.f
   repeat' first | (with_reducible exact ih0 _ _) | (with_reducible exact ih1 _ _ _) | (with_reducible exact spec_StarOf.mono _ _) | (with_reducible exact spec_SumTimes.mono _ _ _) | (with_reducible exact LeO.refl _) | (with_reducible refine LeO.ite ?_ ?_) | (with_reducible refine LeO.bind ?_ (fun _ => ?_))
  ·intro y0 y1 y2
   unfold spec_l7Set.j0
   repeat' first | (with_reducible exact ih0 _ _) | (with_reducible exact spec_MakeBoth.mono _ _ _) | (with_reducible exact spec_MakeEither.mono _ _ _) | (with_reducible exact spec_SumOf.mono _ _ _) | (with_reducible exact LeO.refl _) | (with_reducible refine LeO.ite ?_ ?_) | (with_reducible refine LeO.bind ?_ (fun _ => ?_))
theorem spec_l7Set.mono : ∀ a0 a1 k, LeO (spec_l7Set.f k a0 a1) (spec_l7Set.f (k + 1) a0 a1) := by
 intro a0 a1 k
 obtain ⟨ih0, ih1⟩ := spec_l7Set.mono_l k
 exact ih0 a0 a1
set_option maxHeartbeats 8000000 in
set_option maxRecDepth 100000 in
theorem spec_l7Set.calls (k : Nat) : ∀ (a0_0 : Int) (A0_1 : Option Addr) (c0_1 : Nat) (l0_1 : List (S49)) (r1 : ByteArray) (r2 : Bool) (w : World) (hr0_1 : Kd.C k49 w A0_1 l0_1.length l0_1) (hc0_1 : l0_1.length ≤ c0_1) (h : spec_l7Set.f k a0_0 l0_1 = some (r1, r2)),
  Calls Try.prog 34 #[.agg #[.int .u8 a0_0, .slice A0_1 l0_1.length c0_1]] w fun e w' => e = .returned (.tuple #[.string r1, .bool r2]) ∧ Below w.heap.size w w' := by
 induction k using Nat.strongRecOn with
 | _ k ih =>
 intro a0_0 A0_1 c0_1 l0_1 r1 r2 w hr0_1 hc0_1 h
 cases k with
 | zero => exact absurd h (by simp [spec_l7Set.f])
 | succ k =>
 simp only [spec_l7Set.f] at h
 have hu49 := Try.underlying49
 have HR0_1 := aM hr0_1
 have HC0_1 := aM hc0_1
 clear hr0_1 hc0_1
 have HB := aM (Below.refl w.heap.size w)
 have H : (if a0_0 = 48 then (some ((⟨#[40, 48, 41]⟩ : ByteArray), true)) else (if a0_0 = 49 then (some ((⟨#[49, 40, 48, 41]⟩ : ByteArray), true)) else (if a0_0 = 97 then (some ((⟨#[48, 49, 40, 48, 41]⟩ : ByteArray), true)) else (if 0 < (l0_1.length : Int) then ((spec_l7Set.f k ((rd_T49 l0_1 0).f0) ((rd_T49 l0_1 0).f1)).bind fun bt625 => (if bt625.2 = true then (if a0_0 = 42 then ((spec_StarOf.f k bt625.1).bind fun bt627 => (some (bt627.1, bt627.2))) else (if a0_0 ≥ 50 then (if a0_0 ≤ 53 then ((spec_SumTimes.f k bt625.1 ((a0_0 - 48) % 256)).bind fun bt629 => (some (bt629.1, bt629.2))) else (spec_l7Set.j0 k bt625.1 a0_0 l0_1)) else (spec_l7Set.j0 k bt625.1 a0_0 l0_1))) else (some ((⟨#[]⟩ : ByteArray), false)))) else (none))))) = some (r1, r2) := h
 clear h
 by_cases c2 : a0_0 = 48
 ·rw [if_pos c2] at H
  have c2b0 : (a0_0 == 48) = true := beq_iff_eq.mpr c2
  have c2b1 : (a0_0 != 48) = false := bne_eq_false_iff_eq.mpr c2
  clear c2
  simp only [Option.some.injEq, Prod.mk.injEq] at H
  obtain ⟨rfl, rfl⟩ := H
  go_enter Try.func34, Try.ntmps34
  go_wp2_with (first | ((with_reducible refine gate_dst (N := 1) rfl ?_); refine box_event ?hg (N := 1) ?hd (cs := #[.int .u8 a0_0, .slice A0_1 l0_1.length c0_1]) (t := 49) ?hr ?_; (case hd => rfl); (case hg => rfl); (case hr => first | (go_simp; done)); intro gb623 hg w3 hbox hb; have BK623 := aM hbox; have GW623 := aM ((by rw [hg]; exact (below_size HB.out) : w.heap.size ≤ gb623)); have GE623 := aM ((by rw [hg]; exact (below_size HB.out) : w.heap.size ≤ gb623)); replace HB := aM (below_step HB.out hb); clear hb hbox hg; have hcz4_0 : w3.cell? ⟨gb623, 0, none⟩ = some (.int .u8 a0_0) := (blk_cell BK623.out 0).trans rfl; have hcz4_1 : w3.cell? ⟨gb623, 1, none⟩ = some (.slice A0_1 l0_1.length c0_1) := (blk_cell BK623.out 1).trans rfl; have hfz4_0 := blk_frozen BK623.out 0; have hfz4_1 := blk_frozen BK623.out 1))
  go_ret2
  exact ⟨by first | rfl | (simp [*, errW_none, errW_some] <;> rfl), HB.out⟩
 ·rw [if_neg c2] at H
  have c2b0 : (a0_0 == 48) = false := beq_eq_false_iff_ne.mpr c2
  have c2b1 : (a0_0 != 48) = true := bne_iff_ne.mpr c2
  by_cases c5 : a0_0 = 49
  ·rw [if_pos c5] at H
   have c5b0 : (a0_0 == 49) = true := beq_iff_eq.mpr c5
   have c5b1 : (a0_0 != 49) = false := bne_eq_false_iff_eq.mpr c5
   clear c5
   simp only [Option.some.injEq, Prod.mk.injEq] at H
   obtain ⟨rfl, rfl⟩ := H
   go_enter Try.func34, Try.ntmps34
   go_wp2_with (first | ((with_reducible refine gate_dst (N := 1) rfl ?_); refine box_event ?hg (N := 1) ?hd (cs := #[.int .u8 a0_0, .slice A0_1 l0_1.length c0_1]) (t := 49) ?hr ?_; (case hd => rfl); (case hg => rfl); (case hr => first | (go_simp; done)); intro gb623 hg w6 hbox hb; have BK623 := aM hbox; have GW623 := aM ((by rw [hg]; exact (below_size HB.out) : w.heap.size ≤ gb623)); have GE623 := aM ((by rw [hg]; exact (below_size HB.out) : w.heap.size ≤ gb623)); replace HB := aM (below_step HB.out hb); clear hb hbox hg; have hcz7_0 : w6.cell? ⟨gb623, 0, none⟩ = some (.int .u8 a0_0) := (blk_cell BK623.out 0).trans rfl; have hcz7_1 : w6.cell? ⟨gb623, 1, none⟩ = some (.slice A0_1 l0_1.length c0_1) := (blk_cell BK623.out 1).trans rfl; have hfz7_0 := blk_frozen BK623.out 0; have hfz7_1 := blk_frozen BK623.out 1))
   go_ret2
   exact ⟨by first | rfl | (simp [*, errW_none, errW_some] <;> rfl), HB.out⟩
  ·rw [if_neg c5] at H
   have c5b0 : (a0_0 == 49) = false := beq_eq_false_iff_ne.mpr c5
   have c5b1 : (a0_0 != 49) = true := bne_iff_ne.mpr c5
   by_cases c8 : a0_0 = 97
   ·rw [if_pos c8] at H
    have c8b0 : (a0_0 == 97) = true := beq_iff_eq.mpr c8
    have c8b1 : (a0_0 != 97) = false := bne_eq_false_iff_eq.mpr c8
    clear c8
    simp only [Option.some.injEq, Prod.mk.injEq] at H
    obtain ⟨rfl, rfl⟩ := H
    go_enter Try.func34, Try.ntmps34
    go_wp2_with (first | ((with_reducible refine gate_dst (N := 1) rfl ?_); refine box_event ?hg (N := 1) ?hd (cs := #[.int .u8 a0_0, .slice A0_1 l0_1.length c0_1]) (t := 49) ?hr ?_; (case hd => rfl); (case hg => rfl); (case hr => first | (go_simp; done)); intro gb623 hg w9 hbox hb; have BK623 := aM hbox; have GW623 := aM ((by rw [hg]; exact (below_size HB.out) : w.heap.size ≤ gb623)); have GE623 := aM ((by rw [hg]; exact (below_size HB.out) : w.heap.size ≤ gb623)); replace HB := aM (below_step HB.out hb); clear hb hbox hg; have hcz10_0 : w9.cell? ⟨gb623, 0, none⟩ = some (.int .u8 a0_0) := (blk_cell BK623.out 0).trans rfl; have hcz10_1 : w9.cell? ⟨gb623, 1, none⟩ = some (.slice A0_1 l0_1.length c0_1) := (blk_cell BK623.out 1).trans rfl; have hfz10_0 := blk_frozen BK623.out 0; have hfz10_1 := blk_frozen BK623.out 1))
    go_ret2
    exact ⟨by first | rfl | (simp [*, errW_none, errW_some] <;> rfl), HB.out⟩
   ·rw [if_neg c8] at H
    have c8b0 : (a0_0 == 97) = false := beq_eq_false_iff_ne.mpr c8
    have c8b1 : (a0_0 != 97) = true := bne_iff_ne.mpr c8
    by_cases c11 : 0 < (l0_1.length : Int)
    ·rw [if_pos c11] at H
     have c11b0 : decide (0 < (l0_1.length : Int)) = true := decide_eq_true c11
     have c11b1 : decide (0 < l0_1.length) = true := decide_eq_true (by omega)
     clear c11
     replace H := Option.bind_eq_some_iff.mp H
     obtain ⟨⟨t625, t626⟩, A120, H⟩ := H
     replace H : (if t626 = true then (if a0_0 = 42 then ((spec_StarOf.f k t625).bind fun bt627 => (some (bt627.1, bt627.2))) else (if a0_0 ≥ 50 then (if a0_0 ≤ 53 then ((spec_SumTimes.f k t625 ((a0_0 - 48) % 256)).bind fun bt629 => (some (bt629.1, bt629.2))) else (spec_l7Set.j0 k t625 a0_0 l0_1)) else (spec_l7Set.j0 k t625 a0_0 l0_1))) else (some ((⟨#[]⟩ : ByteArray), false))) = some (r1, r2) := H
     have A12 := aM A120
     clear A120
     have HC13 := aM H
     clear H
     go_enter Try.func34, Try.ntmps34
     go_upto_block 1 with (first | ((with_reducible refine gate_dst (N := 1) rfl ?_); refine box_event ?hg (N := 1) ?hd (cs := #[.int .u8 a0_0, .slice A0_1 l0_1.length c0_1]) (t := 49) ?hr ?_; (case hd => rfl); (case hg => rfl); (case hr => first | (go_simp; done)); intro gb623 hg w14 hbox hb; have BK623 := aM hbox; have GW623 := aM ((by rw [hg]; exact (below_size HB.out) : w.heap.size ≤ gb623)); have GE623 := aM ((by rw [hg]; exact (below_size HB.out) : w.heap.size ≤ gb623)); replace HB := aM (below_step HB.out hb); clear hb hbox hg; have hcz15_0 : w14.cell? ⟨gb623, 0, none⟩ = some (.int .u8 a0_0) := (blk_cell BK623.out 0).trans rfl; have hcz15_1 : w14.cell? ⟨gb623, 1, none⟩ = some (.slice A0_1 l0_1.length c0_1) := (blk_cell BK623.out 1).trans rfl; have hfz15_0 := blk_frozen BK623.out 0; have hfz15_1 := blk_frozen BK623.out 1; have p624 : 0 ≤ (0 : Int) := (by omega); have q624 : 0 < (l0_1.length : Int) := of_decide_eq_true (by (with_reducible assumption)); obtain ⟨ad624, A624_1, c624_1, e624, hx624_0, hx624_1, hl624_1, hi624_1⟩ := at_T49 HR0_1.out 0 p624 q624; cases e624; have qi624 : (0 < l0_1.length) = True := eq_true (by omega); (try rw [show ((0 : Int)).toNat = 0 from rfl] at hx624_0); (try rw [show 0 * 2 = 0 from rfl] at hx624_0); (try rw [Addr.add_zero'] at hx624_0); (try rw [show ((0 : Int)).toNat = 0 from rfl] at hx624_1); (try rw [show 0 * 2 = 0 from rfl] at hx624_1); (try rw [Addr.add_zero'] at hx624_1); replace hx624_0 := (HB.out.cell (World.block_lt_of_cell? w _ hx624_0)).trans hx624_0; replace hx624_1 := (HB.out.cell (World.block_lt_of_cell? w _ hx624_1)).trans hx624_1; have HR624_1 := aM hi624_1; have HC624_1 := aM hl624_1; clear hi624_1 hl624_1; replace p624 := eq_true p624; replace q624 := eq_true q624) | ((with_reducible refine gate_callee (f := 34) rfl ?_); refine goesL_ (some 21) rfl rfl Try.func34 (by kernel_rfl) rfl #[.agg #[.int .u8 ((rd_T49 l0_1 0).f0), .slice A624_1 ((rd_T49 l0_1 0).f1).length c624_1]] rfl (by (try simp only [List.map_toArray, List.map_cons, List.map_nil]); rfl) ?_; (with_reducible refine (ih k (by omega) ((rd_T49 l0_1 0).f0) _ _ ((rd_T49 l0_1 0).f1) t625 t626 _ ?side1 ?side2 A12.out).mono ?_); (case side1 => repeat (exact (Kd.C_below HR624_1.out HB.out))); (case side2 => exact HC624_1.out); rintro e w16 ⟨rfl, hb⟩; refine ⟨_, rfl, ?_⟩; replace BK623 := aM (blk_below (g := gb623) (o := .cells #[.int .u8 a0_0, .slice (some ad624) l0_1.length c0_1] 49 (0, 0)) BK623.out hb); replace HB := aM (below_step HB.out hb); (try clear hb)))
     go_cut [] (fun wc => ∃ (kq : Nat), Aside0 (spec_l7Set.j0 kq t625 a0_0 l0_1 = some (r1, r2)) ∧ Aside0 (kq ≤ k) ∧ Aside0 (wc.heap[gb623]? = some (.cells #[.int .u8 a0_0, (.slice (some ad624) l0_1.length c0_1)] 49 (0, 0))) ∧ Aside0 (Below w.heap.size w wc))
     case first =>
      have H := HC13.out
      clear HC13
      by_cases c17 : t626 = true
      ·subst c17
       replace H : (if a0_0 = 42 then ((spec_StarOf.f k t625).bind fun bt627 => (some (bt627.1, bt627.2))) else (if a0_0 ≥ 50 then (if a0_0 ≤ 53 then ((spec_SumTimes.f k t625 ((a0_0 - 48) % 256)).bind fun bt629 => (some (bt629.1, bt629.2))) else (spec_l7Set.j0 k t625 a0_0 l0_1)) else (spec_l7Set.j0 k t625 a0_0 l0_1))) = some (r1, r2) := by rw [if_pos rfl] at H; exact H
       by_cases c18 : a0_0 = 42
       ·rw [if_pos c18] at H
        have c18b0 : (a0_0 == 42) = true := beq_iff_eq.mpr c18
        have c18b1 : (a0_0 != 42) = false := bne_eq_false_iff_eq.mpr c18
        clear c18
        replace H := Option.bind_eq_some_iff.mp H
        obtain ⟨⟨t627, t628⟩, A190, H⟩ := H
        replace H : (some (t627, t628)) = some (r1, r2) := H
        have A19 := aM A190
        clear A190
        simp only [Option.some.injEq, Prod.mk.injEq] at H
        obtain ⟨rfl, rfl⟩ := H
        have hcz20_0 : w16.cell? ⟨gb623, 0, none⟩ = some (.int .u8 a0_0) := (blk_cell BK623.out 0).trans rfl
        have hcz20_1 : w16.cell? ⟨gb623, 1, none⟩ = some (.slice (some ad624) l0_1.length c0_1) := (blk_cell BK623.out 1).trans rfl
        have hfz20_0 := blk_frozen BK623.out 0
        have hfz20_1 := blk_frozen BK623.out 1
        go_wp2_with (first | ((with_reducible refine gate_callee (f := 54) rfl ?_); refine goesL_ (some 32) rfl rfl Try.func54 (by kernel_rfl) rfl #[.string t625] rfl (by (try simp only [List.map_toArray, List.map_cons, List.map_nil]); rfl) ?_; (with_reducible refine (spec_StarOf.calls k t625 t627 t628 _ A19.out).mono ?_); rintro e w21 ⟨rfl, hb⟩; refine ⟨_, rfl, ?_⟩; replace BK623 := aM (blk_below (g := gb623) (o := .cells #[.int .u8 a0_0, .slice (some ad624) l0_1.length c0_1] 49 (0, 0)) BK623.out hb); replace HB := aM (below_step HB.out hb); (try clear hb)))
        go_ret2
        exact ⟨by first | rfl | (simp [*, errW_none, errW_some] <;> rfl), HB.out⟩
       ·rw [if_neg c18] at H
        have c18b0 : (a0_0 == 42) = false := beq_eq_false_iff_ne.mpr c18
        have c18b1 : (a0_0 != 42) = true := bne_iff_ne.mpr c18
        by_cases c22 : a0_0 ≥ 50
        ·rw [if_pos c22] at H
         have c22b0 : decide (50 ≤ a0_0) = true := decide_eq_true c22
         clear c22
         by_cases c23 : a0_0 ≤ 53
         ·rw [if_pos c23] at H
          have c23b0 : decide (a0_0 ≤ 53) = true := decide_eq_true c23
          clear c23
          replace H := Option.bind_eq_some_iff.mp H
          obtain ⟨⟨t629, t630⟩, A240, H⟩ := H
          replace H : (some (t629, t630)) = some (r1, r2) := H
          have A24 := aM A240
          clear A240
          simp only [Option.some.injEq, Prod.mk.injEq] at H
          obtain ⟨rfl, rfl⟩ := H
          have hcz25_0 : w16.cell? ⟨gb623, 0, none⟩ = some (.int .u8 a0_0) := (blk_cell BK623.out 0).trans rfl
          have hcz25_1 : w16.cell? ⟨gb623, 1, none⟩ = some (.slice (some ad624) l0_1.length c0_1) := (blk_cell BK623.out 1).trans rfl
          have hfz25_0 := blk_frozen BK623.out 0
          have hfz25_1 := blk_frozen BK623.out 1
          go_wp2_with (first | ((with_reducible refine gate_callee (f := 55) rfl ?_); refine goesL_ (some 49) rfl rfl Try.func55 (by kernel_rfl) rfl #[.string t625, .int .i64 ((a0_0 - 48) % 256)] rfl (by (try simp only [List.map_toArray, List.map_cons, List.map_nil]); rfl) ?_; (with_reducible refine (spec_SumTimes.calls k t625 ((a0_0 - 48) % 256) t629 t630 _ A24.out).mono ?_); rintro e w26 ⟨rfl, hb⟩; refine ⟨_, rfl, ?_⟩; replace BK623 := aM (blk_below (g := gb623) (o := .cells #[.int .u8 a0_0, .slice (some ad624) l0_1.length c0_1] 49 (0, 0)) BK623.out hb); replace HB := aM (below_step HB.out hb); (try clear hb)))
          go_ret2
          exact ⟨by first | rfl | (simp [*, errW_none, errW_some] <;> rfl), HB.out⟩
         ·rw [if_neg c23] at H
          have c23b0 : decide (a0_0 ≤ 53) = false := decide_eq_false c23
          clear c23
          have H' := aM H
          clear H
          have hcz27_0 : w16.cell? ⟨gb623, 0, none⟩ = some (.int .u8 a0_0) := (blk_cell BK623.out 0).trans rfl
          have hcz27_1 : w16.cell? ⟨gb623, 1, none⟩ = some (.slice (some ad624) l0_1.length c0_1) := (blk_cell BK623.out 1).trans rfl
          have hfz27_0 := blk_frozen BK623.out 0
          have hfz27_1 := blk_frozen BK623.out 1
          go_wp2
          go_meet
          case rel => exact ⟨_, H', ⟨by omega⟩, ⟨by exact BK623.out⟩, ⟨HB.out⟩⟩
        ·rw [if_neg c22] at H
         have c22b0 : decide (50 ≤ a0_0) = false := decide_eq_false c22
         clear c22
         have H' := aM H
         clear H
         have hcz28_0 : w16.cell? ⟨gb623, 0, none⟩ = some (.int .u8 a0_0) := (blk_cell BK623.out 0).trans rfl
         have hcz28_1 : w16.cell? ⟨gb623, 1, none⟩ = some (.slice (some ad624) l0_1.length c0_1) := (blk_cell BK623.out 1).trans rfl
         have hfz28_0 := blk_frozen BK623.out 0
         have hfz28_1 := blk_frozen BK623.out 1
         go_wp2
         go_meet
         case rel => exact ⟨_, H', ⟨by omega⟩, ⟨by exact BK623.out⟩, ⟨HB.out⟩⟩
      ·replace c17 := Bool.eq_false_iff.mpr c17
       subst c17
       replace H : (some ((⟨#[]⟩ : ByteArray), false)) = some (r1, r2) := by rw [if_neg (show ¬ (false = true) by decide)] at H; exact H
       simp only [Option.some.injEq, Prod.mk.injEq] at H
       obtain ⟨rfl, rfl⟩ := H
       go_wp2
       go_ret2
       exact ⟨by first | rfl | (simp [*, errW_none, errW_some] <;> rfl), HB.out⟩
     case rest =>
      clear HC13
      try clear c2
      try clear c2b0
      try clear c2b1
      try clear c5
      try clear c5b0
      try clear c5b1
      try clear c8
      try clear c8b0
      try clear c8b1
      try clear c11b0
      try clear c11b1
      try clear hcz15_0
      try clear hcz15_1
      try clear hfz15_0
      try clear hfz15_1
      try clear hx624_0
      try clear hx624_1
      try clear p624
      try clear q624
      obtain ⟨kq, HA, HJ12, BK623, HB⟩ := hcut
      cases kq with
      | zero => exact absurd HA.out (by simp [spec_l7Set.j0])
      | succ kj12 =>
       have H := HA.out
       clear HA
       simp only [spec_l7Set.j0] at H
       by_cases c29 : 1 < (l0_1.length : Int)
       ·rw [if_pos c29] at H
        have c29b0 : decide (1 < (l0_1.length : Int)) = true := decide_eq_true c29
        have c29b1 : decide (1 < l0_1.length) = true := decide_eq_true (by omega)
        clear c29
        replace H := Option.bind_eq_some_iff.mp H
        obtain ⟨⟨t632, t633⟩, A300, H⟩ := H
        replace H : (if t633 = true then (if a0_0 = 43 then ((spec_MakeEither.f kj12 t625 t632).bind fun bt634 => (some (bt634.1, bt634.2))) else (if a0_0 = 46 then ((spec_SumOf.f kj12 t625 t632).bind fun bt636 => (some (bt636.1, bt636.2))) else ((spec_MakeBoth.f kj12 t625 t632).bind fun bt638 => (some (bt638.1, bt638.2))))) else (some ((⟨#[]⟩ : ByteArray), false))) = some (r1, r2) := H
        have A30 := aM A300
        clear A300
        by_cases c31 : t633 = true
        ·subst c31
         replace H : (if a0_0 = 43 then ((spec_MakeEither.f kj12 t625 t632).bind fun bt634 => (some (bt634.1, bt634.2))) else (if a0_0 = 46 then ((spec_SumOf.f kj12 t625 t632).bind fun bt636 => (some (bt636.1, bt636.2))) else ((spec_MakeBoth.f kj12 t625 t632).bind fun bt638 => (some (bt638.1, bt638.2))))) = some (r1, r2) := by rw [if_pos rfl] at H; exact H
         by_cases c32 : a0_0 = 43
         ·rw [if_pos c32] at H
          have c32b0 : (a0_0 == 43) = true := beq_iff_eq.mpr c32
          have c32b1 : (a0_0 != 43) = false := bne_eq_false_iff_eq.mpr c32
          clear c32
          replace H := Option.bind_eq_some_iff.mp H
          obtain ⟨⟨t634, t635⟩, A330, H⟩ := H
          replace H : (some (t634, t635)) = some (r1, r2) := H
          have A33 := aM A330
          clear A330
          simp only [Option.some.injEq, Prod.mk.injEq] at H
          obtain ⟨rfl, rfl⟩ := H
          have hcz34_0 : wc.cell? ⟨gb623, 0, none⟩ = some (.int .u8 a0_0) := (blk_cell BK623.out 0).trans rfl
          have hcz34_1 : wc.cell? ⟨gb623, 1, none⟩ = some (.slice (some ad624) l0_1.length c0_1) := (blk_cell BK623.out 1).trans rfl
          have hfz34_0 := blk_frozen BK623.out 0
          have hfz34_1 := blk_frozen BK623.out 1
          have p631 : 0 ≤ (1 : Int) := (by omega)
          have q631 : 1 < (l0_1.length : Int) := of_decide_eq_true (by (with_reducible assumption))
          obtain ⟨ad631, A631_1, c631_1, e631, hx631_0, hx631_1, hl631_1, hi631_1⟩ := at_T49 HR0_1.out 1 p631 q631
          obtain rfl : ad624 = ad631 := (by injection e631)
          (try simp only [show (1 : Int).toNat = 1 from rfl, Nat.reduceMul, Nat.reduceEqDiff, Go.Addr.add, ↓reduceIte] at hx631_0)
          (try simp only [show (1 : Int).toNat = 1 from rfl, Nat.reduceMul, Nat.reduceEqDiff, Go.Addr.add, ↓reduceIte] at hx631_1)
          have qi631 : (1 < l0_1.length) = True := eq_true (by omega)
          replace hx631_0 := (HB.out.cell (World.block_lt_of_cell? w _ hx631_0)).trans hx631_0
          replace hx631_1 := (HB.out.cell (World.block_lt_of_cell? w _ hx631_1)).trans hx631_1
          have HR631_1 := aM hi631_1
          have HC631_1 := aM hl631_1
          clear hi631_1 hl631_1
          replace p631 := eq_true p631
          replace q631 := eq_true q631
          go_wp2_with (first | ((with_reducible refine gate_callee (f := 34) rfl ?_); refine goesL_ (some 57) rfl rfl Try.func34 (by kernel_rfl) rfl #[.agg #[.int .u8 ((rd_T49 l0_1 1).f0), .slice A631_1 ((rd_T49 l0_1 1).f1).length c631_1]] rfl (by (try simp only [List.map_toArray, List.map_cons, List.map_nil]); rfl) ?_; (with_reducible refine (ih kj12 (by have := HJ12.out; omega) ((rd_T49 l0_1 1).f0) _ _ ((rd_T49 l0_1 1).f1) t632 true _ ?side1 ?side2 A30.out).mono ?_); (case side1 => repeat (exact (Kd.C_below HR631_1.out HB.out))); (case side2 => exact HC631_1.out); rintro e w35 ⟨rfl, hb⟩; refine ⟨_, rfl, ?_⟩; replace BK623 := aM (blk_below (g := gb623) (o := .cells #[.int .u8 a0_0, .slice (some ad624) l0_1.length c0_1] 49 (0, 0)) BK623.out hb); replace HB := aM (below_step HB.out hb); (try clear hb); have hcz36_0 : w35.cell? ⟨gb623, 0, none⟩ = some (.int .u8 a0_0) := (blk_cell BK623.out 0).trans rfl; have hcz36_1 : w35.cell? ⟨gb623, 1, none⟩ = some (.slice (some ad624) l0_1.length c0_1) := (blk_cell BK623.out 1).trans rfl; have hfz36_0 := blk_frozen BK623.out 0; have hfz36_1 := blk_frozen BK623.out 1) | ((with_reducible refine gate_callee (f := 56) rfl ?_); refine goesL_ (some 69) rfl rfl Try.func56 (by kernel_rfl) rfl #[.string t625, .string t632] rfl (by (try simp only [List.map_toArray, List.map_cons, List.map_nil]); rfl) ?_; (with_reducible refine (spec_MakeEither.calls kj12 t625 t632 t634 t635 _ A33.out).mono ?_); rintro e w37 ⟨rfl, hb⟩; refine ⟨_, rfl, ?_⟩; replace BK623 := aM (blk_below (g := gb623) (o := .cells #[.int .u8 a0_0, .slice (some ad624) l0_1.length c0_1] 49 (0, 0)) BK623.out hb); replace HB := aM (below_step HB.out hb); (try clear hb)))
          go_ret2
          exact ⟨by first | rfl | (simp [*, errW_none, errW_some] <;> rfl), HB.out⟩
         ·rw [if_neg c32] at H
          have c32b0 : (a0_0 == 43) = false := beq_eq_false_iff_ne.mpr c32
          have c32b1 : (a0_0 != 43) = true := bne_iff_ne.mpr c32
          by_cases c38 : a0_0 = 46
          ·rw [if_pos c38] at H
           have c38b0 : (a0_0 == 46) = true := beq_iff_eq.mpr c38
           have c38b1 : (a0_0 != 46) = false := bne_eq_false_iff_eq.mpr c38
           clear c38
           replace H := Option.bind_eq_some_iff.mp H
           obtain ⟨⟨t636, t637⟩, A390, H⟩ := H
           replace H : (some (t636, t637)) = some (r1, r2) := H
           have A39 := aM A390
           clear A390
           simp only [Option.some.injEq, Prod.mk.injEq] at H
           obtain ⟨rfl, rfl⟩ := H
           have hcz40_0 : wc.cell? ⟨gb623, 0, none⟩ = some (.int .u8 a0_0) := (blk_cell BK623.out 0).trans rfl
           have hcz40_1 : wc.cell? ⟨gb623, 1, none⟩ = some (.slice (some ad624) l0_1.length c0_1) := (blk_cell BK623.out 1).trans rfl
           have hfz40_0 := blk_frozen BK623.out 0
           have hfz40_1 := blk_frozen BK623.out 1
           have p631 : 0 ≤ (1 : Int) := (by omega)
           have q631 : 1 < (l0_1.length : Int) := of_decide_eq_true (by (with_reducible assumption))
           obtain ⟨ad631, A631_1, c631_1, e631, hx631_0, hx631_1, hl631_1, hi631_1⟩ := at_T49 HR0_1.out 1 p631 q631
           obtain rfl : ad624 = ad631 := (by injection e631)
           (try simp only [show (1 : Int).toNat = 1 from rfl, Nat.reduceMul, Nat.reduceEqDiff, Go.Addr.add, ↓reduceIte] at hx631_0)
           (try simp only [show (1 : Int).toNat = 1 from rfl, Nat.reduceMul, Nat.reduceEqDiff, Go.Addr.add, ↓reduceIte] at hx631_1)
           have qi631 : (1 < l0_1.length) = True := eq_true (by omega)
           replace hx631_0 := (HB.out.cell (World.block_lt_of_cell? w _ hx631_0)).trans hx631_0
           replace hx631_1 := (HB.out.cell (World.block_lt_of_cell? w _ hx631_1)).trans hx631_1
           have HR631_1 := aM hi631_1
           have HC631_1 := aM hl631_1
           clear hi631_1 hl631_1
           replace p631 := eq_true p631
           replace q631 := eq_true q631
           go_wp2_with (first | ((with_reducible refine gate_callee (f := 34) rfl ?_); refine goesL_ (some 57) rfl rfl Try.func34 (by kernel_rfl) rfl #[.agg #[.int .u8 ((rd_T49 l0_1 1).f0), .slice A631_1 ((rd_T49 l0_1 1).f1).length c631_1]] rfl (by (try simp only [List.map_toArray, List.map_cons, List.map_nil]); rfl) ?_; (with_reducible refine (ih kj12 (by have := HJ12.out; omega) ((rd_T49 l0_1 1).f0) _ _ ((rd_T49 l0_1 1).f1) t632 true _ ?side1 ?side2 A30.out).mono ?_); (case side1 => repeat (exact (Kd.C_below HR631_1.out HB.out))); (case side2 => exact HC631_1.out); rintro e w41 ⟨rfl, hb⟩; refine ⟨_, rfl, ?_⟩; replace BK623 := aM (blk_below (g := gb623) (o := .cells #[.int .u8 a0_0, .slice (some ad624) l0_1.length c0_1] 49 (0, 0)) BK623.out hb); replace HB := aM (below_step HB.out hb); (try clear hb); have hcz42_0 : w41.cell? ⟨gb623, 0, none⟩ = some (.int .u8 a0_0) := (blk_cell BK623.out 0).trans rfl; have hcz42_1 : w41.cell? ⟨gb623, 1, none⟩ = some (.slice (some ad624) l0_1.length c0_1) := (blk_cell BK623.out 1).trans rfl; have hfz42_0 := blk_frozen BK623.out 0; have hfz42_1 := blk_frozen BK623.out 1) | ((with_reducible refine gate_callee (f := 57) rfl ?_); refine goesL_ (some 78) rfl rfl Try.func57 (by kernel_rfl) rfl #[.string t625, .string t632] rfl (by (try simp only [List.map_toArray, List.map_cons, List.map_nil]); rfl) ?_; (with_reducible refine (spec_SumOf.calls kj12 t625 t632 t636 t637 _ A39.out).mono ?_); rintro e w43 ⟨rfl, hb⟩; refine ⟨_, rfl, ?_⟩; replace BK623 := aM (blk_below (g := gb623) (o := .cells #[.int .u8 a0_0, .slice (some ad624) l0_1.length c0_1] 49 (0, 0)) BK623.out hb); replace HB := aM (below_step HB.out hb); (try clear hb)))
           go_ret2
           exact ⟨by first | rfl | (simp [*, errW_none, errW_some] <;> rfl), HB.out⟩
          ·rw [if_neg c38] at H
           have c38b0 : (a0_0 == 46) = false := beq_eq_false_iff_ne.mpr c38
           have c38b1 : (a0_0 != 46) = true := bne_iff_ne.mpr c38
           replace H := Option.bind_eq_some_iff.mp H
           obtain ⟨⟨t638, t639⟩, A440, H⟩ := H
           replace H : (some (t638, t639)) = some (r1, r2) := H
           have A44 := aM A440
           clear A440
           simp only [Option.some.injEq, Prod.mk.injEq] at H
           obtain ⟨rfl, rfl⟩ := H
           have hcz45_0 : wc.cell? ⟨gb623, 0, none⟩ = some (.int .u8 a0_0) := (blk_cell BK623.out 0).trans rfl
           have hcz45_1 : wc.cell? ⟨gb623, 1, none⟩ = some (.slice (some ad624) l0_1.length c0_1) := (blk_cell BK623.out 1).trans rfl
           have hfz45_0 := blk_frozen BK623.out 0
           have hfz45_1 := blk_frozen BK623.out 1
           have p631 : 0 ≤ (1 : Int) := (by omega)
           have q631 : 1 < (l0_1.length : Int) := of_decide_eq_true (by (with_reducible assumption))
           obtain ⟨ad631, A631_1, c631_1, e631, hx631_0, hx631_1, hl631_1, hi631_1⟩ := at_T49 HR0_1.out 1 p631 q631
           obtain rfl : ad624 = ad631 := (by injection e631)
           (try simp only [show (1 : Int).toNat = 1 from rfl, Nat.reduceMul, Nat.reduceEqDiff, Go.Addr.add, ↓reduceIte] at hx631_0)
           (try simp only [show (1 : Int).toNat = 1 from rfl, Nat.reduceMul, Nat.reduceEqDiff, Go.Addr.add, ↓reduceIte] at hx631_1)
           have qi631 : (1 < l0_1.length) = True := eq_true (by omega)
           replace hx631_0 := (HB.out.cell (World.block_lt_of_cell? w _ hx631_0)).trans hx631_0
           replace hx631_1 := (HB.out.cell (World.block_lt_of_cell? w _ hx631_1)).trans hx631_1
           have HR631_1 := aM hi631_1
           have HC631_1 := aM hl631_1
           clear hi631_1 hl631_1
           replace p631 := eq_true p631
           replace q631 := eq_true q631
           go_wp2_with (first | ((with_reducible refine gate_callee (f := 34) rfl ?_); refine goesL_ (some 57) rfl rfl Try.func34 (by kernel_rfl) rfl #[.agg #[.int .u8 ((rd_T49 l0_1 1).f0), .slice A631_1 ((rd_T49 l0_1 1).f1).length c631_1]] rfl (by (try simp only [List.map_toArray, List.map_cons, List.map_nil]); rfl) ?_; (with_reducible refine (ih kj12 (by have := HJ12.out; omega) ((rd_T49 l0_1 1).f0) _ _ ((rd_T49 l0_1 1).f1) t632 true _ ?side1 ?side2 A30.out).mono ?_); (case side1 => repeat (exact (Kd.C_below HR631_1.out HB.out))); (case side2 => exact HC631_1.out); rintro e w46 ⟨rfl, hb⟩; refine ⟨_, rfl, ?_⟩; replace BK623 := aM (blk_below (g := gb623) (o := .cells #[.int .u8 a0_0, .slice (some ad624) l0_1.length c0_1] 49 (0, 0)) BK623.out hb); replace HB := aM (below_step HB.out hb); (try clear hb); have hcz47_0 : w46.cell? ⟨gb623, 0, none⟩ = some (.int .u8 a0_0) := (blk_cell BK623.out 0).trans rfl; have hcz47_1 : w46.cell? ⟨gb623, 1, none⟩ = some (.slice (some ad624) l0_1.length c0_1) := (blk_cell BK623.out 1).trans rfl; have hfz47_0 := blk_frozen BK623.out 0; have hfz47_1 := blk_frozen BK623.out 1) | ((with_reducible refine gate_callee (f := 58) rfl ?_); refine goesL_ (some 83) rfl rfl Try.func58 (by kernel_rfl) rfl #[.string t625, .string t632] rfl (by (try simp only [List.map_toArray, List.map_cons, List.map_nil]); rfl) ?_; (with_reducible refine (spec_MakeBoth.calls kj12 t625 t632 t638 t639 _ A44.out).mono ?_); rintro e w48 ⟨rfl, hb⟩; refine ⟨_, rfl, ?_⟩; replace BK623 := aM (blk_below (g := gb623) (o := .cells #[.int .u8 a0_0, .slice (some ad624) l0_1.length c0_1] 49 (0, 0)) BK623.out hb); replace HB := aM (below_step HB.out hb); (try clear hb)))
           go_ret2
           exact ⟨by first | rfl | (simp [*, errW_none, errW_some] <;> rfl), HB.out⟩
        ·replace c31 := Bool.eq_false_iff.mpr c31
         subst c31
         replace H : (some ((⟨#[]⟩ : ByteArray), false)) = some (r1, r2) := by rw [if_neg (show ¬ (false = true) by decide)] at H; exact H
         simp only [Option.some.injEq, Prod.mk.injEq] at H
         obtain ⟨rfl, rfl⟩ := H
         have hcz49_0 : wc.cell? ⟨gb623, 0, none⟩ = some (.int .u8 a0_0) := (blk_cell BK623.out 0).trans rfl
         have hcz49_1 : wc.cell? ⟨gb623, 1, none⟩ = some (.slice (some ad624) l0_1.length c0_1) := (blk_cell BK623.out 1).trans rfl
         have hfz49_0 := blk_frozen BK623.out 0
         have hfz49_1 := blk_frozen BK623.out 1
         have p631 : 0 ≤ (1 : Int) := (by omega)
         have q631 : 1 < (l0_1.length : Int) := of_decide_eq_true (by (with_reducible assumption))
         obtain ⟨ad631, A631_1, c631_1, e631, hx631_0, hx631_1, hl631_1, hi631_1⟩ := at_T49 HR0_1.out 1 p631 q631
         obtain rfl : ad624 = ad631 := (by injection e631)
         (try simp only [show (1 : Int).toNat = 1 from rfl, Nat.reduceMul, Nat.reduceEqDiff, Go.Addr.add, ↓reduceIte] at hx631_0)
         (try simp only [show (1 : Int).toNat = 1 from rfl, Nat.reduceMul, Nat.reduceEqDiff, Go.Addr.add, ↓reduceIte] at hx631_1)
         have qi631 : (1 < l0_1.length) = True := eq_true (by omega)
         replace hx631_0 := (HB.out.cell (World.block_lt_of_cell? w _ hx631_0)).trans hx631_0
         replace hx631_1 := (HB.out.cell (World.block_lt_of_cell? w _ hx631_1)).trans hx631_1
         have HR631_1 := aM hi631_1
         have HC631_1 := aM hl631_1
         clear hi631_1 hl631_1
         replace p631 := eq_true p631
         replace q631 := eq_true q631
         go_wp2_with (first | ((with_reducible refine gate_callee (f := 34) rfl ?_); refine goesL_ (some 57) rfl rfl Try.func34 (by kernel_rfl) rfl #[.agg #[.int .u8 ((rd_T49 l0_1 1).f0), .slice A631_1 ((rd_T49 l0_1 1).f1).length c631_1]] rfl (by (try simp only [List.map_toArray, List.map_cons, List.map_nil]); rfl) ?_; (with_reducible refine (ih kj12 (by have := HJ12.out; omega) ((rd_T49 l0_1 1).f0) _ _ ((rd_T49 l0_1 1).f1) t632 false _ ?side1 ?side2 A30.out).mono ?_); (case side1 => repeat (exact (Kd.C_below HR631_1.out HB.out))); (case side2 => exact HC631_1.out); rintro e w50 ⟨rfl, hb⟩; refine ⟨_, rfl, ?_⟩; replace BK623 := aM (blk_below (g := gb623) (o := .cells #[.int .u8 a0_0, .slice (some ad624) l0_1.length c0_1] 49 (0, 0)) BK623.out hb); replace HB := aM (below_step HB.out hb); (try clear hb)))
         go_ret2
         exact ⟨by first | rfl | (simp [*, errW_none, errW_some] <;> rfl), HB.out⟩
       ·rw [if_neg c29] at H
        exact absurd H (by simp)
    ·rw [if_neg c11] at H
     exact absurd H (by simp)


def spec_TermSet.f (k : Nat) (a0 : ByteArray) : Option (ByteArray × Bool) := match Tm.of a0 with | some t => spec_l7Set.f k t.toS.f0 t.toS.f1 | none => some (⟨#[]⟩, false)
theorem spec_TermSet.mono : ∀ a0 k, LeO (spec_TermSet.f k a0) (spec_TermSet.f (k + 1) a0) := by
 intro a0 k
 unfold spec_TermSet.f
 cases Tm.of a0 with
 | none => exact LeO.refl _
 | some t => exact spec_l7Set.mono _ _ _
set_option maxHeartbeats 2000000 in
set_option maxRecDepth 100000 in
theorem spec_TermSet.calls (k : Nat) (a0 : ByteArray) (r1 : ByteArray) (r2 : Bool) (w : World) (h : spec_TermSet.f k a0 = some (r1, r2)) :
  Calls Try.prog 13 #[.string a0] w fun e w' => e = .returned (.tuple #[.string r1, .bool r2]) ∧ Below w.heap.size w w' := by
 have C := spec_l7Of.calls a0
 unfold spec_TermSet.f at h
 cases hp : Tm.of a0 with
 | none =>
  rw [hp] at C h
  simp only [Option.some.injEq, Prod.mk.injEq] at h
  obtain ⟨rfl, rfl⟩ := h
  have C0 : ∀ W, Calls Try.prog 28 #[.string a0] W fun e w' => ∃ f A n m, e = .returned (.tuple #[.agg #[.int .u8 f, .slice A n m], .bool false]) ∧ Below W.heap.size W w' := C
  clear C hp
  go_enter Try.func13, Try.ntmps13
  go_wp2_with (go_at_call 28; refine (C0 _).mono ?_; rintro e w1 ⟨f, A, n, m, rfl, hb⟩; have HB := aM hb; clear hb)
  go_ret2
  exact ⟨rfl, by repeat (first | with_reducible exact HB.out | with_reducible apply bA)⟩
 | some t =>
  rw [hp] at C h
  simp only at h
  have C0 : ∀ W, Calls Try.prog 28 #[.string a0] W fun e w' => ∃ A m, e = .returned (.tuple #[.agg #[.int .u8 t.toS.f0, .slice A t.toS.f1.length m], .bool true]) ∧ t.toS.f1.length ≤ m ∧ k49.C w' A t.toS.f1.length t.toS.f1 ∧ Below W.heap.size W w' := C
  have H := aM h
  clear C hp h
  go_enter Try.func13, Try.ntmps13
  go_wp2_with (first | (go_at_call 28; refine (C0 _).mono ?_; rintro e w1 ⟨A, m, rfl, hm, hc, hb⟩; have HB := aM hb; have HC := aM hc; have HM := aM hm; clear hb hc hm) | (go_at_call 34; refine (spec_l7Set.calls k _ _ _ _ r1 r2 _ (Kd.C_alloc HC.out _) HM.out H.out).mono ?_; rintro e w2 ⟨rfl, hb⟩; have HB2 := aM (below_step (bA HB.out _) hb); clear hb))
  go_ret2
  exact ⟨rfl, HB2.out⟩

def spec_TermSame.f (k : Nat) (a0 : ByteArray) (a1 : ByteArray) : Option (Bool) := (spec_TermSet.f k a0).bind fun bt644 => ((spec_TermSet.f k a1).bind fun bt646 => (if bt644.2 = true then (if bt646.2 = true then (some (bt644.1.toList == bt646.1.toList)) else (some false)) else (some false)))
theorem spec_TermSame.mono : ∀ a0 a1 k, LeO (spec_TermSame.f k a0 a1) (spec_TermSame.f (k + 1) a0 a1) := by
 intro a0 a1 k
 unfold spec_TermSame.f
 repeat' first | (with_reducible exact spec_TermSet.mono _ _) | (with_reducible exact LeO.refl _) | (with_reducible refine LeO.bind ?_ (fun _ => ?_))
set_option maxHeartbeats 8000000 in
set_option maxRecDepth 100000 in
theorem spec_TermSame.calls (k : Nat) (a0 : ByteArray) (a1 : ByteArray) (r : Bool) (w : World) (h : spec_TermSame.f k a0 a1 = some r) :
  Calls Try.prog 14 #[.string a0, .string a1] w fun e w' => e = .returned (.bool r) ∧ Below w.heap.size w w' := by
 have HB := aM (Below.refl w.heap.size w)
 have H : ((spec_TermSet.f k a0).bind fun bt644 => ((spec_TermSet.f k a1).bind fun bt646 => (if bt644.2 = true then (if bt646.2 = true then (some (bt644.1.toList == bt646.1.toList)) else (some false)) else (some false)))) = some r := h
 clear h
 replace H := Option.bind_eq_some_iff.mp H
 obtain ⟨⟨t644, t645⟩, A30, H⟩ := H
 replace H : ((spec_TermSet.f k a1).bind fun bt646 => (if t645 = true then (if bt646.2 = true then (some (t644.toList == bt646.1.toList)) else (some false)) else (some false))) = some r := H
 have A3 := aM A30
 clear A30
 replace H := Option.bind_eq_some_iff.mp H
 obtain ⟨⟨t646, t647⟩, A40, H⟩ := H
 replace H : (if t645 = true then (if t647 = true then (some (t644.toList == t646.toList)) else (some false)) else (some false)) = some r := H
 have A4 := aM A40
 clear A40
 by_cases c5 : t645 = true
 ·subst c5
  replace H : (if t647 = true then (some (t644.toList == t646.toList)) else (some false)) = some r := by rw [if_pos rfl] at H; exact H
  by_cases c6 : t647 = true
  all_goals
   first
   |replace c6 := Bool.eq_false_iff.mpr c6
   |skip
   subst c6
   first
   |have H1 : (some (t644.toList == t646.toList)) = some r := by rw [if_pos rfl] at H; exact H
   |have H1 : (some false) = some r := by rw [if_neg (show ¬ (false = true) by decide)] at H; exact H
   clear H
   have H := H1
   clear H1
   obtain rfl := Option.some.inj H
   go_enter Try.func14, Try.ntmps14
   go_wp2_with (first | ((with_reducible refine gate_callee (f := 13) rfl ?_); refine goesL_ (some 11) rfl rfl Try.func13 (by kernel_rfl) rfl #[.string a0] rfl (by (try simp only [List.map_toArray, List.map_cons, List.map_nil]); rfl) ?_; (with_reducible refine (spec_TermSet.calls k a0 t644 true _ A3.out).mono ?_); rintro e w7 ⟨rfl, hb⟩; refine ⟨_, rfl, ?_⟩; replace HB := aM (below_step HB.out hb); (try clear hb)) | ((with_reducible refine gate_callee (f := 13) rfl ?_); refine goesL_ (some 16) rfl rfl Try.func13 (by kernel_rfl) rfl #[.string a1] rfl (by (try simp only [List.map_toArray, List.map_cons, List.map_nil]); rfl) ?_; (with_reducible refine (spec_TermSet.calls k a1 t646 _ _ A4.out).mono ?_); rintro e w8 ⟨rfl, hb⟩; refine ⟨_, rfl, ?_⟩; replace HB := aM (below_step HB.out hb); (try clear hb)))
   go_ret
   exact ⟨by first | rfl | (simp [*, errW_none, errW_some] <;> rfl), HB.out⟩
 ·replace c5 := Bool.eq_false_iff.mpr c5
  subst c5
  replace H : (some false) = some r := by rw [if_neg (show ¬ (false = true) by decide)] at H; exact H
  obtain rfl := Option.some.inj H
  go_enter Try.func14, Try.ntmps14
  go_wp2_with (first | ((with_reducible refine gate_callee (f := 13) rfl ?_); refine goesL_ (some 11) rfl rfl Try.func13 (by kernel_rfl) rfl #[.string a0] rfl (by (try simp only [List.map_toArray, List.map_cons, List.map_nil]); rfl) ?_; (with_reducible refine (spec_TermSet.calls k a0 t644 false _ A3.out).mono ?_); rintro e w11 ⟨rfl, hb⟩; refine ⟨_, rfl, ?_⟩; replace HB := aM (below_step HB.out hb); (try clear hb)) | ((with_reducible refine gate_callee (f := 13) rfl ?_); refine goesL_ (some 16) rfl rfl Try.func13 (by kernel_rfl) rfl #[.string a1] rfl (by (try simp only [List.map_toArray, List.map_cons, List.map_nil]); rfl) ?_; (with_reducible refine (spec_TermSet.calls k a1 t646 t647 _ A4.out).mono ?_); rintro e w12 ⟨rfl, hb⟩; refine ⟨_, rfl, ?_⟩; replace HB := aM (below_step HB.out hb); (try clear hb)))
  go_ret
  exact ⟨by first | rfl | (simp [*, errW_none, errW_some] <;> rfl), HB.out⟩


def impl_TermSame.f (k : Nat) (a0 : ByteArray) (a1 : ByteArray) : Option (Bool) := (impl_TermSet.f k a0).bind fun bt648 => ((impl_TermSet.f k a1).bind fun bt650 => (if bt648.2 = true then (if bt650.2 = true then (some (bt648.1.toList == bt650.1.toList)) else (some false)) else (some false)))
theorem impl_TermSame.mono : ∀ a0 a1 k, LeO (impl_TermSame.f k a0 a1) (impl_TermSame.f (k + 1) a0 a1) := by
 intro a0 a1 k
 unfold impl_TermSame.f
 repeat' first | (with_reducible exact impl_TermSet.mono _ _) | (with_reducible exact LeO.refl _) | (with_reducible refine LeO.bind ?_ (fun _ => ?_))
set_option maxHeartbeats 8000000 in
set_option maxRecDepth 100000 in
theorem impl_TermSame.calls (k : Nat) (a0 : ByteArray) (a1 : ByteArray) (r : Bool) (w : World) (h : impl_TermSame.f k a0 a1 = some r) :
  Calls Try.prog 15 #[.string a0, .string a1] w fun e w' => e = .returned (.bool r) ∧ Below w.heap.size w w' := by
 have HB := aM (Below.refl w.heap.size w)
 have H : ((impl_TermSet.f k a0).bind fun bt648 => ((impl_TermSet.f k a1).bind fun bt650 => (if bt648.2 = true then (if bt650.2 = true then (some (bt648.1.toList == bt650.1.toList)) else (some false)) else (some false)))) = some r := h
 clear h
 replace H := Option.bind_eq_some_iff.mp H
 obtain ⟨⟨t648, t649⟩, A30, H⟩ := H
 replace H : ((impl_TermSet.f k a1).bind fun bt650 => (if t649 = true then (if bt650.2 = true then (some (t648.toList == bt650.1.toList)) else (some false)) else (some false))) = some r := H
 have A3 := aM A30
 clear A30
 replace H := Option.bind_eq_some_iff.mp H
 obtain ⟨⟨t650, t651⟩, A40, H⟩ := H
 replace H : (if t649 = true then (if t651 = true then (some (t648.toList == t650.toList)) else (some false)) else (some false)) = some r := H
 have A4 := aM A40
 clear A40
 by_cases c5 : t649 = true
 ·subst c5
  replace H : (if t651 = true then (some (t648.toList == t650.toList)) else (some false)) = some r := by rw [if_pos rfl] at H; exact H
  by_cases c6 : t651 = true
  all_goals
   first
   |replace c6 := Bool.eq_false_iff.mpr c6
   |skip
   subst c6
   first
   |have H1 : (some (t648.toList == t650.toList)) = some r := by rw [if_pos rfl] at H; exact H
   |have H1 : (some false) = some r := by rw [if_neg (show ¬ (false = true) by decide)] at H; exact H
   clear H
   have H := H1
   clear H1
   obtain rfl := Option.some.inj H
   go_enter Try.func15, Try.ntmps15
   go_wp2_with (first | ((with_reducible refine gate_callee (f := 11) rfl ?_); refine goesL_ (some 11) rfl rfl Try.func11 (by kernel_rfl) rfl #[.string a0] rfl (by (try simp only [List.map_toArray, List.map_cons, List.map_nil]); rfl) ?_; (with_reducible refine (impl_TermSet.calls k a0 t648 true _ A3.out).mono ?_); rintro e w7 ⟨rfl, hb⟩; refine ⟨_, rfl, ?_⟩; replace HB := aM (below_step HB.out hb); (try clear hb)) | ((with_reducible refine gate_callee (f := 11) rfl ?_); refine goesL_ (some 16) rfl rfl Try.func11 (by kernel_rfl) rfl #[.string a1] rfl (by (try simp only [List.map_toArray, List.map_cons, List.map_nil]); rfl) ?_; (with_reducible refine (impl_TermSet.calls k a1 t650 _ _ A4.out).mono ?_); rintro e w8 ⟨rfl, hb⟩; refine ⟨_, rfl, ?_⟩; replace HB := aM (below_step HB.out hb); (try clear hb)))
   go_ret
   exact ⟨by first | rfl | (simp [*, errW_none, errW_some] <;> rfl), HB.out⟩
 ·replace c5 := Bool.eq_false_iff.mpr c5
  subst c5
  replace H : (some false) = some r := by rw [if_neg (show ¬ (false = true) by decide)] at H; exact H
  obtain rfl := Option.some.inj H
  go_enter Try.func15, Try.ntmps15
  go_wp2_with (first | ((with_reducible refine gate_callee (f := 11) rfl ?_); refine goesL_ (some 11) rfl rfl Try.func11 (by kernel_rfl) rfl #[.string a0] rfl (by (try simp only [List.map_toArray, List.map_cons, List.map_nil]); rfl) ?_; (with_reducible refine (impl_TermSet.calls k a0 t648 false _ A3.out).mono ?_); rintro e w11 ⟨rfl, hb⟩; refine ⟨_, rfl, ?_⟩; replace HB := aM (below_step HB.out hb); (try clear hb)) | ((with_reducible refine gate_callee (f := 11) rfl ?_); refine goesL_ (some 16) rfl rfl Try.func11 (by kernel_rfl) rfl #[.string a1] rfl (by (try simp only [List.map_toArray, List.map_cons, List.map_nil]); rfl) ?_; (with_reducible refine (impl_TermSet.calls k a1 t650 t651 _ A4.out).mono ?_); rintro e w12 ⟨rfl, hb⟩; refine ⟨_, rfl, ?_⟩; replace HB := aM (below_step HB.out hb); (try clear hb)))
  go_ret
  exact ⟨by first | rfl | (simp [*, errW_none, errW_some] <;> rfl), HB.out⟩


def laws_FnExactTermSame.f (k : Nat) (a0 : ByteArray) (a1 : ByteArray) : Option (Bool) := if (a0.size : Int) > 1048576 then (some true) else (if (a1.size : Int) > 1048576 then (some true) else ((spec_TermSame.f k a0 a1).bind fun t652 => ((impl_TermSame.f k a0 a1).bind fun t653 => (if (t653 != t652) = true then (some false) else (some true)))))
theorem laws_FnExactTermSame.mono : ∀ a0 a1 k, LeO (laws_FnExactTermSame.f k a0 a1) (laws_FnExactTermSame.f (k + 1) a0 a1) := by
 intro a0 a1 k
 unfold laws_FnExactTermSame.f
 repeat' first | (with_reducible exact impl_TermSame.mono _ _ _) | (with_reducible exact spec_TermSame.mono _ _ _) | (with_reducible exact LeO.refl _) | (with_reducible refine LeO.ite ?_ ?_) | (with_reducible refine LeO.bind ?_ (fun _ => ?_))
set_option maxHeartbeats 8000000 in
set_option maxRecDepth 100000 in
theorem laws_FnExactTermSame.calls (k : Nat) (a0 : ByteArray) (a1 : ByteArray) (r : Bool) (w : World) (h : laws_FnExactTermSame.f k a0 a1 = some r) :
  Calls Try.prog 5 #[.string a0, .string a1] w fun e w' => e = .returned (.bool r) ∧ Below w.heap.size w w' := by
 have HB := aM (Below.refl w.heap.size w)
 have H : (if (a0.size : Int) > 1048576 then (some true) else (if (a1.size : Int) > 1048576 then (some true) else ((spec_TermSame.f k a0 a1).bind fun t652 => ((impl_TermSame.f k a0 a1).bind fun t653 => (if (t653 != t652) = true then (some false) else (some true)))))) = some r := h
 clear h
 by_cases c3 : (a0.size : Int) > 1048576
 ·rw [if_pos c3] at H
  have c3b0 : decide (1048576 < (a0.size : Int)) = true := decide_eq_true c3
  have c3b1 : decide (1048576 < a0.size) = true := decide_eq_true (by omega)
  clear c3
  obtain rfl := Option.some.inj H
  go_enter Try.func5, Try.ntmps5
  go_wp2
  go_ret
  exact ⟨by first | rfl | (simp [*, errW_none, errW_some] <;> rfl), HB.out⟩
 ·rw [if_neg c3] at H
  have c3b0 : decide (1048576 < (a0.size : Int)) = false := decide_eq_false c3
  have c3b1 : decide (1048576 < a0.size) = false := decide_eq_false (by omega)
  clear c3
  by_cases c4 : (a1.size : Int) > 1048576
  ·rw [if_pos c4] at H
   have c4b0 : decide (1048576 < (a1.size : Int)) = true := decide_eq_true c4
   have c4b1 : decide (1048576 < a1.size) = true := decide_eq_true (by omega)
   clear c4
   obtain rfl := Option.some.inj H
   go_enter Try.func5, Try.ntmps5
   go_wp2
   go_ret
   exact ⟨by first | rfl | (simp [*, errW_none, errW_some] <;> rfl), HB.out⟩
  ·rw [if_neg c4] at H
   have c4b0 : decide (1048576 < (a1.size : Int)) = false := decide_eq_false c4
   have c4b1 : decide (1048576 < a1.size) = false := decide_eq_false (by omega)
   clear c4
   replace H := Option.bind_eq_some_iff.mp H
   obtain ⟨t652, A50, H⟩ := H
   replace H : ((impl_TermSame.f k a0 a1).bind fun t653 => (if (t653 != t652) = true then (some false) else (some true))) = some r := H
   have A5 := aM A50
   clear A50
   replace H := Option.bind_eq_some_iff.mp H
   obtain ⟨t653, A60, H⟩ := H
   replace H : (if (t653 != t652) = true then (some false) else (some true)) = some r := H
   have A6 := aM A60
   clear A60
   by_cases c7 : (t653 != t652) = true
   all_goals
    first
    |rw [if_pos c7] at H
     have c7b0 : (t653 != t652) = true := c7
     (try (have c7b1 : decide (t653 = t652) = false := by simpa using c7))
     (try (have c7b2 : (t653 == t652) = false := by simpa using c7))
     (try (have c7b3 : ¬ (t653 = t652) := by simpa using c7))
    |rw [if_neg c7] at H
     have c7b0 : (t653 != t652) = false := by simpa using c7
     (try (have c7b1 : decide (t653 = t652) = true := by simpa using c7))
     (try (have c7b2 : (t653 == t652) = true := by simpa using c7))
    clear c7
    obtain rfl := Option.some.inj H
    go_enter Try.func5, Try.ntmps5
    go_wp2_with (first | ((with_reducible refine gate_callee (f := 14) rfl ?_); refine goesL_ (some 15) rfl rfl Try.func14 (by kernel_rfl) rfl #[.string a0, .string a1] rfl (by (try simp only [List.map_toArray, List.map_cons, List.map_nil]); rfl) ?_; (with_reducible refine (spec_TermSame.calls k a0 a1 t652 _ A5.out).mono ?_); rintro e w8 ⟨rfl, hb⟩; refine ⟨_, rfl, ?_⟩; replace HB := aM (below_step HB.out hb); (try clear hb)) | ((with_reducible refine gate_callee (f := 15) rfl ?_); refine goesL_ (some 18) rfl rfl Try.func15 (by kernel_rfl) rfl #[.string a0, .string a1] rfl (by (try simp only [List.map_toArray, List.map_cons, List.map_nil]); rfl) ?_; (with_reducible refine (impl_TermSame.calls k a0 a1 t653 _ A6.out).mono ?_); rintro e w9 ⟨rfl, hb⟩; refine ⟨_, rfl, ?_⟩; replace HB := aM (below_step HB.out hb); (try clear hb)))
    go_ret
    exact ⟨by first | rfl | (simp [*, errW_none, errW_some] <;> rfl), HB.out⟩

/-- THE ONE PURE STATEMENT of laws_FnExactTermSame: yours. -/
def laws_FnExactTermSame.Pure : Prop := ∀ (a0 : ByteArray) (a1 : ByteArray), a0.size ≤ 140737488351232 → a1.size ≤ 140737488351232 → ∃ k, laws_FnExactTermSame.f k a0 a1 = some true
theorem laws_FnExactTermSame.walk (P : laws_FnExactTermSame.Pure) (a0 : ByteArray) (a1 : ByteArray) (w : World) (w0 : a0.size ≤ 140737488351232) (w1 : a1.size ≤ 140737488351232) :
  Calls Try.prog 5 #[.string a0, .string a1] w fun e w' => e = .returned (.bool true) ∧ Below w.heap.size w w' := by
 obtain ⟨k, h⟩ := P a0 a1 w0 w1
 refine (laws_FnExactTermSame.calls k a0 a1 true w h).mono ?_
 rintro e w' ⟨rfl, hd⟩
 exact ⟨rfl, hd⟩

end Go.Proofs.Ytedhckahjinieaa.Q

namespace Go.Proofs.Ytedhckahjinieaa.Q
open Go.RowKit Go.Proofs.YtedhckahjinieaaW.PrintWords Go.Proofs.YtedhckahjinieaaW.PrintLast Go.Proofs.YtedhckahjinieaaW.PrintMore
attribute [local go_sem] max2_int min2_int max_two min_two max_three min_three max_four min_four   -- for this text's walks alone
set_option linter.unusedVariables false
set_option linter.unusedSimpArgs false

end Go.Proofs.Ytedhckahjinieaa.Q

namespace Go.Proofs.Ytedhckahjinieaa.Q
open Go.RowKit Go.Proofs.YtedhckahjinieaaW.PrintWords Go.Proofs.YtedhckahjinieaaW.PrintLast Go.Proofs.YtedhckahjinieaaW.PrintMore
attribute [local go_sem] max2_int min2_int max_two min_two max_three min_three max_four min_four   -- for this text's walks alone
set_option linter.unusedVariables false
set_option linter.unusedSimpArgs false

end Go.Proofs.Ytedhckahjinieaa.Q

namespace Go.Proofs.Ytedhckahjinieaa.Q
open Go.RowKit Go.Proofs.YtedhckahjinieaaW.PrintWords Go.Proofs.YtedhckahjinieaaW.PrintLast Go.Proofs.YtedhckahjinieaaW.PrintMore
open Go.Proofs.Ytedhckahjinieaa.Pl (hasB)
set_option linter.unusedVariables false
set_option linter.unusedSimpArgs false
theorem wr {x : Int} (h0 : -9223372036854775808 ≤ x) (h1 : x ≤ 9223372036854775807) : wrap64 x = x := by unfold wrap64; omega
theorem Ev.eq {α : Type} {g f : Nat → Option α} {r : α} (h : g = f) (k : Ev f r) : Ev g r := h ▸ k
theorem Ev.end {α : Type} {g : Nat → Option α} {r : α} (h : ∀ k, g (k + 1) = some r) : Ev g r := ⟨1, fun k hk => by obtain ⟨m, rfl⟩ : ∃ m, k = m + 1 := ⟨k - 1, by omega⟩; exact h m⟩
theorem Ev.const {α : Type} {g : Nat → Option α} {r : α} (h : ∀ k, g k = some r) : Ev g r := ⟨0, fun k _ => h k⟩
theorem Ev.unique {α : Type} {g : Nat → Option α} {r q : α} (h : Ev g r) (k : Ev g q) : r = q := by
  obtain ⟨a, ha⟩ := h
  obtain ⟨b, hb⟩ := k
  have h1 := ha (max a b) (Nat.le_max_left _ _)
  rw [hb (max a b) (Nat.le_max_right _ _)] at h1
  exact (Option.some.inj h1).symm

theorem bt_list (s : ByteArray) (i : Nat) (h : i < s.size) : bt s (i : Int) = ((s.data.toList.getD i 0).toNat : Int) := by
  unfold bt
  rw [dif_pos (by simpa using h)]
  have : s.data.toList.length = s.size := Array.length_toList
  simp [List.getD, h, this]
  rfl
theorem bt_is (s : ByteArray) (i : Nat) (h : i < s.size) (c : UInt8) (n : Int) (hn : n = (c.toNat : Int)) : bt s (i : Int) = n ↔ s.data.toList.getD i 0 = c := by
  rw [bt_list s i h, hn]
  constructor
  · intro h
    exact UInt8.toNat_inj.1 (by exact_mod_cast h)
  · intro h
    rw [h]
theorem drop_getD {α : Type} (l : List α) (i : Nat) (z : α) (h : i < l.length) : l.drop i = l.getD i z :: l.drop (i + 1) := by
  rw [List.drop_eq_getElem_cons h]; simp [List.getD, h]

def okL (l : List UInt8) : Bool := l.all fun c => c == 48 || c == 49
theorem signs_l0 (s : ByteArray) (hs : s.size ≤ 1073741824) (d : Nat) : ∀ (i : Nat) (acc : List Bool), i + d = s.size → acc.length = i →
    Ev (fun k => spec_l1Signs.l0 k s acc i) (if okL (s.data.toList.drop i) then (acc ++ (s.data.toList.drop i).map (· == 49), true) else ([], false)) := by
  have hl : s.data.toList.length = s.size := Array.length_toList
  induction d with
  | zero =>
    intro i acc h1 h2
    refine Ev.end fun k => ?_
    simp only [spec_l1Signs.l0]
    rw [if_neg (by omega), List.drop_of_length_le (by omega)]
    simp [okL]
  | succ d ih =>
    intro i acc h1 h2
    rw [drop_getD _ i 0 (by omega)]
    have hb48 := bt_is s i (by omega) 48 48 rfl
    have hb49 := bt_is s i (by omega) 49 49 rfl
    have hw : wrap64 ((i : Int) + 1) = ((i + 1 : Nat) : Int) := by rw [wr (by omega) (by omega)]; omega
    by_cases c48 : s.data.toList.getD i 0 = 48
    · refine Ev.step (f := fun k => spec_l1Signs.l0 k s (acc ++ [false]) ((i + 1 : Nat) : Int)) (fun k => ?_) ?_
      · simp only [spec_l1Signs.l0]
        have e : bt s (i : Int) = 48 := hb48.2 c48
        rw [if_pos (by omega), if_pos (by omega), if_pos e, if_pos (by omega), hw, e]
        rfl
      · have := ih (i + 1) (acc ++ [false]) (by omega) (by simp [h2])
        rw [c48]
        simpa [okL] using this
    · by_cases c49 : s.data.toList.getD i 0 = 49
      · refine Ev.step (f := fun k => spec_l1Signs.l0 k s (acc ++ [true]) ((i + 1 : Nat) : Int)) (fun k => ?_) ?_
        · simp only [spec_l1Signs.l0]
          have e : bt s (i : Int) = 49 := hb49.2 c49
          rw [if_pos (by omega), if_pos (by omega), if_neg (fun h => c48 (hb48.1 h)), if_pos e, if_pos (by omega), hw]
        · have := ih (i + 1) (acc ++ [true]) (by omega) (by simp [h2])
          rw [c49]
          simpa [okL] using this
      · refine Ev.end fun k => ?_
        simp only [spec_l1Signs.l0]
        rw [if_pos (by omega), if_pos (by omega), if_neg (fun h => c48 (hb48.1 h)), if_neg (fun h => c49 (hb49.1 h))]
        rw [if_neg]
        simp only [okL, List.all_cons, Bool.and_eq_true, Bool.or_eq_true, beq_iff_eq, not_and]
        intro h
        exact absurd h (by simp only [not_or]; exact ⟨c48, c49⟩)
theorem l1Signs_ev (s : ByteArray) (hs : s.size ≤ 1073741824) : Ev (fun k => spec_l1Signs.f k s) (if okL s.data.toList then (s.data.toList.map (· == 49), true) else ([], false)) := by
  have := signs_l0 s hs s.size 0 [] (by omega) rfl
  simpa [spec_l1Signs.f] using this
theorem signs_ev (s : ByteArray) (hs : s.size ≤ 1073741824) : impl_signs.f s = some (if okL s.data.toList then (s.data.toList.map (· == 49), decide ((s.size : Int) ≤ 60)) else ([], false)) := by
  unfold impl_signs.f
  rw [if_pos (by omega)]
  unfold okL impl_signs.ok
  split <;> rfl

theorem index_cases (l : List UInt8) (c : UInt8) : (Lib.indexByte l c = -1 ∧ ∀ i, i < l.length → l.getD i 0 ≠ c) ∨ ∃ i : Nat, i < l.length ∧ Lib.indexByte l c = i ∧ l.getD i 0 = c ∧ ∀ j, j < i → l.getD j 0 ≠ c := by
  induction l with
  | nil => left; exact ⟨rfl, fun i h => absurd h (Nat.not_lt_zero i)⟩
  | cons b l ih =>
    unfold Lib.indexByte
    by_cases hb : b = c
    · right
      exact ⟨0, by simp, by simp [hb], by simp [hb], fun j h => absurd h (Nat.not_lt_zero j)⟩
    · rw [if_neg (by simpa using hb)]
      rcases ih with ⟨h1, h2⟩ | ⟨i, h1, h2, h3, h4⟩
      · left
        refine ⟨by rw [h1]; rfl, fun i hi => ?_⟩
        cases i with
        | zero => simpa using hb
        | succ i => simpa using h2 i (by simpa using hi)
      · right
        refine ⟨i + 1, by simpa using h1, ?_, by simpa using h3, fun j hj => ?_⟩
        · rw [h2, if_neg (by simp only [beq_iff_eq]; omega)]; omega
        · cases j with
          | zero => simpa using hb
          | succ j => simpa using h4 j (by omega)

structure Good (t r : List Bool) : Prop where
  pos : 0 < r.length
  tl : t.length ≤ 60
  rl : r.length ≤ 60
structure IsSet (s : ByteArray) (t r : List Bool) : Prop where
  good : Good t r
  impl : impl_setOf.f s = some (t, r, true)
  spec : Ev (fun k => spec_l1Read.f k s) (t, r, true)
structure NoSet (s : ByteArray) : Prop where
  impl : ∃ a b, impl_setOf.f s = some (a, b, false)
  spec : ∃ a b, Ev (fun k => spec_l1Read.f k s) (a, b, false)

/-- The reader comes to the first bracket, or to the end. -/
theorem read_l0 (s : ByteArray) (hs : s.size ≤ 1073741824) (a b : List Bool) {r : List Bool × List Bool × Bool} (j : Nat) (hj : j ≤ s.size) (hn : ∀ i, i < j → s.data.toList.getD i 0 ≠ 40) (hend : j < s.size → s.data.toList.getD j 0 = 40)
    (h : Ev (fun k => spec_l1Read.j1 k s j a b) r) (d : Nat) : ∀ i, i + d = j → Ev (fun k => spec_l1Read.l0 k s (i : Nat) a b) r := by
  induction d with
  | zero =>
    intro i hi
    obtain rfl : i = j := by omega
    refine Ev.step (fun k => ?_) h
    simp only [spec_l1Read.l0]
    by_cases c : i < s.size
    · rw [if_pos (by omega), if_pos (by omega), if_pos ((bt_is s i c 40 40 rfl).2 (hend c))]
    · rw [if_neg (by omega)]
  | succ d ih =>
    intro i hi
    refine Ev.step (fun k => ?_) (ih (i + 1) (by omega))
    simp only [spec_l1Read.l0]
    have hw : wrap64 ((i : Int) + 1) = ((i + 1 : Nat) : Int) := by rw [wr (by omega) (by omega)]; omega
    rw [if_pos (by omega), if_pos (by omega), if_neg (fun h => hn i (by omega) ((bt_is s i (by omega) 40 40 rfl).1 h)), hw]

theorem size_data (s : ByteArray) : s.data.toList.length = s.size := Array.length_toList
theorem ext_size (s : ByteArray) (a b : Nat) (hb : b ≤ s.size) : (s.extract a b).size = b - a := by simp; omega
theorem ext_list (s : ByteArray) (a b : Nat) : (s.extract a b).data.toList = (s.data.toList.take b).drop a := by
  simp [List.extract_eq_take_drop, List.drop_take]
theorem toList_eq (s : ByteArray) : s.toList = s.data.toList := (Lib.toList_data s).symm ▸ rfl

theorem last_eq {s : ByteArray} {i : Nat} (h : i + 1 < s.size) : ((s.extract (i + 1) s.size).extract ((s.extract (i + 1) s.size).size - 1) (s.extract (i + 1) s.size).size).toList = [s.data.toList.getD (s.size - 1) 0] := by
  rw [toList_eq, ext_list, ext_list, ext_size _ _ _ (Nat.le_refl _)]
  have hl := size_data s
  rw [List.take_of_length_le (l := s.data.toList) (by omega), List.take_of_length_le (by rw [List.length_drop]; omega), List.drop_drop, drop_getD _ _ 0 (by omega), List.drop_of_length_le (by omega)]
  congr 2
  omega
theorem ring_eq {s : ByteArray} {i : Nat} (h : i + 1 < s.size) : (s.extract (i + 1) s.size).extract 0 ((s.extract (i + 1) s.size).size - 1) = s.extract (i + 1) (s.size - 1) := by
  have : ∀ a b : ByteArray, a.data.toList = b.data.toList → a = b := fun a b h => by
    obtain ⟨⟨a⟩⟩ := a; obtain ⟨⟨b⟩⟩ := b; simp at h; simp [h]
  refine this _ _ ?_
  have hl := size_data s
  rw [ext_list, ext_list, ext_list, ext_size _ _ _ (Nat.le_refl _), List.drop_zero, List.take_of_length_le (l := s.data.toList) (by omega), List.drop_take]
  congr 1
  omega

/-- Each text is a set text for both readers, with the same tail and ring, or for none. -/
theorem read_cases (s : ByteArray) (hs : s.size ≤ 1073741824) : NoSet s ∨ ∃ t r, IsSet s t r := by
  have hl := size_data s
  have hsg := fun (x : ByteArray) (hx : x.size ≤ 1073741824) => signs_ev x hx
  rcases index_cases s.data.toList 40 with ⟨h1, h2⟩ | ⟨i, h1, h2, h3, h4⟩
  · left
    refine ⟨?_, ?_⟩
    · have hc : strings_Cut.f s ⟨#[40]⟩ = some (s, ⟨#[]⟩, false) := by
        unfold strings_Cut.f stringslite_Cut.f stringslite_Index.f
        rw [dif_pos (by rfl)]
        show ((some (Lib.indexByte s.data.toList 40)).bind _).bind _ = _
        rw [h1]
        rfl
      have hd : strings_CutSuffix.f ⟨#[]⟩ ⟨#[41]⟩ = some (⟨#[]⟩, false) := by rfl
      refine ⟨(if okL s.data.toList then (s.data.toList.map (· == 49), decide ((s.size : Int) ≤ 60)) else ([], false)).1, [], ?_⟩
      unfold impl_setOf.f
      rw [hc]; simp only [Option.bind_some]
      rw [hd]; simp only [Option.bind_some]
      rw [hsg s hs, hsg ⟨#[]⟩ (by decide)]
      simp only [Option.bind_some]
      rw [if_neg (by simp)]
      rfl
    · refine ⟨[], [false], ?_⟩
      refine read_l0 s hs [] [false] s.size (Nat.le_refl _) (fun i hi => h2 i (by omega)) (fun h => by omega) ?_ s.size 0 (by omega)
      refine Ev.step (f := fun k => spec_l1Read.j2 k s (s.size : Nat) true [] [false]) (fun k => ?_) (Ev.end fun k => ?_)
      · simp only [spec_l1Read.j1]
        rw [if_pos (by rw [wr (by omega) (by omega)]; omega)]
      · simp only [spec_l1Read.j2, if_true]
  · have hi : i < s.size := by omega
    have hc : strings_Cut.f s ⟨#[40]⟩ = some (s.extract 0 i, s.extract (i + 1) s.size, true) := by
      unfold strings_Cut.f stringslite_Cut.f stringslite_Index.f
      rw [dif_pos (by rfl)]
      show ((some (Lib.indexByte s.data.toList 40)).bind _).bind _ = _
      rw [h2]
      simp only [Option.bind_some]
      have hz : ((⟨#[40]⟩ : ByteArray).size : Int) = 1 := rfl
      rw [if_pos (by omega), if_pos (by omega), if_pos (by omega), hz, wr (by omega) (by omega), if_pos (by omega), if_pos (by omega)]
      simp only [Option.bind_some, Int.toNat_natCast]
      rw [show ((i : Int) + 1).toNat = i + 1 from by omega]
    have hz1 : (s.extract (i + 1) s.size).size = s.size - (i + 1) := ext_size _ _ _ (Nat.le_refl _)
    have h41 : ((⟨#[41]⟩ : ByteArray).size : Int) = 1 := rfl
    have hsuf : strings_CutSuffix.f (s.extract (i + 1) s.size) ⟨#[41]⟩ = some (if i + 1 < s.size ∧ s.data.toList.getD (s.size - 1) 0 = 41 then (s.extract (i + 1) (s.size - 1), true) else (s.extract (i + 1) s.size, false)) := by
      unfold strings_CutSuffix.f stringslite_CutSuffix.f stringslite_HasSuffix.f
      rw [h41]
      by_cases c : i + 1 < s.size
      · rw [if_pos (by omega), wr (by omega) (by omega), if_pos (by omega), if_pos (by omega), show (((s.extract (i + 1) s.size).size : Int) - 1).toNat = (s.extract (i + 1) s.size).size - 1 from by omega, last_eq c, ring_eq c]
        simp only [Option.bind_some]
        have hb : ([s.data.toList.getD (s.size - 1) 0] == (⟨#[41]⟩ : ByteArray).toList) = decide (s.data.toList.getD (s.size - 1) 0 = 41) := by
          rw [toList_eq, Bool.eq_iff_iff]; simp
        rw [hb]
        by_cases e : s.data.toList.getD (s.size - 1) 0 = 41
        · rw [decide_eq_true e, if_pos rfl, if_pos (by omega), if_pos (by omega), if_pos ⟨c, e⟩]; rfl
        · rw [decide_eq_false e, if_neg (by simp), if_neg (by intro h; exact e h.2)]; rfl
      · rw [if_neg (by omega)]
        simp only [Option.bind_some, Bool.false_eq_true, if_false]
        rw [if_neg (fun h => c h.1)]
    have hspec : ∀ (r : List Bool × List Bool × Bool), Ev (fun k => spec_l1Read.j1 k s i [] [false]) r → Ev (fun k => spec_l1Read.f k s) r := by
      intro r hr
      exact read_l0 s hs [] [false] i (by omega) (fun j hj => h4 j hj) (fun _ => h3) hr i 0 (by omega)
    have hnull : ∀ x : Bool, x = true → Ev (fun k => spec_l1Read.j2 k s (i : Nat) x [] [false]) (([] : List Bool), [false], false) := by
      intro x hx
      refine Ev.end fun k => ?_
      simp only [spec_l1Read.j2]
      rw [if_pos hx]
    -- for the reader's bracket at the end
    have hj1 : ∀ r, Ev (fun k => spec_l1Read.j2 k s (i : Nat) (decide (s.size ≤ i + 2) || s.data.toList.getD (s.size - 1) 0 != 41) [] [false]) r → Ev (fun k => spec_l1Read.j1 k s i [] [false]) r := by
      intro r hr
      refine Ev.step (fun k => ?_) hr
      simp only [spec_l1Read.j1]
      rw [wr (x := (i : Int) + 2) (by omega) (by omega), wr (x := (s.size : Int) - 1) (by omega) (by omega)]
      by_cases c : s.size ≤ i + 2
      · rw [if_pos (by omega)]; simp [c]
      · rw [if_neg (by omega), if_pos (by omega), if_pos (by omega)]
        rw [show (s.size : Int) - 1 = ((s.size - 1 : Nat) : Int) from by omega]
        congr 1
        simp only [c, decide_false, Bool.false_or]
        have := bt_is s (s.size - 1) (by omega) 41 41 rfl
        rw [Bool.eq_iff_iff]; simp only [bne_iff_ne, ne_eq, this]
    by_cases c : (i + 2 < s.size) ∧ s.data.toList.getD (s.size - 1) 0 = 41
    · obtain ⟨c1, c2⟩ := c
      rw [if_pos ⟨by omega, c2⟩] at hsuf
      have e1 := hsg (s.extract 0 i) (by rw [ext_size _ _ _ (by omega)]; omega)
      have e2 := hsg (s.extract (i + 1) (s.size - 1)) (by rw [ext_size _ _ _ (by omega)]; omega)
      have g1 := l1Signs_ev (s.extract 0 i) (by rw [ext_size _ _ _ (by omega)]; omega)
      have g2 := l1Signs_ev (s.extract (i + 1) (s.size - 1)) (by rw [ext_size _ _ _ (by omega)]; omega)
      have z1 : (s.extract 0 i).size = i := by rw [ext_size _ _ _ (by omega)]; omega
      have z2 : (s.extract (i + 1) (s.size - 1)).size = s.size - i - 2 := by rw [ext_size _ _ _ (by omega)]; omega
      have y1 := size_data (s.extract 0 i)
      have y2 := size_data (s.extract (i + 1) (s.size - 1))
      rw [z1] at e1 y1
      rw [z2] at e2 y2
      have himpl : impl_setOf.f s = (impl_signs.f (s.extract 0 i)).bind fun x => (impl_signs.f (s.extract (i + 1) (s.size - 1))).bind fun y => some (x.1, y.1, x.2 && y.2 && decide ((y.1.length : Int) > 0)) := by
        unfold impl_setOf.f
        rw [hc]; simp only [Option.bind_some]
        rw [hsuf]; simp only [Option.bind_some]
        congr 1; funext x; congr 1; funext y
        cases x.2 <;> cases y.2 <;> simp
      have hj2 : ∀ (x y : List Bool × Bool), Ev (fun k => spec_l1Signs.f k (s.extract 0 i)) x → Ev (fun k => spec_l1Signs.f k (s.extract (i + 1) (s.size - 1))) y →
          Ev (fun k => spec_l1Read.f k s) (if x.2 && y.2 && decide (x.1.length ≤ 60) && decide (y.1.length ≤ 60) then (x.1, y.1, true) else ([], [false], false)) := by
        intro x y hx hy
        refine hspec _ (hj1 _ ?_)
        have : (decide (s.size ≤ i + 2) || s.data.toList.getD (s.size - 1) 0 != 41) = false := by rw [c2]; simp; omega
        rw [this]
        refine Ev.step (f := fun k => (spec_l1Signs.f k (s.extract 0 i)).bind fun bt121 => (spec_l1Signs.f k (s.extract (i + 1) (s.size - 1))).bind fun bt125 => (if bt121.2 = true then (if bt125.2 = true then (if (bt121.1.length : Int) > 60 then (some (([] : List Bool), [false], false)) else (if (bt125.1.length : Int) > 60 then (some ([], [false], false)) else (some (bt121.1, bt125.1, true)))) else (some ([], [false], false))) else (some ([], [false], false)))) (fun k => ?_) ?_
        · simp only [spec_l1Read.j2]
          rw [if_neg (by simp), if_pos (by omega), if_pos (by omega), wr (x := (i : Int) + 1) (by omega) (by omega), wr (x := (s.size : Int) - 1) (by omega) (by omega)]
          simp only [if_pos (show (0 : Int) ≤ (i : Int) + 1 from by omega), if_pos (show (i : Int) + 1 ≤ (s.size : Int) - 1 from by omega), if_pos (show (s.size : Int) - 1 ≤ (s.size : Int) from by omega)]
          rw [Int.toNat_natCast, show ((i : Int) + 1).toNat = i + 1 from by omega, show ((s.size : Int) - 1).toNat = s.size - 1 from by omega]
        · refine Ev.bind hx (Ev.bind hy (Ev.const fun k => ?_))
          obtain ⟨x1, x2⟩ := x
          obtain ⟨y1, y2⟩ := y
          cases x2 <;> cases y2 <;> simp
          by_cases q1 : x1.length ≤ 60
          · by_cases q2 : y1.length ≤ 60
            · rw [if_neg (by omega), if_neg (by omega), if_pos ⟨q1, q2⟩]
            · rw [if_neg (by omega), if_pos (by omega), if_neg (by omega)]
          · rw [if_pos (by omega), if_neg (by omega)]
      have hfin := hj2 _ _ g1 g2
      rw [e1, e2] at himpl
      simp only [Option.bind_some] at himpl
      cases o1 : okL (s.extract 0 i).data.toList with
      | false => left; rw [o1] at himpl hfin; exact ⟨⟨_, _, by rw [himpl]; simp; exact ⟨rfl, rfl⟩⟩, ⟨_, _, by simpa using hfin⟩⟩
      | true =>
        cases o2 : okL (s.extract (i + 1) (s.size - 1)).data.toList with
        | false => left; rw [o1, o2] at himpl hfin; exact ⟨⟨_, _, by rw [himpl]; simp; exact ⟨rfl, rfl⟩⟩, ⟨_, _, by simpa using hfin⟩⟩
        | true =>
          rw [o1, o2] at himpl hfin
          simp only [if_true, List.length_map, Bool.and_self, Bool.true_and] at himpl hfin
          rw [y1, y2] at hfin
          rw [y2] at himpl
          by_cases q : i ≤ 60 ∧ s.size - i - 2 ≤ 60
          · right
            refine ⟨(s.extract 0 i).data.toList.map (· == 49), (s.extract (i + 1) (s.size - 1)).data.toList.map (· == 49), ⟨?_, by rw [List.length_map]; omega, by rw [List.length_map]; omega⟩, himpl.trans ?_, ?_⟩
            · rw [List.length_map]; omega
            · rw [decide_eq_true (show ((i : Nat) : Int) ≤ 60 from by omega), decide_eq_true (show (((s.size - i - 2 : Nat) : Int) ≤ 60) from by omega), decide_eq_true (show (((s.size - i - 2 : Nat) : Int) > 0) from by omega)]
              rfl
            · rw [decide_eq_true q.1, decide_eq_true q.2] at hfin
              exact hfin
          · left
            refine ⟨⟨(s.extract 0 i).data.toList.map (· == 49), (s.extract (i + 1) (s.size - 1)).data.toList.map (· == 49), himpl.trans ?_⟩, ⟨[], [false], ?_⟩⟩
            · congr 3
              by_cases q1 : i ≤ 60
              · rw [decide_eq_false (show ¬ (((s.size - i - 2 : Nat) : Int) ≤ 60) from by omega)]; simp
              · rw [decide_eq_false (show ¬ ((i : Nat) : Int) ≤ 60 from by omega)]; simp
            · by_cases q1 : i ≤ 60
              · rw [decide_eq_false (show ¬ (s.size - i - 2 ≤ 60) from by omega)] at hfin; simpa using hfin
              · rw [decide_eq_false q1] at hfin; simpa using hfin
    · left
      have hcond : (decide (s.size ≤ i + 2) || s.data.toList.getD (s.size - 1) 0 != 41) = true := by
        by_cases q : i + 2 < s.size
        · have : ¬ s.data.toList.getD (s.size - 1) 0 = 41 := fun h => c ⟨q, h⟩
          simp only [Bool.or_eq_true, bne_iff_ne, ne_eq]; exact .inr this
        · simp only [Bool.or_eq_true, decide_eq_true_eq]; exact .inl (by omega)
      refine ⟨?_, ⟨[], [false], hspec _ (hj1 _ (hnull _ hcond))⟩⟩
      have e1 := hsg (s.extract 0 i) (by rw [ext_size _ _ _ (by omega)]; omega)
      unfold impl_setOf.f
      rw [hc]; simp only [Option.bind_some]
      rw [hsuf]; simp only [Option.bind_some]
      by_cases q : i + 1 < s.size ∧ s.data.toList.getD (s.size - 1) 0 = 41
      · rw [if_pos q]
        have hem : (s.extract (i + 1) (s.size - 1)).size = 0 := by
          rw [ext_size _ _ _ (by omega)]
          by_cases q2 : i + 2 < s.size
          · exact absurd ⟨q2, q.2⟩ c
          · omega
        have e2 := hsg (s.extract (i + 1) (s.size - 1)) (by omega)
        have y2 := size_data (s.extract (i + 1) (s.size - 1))
        have hn : (s.extract (i + 1) (s.size - 1)).data.toList = [] := List.length_eq_zero_iff.1 (by omega)
        obtain ⟨p, hp⟩ : ∃ p, impl_signs.f (s.extract 0 i) = some p := ⟨_, e1⟩
        rw [hp, e2, hn]
        simp only [Option.bind_some, okL, List.all_nil, if_true, List.map_nil, List.length_nil]
        refine ⟨p.1, [], ?_⟩
        cases p.2 <;> simp
      · rw [if_neg q, e1]
        simp only [Option.bind_some]
        rw [hsg (s.extract (i + 1) s.size) (by omega)]
        simp only [Option.bind_some]
        exact ⟨_, _, rfl⟩

end Go.Proofs.Ytedhckahjinieaa.Q

namespace Go.Proofs.Ytedhckahjinieaa.Q
open Go.RowKit Go.Proofs.YtedhckahjinieaaW.PrintWords Go.Proofs.YtedhckahjinieaaW.PrintLast Go.Proofs.YtedhckahjinieaaW.PrintMore
open Go.Proofs.Ytedhckahjinieaa.Pl
set_option linter.unusedVariables false
set_option linter.unusedSimpArgs false
theorem rdOf_nat (l : List Bool) (n : Nat) : rdOf false l (n : Int) = l.getD n false := by simp [rdOf]
theorem tmod_nat (a b : Nat) : Int.tmod (a : Int) (b : Int) = ((a % b : Nat) : Int) := by
  rw [Int.tmod_eq_emod_of_nonneg (Int.natCast_nonneg a)]; exact (Int.natCast_emod a b).symm
theorem tdiv_nat (a b : Nat) : Int.tdiv (a : Int) (b : Int) = ((a / b : Nat) : Int) := by
  rw [Int.tdiv_eq_ediv_of_nonneg (Int.natCast_nonneg a)]; exact (Int.natCast_ediv a b).symm
theorem wr1 {n : Nat} (h : n ≤ 4611686018427387904) : wrap64 ((n : Int) + 1) = ((n + 1 : Nat) : Int) := by rw [wr (by omega) (by omega)]; omega

theorem set_has {t r : List Bool} (h : Good t r) (n : Nat) (hn : n ≤ 4611686018427387904) : impl_set_has.f t r n = some (hasB t r n) := by
  have h1 := h.pos
  have h2 := h.tl
  have h3 := h.rl
  unfold impl_set_has.f
  rw [if_neg (by omega)]
  by_cases c : n < t.length
  · rw [if_pos (by omega), if_pos (by omega), rdOf_nat, hasB_lt c]
  · have e : wrap64 ((n : Int) - (t.length : Int)) = ((n - t.length : Nat) : Int) := by rw [wr (by omega) (by omega)]; omega
    have hm := Nat.mod_lt (n - t.length) h1
    rw [if_neg (by omega), if_neg (by omega), e, tmod_nat, if_pos (by omega), if_pos (by omega), rdOf_nat, hasB_ge (by omega)]
theorem l1_has {t r : List Bool} (h : Good t r) (n : Nat) (hn : n ≤ 4611686018427387904) : spec_l1Has.f t r n = some (hasB t r n) := by
  have h1 := h.pos
  have h2 := h.tl
  have h3 := h.rl
  unfold spec_l1Has.f
  by_cases c : n < t.length
  · rw [if_pos (by omega), if_pos (by omega), rdOf_nat, hasB_lt c]
  · have e : wrap64 ((n : Int) - (t.length : Int)) = ((n - t.length : Nat) : Int) := by rw [wr (by omega) (by omega)]; omega
    have hm := Nat.mod_lt (n - t.length) h1
    rw [if_neg (by omega), if_neg (by omega), e, tmod_nat, if_pos (by omega), if_pos (by omega), rdOf_nat, hasB_ge (by omega)]


theorem wrm1 {n : Nat} (h0 : 1 ≤ n) (h : n ≤ 4611686018427387904) : wrap64 ((n : Int) - 1) = ((n - 1 : Nat) : Int) := by rw [wr (by omega) (by omega)]; omega

theorem turns_l0 (r : List Bool) (hr : r.length ≤ 1073741824) (d : Nat) (hd : 1 ≤ d) (hdl : d ≤ r.length) (m : Nat) : ∀ i, i + m = r.length → (∀ j, j < i → r.getD j false = r.getD (j % d) false) →
    ∃ b : Bool, Ev (fun k => impl_turns.l0 k r d (r.length : Int) (i : Nat)) b ∧ (b = true ↔ per r d) := by
  induction m with
  | zero =>
    intro i hi hall
    refine ⟨decide (r.length % d = 0), Ev.end fun k => ?_, ?_⟩
    · simp only [impl_turns.l0]
      rw [if_neg (by omega), if_neg (by omega), ← Int.natCast_emod]
      congr 1
      rw [Bool.eq_iff_iff]
      simp only [beq_iff_eq, decide_eq_true_eq]
      omega
    · rw [decide_eq_true_eq]
      exact ⟨fun h => ⟨h, fun j hj => hall j (by omega)⟩, fun h => h.1⟩
  | succ m ih =>
    intro i hi hall
    have hm := Nat.mod_lt i (show d > 0 by omega)
    by_cases c : r.getD i false = r.getD (i % d) false
    · obtain ⟨b, h1, h2⟩ := ih (i + 1) (by omega) (fun j hj => by
        rcases Nat.lt_or_ge j i with h | h
        · exact hall j h
        · obtain rfl : j = i := by omega
          exact c)
      refine ⟨b, Ev.step (fun k => ?_) h1, h2⟩
      simp only [impl_turns.l0]
      rw [if_pos (by omega), if_pos (by omega), if_pos (by omega), if_neg (by omega), tmod_nat, if_pos (by omega), if_pos (by omega), rdOf_nat, rdOf_nat, wr1 (by omega), if_neg (by rw [c]; simp)]
    · refine ⟨false, Ev.end fun k => ?_, ?_⟩
      · simp only [impl_turns.l0]
        rw [if_pos (by omega), if_pos (by omega), if_pos (by omega), if_neg (by omega), tmod_nat, if_pos (by omega), if_pos (by omega), rdOf_nat, rdOf_nat, if_pos (by simpa using c)]
      · exact ⟨fun h => absurd h (by simp), fun h => absurd (h.2 i (by omega)) c⟩
theorem turns_ev (r : List Bool) (hr : r.length ≤ 1073741824) (d : Nat) (hd : 1 ≤ d) (hdl : d ≤ r.length) : ∃ b : Bool, Ev (fun k => impl_turns.f k r d) b ∧ (b = true ↔ per r d) :=
  turns_l0 r hr d hd hdl r.length 0 (by omega) (fun j hj => absurd hj (Nat.not_lt_zero j))

theorem rot_append {r : List Bool} : ([r.getD (r.length - 1) false] : List Bool) ++ r.take (r.length - 1) = rot r := by
  simp [rot, List.dropLast_eq_take]

/-- The tail made short. -/
theorem tidy_l1 (n : Nat) : ∀ (t r : List Bool), t.length = n → t.length ≤ 1073741824 → 0 < r.length → r.length ≤ 1073741824 → (∀ d, 1 ≤ d → d < r.length → ¬ per r d) →
    ∃ t' r', Ev (fun k => impl_set_tidy.l1 k (r.length : Int) t r) (t', r') ∧ Canon t' r' ∧ (∀ m, hasB t' r' m = hasB t r m) ∧ t'.length ≤ t.length ∧ r'.length ≤ r.length := by
  induction n with
  | zero =>
    intro t r ht _ h1 h2 h3
    refine ⟨t, r, Ev.end fun k => ?_, ⟨h1, h3, fun m hm => by omega⟩, fun m => rfl, Nat.le_refl _, Nat.le_refl _⟩
    simp only [impl_set_tidy.l1]
    rw [if_neg (by omega)]
  | succ n ih =>
    intro t r ht htl h1 h2 h3
    have e1 : wrap64 ((t.length : Int) - 1) = (n : Nat) := by rw [wrm1 (by omega) (by omega)]; omega
    by_cases c : t.getD n false = r.getD (r.length - 1) false
    · have hl : (t.take n).length = n := by rw [List.length_take]; omega
      obtain ⟨t', r', g1, g2, g3, g4, g5⟩ := ih (t.take n) (rot r) hl (by omega) (by rw [rot_length h1]; exact h1) (by rw [rot_length h1]; exact h2) (fun d hd1 hd2 hp => by rw [rot_length h1] at hd2; exact h3 d hd1 hd2 (per_rot h1 hd1 hp))
      rw [rot_length h1] at g1 g5
      refine ⟨t', r', Ev.step (fun k => ?_) g1, g2, fun m => by rw [g3, has_rot ht h1 c], by omega, g5⟩
      simp only [impl_set_tidy.l1]
      rw [if_pos (by omega), e1, if_pos (by omega), if_pos (by omega), wrm1 h1 (by omega), if_pos (by omega), if_pos (by omega), rdOf_nat, rdOf_nat, if_pos (by rw [c]; simp), if_pos (by omega)]
      simp only [Option.bind_some]
      rw [if_pos (by omega)]
      rw [if_pos (by simp; omega), Int.toNat_natCast, Int.toNat_natCast, rot_append]
    · refine ⟨t, r, Ev.end fun k => ?_, ⟨h1, h3, fun m hm => (show n = m by omega) ▸ c⟩, fun m => rfl, Nat.le_refl _, Nat.le_refl _⟩
      simp only [impl_set_tidy.l1]
      rw [if_pos (by omega), e1, if_pos (by omega), if_pos (by omega), wrm1 h1 (by omega), if_pos (by omega), if_pos (by omega), rdOf_nat, rdOf_nat, if_neg (by simpa using c)]

theorem tidy_l0 (t r : List Bool) (ht : t.length ≤ 1073741824) (h1 : 0 < r.length) (h2 : r.length ≤ 1073741824) (m : Nat) : ∀ d, d + m = r.length → 1 ≤ d → (∀ e, 1 ≤ e → e < d → ¬ per r e) →
    ∃ t' r', Ev (fun k => impl_set_tidy.l0 k (d : Nat) t r) (t', r') ∧ Canon t' r' ∧ (∀ m, hasB t' r' m = hasB t r m) ∧ t'.length ≤ t.length ∧ r'.length ≤ r.length := by
  induction m with
  | zero =>
    intro d hd hd1 hno
    obtain ⟨b, hb, hb2⟩ := turns_ev r h2 d hd1 (by omega)
    have hp : per r d := ⟨by rw [show r.length = d from by omega]; exact Nat.mod_self d, fun i hi => by rw [Nat.mod_eq_of_lt (by omega)]⟩
    have hl : (r.take d).length = d := by rw [List.length_take]; omega
    obtain ⟨t', r', g1, g2, g3, g4, g5⟩ := tidy_l1 t.length t (r.take d) rfl ht (by omega) (by omega) (fun e he1 he2 hpe => hno e he1 (by omega) (per_take hd1 he1 (by omega) hp hpe))
    rw [hl] at g1 g5
    refine ⟨t', r', ?_, g2, fun m => by rw [g3, has_take hd1 h1 hp (by omega)], g4, by omega⟩
    refine Ev.step (f := fun k => (impl_turns.f k r d).bind fun x => if x = true then impl_set_tidy.l1 k d t (r.take d) else impl_set_tidy.l0 k (wrap64 (d + 1)) t r) (fun k => ?_) ?_
    · simp only [impl_set_tidy.l0, slices_Clone_bool_bool.f]
      rw [if_pos (by omega)]
      simp only [Option.bind_some]
      rw [if_pos (by omega), if_pos (by omega), Int.toNat_natCast, if_pos (by omega)]
      simp only [Option.bind_some]
    · exact Ev.bind hb (by simp only [if_pos (hb2.2 hp)]; exact g1)
  | succ m ih =>
    intro d hd hd1 hno
    obtain ⟨b, hb, hb2⟩ := turns_ev r h2 d hd1 (by omega)
    have hl : (r.take d).length = d := by rw [List.length_take]; omega
    have key : ∃ t' r', Ev (fun k => if b = true then impl_set_tidy.l1 k d t (r.take d) else impl_set_tidy.l0 k (wrap64 ((d : Nat) + 1)) t r) (t', r') ∧ Canon t' r' ∧ (∀ m, hasB t' r' m = hasB t r m) ∧ t'.length ≤ t.length ∧ r'.length ≤ r.length := by
      by_cases c : b = true
      · have hp := hb2.1 c
        obtain ⟨t', r', g1, g2, g3, g4, g5⟩ := tidy_l1 t.length t (r.take d) rfl ht (by omega) (by omega) (fun e he1 he2 hpe => hno e he1 (by omega) (per_take hd1 he1 (by omega) hp hpe))
        rw [hl] at g1 g5
        refine ⟨t', r', ?_, g2, fun m => by rw [g3, has_take hd1 h1 hp (by omega)], g4, by omega⟩
        simp only [if_pos c]
        exact g1
      · obtain ⟨t', r', g1, g2, g3, g4, g5⟩ := ih (d + 1) (by omega) (by omega) (fun e he1 he2 hpe => by
          rcases Nat.lt_or_ge e d with h | h
          · exact hno e he1 h hpe
          · obtain rfl : e = d := by omega
            exact c (hb2.2 hpe))
        refine ⟨t', r', ?_, g2, g3, g4, g5⟩
        simp only [if_neg c]
        rw [wr1 (by omega)]
        exact g1
    obtain ⟨t', r', g1, g2⟩ := key
    refine ⟨t', r', ?_, g2⟩
    refine Ev.step (f := fun k => (impl_turns.f k r d).bind fun x => if x = true then impl_set_tidy.l1 k d t (r.take d) else impl_set_tidy.l0 k (wrap64 (d + 1)) t r) (fun k => ?_) (Ev.bind hb g1)
    simp only [impl_set_tidy.l0, slices_Clone_bool_bool.f]
    rw [if_pos (by omega)]
    simp only [Option.bind_some]
    rw [if_pos (by omega), if_pos (by omega), Int.toNat_natCast, if_pos (by omega)]
    simp only [Option.bind_some]

theorem tidy_ev {t r : List Bool} (h : Good t r) : ∃ t' r', Ev (fun k => impl_set_tidy.f k t r) (t', r') ∧ Canon t' r' ∧ (∀ m, hasB t' r' m = hasB t r m) ∧ t'.length ≤ t.length ∧ r'.length ≤ r.length := by
  have h1 := h.pos
  have h2 := h.tl
  have h3 := h.rl
  exact tidy_l0 t r (by omega) h1 (by omega) (r.length - 1) 1 (by omega) (by omega) (fun e he1 he2 => by omega)

/-- 'comes again behind d' in the reference's words. -/
theorem per_steps (r : List Bool) (d : Nat) (hd : 1 ≤ d) : (∀ i, d ≤ i → i < r.length → r.getD i false = r.getD (i - d) false) ↔ ∀ i, i < r.length → r.getD i false = r.getD (i % d) false := by
  constructor
  · intro h i
    induction i using Nat.strongRecOn with
    | _ i ih =>
      intro hi
      rcases Nat.lt_or_ge i d with c | c
      · rw [Nat.mod_eq_of_lt c]
      · rw [h i c hi, ih (i - d) (by omega) (by omega), ← Nat.mod_eq_sub_mod c]
  · intro h i h1 h2
    rw [h i h2, h (i - d) (by omega), ← Nat.mod_eq_sub_mod h1]

/-- The reference's inner loop. -/
theorem less_l1 (t r : List Bool) (hr : r.length ≤ 1073741824) (d : Nat) (hd : 1 ≤ d) (hdl : d < r.length) (g : Bool → Nat → Option (List Bool × List Bool))
    (hgt : ∀ k, g true k = (spec_l1Less.f k t (r.take d)).bind fun x => some (x.1, x.2)) (hgf : ∀ k, g false k = spec_l1Less.l0 k (r.length : Int) ((d + 1 : Nat) : Int) t r) (res : List Bool × List Bool) (m : Nat) :
    ∀ i (b : Bool), i + m = r.length → d ≤ i → (b = true ↔ r.length % d = 0 ∧ ∀ j, d ≤ j → j < i → r.getD j false = r.getD (j - d) false) →
      (∀ c : Bool, (c = true ↔ r.length % d = 0 ∧ ∀ j, d ≤ j → j < r.length → r.getD j false = r.getD (j - d) false) → Ev (g c) res) → Ev (fun k => spec_l1Less.l1 k (r.length : Int) (d : Nat) b (i : Nat) t r) res := by
  induction m with
  | zero =>
    intro i b hi hdi hb hres
    obtain rfl : i = r.length := by omega
    refine Ev.step (fun k => ?_) (hres b hb)
    simp only [spec_l1Less.l1]
    rw [if_neg (by omega)]
    cases b with
    | true => rw [if_pos rfl, if_pos (by omega), if_pos (by omega), Int.toNat_natCast, hgt]
    | false => rw [if_neg (by simp), wr1 (by omega), hgf]
  | succ m ih =>
    intro i b hi hdi hb hres
    cases b with
    | true =>
      have h1 := hb.1 rfl
      have e : wrap64 ((i : Int) - (d : Int)) = ((i - d : Nat) : Int) := by rw [wr (by omega) (by omega)]; omega
      refine Ev.step (fun k => ?_) (ih (i + 1) (r.getD i false == r.getD (i - d) false) (by omega) (by omega) ?_ hres)
      · simp only [spec_l1Less.l1, if_true]
        rw [if_pos (by omega), if_pos (by omega), if_pos (by omega), e, if_pos (by omega), if_pos (by omega), rdOf_nat, rdOf_nat, wr1 (by omega)]
      · rw [beq_iff_eq]
        constructor
        · intro c
          refine ⟨h1.1, fun j hj1 hj2 => ?_⟩
          rcases Nat.lt_or_ge j i with h | h
          · exact h1.2 j hj1 h
          · obtain rfl : j = i := by omega
            exact c
        · intro c
          exact c.2 i hdi (by omega)
    | false =>
      refine Ev.step (fun k => ?_) (hres false ⟨fun h => (by cases h), fun h => (hb.2 ⟨h.1, fun j hj1 hj2 => h.2 j hj1 (by omega)⟩)⟩)
      simp only [spec_l1Less.l1]
      rw [if_pos (by omega), if_neg (by simp), wr1 (by omega), hgf]

theorem less_ev (n : Nat) : ∀ t r : List Bool, t.length + r.length = n → t.length ≤ 1073741824 → 0 < r.length → r.length ≤ 1073741824 →
    ∃ t' r', Ev (fun k => spec_l1Less.f k t r) (t', r') ∧ Canon t' r' ∧ (∀ m, hasB t' r' m = hasB t r m) ∧ t'.length ≤ t.length ∧ r'.length ≤ r.length := by
  induction n using Nat.strongRecOn with
  | _ n ih =>
    intro t r hn ht h1 h2
    have loop : ∀ m d, d + m = r.length → 1 ≤ d → (∀ e, 1 ≤ e → e < d → ¬ per r e) → ∃ t' r', Ev (fun k => spec_l1Less.l0 k (r.length : Int) (d : Nat) t r) (t', r') ∧ Canon t' r' ∧ (∀ m, hasB t' r' m = hasB t r m) ∧ t'.length ≤ t.length ∧ r'.length ≤ r.length := by
      intro m
      induction m with
      | zero =>
        intro d hd hd1 hno
        obtain rfl : d = r.length := by omega
        by_cases ct : t.length = 0
        · refine ⟨t, r, Ev.end fun k => ?_, ⟨h1, hno, fun m hm => by omega⟩, fun m => rfl, Nat.le_refl _, Nat.le_refl _⟩
          simp only [spec_l1Less.l0]
          rw [if_neg (by omega), if_neg (by omega)]
        · obtain ⟨q, hq⟩ : ∃ q, t.length = q + 1 := ⟨t.length - 1, by omega⟩
          have e1 : wrap64 ((t.length : Int) - 1) = (q : Nat) := by rw [wrm1 (by omega) (by omega)]; omega
          by_cases c : t.getD q false = r.getD (r.length - 1) false
          · have hl : (t.take q).length = q := by rw [List.length_take]; omega
            obtain ⟨t', r', g1, g2, g3, g4, g5⟩ := ih (q + r.length) (by omega) (t.take q) (rot r) (by rw [rot_length h1, hl]) (by omega) (by rw [rot_length h1]; exact h1) (by rw [rot_length h1]; exact h2)
            rw [rot_length h1] at g5
            refine ⟨t', r', Ev.step (f := fun k => (spec_l1Less.f k (t.take q) (rot r)).bind fun x => some (x.1, x.2)) (fun k => ?_) (Ev.bind g1 (Ev.now _)), g2, fun m => by rw [g3, has_rot hq h1 c], by omega, g5⟩
            simp only [spec_l1Less.l0]
            rw [if_neg (by omega), if_pos (by omega), e1, if_pos (by omega), if_pos (by omega), wrm1 h1 (by omega), if_pos (by omega), if_pos (by omega), rdOf_nat, rdOf_nat, if_pos (by rw [c]; simp)]
            simp only [Option.bind_some]
            rw [if_pos (by omega)]
            rw [if_pos (by simp; omega), if_pos (by omega), Int.toNat_natCast, Int.toNat_natCast, rot_append]
          · refine ⟨t, r, Ev.end fun k => ?_, ⟨h1, hno, fun m hm => (show q = m by omega) ▸ c⟩, fun m => rfl, Nat.le_refl _, Nat.le_refl _⟩
            simp only [spec_l1Less.l0]
            rw [if_neg (by omega), if_pos (by omega), e1, if_pos (by omega), if_pos (by omega), wrm1 h1 (by omega), if_pos (by omega), if_pos (by omega), rdOf_nat, rdOf_nat, if_neg (by simpa using c)]
      | succ m ihm =>
        intro d hd hd1 hno
        have hl : (r.take d).length = d := by rw [List.length_take]; omega
        have hstep : ∀ res, Ev (fun k => spec_l1Less.l1 k (r.length : Int) (d : Nat) (decide (r.length % d = 0)) (d : Nat) t r) res → Ev (fun k => spec_l1Less.l0 k (r.length : Int) (d : Nat) t r) res := by
          intro res hres
          refine Ev.step (fun k => ?_) hres
          simp only [spec_l1Less.l0]
          rw [if_pos (by omega), if_neg (by omega), tmod_nat]
          congr 1
          rw [Bool.eq_iff_iff]
          simp only [beq_iff_eq, decide_eq_true_eq]
          omega
        by_cases hp : per r d
        · obtain ⟨t', r', g1, g2, g3, g4, g5⟩ := ih (t.length + d) (by omega) t (r.take d) (by rw [hl]) ht (by omega) (by omega)
          refine ⟨t', r', hstep _ ?_, g2, fun m => by rw [g3, has_take hd1 h1 hp (by omega)], g4, by omega⟩
          refine less_l1 t r h2 d hd1 (by omega) (fun b k => if b = true then (spec_l1Less.f k t (r.take d)).bind fun x => some (x.1, x.2) else spec_l1Less.l0 k (r.length : Int) ((d + 1 : Nat) : Int) t r) (fun k => if_pos rfl) (fun k => if_neg (by simp)) (t', r') m.succ d (decide (r.length % d = 0)) (by omega) (Nat.le_refl _) ?_ ?_
          · rw [decide_eq_true_eq]
            exact ⟨fun h => ⟨h, fun j a b => by omega⟩, fun h => h.1⟩
          · intro c hc
            have : c = true := hc.2 ⟨hp.1, (per_steps r d hd1).2 hp.2⟩
            subst this
            simp only [if_true]
            exact Ev.bind g1 (Ev.now _)
        · obtain ⟨t', r', g1, g2, g3, g4, g5⟩ := ihm (d + 1) (by omega) (by omega) (fun e he1 he2 hpe => by
            rcases Nat.lt_or_ge e d with h | h
            · exact hno e he1 h hpe
            · obtain rfl : e = d := by omega
              exact hp hpe)
          refine ⟨t', r', hstep _ ?_, g2, g3, g4, g5⟩
          refine less_l1 t r h2 d hd1 (by omega) (fun b k => if b = true then (spec_l1Less.f k t (r.take d)).bind fun x => some (x.1, x.2) else spec_l1Less.l0 k (r.length : Int) ((d + 1 : Nat) : Int) t r) (fun k => if_pos rfl) (fun k => if_neg (by simp)) (t', r') m.succ d (decide (r.length % d = 0)) (by omega) (Nat.le_refl _) ?_ ?_
          · rw [decide_eq_true_eq]
            exact ⟨fun h => ⟨h, fun j a b => by omega⟩, fun h => h.1⟩
          · intro c hc
            have : ¬ c = true := fun h => hp ⟨(hc.1 h).1, (per_steps r d hd1).1 (hc.1 h).2⟩
            simp only [if_neg this]
            exact g1
    obtain ⟨t', r', g1, g2⟩ := loop (r.length - 1) 1 (by omega) (by omega) (fun e he1 he2 => by omega)
    exact ⟨t', r', Ev.step (fun k => by simp only [spec_l1Less.f]; rfl) g1, g2⟩

/-- The tidy form of a set, for both. -/
structure Tidied (t r t' r' : List Bool) : Prop where
  impl : Ev (fun k => impl_set_tidy.f k t r) (t', r')
  spec : Ev (fun k => spec_l1Less.f k t r) (t', r')
  canon : Canon t' r'
  same : ∀ n, hasB t' r' n = hasB t r n
  good : Good t' r'
  tle : t'.length ≤ t.length
  rle : r'.length ≤ r.length
theorem tidied {t r : List Bool} (h : Good t r) : ∃ t' r', Tidied t r t' r' := by
  have h1 := h.pos
  have h2 := h.tl
  have h3 := h.rl
  obtain ⟨t', r', g1, g2, g3, g4, g5⟩ := tidy_ev h
  obtain ⟨t2, r2, k1, k2, k3, k4, k5⟩ := less_ev (t.length + r.length) t r rfl (by omega) h1 (by omega)
  obtain ⟨rfl, rfl⟩ := canon_unique g2 k2 (fun n => by rw [g3, k3])
  exact ⟨t', r', g1, k1, g2, g3, ⟨g2.pos, by omega, by omega⟩, g4, g5⟩


structure IsSmall (s : ByteArray) (t r : List Bool) : Prop where
  orig : ∃ t0 r0, IsSet s t0 r0 ∧ Tidied t0 r0 t r
  good : Good t r
  tl : t.length ≤ 8
  rl : r.length ≤ 8
  impl : Ev (fun k => impl_small.f k s) (t, r, true)
  spec : Ev (fun k => spec_l4Small.f k s) (t, r, true)
structure NoSmall (s : ByteArray) : Prop where
  impl : ∃ a b, Ev (fun k => impl_small.f k s) (a, b, false)
  spec : ∃ a b, Ev (fun k => spec_l4Small.f k s) (a, b, false)
theorem small_cases (s : ByteArray) (hs : s.size ≤ 1073741824) : NoSmall s ∨ ∃ t r, IsSmall s t r := by
  rcases read_cases s hs with h | ⟨t0, r0, h⟩
  · left
    obtain ⟨⟨a, b, ha⟩, ⟨a', b', hb⟩⟩ := h
    refine ⟨⟨[], [], ?_⟩, ⟨a', b', ?_⟩⟩
    · unfold impl_small.f impl_tidied.f
      rw [ha]; simp only [Option.bind_some, Bool.false_eq_true, if_false]
      exact Ev.now _
    · unfold spec_l4Small.f
      refine Ev.bind hb ?_
      simp only [Bool.false_eq_true, if_false]
      exact Ev.now _
  · obtain ⟨t, r, hT⟩ := tidied h.good
    have hi : Ev (fun k => impl_small.f k s) (t, r, decide ((t.length : Int) ≤ 8) && decide ((r.length : Int) ≤ 8)) := by
      unfold impl_small.f impl_tidied.f
      rw [h.impl]; simp only [Option.bind_some, if_true]
      refine Ev.bind (a := (t, r, true)) (Ev.bind hT.impl (Ev.now _)) (Ev.const fun k => ?_)
      rw [if_pos rfl]
      by_cases c : (t.length : Int) ≤ 8
      · rw [if_pos c, decide_eq_true c]; rfl
      · rw [if_neg c, decide_eq_false c]; rfl
    have hs : Ev (fun k => spec_l4Small.f k s) (t, r, decide ((t.length : Int) ≤ 8) && decide ((r.length : Int) ≤ 8)) := by
      unfold spec_l4Small.f
      refine Ev.bind h.spec ?_
      simp only [if_true]
      refine Ev.bind hT.spec (Ev.const fun k => ?_)
      by_cases c : (t.length : Int) ≤ 8
      · rw [if_pos c, decide_eq_true c]; rfl
      · rw [if_neg c, decide_eq_false c]; rfl
    by_cases c : t.length ≤ 8 ∧ r.length ≤ 8
    · right
      rw [decide_eq_true (by omega), decide_eq_true (by omega)] at hi hs
      exact ⟨t, r, ⟨t0, r0, h, hT⟩, hT.good, c.1, c.2, hi, hs⟩
    · left
      have : (decide ((t.length : Int) ≤ 8) && decide ((r.length : Int) ≤ 8)) = false := by
        by_cases c1 : t.length ≤ 8
        · rw [decide_eq_false (show ¬ (r.length : Int) ≤ 8 by omega), Bool.and_false]
        · rw [decide_eq_false (show ¬ (t.length : Int) ≤ 8 by omega), Bool.false_and]
      rw [this] at hi hs
      exact ⟨⟨t, r, hi⟩, ⟨t, r, hs⟩⟩
theorem getD_set_self (l : List Bool) (i : Nat) (v : Bool) (h : i < l.length) : (l.set i v).getD i false = v := by simp [List.getD, h]
theorem getD_set_ne (l : List Bool) {i j : Nat} (v : Bool) (h : i ≠ j) : (l.set i v).getD j false = l.getD j false := by simp [List.getD, h]
theorem in_eq' (a b c : Int) : impl_in.f a b c = some (decide (b ≤ a ∧ a ≤ c)) := by
  unfold impl_in.f
  by_cases h : b ≤ a
  · rw [if_pos h]; simp [h]
  · rw [if_neg (by omega), decide_eq_false (by omega)]
theorem l6In_eq' (a b c : Int) : spec_l6In.f a b c = some (decide (b ≤ a ∧ a ≤ c)) := by
  unfold spec_l6In.f
  by_cases h : b ≤ a
  · rw [if_pos h]; simp [h]
  · rw [if_neg (by omega), decide_eq_false (by omega)]


theorem wrs {a b : Nat} (h : b ≤ a) (ha : a ≤ 4611686018427387904) : wrap64 ((a : Int) - (b : Int)) = ((a - b : Nat) : Int) := by rw [wr (by omega) (by omega)]; omega

theorem star_l1 {t r : List Bool} (h : Good t r) (m : Nat) (hm : m ≤ 1000000) (i : Nat) (hi : i < m) (P : List Bool → Prop)
    (hend : ∀ l, l.length = m → (∀ j, j < i + 1 → l.getD j false = star (hasB t r) j) → ∃ l', Ev (fun k => impl_star.l0 k l m ((i + 1 : Nat) : Int) t r) l' ∧ P l') (d : Nat) :
    ∀ (q : Nat) (l : List Bool), q + d = i + 1 → 1 ≤ q → l.length = m → (∀ j, j < i → l.getD j false = star (hasB t r) j) → (l.getD i false = true → star (hasB t r) i = true) → (l.getD i false = false → 1 ≤ i ∧ ∀ y, 1 ≤ y → y < q → ¬ (hasB t r y = true ∧ star (hasB t r) (i - y) = true)) →
      ∃ l', Ev (fun k => impl_star.l1 k l (i : Nat) (q : Nat) m (i : Nat) t r) l' ∧ P l' := by
  have fin : ∀ l : List Bool, l.length = m → (∀ j, j < i → l.getD j false = star (hasB t r) j) → l.getD i false = star (hasB t r) i → ∃ l', Ev (fun k => impl_star.l0 k l m ((i + 1 : Nat) : Int) t r) l' ∧ P l' := by
    intro l hl ha hb
    refine hend l hl fun j hj => ?_
    rcases Nat.lt_or_ge j i with c | c
    · exact ha j c
    · obtain rfl : j = i := by omega
      exact hb
  induction d with
  | zero =>
    intro q l hq h1 hl ha hb hc
    have hb' : l.getD i false = star (hasB t r) i := by
      cases e : l.getD i false with
      | true => exact (hb e).symm
      | false =>
        obtain ⟨g1, g2⟩ := hc e
        cases es : star (hasB t r) i with
        | false => rfl
        | true =>
          obtain ⟨y, p1, p2, p3, p4⟩ := (star_iff _ g1).1 es
          exact absurd ⟨p3, p4⟩ (g2 y p1 (by omega))
    obtain ⟨l', k1, k2⟩ := fin l hl ha hb'
    refine ⟨l', Ev.step (fun k => ?_) k1, k2⟩
    simp only [impl_star.l1]
    rw [if_neg (by omega), wr1 (by omega)]
  | succ d ih =>
    intro q l hq h1 hl ha hb hc
    cases e : l.getD i false with
    | true =>
      obtain ⟨l', k1, k2⟩ := fin l hl ha (by rw [e, hb e])
      refine ⟨l', Ev.step (fun k => ?_) k1, k2⟩
      simp only [impl_star.l1]
      rw [if_pos (by omega), if_pos (by omega), if_pos (by omega), rdOf_nat, if_pos e, wr1 (by omega)]
    | false =>
      obtain ⟨g1, g2⟩ := hc e
      have nx : ∀ v : Bool, (v = true ↔ hasB t r q = true ∧ star (hasB t r) (i - q) = true) → ∃ l', Ev (fun k => impl_star.l1 k (l.set i v) (i : Nat) ((q + 1 : Nat) : Int) m (i : Nat) t r) l' ∧ P l' := by
        intro v hv
        refine ih (q + 1) (l.set i v) (by omega) (by omega) (by rw [List.length_set, hl]) (fun j hj => by rw [getD_set_ne _ _ (by omega)]; exact ha j hj) ?_ ?_
        · rw [getD_set_self _ _ _ (by omega)]
          intro hv1
          obtain ⟨p1, p2⟩ := hv.1 hv1
          exact (star_iff _ g1).2 ⟨q, h1, by omega, p1, p2⟩
        · rw [getD_set_self _ _ _ (by omega)]
          intro hv1
          refine ⟨g1, fun y a b => ?_⟩
          rcases Nat.lt_or_ge y q with c | c
          · exact g2 y a c
          · obtain rfl : y = q := by omega
            intro hx
            rw [hv.2 hx] at hv1
            cases hv1
      by_cases c : hasB t r q = true
      · obtain ⟨l', k1, k2⟩ := nx (l.getD (i - q) false) (by rw [ha (i - q) (by omega)]; exact ⟨fun h => ⟨c, h⟩, fun h => h.2⟩)
        refine ⟨l', Ev.step (fun k => ?_) k1, k2⟩
        simp only [impl_star.l1]
        rw [if_pos (by omega), if_pos (by omega), if_pos (by omega), rdOf_nat, if_neg (by rw [e]; simp), set_has h q (by omega)]
        simp only [Option.bind_some]
        rw [if_pos c, wrs (by omega) (by omega), if_pos (by omega), if_pos (by omega), rdOf_nat, wr1 (by omega), Int.toNat_natCast]
      · obtain ⟨l', k1, k2⟩ := nx false (by simp [c])
        refine ⟨l', Ev.step (fun k => ?_) k1, k2⟩
        simp only [impl_star.l1]
        rw [if_pos (by omega), if_pos (by omega), if_pos (by omega), rdOf_nat, if_neg (by rw [e]; simp), set_has h q (by omega)]
        simp only [Option.bind_some]
        rw [if_neg c, wr1 (by omega), Int.toNat_natCast]
/-- A list that tells f up to its length. -/
structure Tells (l : List Bool) (f : Nat → Bool) (m : Nat) : Prop where
  len : l.length = m
  get : ∀ j, j < m → l.getD j false = f j
theorem star_l0 {t r : List Bool} (h : Good t r) (m : Nat) (hm : m ≤ 1000000) (d : Nat) : ∀ (i : Nat) (l : List Bool), i + d = m → l.length = m → (∀ j, j < i → l.getD j false = star (hasB t r) j) → ∃ l', Ev (fun k => impl_star.l0 k l m (i : Nat) t r) l' ∧ Tells l' (star (hasB t r)) m := by
  induction d with
  | zero =>
    intro i l hi hl ha
    obtain rfl : i = m := by omega
    refine ⟨l, Ev.end fun k => ?_, hl, ha⟩
    simp only [impl_star.l0]
    rw [if_neg (by omega)]
  | succ d ih =>
    intro i l hi hl ha
    obtain ⟨l', k1, k2⟩ := star_l1 h m hm i (by omega) (fun l' => Tells l' (star (hasB t r)) m) (fun l hl ha => ih (i + 1) l (by omega) hl ha) i 1 (l.set i (decide (i = 0))) (by omega) (by omega) (by rw [List.length_set, hl]) (fun j hj => by rw [getD_set_ne _ _ (by omega)]; exact ha j hj)
      (by rw [getD_set_self _ _ _ (by omega)]; intro h0; have := of_decide_eq_true h0; subst this; exact star_zero _)
      (by rw [getD_set_self _ _ _ (by omega)]; intro h0; have := of_decide_eq_false h0; exact ⟨by omega, fun y a b => by omega⟩)
    refine ⟨l', Ev.step (fun k => ?_) k1, k2⟩
    simp only [impl_star.l0]
    rw [if_pos (by omega), if_pos (by omega), if_pos (by omega), Int.toNat_natCast]
    congr 2
    rw [Bool.eq_iff_iff, beq_iff_eq, decide_eq_true_eq]; omega
theorem star_ev {t r : List Bool} (h : Good t r) (m : Nat) (hm : m ≤ 1000000) : ∃ l, Ev (fun k => impl_star.f k t r m) l ∧ Tells l (star (hasB t r)) m := by
  obtain ⟨l, k1, k2⟩ := star_l0 h m hm m 0 (List.replicate m false) (by omega) (List.length_replicate ..) (fun j hj => absurd hj (Nat.not_lt_zero j))
  refine ⟨l, ?_, k2⟩
  unfold impl_star.f
  simp only [if_pos (show (0 : Int) ≤ (m : Int) by omega), Int.toNat_natCast, if_pos (show m ≤ 281474976710656 by omega), Option.bind_some, List.length_replicate]
  exact k1


theorem l1Divisor_ev (b : Nat) : ∀ a : Nat, Ev (fun k => spec_l1Divisor.f k (a : Int) (b : Int)) ((Nat.gcd a b : Nat) : Int) := by
  induction b using Nat.strongRecOn with
  | _ b ih =>
    intro a
    by_cases c : b = 0
    · subst c
      refine Ev.end fun k => ?_
      simp only [spec_l1Divisor.f, spec_l1Divisor.l0]
      rw [if_neg (by omega), Nat.gcd_zero_right]
    · have h1 := ih (a % b) (Nat.mod_lt _ (by omega)) b
      rw [Nat.gcd_comm b, ← Nat.gcd_rec, Nat.gcd_comm] at h1
      refine Ev.step (fun k => ?_) h1
      simp only [spec_l1Divisor.f, spec_l1Divisor.l0]
      rw [if_pos (by omega), if_neg (by omega), tmod_nat]



theorem mx_nat' (a b : Nat) : mx (a : Int) (b : Int) = ((max a b : Nat) : Int) := by unfold mx; split <;> omega

theorem sums_l0 {ta ra tc rc : List Bool} (ha : Good ta ra) (hc : Good tc rc) (n : Nat) (hn : n ≤ 1000000) (d : Nat) : ∀ q, q + d = n + 1 → (∀ y, y < q → ¬ (hasB ta ra y = true ∧ hasB tc rc (n - y) = true)) → Ev (fun k => impl_sums.l0 k n ((n + 1 : Nat) : Int) (q : Nat) ta ra tc rc) (sumB (hasB ta ra) (hasB tc rc) n) := by
  induction d with
  | zero =>
    intro q hq hno
    have : sumB (hasB ta ra) (hasB tc rc) n = false := by
      cases e : sumB (hasB ta ra) (hasB tc rc) n with
      | false => rfl
      | true =>
        obtain ⟨y, a, b⟩ := (sumB_iff _ _ _).1 e
        exact absurd b (hno y (by omega))
    rw [this]
    refine Ev.end fun k => ?_
    simp only [impl_sums.l0]
    rw [if_neg (by omega)]
  | succ d ih =>
    intro q hq hno
    have hw : wrap64 ((n : Int) - (q : Int)) = ((n - q : Nat) : Int) := wrs (by omega) (by omega)
    have h1 : impl_set_has.f ta ra q = some (hasB ta ra q) := set_has ha q (by omega)
    have h2 : impl_set_has.f tc rc ((n - q : Nat) : Int) = some (hasB tc rc (n - q)) := set_has hc (n - q) (by omega)
    have hlt : (q : Int) < ((n + 1 : Nat) : Int) := by omega
    by_cases c1 : hasB ta ra q = true
    · by_cases c2 : hasB tc rc (n - q) = true
      · have : sumB (hasB ta ra) (hasB tc rc) n = true := (sumB_iff _ _ _).2 ⟨q, by omega, c1, c2⟩
        rw [this]
        refine Ev.end fun k => ?_
        simp only [impl_sums.l0, if_pos hlt, h1, Option.bind_some, if_pos c1, hw, h2, if_pos c2]
      · refine Ev.step (fun k => ?_) (ih (q + 1) (by omega) fun y hy => ?_)
        · simp only [impl_sums.l0, if_pos hlt, h1, Option.bind_some, if_pos c1, hw, h2, if_neg c2, wr1 (show q ≤ 4611686018427387904 by omega)]
        · rcases Nat.lt_or_ge y q with e | e
          · exact hno y e
          · obtain rfl : y = q := by omega
            exact fun h => c2 h.2
    · refine Ev.step (fun k => ?_) (ih (q + 1) (by omega) fun y hy => ?_)
      · simp only [impl_sums.l0, if_pos hlt, h1, Option.bind_some, if_neg c1, wr1 (show q ≤ 4611686018427387904 by omega)]
      · rcases Nat.lt_or_ge y q with e | e
        · exact hno y e
        · obtain rfl : y = q := by omega
          exact fun h => c1 h.1
theorem sums_ev {ta ra tc rc : List Bool} (ha : Good ta ra) (hc : Good tc rc) (n : Nat) (hn : n ≤ 1000000) : Ev (fun k => impl_sums.f k ta ra tc rc n) (sumB (hasB ta ra) (hasB tc rc) n) := by
  unfold impl_sums.f
  rw [wr1 (by omega)]
  exact sums_l0 ha hc n hn (n + 1) 0 (by omega) (fun y hy => absurd hy (Nat.not_lt_zero y))
theorem lcm_eq (p q : Nat) : p / Nat.gcd p q * q = Nat.lcm p q := by
  unfold Nat.lcm
  rw [Nat.mul_comm p q, Nat.mul_div_assoc _ (Nat.gcd_dvd_left p q), Nat.mul_comm]
theorem shape_ev {ta ra tc rc : List Bool} (ha : Good ta ra) (hc : Good tc rc) : Ev (fun k => spec_l1Shape.f k ta ra tc rc) (((max ta.length tc.length : Nat) : Int), ((Nat.lcm ra.length rc.length : Nat) : Int)) := by
  have hg : 0 < Nat.gcd ra.length rc.length := Nat.gcd_pos_of_pos_left _ ha.pos
  have hd := Nat.div_le_self ra.length (Nat.gcd ra.length rc.length)
  have h1 := ha.rl
  have h2 := hc.rl
  have hm : ra.length / Nat.gcd ra.length rc.length * rc.length ≤ 60 * 60 := Nat.mul_le_mul (by omega) h2
  have he := lcm_eq ra.length rc.length
  unfold spec_l1Shape.f
  refine Ev.bind (l1Divisor_ev rc.length ra.length) (Ev.const fun k => ?_)
  rw [if_neg (by omega), mx_nat', ← Int.natCast_ediv]
  generalize Nat.gcd ra.length rc.length = g at *
  generalize ra.length / g = p at *
  rw [wr (x := (p : Int)) (by omega) (by omega), ← Int.natCast_mul, he, wr (by omega) (by omega)]
end Go.Proofs.Ytedhckahjinieaa.Q

namespace Go.Proofs.Ytedhckahjinieaa.Q
open Go.RowKit Go.Proofs.YtedhckahjinieaaW.PrintWords Go.Proofs.YtedhckahjinieaaW.PrintLast Go.Proofs.YtedhckahjinieaaW.PrintMore
open Go.Proofs.Ytedhckahjinieaa.Pl (hasB)
set_option linter.unusedVariables false
set_option linter.unusedSimpArgs false
theorem read_yes (s : ByteArray) (hs : s.size ≤ 1073741824) (i : Nat) (h1 : i < s.data.toList.length) (h2 : Lib.indexByte s.data.toList 40 = i) (h3 : s.data.toList.getD i 0 = 40) (h4 : ∀ j, j < i → s.data.toList.getD j 0 ≠ 40)
    (c1 : i + 2 < s.size) (c2 : s.data.toList.getD (s.size - 1) 0 = 41) (o1 : okL (s.extract 0 i).data.toList = true) (o2 : okL (s.extract (i + 1) (s.size - 1)).data.toList = true) (q : i ≤ 60 ∧ s.size - i - 2 ≤ 60) :
    IsSet s ((s.extract 0 i).data.toList.map (· == 49)) ((s.extract (i + 1) (s.size - 1)).data.toList.map (· == 49)) := by
  have hl := size_data s
  have hsg := fun (x : ByteArray) (hx : x.size ≤ 1073741824) => signs_ev x hx
  have hi : i < s.size := by omega
  have hc : strings_Cut.f s ⟨#[40]⟩ = some (s.extract 0 i, s.extract (i + 1) s.size, true) := by
    unfold strings_Cut.f stringslite_Cut.f stringslite_Index.f
    rw [dif_pos (by rfl)]
    show ((some (Lib.indexByte s.data.toList 40)).bind _).bind _ = _
    rw [h2]
    simp only [Option.bind_some]
    have hz : ((⟨#[40]⟩ : ByteArray).size : Int) = 1 := rfl
    rw [if_pos (by omega), if_pos (by omega), if_pos (by omega), hz, wr (by omega) (by omega), if_pos (by omega), if_pos (by omega)]
    simp only [Option.bind_some, Int.toNat_natCast]
    rw [show ((i : Int) + 1).toNat = i + 1 from by omega]
  have hz1 : (s.extract (i + 1) s.size).size = s.size - (i + 1) := ext_size _ _ _ (Nat.le_refl _)
  have h41 : ((⟨#[41]⟩ : ByteArray).size : Int) = 1 := rfl
  have hsuf : strings_CutSuffix.f (s.extract (i + 1) s.size) ⟨#[41]⟩ = some (if i + 1 < s.size ∧ s.data.toList.getD (s.size - 1) 0 = 41 then (s.extract (i + 1) (s.size - 1), true) else (s.extract (i + 1) s.size, false)) := by
    unfold strings_CutSuffix.f stringslite_CutSuffix.f stringslite_HasSuffix.f
    rw [h41]
    by_cases c : i + 1 < s.size
    · rw [if_pos (by omega), wr (by omega) (by omega), if_pos (by omega), if_pos (by omega), show (((s.extract (i + 1) s.size).size : Int) - 1).toNat = (s.extract (i + 1) s.size).size - 1 from by omega, last_eq c, ring_eq c]
      simp only [Option.bind_some]
      have hb : ([s.data.toList.getD (s.size - 1) 0] == (⟨#[41]⟩ : ByteArray).toList) = decide (s.data.toList.getD (s.size - 1) 0 = 41) := by
        rw [toList_eq, Bool.eq_iff_iff]; simp
      rw [hb]
      by_cases e : s.data.toList.getD (s.size - 1) 0 = 41
      · rw [decide_eq_true e, if_pos rfl, if_pos (by omega), if_pos (by omega), if_pos ⟨c, e⟩]; rfl
      · rw [decide_eq_false e, if_neg (by simp), if_neg (by intro h; exact e h.2)]; rfl
    · rw [if_neg (by omega)]
      simp only [Option.bind_some, Bool.false_eq_true, if_false]
      rw [if_neg (fun h => c h.1)]
  have hspec : ∀ (r : List Bool × List Bool × Bool), Ev (fun k => spec_l1Read.j1 k s i [] [false]) r → Ev (fun k => spec_l1Read.f k s) r := by
    intro r hr
    exact read_l0 s hs [] [false] i (by omega) (fun j hj => h4 j hj) (fun _ => h3) hr i 0 (by omega)
  have hnull : ∀ x : Bool, x = true → Ev (fun k => spec_l1Read.j2 k s (i : Nat) x [] [false]) (([] : List Bool), [false], false) := by
    intro x hx
    refine Ev.end fun k => ?_
    simp only [spec_l1Read.j2]
    rw [if_pos hx]
  -- for the reader's bracket at the end
  have hj1 : ∀ r, Ev (fun k => spec_l1Read.j2 k s (i : Nat) (decide (s.size ≤ i + 2) || s.data.toList.getD (s.size - 1) 0 != 41) [] [false]) r → Ev (fun k => spec_l1Read.j1 k s i [] [false]) r := by
    intro r hr
    refine Ev.step (fun k => ?_) hr
    simp only [spec_l1Read.j1]
    rw [wr (x := (i : Int) + 2) (by omega) (by omega), wr (x := (s.size : Int) - 1) (by omega) (by omega)]
    by_cases c : s.size ≤ i + 2
    · rw [if_pos (by omega)]; simp [c]
    · rw [if_neg (by omega), if_pos (by omega), if_pos (by omega)]
      rw [show (s.size : Int) - 1 = ((s.size - 1 : Nat) : Int) from by omega]
      congr 1
      simp only [c, decide_false, Bool.false_or]
      have := bt_is s (s.size - 1) (by omega) 41 41 rfl
      rw [Bool.eq_iff_iff]; simp only [bne_iff_ne, ne_eq, this]
  rw [if_pos ⟨by omega, c2⟩] at hsuf
  have e1 := hsg (s.extract 0 i) (by rw [ext_size _ _ _ (by omega)]; omega)
  have e2 := hsg (s.extract (i + 1) (s.size - 1)) (by rw [ext_size _ _ _ (by omega)]; omega)
  have g1 := l1Signs_ev (s.extract 0 i) (by rw [ext_size _ _ _ (by omega)]; omega)
  have g2 := l1Signs_ev (s.extract (i + 1) (s.size - 1)) (by rw [ext_size _ _ _ (by omega)]; omega)
  have z1 : (s.extract 0 i).size = i := by rw [ext_size _ _ _ (by omega)]; omega
  have z2 : (s.extract (i + 1) (s.size - 1)).size = s.size - i - 2 := by rw [ext_size _ _ _ (by omega)]; omega
  have y1 := size_data (s.extract 0 i)
  have y2 := size_data (s.extract (i + 1) (s.size - 1))
  rw [z1] at e1 y1
  rw [z2] at e2 y2
  have himpl : impl_setOf.f s = (impl_signs.f (s.extract 0 i)).bind fun x => (impl_signs.f (s.extract (i + 1) (s.size - 1))).bind fun y => some (x.1, y.1, x.2 && y.2 && decide ((y.1.length : Int) > 0)) := by
    unfold impl_setOf.f
    rw [hc]; simp only [Option.bind_some]
    rw [hsuf]; simp only [Option.bind_some]
    congr 1; funext x; congr 1; funext y
    cases x.2 <;> cases y.2 <;> simp
  have hj2 : ∀ (x y : List Bool × Bool), Ev (fun k => spec_l1Signs.f k (s.extract 0 i)) x → Ev (fun k => spec_l1Signs.f k (s.extract (i + 1) (s.size - 1))) y →
      Ev (fun k => spec_l1Read.f k s) (if x.2 && y.2 && decide (x.1.length ≤ 60) && decide (y.1.length ≤ 60) then (x.1, y.1, true) else ([], [false], false)) := by
    intro x y hx hy
    refine hspec _ (hj1 _ ?_)
    have : (decide (s.size ≤ i + 2) || s.data.toList.getD (s.size - 1) 0 != 41) = false := by rw [c2]; simp; omega
    rw [this]
    refine Ev.step (f := fun k => (spec_l1Signs.f k (s.extract 0 i)).bind fun bt121 => (spec_l1Signs.f k (s.extract (i + 1) (s.size - 1))).bind fun bt125 => (if bt121.2 = true then (if bt125.2 = true then (if (bt121.1.length : Int) > 60 then (some (([] : List Bool), [false], false)) else (if (bt125.1.length : Int) > 60 then (some ([], [false], false)) else (some (bt121.1, bt125.1, true)))) else (some ([], [false], false))) else (some ([], [false], false)))) (fun k => ?_) ?_
    · simp only [spec_l1Read.j2]
      rw [if_neg (by simp), if_pos (by omega), if_pos (by omega), wr (x := (i : Int) + 1) (by omega) (by omega), wr (x := (s.size : Int) - 1) (by omega) (by omega)]
      simp only [if_pos (show (0 : Int) ≤ (i : Int) + 1 from by omega), if_pos (show (i : Int) + 1 ≤ (s.size : Int) - 1 from by omega), if_pos (show (s.size : Int) - 1 ≤ (s.size : Int) from by omega)]
      rw [Int.toNat_natCast, show ((i : Int) + 1).toNat = i + 1 from by omega, show ((s.size : Int) - 1).toNat = s.size - 1 from by omega]
    · refine Ev.bind hx (Ev.bind hy (Ev.const fun k => ?_))
      obtain ⟨x1, x2⟩ := x
      obtain ⟨y1, y2⟩ := y
      cases x2 <;> cases y2 <;> simp
      by_cases q1 : x1.length ≤ 60
      · by_cases q2 : y1.length ≤ 60
        · rw [if_neg (by omega), if_neg (by omega), if_pos ⟨q1, q2⟩]
        · rw [if_neg (by omega), if_pos (by omega), if_neg (by omega)]
      · rw [if_pos (by omega), if_neg (by omega)]
  have hfin := hj2 _ _ g1 g2
  rw [e1, e2] at himpl
  simp only [Option.bind_some] at himpl
  rw [o1, o2] at himpl hfin
  simp only [if_true, List.length_map, Bool.and_self, Bool.true_and] at himpl hfin
  rw [y1, y2] at hfin
  rw [y2] at himpl
  refine ⟨⟨?_, by rw [List.length_map]; omega, by rw [List.length_map]; omega⟩, himpl.trans ?_, ?_⟩
  · rw [List.length_map]; omega
  · rw [decide_eq_true (show ((i : Nat) : Int) ≤ 60 from by omega), decide_eq_true (show (((s.size - i - 2 : Nat) : Int) ≤ 60) from by omega), decide_eq_true (show (((s.size - i - 2 : Nat) : Int) > 0) from by omega)]
    rfl
  · rw [decide_eq_true q.1, decide_eq_true q.2] at hfin
    exact hfin

/-- The signs of a list. -/
def tell (l : List Bool) : List UInt8 := l.map fun b => if b = true then 49 else 48
theorem tell_length (l : List Bool) : (tell l).length = l.length := by simp [tell]
theorem tell_back (l : List Bool) : (tell l).map (· == 49) = l := by
  induction l with
  | nil => rfl
  | cons b l ih => cases b <;> simp [tell] at * <;> exact ih
theorem tell_ok (l : List Bool) : okL (tell l) = true := by
  induction l with
  | nil => rfl
  | cons b l ih => cases b <;> simp [tell, okL] at * <;> exact ih
theorem tell_ne (l : List Bool) (j : Nat) (h : j < l.length) : (tell l).getD j 0 ≠ 40 := by
  simp only [tell, List.getD, List.getElem?_map, List.getElem?_eq_getElem h, Option.map_some, Option.getD_some]
  split <;> decide
/-- The text of a tail and a ring. -/
def textL (t r : List Bool) : List UInt8 := tell t ++ 40 :: (tell r ++ [41])
def text (t r : List Bool) : ByteArray := ⟨(textL t r).toArray⟩
theorem textL_length (t r : List Bool) : (textL t r).length = t.length + r.length + 2 := by simp [textL, tell_length]; omega
theorem text_size (t r : List Bool) : (text t r).size = t.length + r.length + 2 := textL_length t r
theorem text_isSet {t r : List Bool} (h : Good t r) : IsSet (text t r) t r := by
  have h1 := h.pos
  have h2 := h.tl
  have h3 := h.rl
  have hz := text_size t r
  have hd : (text t r).data.toList = textL t r := rfl
  have hget : (textL t r).getD t.length 0 = 40 := by
    simp [textL, List.getD, tell_length]
  have hne : ∀ j, j < t.length → (textL t r).getD j 0 ≠ 40 := by
    intro j hj
    have := tell_ne t j hj
    simp only [textL, List.getD] at this ⊢
    rw [List.getElem?_append_left (by rw [tell_length]; exact hj)]
    exact this
  have hlast : (textL t r).getD ((text t r).size - 1) 0 = 41 := by
    rw [hz]
    simp only [textL, List.getD]
    rw [List.getElem?_append_right (by rw [tell_length]; omega), tell_length]
    rw [show t.length + r.length + 2 - 1 - t.length = r.length + 1 from by omega, List.getElem?_cons_succ, List.getElem?_append_right (by rw [tell_length]; omega), tell_length, Nat.sub_self]
    rfl
  have hidx : Lib.indexByte (text t r).data.toList 40 = (t.length : Int) := by
    rcases index_cases (text t r).data.toList 40 with ⟨_, g⟩ | ⟨i, g1, g2, g3, g4⟩
    · exact absurd hget (g t.length (by rw [hd, textL_length]; omega))
    · have : i = t.length := by
        rcases Nat.lt_trichotomy i t.length with c | c | c
        · exact absurd g3 (hne i c)
        · exact c
        · exact absurd hget (g4 t.length c)
      rw [g2, this]
  have x1 : ((text t r).extract 0 t.length).data.toList = tell t := by
    rw [ext_list, hd, List.drop_zero]
    simp [textL, tell_length]
  have x2 : ((text t r).extract (t.length + 1) ((text t r).size - 1)).data.toList = tell r := by
    rw [ext_list, hd, hz]
    have e : textL t r = tell t ++ [40] ++ tell r ++ [41] := by simp [textL]
    rw [e, show t.length + r.length + 2 - 1 = (tell t ++ [40] ++ tell r).length from by simp [tell_length]; omega, List.take_left' rfl, List.append_assoc, ← List.append_assoc]
    exact List.drop_left' (by simp [tell_length])
  have := read_yes (text t r) (by omega) t.length (by rw [hd, textL_length]; omega) hidx hget hne (by omega) hlast (by rw [x1]; exact tell_ok t) (by rw [x2]; exact tell_ok r) ⟨by omega, by omega⟩
  rw [x1, x2, tell_back, tell_back] at this
  exact this
end Go.Proofs.Ytedhckahjinieaa.Q

namespace Go.Proofs.Ytedhckahjinieaa.Q
open Go.RowKit Go.Proofs.YtedhckahjinieaaW.PrintWords Go.Proofs.YtedhckahjinieaaW.PrintLast Go.Proofs.YtedhckahjinieaaW.PrintMore
open Go.Proofs.Ytedhckahjinieaa.Pl
set_option linter.unusedVariables false
set_option linter.unusedSimpArgs false
/-- What is told of a set: the text of its tidy form, if this is not too long. -/
def Told (f : Nat → Bool) (x : ByteArray × Bool) : Prop := ∃ t r, Canon t r ∧ (∀ n, hasB t r n = f n) ∧ x = if t.length ≤ 60 ∧ r.length ≤ 60 then (text t r, true) else ((⟨#[]⟩ : ByteArray), false)
theorem Told.unique {f : Nat → Bool} {x y : ByteArray × Bool} (h : Told f x) (k : Told f y) : x = y := by
  obtain ⟨t, r, h1, h2, rfl⟩ := h
  obtain ⟨t', r', k1, k2, rfl⟩ := k
  obtain ⟨rfl, rfl⟩ := canon_unique h1 k1 (fun n => by rw [h2, k2])
  rfl
theorem Told.congr {f g : Nat → Bool} {x : ByteArray × Bool} (h : Told f x) (e : ∀ n, f n = g n) : Told g x := by
  obtain ⟨t, r, h1, h2, h3⟩ := h
  exact ⟨t, r, h1, fun n => by rw [h2, e], h3⟩
theorem Told.yes {f : Nat → Bool} {x : ByteArray × Bool} (h : Told f x) (e : x.2 = true) : ∃ t r, Canon t r ∧ Good t r ∧ (∀ n, hasB t r n = f n) ∧ x = (text t r, true) := by
  obtain ⟨t, r, h1, h2, rfl⟩ := h
  by_cases c : t.length ≤ 60 ∧ r.length ≤ 60
  · exact ⟨t, r, h1, ⟨h1.pos, c.1, c.2⟩, h2, by rw [if_pos c]⟩
  · rw [if_neg c] at e; cases e
theorem Told.no {f : Nat → Bool} {x : ByteArray × Bool} (h : Told f x) (e : x.2 = false) : x = ((⟨#[]⟩ : ByteArray), false) := by
  obtain ⟨t, r, h1, h2, rfl⟩ := h
  by_cases c : t.length ≤ 60 ∧ r.length ≤ 60
  · rw [if_pos c] at e; cases e
  · rw [if_neg c]
theorem Told.of {f : Nat → Bool} {t r : List Bool} (h : Canon t r) (g : Good t r) (e : ∀ n, hasB t r n = f n) : Told f (text t r, true) := ⟨t, r, h, e, by rw [if_pos ⟨g.tl, g.rl⟩]⟩

theorem tidied_long {t r : List Bool} (ht : t.length ≤ 1073741824) (h1 : 0 < r.length) (h2 : r.length ≤ 1073741824) : ∃ t' r', Ev (fun k => impl_set_tidy.f k t r) (t', r') ∧ Ev (fun k => spec_l1Less.f k t r) (t', r') ∧ Canon t' r' ∧ (∀ n, hasB t' r' n = hasB t r n) := by
  obtain ⟨t', r', g1, g2, g3, g4, g5⟩ := tidy_l0 t r ht h1 h2 (r.length - 1) 1 (by omega) (by omega) (fun e he1 he2 => by omega)
  obtain ⟨t2, r2, k1, k2, k3, k4, k5⟩ := less_ev (t.length + r.length) t r rfl ht h1 h2
  obtain ⟨rfl, rfl⟩ := canon_unique g2 k2 (fun n => by rw [g3, k3])
  exact ⟨t', r', g1, k1, g2, g3⟩

theorem told_eq (l : List Bool) (h : l.length ≤ 1000000) : impl_told.f l = some ⟨(tell l).toArray⟩ := by
  unfold impl_told.f
  rw [if_pos (by omega)]
  rfl
theorem tell_size (l : List Bool) : (⟨(tell l).toArray⟩ : ByteArray).size = l.length := tell_length l
theorem ba_ext {a b : ByteArray} (h : a.data.toList = b.data.toList) : a = b := by
  obtain ⟨⟨a⟩⟩ := a; obtain ⟨⟨b⟩⟩ := b; simp at h; simp [h]
theorem ba_append (a b : ByteArray) : (a ++ b).data.toList = a.data.toList ++ b.data.toList := by simp
theorem text_eq (t r : List Bool) : (((⟨(tell t).toArray⟩ : ByteArray) ++ (⟨#[40]⟩ : ByteArray)) ++ (⟨(tell r).toArray⟩ : ByteArray)) ++ (⟨#[41]⟩ : ByteArray) = text t r := by
  refine ba_ext ?_
  rw [ba_append, ba_append, ba_append]
  simp [text, textL]
theorem text_ev {t r : List Bool} (ht : t.length ≤ 60) (hr : r.length ≤ 60) : Ev (fun k => impl_set_text.f k t r) (text t r, true) := by
  unfold impl_set_text.f
  refine Ev.eq (funext fun k => if_neg (by omega)) ?_
  rw [decide_eq_false (by omega)]
  refine Ev.end fun k => ?_
  simp only [impl_set_text.j0, Bool.false_eq_true, if_false]
  rw [told_eq t (by omega), told_eq r (by omega)]
  simp only [Option.bind_some, tell_size]
  rw [if_pos (by omega), if_pos (by omega), if_pos (by omega), text_eq]
theorem text_no {t r : List Bool} (h : ¬ (t.length ≤ 60 ∧ r.length ≤ 60)) : Ev (fun k => impl_set_text.f k t r) ((⟨#[]⟩ : ByteArray), false) := by
  have go : Ev (fun k => impl_set_text.j0 k true t r) ((⟨#[]⟩ : ByteArray), false) := Ev.end fun k => by simp only [impl_set_text.j0, if_true]
  unfold impl_set_text.f
  by_cases c : (t.length : Int) > 60
  · exact Ev.eq (funext fun k => if_pos c) go
  · refine Ev.eq (funext fun k => if_neg c) ?_
    rw [decide_eq_true (by omega)]
    exact go
theorem text_told {t r : List Bool} (h : Canon t r) : ∃ x, Ev (fun k => impl_set_text.f k t r) x ∧ Told (hasB t r) x := by
  by_cases c : t.length ≤ 60 ∧ r.length ≤ 60
  · exact ⟨_, text_ev c.1 c.2, t, r, h, fun _ => rfl, by rw [if_pos c]⟩
  · exact ⟨_, text_no c, t, r, h, fun _ => rfl, by rw [if_neg c]⟩

def num (b : Bool) : Int := if b = true then 49 else 48
theorem write_step (b : Bool) {α : Type} (g : Int → Option α) : ((spec_l1Bit.f b).bind fun x => if 0 ≤ x then (if x < 2 then g (bt (⟨#[48, 49]⟩ : ByteArray) x) else none) else none) = g (num b) := by
  cases b <;> rfl
theorem write_l1 (t r : List Bool) (hr : r.length ≤ 1000000) (acc : List Int) (hacc : acc.length ≤ 1000000) (d : Nat) : ∀ i, i + d = r.length → Ev (fun k => spec_l1Write.l1 k (acc ++ (r.take i).map num) (i : Nat) t r) (strOfNums (acc ++ r.map num ++ [41])) := by
  induction d with
  | zero =>
    intro i hi
    obtain rfl : i = r.length := by omega
    refine Ev.end fun k => ?_
    simp only [spec_l1Write.l1]
    rw [List.take_of_length_le (Nat.le_refl _), if_neg (by omega), if_pos (by simp; omega)]
  | succ d ih =>
    intro i hi
    have hg : r.take (i + 1) = r.take i ++ [r.getD i false] := by
      rw [List.take_succ_eq_append_getElem (by omega)]; simp [List.getD, List.getElem?_eq_getElem (show i < r.length by omega)]
    refine Ev.step (fun k => ?_) (ih (i + 1) (by omega))
    simp only [spec_l1Write.l1]
    rw [if_pos (by omega), if_pos (by omega), rdOf_nat, write_step (r.getD i false) (fun v => if (acc ++ (r.take i).map num).length < 140737488355328 then spec_l1Write.l1 k ((acc ++ (r.take i).map num) ++ [v]) (wrap64 ((i : Int) + 1)) t r else none)]
    rw [if_pos (by simp; omega), wr1 (by omega), hg, List.map_append, List.append_assoc]
    rfl
theorem write_l0 (t r : List Bool) (ht : t.length ≤ 100000) (hr : r.length ≤ 1000000) (d : Nat) : ∀ i, i + d = t.length → Ev (fun k => spec_l1Write.l0 k ((t.take i).map num) (i : Nat) t r) (strOfNums (t.map num ++ [40] ++ r.map num ++ [41])) := by
  induction d with
  | zero =>
    intro i hi
    obtain rfl : i = t.length := by omega
    have := write_l1 t r hr (t.map num ++ [40]) (by simp; omega) r.length 0 (by omega)
    refine Ev.step (fun k => ?_) this
    simp only [spec_l1Write.l0]
    rw [List.take_of_length_le (Nat.le_refl _), if_neg (by omega), if_pos (by simp; omega), List.take_zero, List.map_nil, List.append_nil]
    rfl
  | succ d ih =>
    intro i hi
    have hg : t.take (i + 1) = t.take i ++ [t.getD i false] := by
      rw [List.take_succ_eq_append_getElem (by omega)]; simp [List.getD, List.getElem?_eq_getElem (show i < t.length by omega)]
    refine Ev.step (fun k => ?_) (ih (i + 1) (by omega))
    simp only [spec_l1Write.l0]
    rw [if_pos (by omega), if_pos (by omega), rdOf_nat, write_step (t.getD i false) (fun v => if ((t.take i).map num).length < 140737488355328 then spec_l1Write.l0 k (((t.take i).map num) ++ [v]) (wrap64 ((i : Int) + 1)) t r else none)]
    rw [if_pos (by simp; omega), wr1 (by omega), hg, List.map_append]
    rfl
theorem num_byte (l : List Bool) : (l.map num).map (fun n : Int => UInt8.ofNat n.toNat) = tell l := by
  induction l with
  | nil => rfl
  | cons b l ih => simp only [List.map_cons, ih, tell]; cases b <;> rfl
theorem str_text (t r : List Bool) : strOfNums (t.map num ++ [40] ++ r.map num ++ [41]) = text t r := by
  unfold strOfNums text textL
  rw [List.map_append, List.map_append, List.map_append, num_byte, num_byte]
  simp
theorem write_ev {t r : List Bool} (ht : t.length ≤ 60) (hr : r.length ≤ 60) : Ev (fun k => spec_l1Write.f k t r) (text t r) := by
  have := write_l0 t r (by omega) (by omega) t.length 0 (by omega)
  rw [str_text] at this
  exact this
theorem done_told {t r : List Bool} (ht : t.length ≤ 1073741824) (h1 : 0 < r.length) (h2 : r.length ≤ 1073741824) : ∃ x, Ev (fun k => spec_l1Done.f k t r) x ∧ Told (hasB t r) x := by
  obtain ⟨t', r', g1, g2, g3, g4⟩ := tidied_long ht h1 h2
  unfold spec_l1Done.f
  by_cases c1 : t'.length ≤ 60
  · by_cases c2 : r'.length ≤ 60
    · refine ⟨(text t' r', true), Ev.bind g2 (Ev.eq (funext fun k => if_neg (by show ¬ (t'.length : Int) > 60; omega)) (Ev.eq (funext fun k => if_neg (by show ¬ (r'.length : Int) > 60; omega)) (Ev.bind (write_ev c1 c2) (Ev.now _)))), t', r', g3, g4, by rw [if_pos ⟨c1, c2⟩]⟩
    · refine ⟨((⟨#[]⟩ : ByteArray), false), Ev.bind g2 (Ev.eq (funext fun k => if_neg (by show ¬ (t'.length : Int) > 60; omega)) (Ev.eq (funext fun k => if_pos (by show (r'.length : Int) > 60; omega)) (Ev.now _))), t', r', g3, g4, by rw [if_neg (fun h => c2 h.2)]⟩
  · refine ⟨((⟨#[]⟩ : ByteArray), false), Ev.bind g2 (Ev.eq (funext fun k => if_pos (by show (t'.length : Int) > 60; omega)) (Ev.now _)), t', r', g3, g4, by rw [if_neg (fun h => c1 h.1)]⟩
theorem fill_told {l : List Bool} {m : Nat} (hl : l.length ≤ 1073741824) (hm : m < l.length) : ∃ x, Ev (fun k => spec_l2Fill.f k l m) x ∧ Told (hasB (l.take m) (l.drop m)) x := by
  obtain ⟨x, h1, h2⟩ := done_told (t := l.take m) (r := l.drop m) (by rw [List.length_take]; omega) (by rw [List.length_drop]; omega) (by rw [List.length_drop]; omega)
  refine ⟨x, ?_, h2⟩
  unfold spec_l2Fill.f
  refine Ev.eq (funext fun k => if_pos (by omega)) (Ev.eq (funext fun k => if_pos (by omega)) ?_)
  simp only [Int.toNat_natCast]
  exact Ev.bind h1 (Ev.now _)

theorem per_of {f : Nat → Bool} {from_ size : Nat} (h1 : 1 ≤ size) (hp : ∀ n, from_ ≤ n → f (n + size) = f n) (n : Nat) : hasB ((List.range from_).map f) ((List.range size).map fun i => f (from_ + i)) n = f n := by
  have e1 : ((List.range from_).map f).length = from_ := by simp
  have e2 : ((List.range size).map fun i => f (from_ + i)).length = size := by simp
  rcases Nat.lt_or_ge n from_ with c | c
  · rw [hasB_lt (by rw [e1]; exact c)]
    simp [List.getD, c]
  · rw [hasB_ge (by rw [e1]; exact c), e1, e2]
    have hm := Nat.mod_lt (n - from_) h1
    have hd := Nat.div_add_mod (n - from_) size
    have hq : ∀ q m, from_ ≤ m → f (m + q * size) = f m := by
      intro q
      induction q with
      | zero => intro m _; simp
      | succ q ih => intro m hm; rw [Nat.succ_mul, ← Nat.add_assoc, hp _ (by omega), ih m hm]
    simp only [List.getD, List.getElem?_map, List.getElem?_range hm, Option.map_some, Option.getD_some]
    rw [← hq ((n - from_) / size) (from_ + (n - from_) % size) (by omega), Nat.mul_comm]
    congr 1
    omega
theorem range_snoc (f : Nat → Bool) (i : Nat) : (List.range (i + 1)).map f = (List.range i).map f ++ [f i] := by rw [List.range_succ, List.map_append]; rfl
theorem made_l1 (f : Nat → Bool) (from_ size : Nat) (hb : from_ ≤ 1000000 ∧ size ≤ 1000000) (p : Int → Option Bool) (hp : ∀ n : Nat, n < from_ + size → p n = some (f n)) (T : List Bool) {x : ByteArray × Bool}
    (hx : Ev (fun k => (impl_set_tidy.f k T ((List.range size).map fun i => f (from_ + i))).bind fun b => (impl_set_text.f k b.1 b.2).bind fun c => some (c.1, c.2)) x) (d : Nat) :
    ∀ i, i + d = size → Ev (fun k => impl_made.l1 p k from_ size (i : Nat) T ((List.range i).map fun i => f (from_ + i))) x := by
  induction d with
  | zero =>
    intro i hi
    obtain rfl : i = size := by omega
    refine Ev.step (fun k => ?_) hx
    simp only [impl_made.l1]
    rw [if_neg (by omega)]
  | succ d ih =>
    intro i hi
    refine Ev.step (fun k => ?_) (ih (i + 1) (by omega))
    simp only [impl_made.l1]
    rw [if_pos (by omega), wr (x := (from_ : Int) + (i : Int)) (by omega) (by omega), show (from_ : Int) + (i : Int) = ((from_ + i : Nat) : Int) from by omega, hp _ (by omega)]
    simp only [Option.bind_some]
    rw [if_pos (by simp; omega), wr1 (by omega), range_snoc (fun i => f (from_ + i))]
theorem made_l0 (f : Nat → Bool) (from_ size : Nat) (hb : from_ ≤ 1000000 ∧ size ≤ 1000000) (p : Int → Option Bool) (hp : ∀ n : Nat, n < from_ + size → p n = some (f n)) {x : ByteArray × Bool}
    (hx : Ev (fun k => impl_made.l1 p k from_ size 0 ((List.range from_).map f) ([] : List Bool)) x) (d : Nat) :
    ∀ i, i + d = from_ → Ev (fun k => impl_made.l0 p k from_ size from_ (i : Nat) ((List.range i).map f)) x := by
  induction d with
  | zero =>
    intro i hi
    obtain rfl : i = from_ := by omega
    refine Ev.step (fun k => ?_) hx
    simp only [impl_made.l0]
    rw [if_neg (by omega)]
  | succ d ih =>
    intro i hi
    refine Ev.step (fun k => ?_) (ih (i + 1) (by omega))
    simp only [impl_made.l0]
    rw [if_pos (by omega), hp _ (by omega)]
    simp only [Option.bind_some]
    rw [if_pos (by simp; omega), wr1 (by omega), range_snoc f]
theorem made_ev {f : Nat → Bool} {from_ size : Nat} (h1 : 1 ≤ size) (hb : from_ ≤ 1000000 ∧ size ≤ 1000000) (hper : ∀ n, from_ ≤ n → f (n + size) = f n) {P : Nat → Int → Option Bool} (hP : ∀ n : Nat, n < from_ + size → Ev (fun k => P k n) (f n)) :
    ∃ x, Ev (fun k => impl_made.f k from_ size (P k)) x ∧ Told f x := by
  have e2 : ((List.range size).map fun i => f (from_ + i)).length = size := by simp
  obtain ⟨t, r, g1, g2, g3, g4⟩ := tidied_long (t := (List.range from_).map f) (r := (List.range size).map fun i => f (from_ + i)) (by simp; omega) (by rw [e2]; omega) (by rw [e2]; omega)
  obtain ⟨x, k1, k2⟩ := text_told g3
  refine ⟨x, ?_, k2.congr fun n => by rw [g4, per_of h1 hper]⟩
  -- the question, told once
  let p0 : Int → Option Bool := fun n => if 0 ≤ n ∧ n < (from_ + size : Nat) then some (f n.toNat) else none
  have hp0 : ∀ n : Nat, n < from_ + size → p0 n = some (f n) := by
    intro n hn
    show (if 0 ≤ (n : Int) ∧ (n : Int) < (from_ + size : Nat) then some (f (n : Int).toNat) else none) = _
    rw [if_pos ⟨by omega, by omega⟩, Int.toNat_natCast]
  have h0 : Ev (fun k => impl_made.f k from_ size p0) x := by
    have a1 := made_l1 f from_ size hb p0 hp0 ((List.range from_).map f) (x := x) (Ev.bind g1 (Ev.bind k1 (Ev.now _))) size 0 (by omega)
    exact made_l0 f from_ size hb p0 hp0 a1 from_ 0 (by omega)
  -- all of P's answers from one number of rounds on
  have hK : ∀ N, N ≤ from_ + size → ∃ K, ∀ k, K ≤ k → ∀ n : Nat, n < N → P k n = some (f n) := by
    intro N
    induction N with
    | zero => intro _; exact ⟨0, fun k _ n hn => absurd hn (Nat.not_lt_zero n)⟩
    | succ N ih =>
      intro hN
      obtain ⟨K, hK⟩ := ih (by omega)
      obtain ⟨L, hL⟩ := hP N (by omega)
      refine ⟨max K L, fun k hk n hn => ?_⟩
      rcases Nat.lt_or_ge n N with c | c
      · exact hK k (by omega) n c
      · obtain rfl : n = N := by omega
        exact hL k (by omega)
  obtain ⟨K, hK⟩ := hK _ (Nat.le_refl _)
  obtain ⟨L, hL⟩ := h0
  refine ⟨max K L + 1, fun k hk => ?_⟩
  obtain ⟨m, rfl⟩ : ∃ m, k = m + 1 := ⟨k - 1, by omega⟩
  refine impl_made.mono p0 (P (m + 1)) (fun n q hq => ?_) (from_ : Int) (size : Int) m x (hL m (by omega))
  have hq' : (if 0 ≤ n ∧ n < (from_ + size : Nat) then some (f n.toNat) else none) = some q := hq
  by_cases c : 0 ≤ n ∧ n < (from_ + size : Nat)
  · rw [if_pos c] at hq'
    have := hK (m + 1) (by omega) n.toNat (by omega)
    rw [Int.toNat_of_nonneg c.1] at this
    rw [this]; exact hq'
  · rw [if_neg c] at hq'; cases hq'


theorem gcd_ev (b : Nat) : ∀ a : Nat, Ev (fun k => impl_gcd.f k (a : Int) (b : Int)) ((Nat.gcd a b : Nat) : Int) := by
  induction b using Nat.strongRecOn with
  | _ b ih =>
    intro a
    by_cases c : b = 0
    · subst c
      refine Ev.end fun k => ?_
      simp only [impl_gcd.f, impl_gcd.l0]
      rw [if_pos (by omega), Nat.gcd_zero_right]
    · have h1 := ih (a % b) (Nat.mod_lt _ (by omega)) b
      rw [Nat.gcd_comm b, ← Nat.gcd_rec, Nat.gcd_comm] at h1
      refine Ev.step (fun k => ?_) h1
      simp only [impl_gcd.f, impl_gcd.l0]
      rw [if_neg (by omega), tmod_nat]

end Go.Proofs.Ytedhckahjinieaa.Q
