/- The law FnSolveHas holds for all that it draws. -/
import Derived.Test.YtpkpgdlbgcjloaaCFnSolveHas8
namespace Go.Proofs.Ytpkpgdlbgcjloaa.Q
open Go.RowKit Go.Proofs.YtpkpgdlbgcjloaaW.PrintWords Go.Proofs.YtpkpgdlbgcjloaaW.PrintLast Go.Proofs.YtpkpgdlbgcjloaaW.PrintMore
attribute [local go_sem] max2_int min2_int max_two min_two max_three min_three max_four min_four   -- for this text's walks alone
set_option linter.unusedVariables false
set_option linter.unusedSimpArgs false
mutual
def impl_set_tidy.l0 : Nat → Int → List Bool → List Bool → Option (List Bool × List Bool)
 | 0, _, _, _ => none
 | k + 1, x3, x172000, x172001 => (impl_turns.f k x172001 x3).bind fun t173 => (if t173 = true then ((slices_Clone_bool_bool.f x172000).bind fun t174 => (if 0 ≤ x3 then (if x3 ≤ (x172001.length : Int) then ((slices_Clone_bool_bool.f (x172001.take (x3 : Int).toNat)).bind fun t178 => (impl_set_tidy.l1 k x3 t174 t178)) else (none)) else (none))) else (impl_set_tidy.l0 k (wrap64 (x3 + 1)) x172000 x172001))
def impl_set_tidy.l1 : Nat → Int → List Bool → List Bool → Option (List Bool × List Bool)
 | 0, _, _, _ => none
 | k + 1, x3, x4, x5 => if (x4.length : Int) > 0 then (if 0 ≤ (wrap64 ((x4.length : Int) - 1)) then (if (wrap64 ((x4.length : Int) - 1)) < (x4.length : Int) then (if 0 ≤ (wrap64 (x3 - 1)) then (if (wrap64 (x3 - 1)) < (x5.length : Int) then (if ((rdOf false x4 (wrap64 ((x4.length : Int) - 1))) == (rdOf false x5 (wrap64 (x3 - 1)))) = true then (if (wrap64 ((x4.length : Int) - 1)) ≤ (x4.length : Int) then ((some (([rdOf false x5 (wrap64 (x3 - 1))] : List Bool) : List Bool)).bind fun y187 => (if (wrap64 (x3 - 1)) ≤ (x5.length : Int) then ((some (x5.take ((wrap64 (x3 - 1)) : Int).toNat : List Bool)).bind fun y190 => (if y187.length + y190.length < 140737488355328 then (impl_set_tidy.l1 k x3 (x4.take ((wrap64 ((x4.length : Int) - 1)) : Int).toNat) (y187 ++ y190)) else (none))) else (none))) else (none)) else (some (x4, x5))) else (none)) else (none)) else (none)) else (none)) else (some (x4, x5))
end
def impl_set_tidy.f (k : Nat) (l0_0 : List Bool) (l0_1 : List Bool) : Option (List Bool × List Bool) := impl_set_tidy.l0 k 1 l0_0 l0_1
theorem impl_set_tidy.mono_l : ∀ k, (∀ y0 y1 y2, LeO (impl_set_tidy.l0 k y0 y1 y2) (impl_set_tidy.l0 (k + 1) y0 y1 y2)) ∧ (∀ y0 y1 y2, LeO (impl_set_tidy.l1 k y0 y1 y2) (impl_set_tidy.l1 (k + 1) y0 y1 y2))
 | 0 => ⟨fun _ _ _ r h => by simp [impl_set_tidy.l0] at h, fun _ _ _ r h => by simp [impl_set_tidy.l1] at h⟩
 | k + 1 => by
  obtain ⟨ih0, ih1⟩ := impl_set_tidy.mono_l k
  refine ⟨?_, ?_⟩
  ·intro y0 y1 y2
   unfold impl_set_tidy.l0
   repeat' first | (with_reducible exact ih0 _ _ _) | (with_reducible exact ih1 _ _ _) | (with_reducible exact impl_turns.mono _ _ _) | (with_reducible exact LeO.refl _) | (with_reducible refine LeO.ite ?_ ?_) | (with_reducible refine LeO.bind ?_ (fun _ => ?_))
  ·intro y0 y1 y2
   unfold impl_set_tidy.l1
   repeat' first | (with_reducible exact ih1 _ _ _) | (with_reducible exact LeO.refl _) | (with_reducible refine LeO.ite ?_ ?_) | (with_reducible refine LeO.bind ?_ (fun _ => ?_))
theorem impl_set_tidy.mono : ∀ a0 a1 k, LeO (impl_set_tidy.f k a0 a1) (impl_set_tidy.f (k + 1) a0 a1) := by
 intro a0 a1 k
 obtain ⟨ih0, ih1⟩ := impl_set_tidy.mono_l k
 unfold impl_set_tidy.f
 repeat' (with_reducible exact ih0 _ _ _)
def impl_set_tidy.T4 : Bool × List (List Nat × List Nat) := (true, [([], []), ([0], [0]), ([1], [1]), ([], []), ([3], [3]), ([], []), ([4, 5], [4, 5]), ([6, 2], [6]), ([2, 7, 0, 1, 2], [2]), ([7, 8, 0, 1, 2, 3, 4, 5, 6, 7, 8], [7])])
def impl_set_tidy.B4 : List Nat := [0, 1, 3, 0, 8, 0, 56, 127, 255, 511]
theorem impl_set_tidy.tab4 : rtab .any (opsOf Try.f112 4) = impl_set_tidy.T4 := by kernel_rfl
theorem impl_set_tidy.bits4 : waitsOk impl_set_tidy.T4.2 impl_set_tidy.B4 = true := by kernel_rfl
def impl_set_tidy.T5 : Bool × List (List Nat × List Nat) := (true, [([], []), ([0], [0]), ([1], [1]), ([2], [2]), ([3], [3]), ([3], [3]), ([5, 3], [3, 5]), ([6, 3], [3, 6]), ([4, 7, 3], [3, 4, 7]), ([8, 3], [3, 8]), ([3], [3]), ([3], [3]), ([11, 3], [3, 11]), ([10, 12, 3], [3, 10, 12]), ([13, 3], [3, 13]), ([9, 14, 3], [3, 9, 14]), ([3, 15], [3, 15])])
def impl_set_tidy.B5 : List Nat := [0, 1, 3, 7, 15, 15, 47, 111, 255, 511, 15, 15, 2063, 7183, 15375, 32767, 65535]
theorem impl_set_tidy.tab5 : rtab .any (opsOf Try.f112 5) = impl_set_tidy.T5 := by kernel_rfl
theorem impl_set_tidy.bits5 : waitsOk impl_set_tidy.T5.2 impl_set_tidy.B5 = true := by kernel_rfl
def impl_set_tidy.T7 : Bool × List (List Nat × List Nat) := (true, [([], []), ([], []), ([1], [1]), ([0, 2], [0, 2]), ([3], [3]), ([4], [4]), ([], []), ([], []), ([7], [7]), ([6, 8], [6, 8]), ([5, 9], [5, 9]), ([10, 10, 0, 1, 2, 3, 4, 5, 6, 7, 8, 9, 10], [0, 6, 10])])
def impl_set_tidy.B7 : List Nat := [0, 0, 2, 7, 15, 31, 0, 0, 128, 448, 1023, 2047]
theorem impl_set_tidy.tab7 : rtab .any (opsOf Try.f112 7) = impl_set_tidy.T7 := by kernel_rfl
theorem impl_set_tidy.bits7 : waitsOk impl_set_tidy.T7.2 impl_set_tidy.B7 = true := by kernel_rfl
set_option maxHeartbeats 8000000 in
set_option maxRecDepth 100000 in
theorem impl_set_tidy.calls (k : Nat) (A0_0 : Option Addr) (c0_0 : Nat) (l0_0 : List Bool) (A0_1 : Option Addr) (c0_1 : Nat) (l0_1 : List Bool) (r1 : List Bool) (r2 : List Bool) (w : World) (hr0_0 : Kd.C Kd.bool w A0_0 l0_0.length l0_0) (hc0_0 : l0_0.length ≤ c0_0) (hr0_1 : Kd.C Kd.bool w A0_1 l0_1.length l0_1) (hc0_1 : l0_1.length ≤ c0_1) (h : impl_set_tidy.f k l0_0 l0_1 = some (r1, r2)) :
  Calls Try.prog 112 #[.agg #[.slice A0_0 l0_0.length c0_0, .slice A0_1 l0_1.length c0_1]] w fun e w' => ∃ v0_ v1_ : Value, e = .returned (.agg #[v0_, v1_]) ∧ Kd.R Kd.bool 4 w' w.heap.size (fun k_ => some k_ ≠ (v1_ : Value).ownBlock) v0_ r1 ∧ Kd.R Kd.bool 4 w' w.heap.size (fun k_ => some k_ ≠ (v0_ : Value).ownBlock) v1_ r2 ∧ Below w.heap.size w w' := by
 have hu60 := Try.underlying60
 have HR0_0 := Aside0.mk hr0_0
 have HC0_0 := Aside0.mk hc0_0
 clear hr0_0 hc0_0
 have HR0_1 := Aside0.mk hr0_1
 have HC0_1 := Aside0.mk hc0_1
 clear hr0_1 hc0_1
 have HB := Aside0.mk (Below.refl w.heap.size w)
 have H : (impl_set_tidy.l0 k 1 l0_0 l0_1) = some (r1, r2) := h
 clear h
 have H' := Aside0.mk H
 clear H
 go_enter Try.func112, Try.ntmps112
 go_wp2_with (first | ((with_reducible refine gate_dst (N := 1) rfl ?_); (try (refine gate_guard (by rfl) ?_; dsimp only)); refine box_event ?hg (N := 1) ?hd (cs := #[.slice A0_0 l0_0.length c0_0, .slice A0_1 l0_1.length c0_1]) (t := 60) ?hr ?_; (case hd => rfl); (case hg => rfl); (case hr => first | (go_simp; done)); intro gb171 hg w2 hbox hb; have BK171 := Aside0.mk hbox; have GW171 := Aside0.mk ((by rw [hg]; exact (below_size HB.out) : w.heap.size ≤ gb171)); have GE171 := Aside0.mk ((by rw [hg]; exact (below_size HB.out) : w.heap.size ≤ gb171)); replace HB := Aside0.mk (below_step HB.out hb); clear hb hbox hg) | ((with_reducible refine gate_dst (N := 2) rfl ?_); (try (refine gate_guard (by rfl) ?_; dsimp only)); refine box_event ?hg (N := 2) ?hd (cs := #[.slice none 0 0, .slice none 0 0]) (t := 60) ?hr ?_; (case hd => rfl); (case hg => rfl); (case hr => first | (go_simp; done)); intro gb172 hg w3 hbox hb; have BK172 := Aside0.mk hbox; have GW172 := Aside0.mk ((by rw [hg]; exact (below_size HB.out) : w.heap.size ≤ gb172)); have GE172 := Aside0.mk ((by rw [hg]; exact (below_size HB.out) : w.heap.size ≤ gb172)); replace HB := Aside0.mk (below_step HB.out hb); have NB171_172 := Aside0.mk ((by rw [hg]; exact Nat.ne_of_lt (blk_lt (g := gb171) (o := .cells #[.slice A0_0 l0_0.length c0_0, .slice A0_1 l0_1.length c0_1] 60 (0, 0)) BK171.out) : gb171 ≠ gb172)); have NB172_171 := Aside0.mk ((by rw [hg]; exact Nat.ne_of_gt (blk_lt (g := gb171) (o := .cells #[.slice A0_0 l0_0.length c0_0, .slice A0_1 l0_1.length c0_1] 60 (0, 0)) BK171.out) : gb172 ≠ gb171)); replace BK171 := Aside0.mk (blk_below (g := gb171) (o := .cells #[.slice A0_0 l0_0.length c0_0, .slice A0_1 l0_1.length c0_1] 60 (0, 0)) BK171.out hb); clear hb hbox hg))
 go_loopg [3] k (fun kq v3 w' => ∃ (x3_1 : Int), v3 = .int .i64 x3_1 ∧ Aside0 (impl_set_tidy.l0 kq x3_1 l0_0 l0_1 = some (r1, r2)) ∧ Aside0 (kq ≤ k) ∧ Aside0 (w'.heap[gb171]? = some (.cells #[(.slice A0_0 l0_0.length c0_0), (.slice A0_1 l0_1.length c0_1)] 60 (0, 0))) ∧ Aside0 (w'.heap[gb172]? = some (.cells #[(.slice none 0 0), (.slice none 0 0)] 60 (0, 0))) ∧ Aside0 (Below w.heap.size w w'))
 case atStart => exact ⟨(1), (by rfl), H', ⟨Nat.le_refl _⟩, ⟨by exact BK171.out⟩, ⟨by exact BK172.out⟩, ⟨HB.out⟩⟩
 case round =>
  clear H'
  obtain ⟨x3_1, rfl, HA, HK1, BK171, BK172, HB⟩ := hrel
  cases gk with
  | zero => exact absurd HA.out (by simp [impl_set_tidy.l0])
  | succ k1 =>
   have H := HA.out
   clear HA
   simp only [impl_set_tidy.l0] at H
   replace H := Option.bind_eq_some_iff.mp H
   obtain ⟨t173, A40, H⟩ := H
   replace H : (if t173 = true then ((slices_Clone_bool_bool.f l0_0).bind fun t174 => (if 0 ≤ x3_1 then (if x3_1 ≤ (l0_1.length : Int) then ((slices_Clone_bool_bool.f (l0_1.take (x3_1 : Int).toNat)).bind fun t178 => (impl_set_tidy.l1 k1 x3_1 t174 t178)) else (none)) else (none))) else (impl_set_tidy.l0 k1 (wrap64 (x3_1 + 1)) l0_0 l0_1)) = some (r1, r2) := H
   have A4 := Aside0.mk A40
   clear A40
   by_cases c5 : t173 = true
   ·subst c5
    replace H : ((slices_Clone_bool_bool.f l0_0).bind fun t174 => (if 0 ≤ x3_1 then (if x3_1 ≤ (l0_1.length : Int) then ((slices_Clone_bool_bool.f (l0_1.take (x3_1 : Int).toNat)).bind fun t178 => (impl_set_tidy.l1 k1 x3_1 t174 t178)) else (none)) else (none))) = some (r1, r2) := by rw [if_pos rfl] at H; exact H
    replace H := Option.bind_eq_some_iff.mp H
    obtain ⟨t174, A60, H⟩ := H
    replace H : (if 0 ≤ x3_1 then (if x3_1 ≤ (l0_1.length : Int) then ((slices_Clone_bool_bool.f (l0_1.take (x3_1 : Int).toNat)).bind fun t178 => (impl_set_tidy.l1 k1 x3_1 t174 t178)) else (none)) else (none)) = some (r1, r2) := H
    have A6 := Aside0.mk A60
    clear A60
    by_cases c7 : 0 ≤ x3_1
    ·rw [if_pos c7] at H
     have c7b0 := eq_true c7
     have c7b1 : decide (0 ≤ x3_1) = true := decide_eq_true c7
     clear c7
     by_cases c8 : x3_1 ≤ (l0_1.length : Int)
     ·rw [if_pos c8] at H
      have c8b0 := eq_true c8
      have c8b1 : decide (x3_1 ≤ (l0_1.length : Int)) = true := decide_eq_true c8
      clear c8
      replace H := Option.bind_eq_some_iff.mp H
      obtain ⟨t178, A90, H⟩ := H
      replace H : (impl_set_tidy.l1 k1 x3_1 t174 t178) = some (r1, r2) := H
      have A9 := Aside0.mk A90
      clear A90
      have H' := Aside0.mk H
      clear H
      have hnb10 := NB171_172.out
      have hnc10 := NB172_171.out
      have hcz11_0 : wr.cell? ⟨gb171, 0, none⟩ = some (.slice A0_0 l0_0.length c0_0) := (blk_cell BK171.out 0).trans rfl
      have hcz11_1 : wr.cell? ⟨gb171, 1, none⟩ = some (.slice A0_1 l0_1.length c0_1) := (blk_cell BK171.out 1).trans rfl
      have hfz11_0 := blk_frozen BK171.out 0
      have hfz11_1 := blk_frozen BK171.out 1
      try go_wp2_with (first | ((with_reducible refine gate_callee (f := 122) rfl ?_); refine goesL_ (some 9) rfl rfl Try.func122 (by kernel_rfl) rfl #[.slice A0_1 l0_1.length c0_1, .int .i64 x3_1] rfl (by (try simp only [List.map_toArray, List.map_cons, List.map_nil]); rfl) ?_; (with_reducible refine (impl_turns.calls k1 _ _ l0_1 x3_1 true _ ?side1 ?side2 A4.out).mono ?_); (case side1 => repeat (exact (Kd.C_below HR0_1.out HB.out))); (case side2 => exact HC0_1.out); rintro e w' ⟨rfl, ⟨nd, rfl⟩⟩; refine ⟨_, rfl, ?_⟩))
      (try (rw [drewN_self wr]; generalize hq_ : World.drewN wr _ = wr; have n0_ : Aside0 (wr.heap[gb171]? = some (.cells #[.slice A0_0 l0_0.length c0_0, .slice A0_1 l0_1.length c0_1] 60 (0, 0))) := ⟨by rw [← hq_]; exact (by (with_reducible repeat (refine blk_drewN ?_ _)); exact BK171.out)⟩; have n1_ : Aside0 (wr.heap[gb172]? = some (.cells #[.slice none 0 0, .slice none 0 0] 60 (0, 0))) := ⟨by rw [← hq_]; exact (by (with_reducible repeat (refine blk_drewN ?_ _)); exact BK172.out)⟩; have n2_ : Aside0 (Below w.heap.size w wr) := ⟨by rw [← hq_]; exact (by repeat (first | (with_reducible first | exact HB.out | apply pw_below_drewN)))⟩; clear BK171 BK172 HB hq_; have BK171 := n0_; have BK172 := n1_; have HB := n2_; clear n0_ n1_ n2_))
      replace BK171 := Aside0.mk (blk_drew BK171.out)
      replace BK172 := Aside0.mk (blk_drew BK172.out)
      replace HB := Aside0.mk (below_drew1 HB.out)
      obtain ⟨i013, hi013, _, hsz13, _⟩ := info_parts info4
      obtain ⟨hcut13, hA13, hC13⟩ := print_take_of (P := Try.prog) Value.bool false 58 4 .i64 Try.underlying58 hi013 hsz13 A0_1 c0_1 l0_1 x3_1 (of_decide_eq_true (by (with_reducible assumption))) (of_decide_eq_true (by (with_reducible assumption))) HC0_1.out
      have HR177 := Aside0.mk (Kd.C_of_reads (h1 := fun _ => rfl) (hA13 _ (Kd.reads_of_C HR0_1.out)))
      have HC177 := Aside0.mk hC13
      clear hA13 hC13 hi013 hsz13
      refine start_ (n := 10) (S := fun w' => w'.cell? ⟨gb171, 0, none⟩ = some (.slice A0_0 l0_0.length c0_0) ∧ w'.cell? ⟨gb171, 1, none⟩ = some (.slice A0_1 l0_1.length c0_1)) (ds := []) #[false, false, false, false, false, false, false, false, false, false] (by kernel_rfl) rfl rfl ⟨(blk_cell BK171.out 0).trans rfl, (blk_cell BK171.out 1).trans rfl⟩ (fun hHeld => ?_); refine with_tabW impl_set_tidy.tab4 impl_set_tidy.bits4 (fun HT_ HW_ => ?_)
      generalize wr.drew = w12 at BK171 BK172 HB HR177 hHeld ⊢
      refine pure_ (i := 0) (N := some 13) (v := ?_) (a' := ?_) #[true, false, false, false, false, false, false, false, false, false] rfl rfl (any_of HT_.out (by kernel_rfl)) (fun _ _ _ h => h) (Or.inl ⟨by rfl, ?_⟩) ?_ ?_
      rotate_left
      ·intro w'
       go_simp
       with_reducible rfl
      rotate_left
      ·simp only [Act.put, List.setIfInBounds_toArray, List.set_cons_zero, List.set_cons_succ, i64_w, i32_w]
       rfl
      refine pure_ (i := 3) (N := some 16) (v := ?_) (a' := ?_) #[true, false, false, true, false, false, false, false, false, false] rfl rfl (any_of HT_.out (by kernel_rfl)) (fun _ _ _ h => h) (Or.inl ⟨by rfl, ?_⟩) ?_ ?_
      rotate_left
      ·intro w'
       go_simp
       with_reducible rfl
      rotate_left
      ·simp only [Act.put, List.setIfInBounds_toArray, List.set_cons_zero, List.set_cons_succ, i64_w, i32_w]
       rfl
      refine pure_ (i := 5) (N := some 18) (v := ?_) (a' := ?_) #[true, false, false, true, false, true, false, false, false, false] rfl rfl (any_of HT_.out (by kernel_rfl)) (fun _ _ _ h => h) (Or.inl ⟨by rfl, ?_⟩) ?_ ?_
      rotate_left
      ·intro w'
       go_simp
       with_reducible rfl
      rotate_left
      ·simp only [Act.put, List.setIfInBounds_toArray, List.set_cons_zero, List.set_cons_succ, i64_w, i32_w]
       rfl
      refine take_ (i := 1) (N := some 14) (v := ?_) (a' := ?_) #[true, true, false, true, false, true, false, false, false, false] rfl rfl (take_ofW HT_.out HW_.out (by kernel_rfl)) (fun _ _ _ h => h) (Or.inl ⟨by rfl, ?_⟩) hHeld ?_ ?_
      rotate_left
      ·rintro w' ⟨s0, s1⟩
       go_simp
       with_reducible rfl
      rotate_left
      ·simp only [Act.put, List.setIfInBounds_toArray, List.set_cons_zero, List.set_cons_succ, i64_w, i32_w]
       rfl
      refine take_ (i := 4) (N := some 17) (v := ?_) (a' := ?_) #[true, true, false, true, true, true, false, false, false, false] rfl rfl (take_ofW HT_.out HW_.out (by kernel_rfl)) (fun _ _ _ h => h) (Or.inl ⟨by rfl, ?_⟩) hHeld ?_ ?_
      rotate_left
      ·rintro w' ⟨s0, s1⟩
       go_simp
       with_reducible rfl
      rotate_left
      ·simp only [Act.put, List.setIfInBounds_toArray, List.set_cons_zero, List.set_cons_succ, i64_w, i32_w]
       rfl
      refine pure_ (i := 6) (N := some 19) (v := ?_) (a' := ?_) #[true, true, false, true, true, true, true, false, false, false] rfl rfl (any_of HT_.out (by kernel_rfl)) (fun _ _ _ h => h) (Or.inl ⟨by rfl, ?_⟩) ?_ ?_
      rotate_left
      ·intro w'
       go_simp
       with_reducible rfl
      rotate_left
      ·simp only [Act.put, List.setIfInBounds_toArray, List.set_cons_zero, List.set_cons_succ, i64_w, i32_w]
       rfl
      refine one_ (i := 2) (N := some 15) #[true, true, true, true, true, true, true, false, false, false] rfl rfl (one_of HT_.out (by kernel_rfl)) (by decide) (fun K hK => ?_)
      refine goes_ Try.func123 (by kernel_rfl) rfl #[.slice A0_0 l0_0.length c0_0] (by rfl) rfl rfl (by (try simp only [List.map_toArray, List.map_cons, List.map_nil]); rfl) ?_
      with_reducible refine (slices_Clone_bool_bool.calls _ _ l0_0 t174 _ ?side1 ?side2 A6.out).mono ?_
      (case side1 => repeat (exact (Kd.C_below HR0_0.out HB.out)))
      (case side2 => exact HC0_0.out)
      rintro e w14 ⟨v175, rfl, ho0, hb⟩
      refine ⟨_, rfl, ?_⟩
      have HO176 := Aside0.mk (Kd.R_lower ho0 (below_size HB.out))
      replace BK171 := Aside0.mk (blk_below (g := gb171) (o := .cells #[.slice A0_0 l0_0.length c0_0, .slice A0_1 l0_1.length c0_1] 60 (0, 0)) BK171.out hb)
      replace BK172 := Aside0.mk (blk_below (g := gb172) (o := .cells #[.slice none 0 0, .slice none 0 0] 60 (0, 0)) BK172.out hb)
      replace HB := Aside0.mk (below_step HB.out hb)
      (try clear hb)
      (try clear ho0)
      refine hK.out _ _ ⟨(blk_cell BK171.out 0).trans rfl, (blk_cell BK171.out 1).trans rfl⟩ (fun hHeld => ?_)
      clear hK K
      refine norm_ (a' := ?_) ?_ ?_
      rotate_left
      ·show Act.put _ (some 15) _ = _
       simp only [Act.put, List.setIfInBounds_toArray, List.set_cons_zero, List.set_cons_succ, i64_w, i32_w]
       rfl
      refine one_ (i := 7) (N := some 20) #[true, true, true, true, true, true, true, true, false, false] rfl rfl (one_of HT_.out (by kernel_rfl)) (by decide) (fun K hK => ?_)
      refine goes_ Try.func123 (by kernel_rfl) rfl #[.slice A0_1 (l0_1.take (x3_1 : Int).toNat).length c0_1] (by rfl) rfl rfl (by (try simp only [List.map_toArray, List.map_cons, List.map_nil]); first | (rw [show (l0_1.take (x3_1 : Int).toNat).length = x3_1.toNat from (by rw [List.length_take]; have h_ : (x3_1 : Int) ≤ (l0_1.length : Int) := of_decide_eq_true (by (with_reducible assumption)); omega)] <;> rfl)) ?_
      with_reducible refine (slices_Clone_bool_bool.calls _ _ (l0_1.take (x3_1 : Int).toNat) t178 _ ?side1 ?side2 A9.out).mono ?_
      (case side1 => repeat (exact (Kd.C_below HR177.out HB.out)))
      (case side2 => exact HC177.out)
      rintro e w15 ⟨v179, rfl, ho0, hb⟩
      refine ⟨_, rfl, ?_⟩
      have HO180 := Aside0.mk (Kd.R_lower (Kd.R_new' ho0 (Kd.R_lt HO176.out)) (below_size HB.out))
      replace HO176 := Aside0.mk (Kd.R_elder' HO176.out (Kd.R_base ho0) hb)
      replace BK171 := Aside0.mk (blk_below (g := gb171) (o := .cells #[.slice A0_0 l0_0.length c0_0, .slice A0_1 l0_1.length c0_1] 60 (0, 0)) BK171.out hb)
      replace BK172 := Aside0.mk (blk_below (g := gb172) (o := .cells #[.slice none 0 0, .slice none 0 0] 60 (0, 0)) BK172.out hb)
      replace HB := Aside0.mk (below_step HB.out hb)
      (try clear hb)
      (try clear ho0)
      refine hK.out _ _ ⟨(blk_cell BK171.out 0).trans rfl, (blk_cell BK171.out 1).trans rfl⟩ (fun hHeld => ?_)
      clear hK K
      refine norm_ (a' := ?_) ?_ ?_
      rotate_left
      ·show Act.put _ (some 20) _ = _
       simp only [Act.put, List.setIfInBounds_toArray, List.set_cons_zero, List.set_cons_succ, i64_w, i32_w]
       rfl
      refine pure_ (i := 8) (N := some 4) (v := ?_) (a' := ?_) #[true, true, true, true, true, true, true, true, true, false] rfl rfl (any_of HT_.out (by kernel_rfl)) (fun _ _ _ h => h) (Or.inl ⟨by rfl, ?_⟩) ?_ ?_
      rotate_left
      ·intro w'
       go_simp
       with_reducible rfl
      rotate_left
      ·simp only [Act.put, List.setIfInBounds_toArray, List.set_cons_zero, List.set_cons_succ, i64_w, i32_w]
       rfl
      refine pure_ (i := 9) (N := some 5) (v := ?_) (a' := ?_) #[true, true, true, true, true, true, true, true, true, true] rfl rfl (any_of HT_.out (by kernel_rfl)) (fun _ _ _ h => h) (Or.inl ⟨by rfl, ?_⟩) ?_ ?_
      rotate_left
      ·intro w'
       go_simp
       with_reducible rfl
      rotate_left
      ·simp only [Act.put, List.setIfInBounds_toArray, List.set_cons_zero, List.set_cons_succ, i64_w, i32_w]
       rfl
      refine done_ (done_of HT_.out (by kernel_rfl)) ?_
      try go_wp2
      go_loopg [4, 5] k1 (fun kq v4 v5 w' => ∃ (x4_2 : List Bool) (x5_2 : List Bool), Aside0 (impl_set_tidy.l1 kq x3_1 x4_2 x5_2 = some (r1, r2)) ∧ Aside0 (kq ≤ k1) ∧ Aside0 (Kd.R Kd.bool 4 w' w.heap.size (fun k_ => some k_ ≠ (v5 : Value).ownBlock) v4 x4_2) ∧ Aside0 (Kd.R Kd.bool 4 w' w.heap.size (fun k_ => some k_ ≠ (v4 : Value).ownBlock) v5 x5_2) ∧ Aside0 (w'.heap[gb171]? = some (.cells #[(.slice A0_0 l0_0.length c0_0), (.slice A0_1 l0_1.length c0_1)] 60 (0, 0))) ∧ Aside0 (w'.heap[gb172]? = some (.cells #[(.slice none 0 0), (.slice none 0 0)] 60 (0, 0))) ∧ Aside0 (Below w.heap.size w w'))
      case atStart => exact ⟨(t174), (t178), H', ⟨Nat.le_refl _⟩, ⟨by exact Kd.R_mono HO176.out (fun _ hk => hk.2)⟩, ⟨by exact Kd.R_mono HO180.out (fun _ hk => hk.2)⟩, ⟨by exact BK171.out⟩, ⟨by exact BK172.out⟩, ⟨HB.out⟩⟩
      case round =>
       clear H'
       try clear c7b0
       try clear c7b1
       try clear c8b0
       try clear c8b1
       try clear hcz11_0
       try clear hcz11_1
       try clear hfz11_0
       try clear hfz11_1
       obtain ⟨x4_2, x5_2, HA, HK2, HO_4, HO_5, BK171, BK172, HB⟩ := hrel
       cases gk with
       | zero => exact absurd HA.out (by simp [impl_set_tidy.l1])
       | succ k2 =>
        have H := HA.out
        clear HA
        simp only [impl_set_tidy.l1] at H
        by_cases c16 : (x4_2.length : Int) > 0
        ·rw [if_pos c16] at H
         have c16b0 : decide (0 < (x4_2.length : Int)) = true := decide_eq_true c16
         have c16b1 : decide (0 < x4_2.length) = true := decide_eq_true (by omega)
         clear c16
         obtain ⟨ji17, hji17⟩ : ∃ j_ : Int, (wrap64 ((x4_2.length : Int) - 1)) = j_ := ⟨_, rfl⟩
         replace H : (if 0 ≤ (ji17) then (if (ji17) < (x4_2.length : Int) then (if 0 ≤ (wrap64 (x3_1 - 1)) then (if (wrap64 (x3_1 - 1)) < (x5_2.length : Int) then (if ((rdOf false x4_2 (ji17)) == (rdOf false x5_2 (wrap64 (x3_1 - 1)))) = true then (if (ji17) ≤ (x4_2.length : Int) then ((some (([rdOf false x5_2 (wrap64 (x3_1 - 1))] : List Bool) : List Bool)).bind fun y187 => (if (wrap64 (x3_1 - 1)) ≤ (x5_2.length : Int) then ((some (x5_2.take ((wrap64 (x3_1 - 1)) : Int).toNat : List Bool)).bind fun y190 => (if y187.length + y190.length < 140737488355328 then (impl_set_tidy.l1 k2 x3_1 (x4_2.take ((ji17) : Int).toNat) (y187 ++ y190)) else (none))) else (none))) else (none)) else (some (x4_2, x5_2))) else (none)) else (none)) else (none)) else (none)) = some (r1, r2) := by first | (rw [hji17] at H; exact H)
         have hji17w : (IntKind.i64.wrap ((x4_2.length : Int) - 1)) = ji17 := (i64_w _).trans hji17
         by_cases c18 : 0 ≤ (ji17)
         ·rw [if_pos c18] at H
          have c18b0 : decide (0 ≤ (ji17)) = true := decide_eq_true c18
          clear c18
          by_cases c19 : (ji17) < (x4_2.length : Int)
          ·rw [if_pos c19] at H
           have c19b0 : decide ((ji17) < (x4_2.length : Int)) = true := decide_eq_true c19
           clear c19
           obtain ⟨ji20, hji20⟩ : ∃ j_ : Int, (wrap64 (x3_1 - 1)) = j_ := ⟨_, rfl⟩
           replace H : (if 0 ≤ (ji20) then (if (ji20) < (x5_2.length : Int) then (if ((rdOf false x4_2 (ji17)) == (rdOf false x5_2 (ji20))) = true then (if (ji17) ≤ (x4_2.length : Int) then ((some (([rdOf false x5_2 (ji20)] : List Bool) : List Bool)).bind fun y187 => (if (ji20) ≤ (x5_2.length : Int) then ((some (x5_2.take ((ji20) : Int).toNat : List Bool)).bind fun y190 => (if y187.length + y190.length < 140737488355328 then (impl_set_tidy.l1 k2 x3_1 (x4_2.take ((ji17) : Int).toNat) (y187 ++ y190)) else (none))) else (none))) else (none)) else (some (x4_2, x5_2))) else (none)) else (none)) = some (r1, r2) := by first | (rw [hji20] at H; exact H)
           have hji20w : (IntKind.i64.wrap (x3_1 - 1)) = ji20 := (i64_w _).trans hji20
           by_cases c21 : 0 ≤ (ji20)
           ·rw [if_pos c21] at H
            have c21b0 : decide (0 ≤ (ji20)) = true := decide_eq_true c21
            clear c21
            by_cases c22 : (ji20) < (x5_2.length : Int)
            ·rw [if_pos c22] at H
             have c22b0 : decide ((ji20) < (x5_2.length : Int)) = true := decide_eq_true c22
             clear c22
             by_cases c23 : ((rdOf false x4_2 (ji17)) == (rdOf false x5_2 (ji20))) = true
             ·rw [if_pos c23] at H
              have c23b0 : ((rdOf false x4_2 (ji17)) == (rdOf false x5_2 (ji20))) = true := c23
              (try (have c23b1 : decide ((rdOf false x4_2 (ji17)) = (rdOf false x5_2 (ji20))) = true := by simpa using c23))
              (try (have c23b2 : ((rdOf false x4_2 (ji17)) == (rdOf false x5_2 (ji20))) = true := by simpa using c23))
              clear c23
              by_cases c24 : (ji17) ≤ (x4_2.length : Int)
              ·rw [if_pos c24] at H
               have c24b0 := eq_true c24
               have c24b1 : decide ((ji17) ≤ (x4_2.length : Int)) = true := decide_eq_true c24
               clear c24
               obtain ⟨y183, hy183⟩ : ∃ y_ : List Bool, y_ = (x4_2.take ((ji17) : Int).toNat) := ⟨_, rfl⟩
               replace H : ((some (([rdOf false x5_2 (ji20)] : List Bool) : List Bool)).bind fun y187 => (if (ji20) ≤ (x5_2.length : Int) then ((some (x5_2.take ((ji20) : Int).toNat : List Bool)).bind fun y190 => (if y187.length + y190.length < 140737488355328 then (impl_set_tidy.l1 k2 x3_1 y183 (y187 ++ y190)) else (none))) else (none))) = some (r1, r2) := by first | (rw [hy183]; with_reducible exact H)
               have Ny183 := Aside0.mk hy183
               clear hy183
               obtain ⟨y187, hy187⟩ : ∃ y_ : List Bool, y_ = (([rdOf false x5_2 (ji20)] : List Bool)) := ⟨_, rfl⟩
               replace H : (if (ji20) ≤ (x5_2.length : Int) then ((some (x5_2.take ((ji20) : Int).toNat : List Bool)).bind fun y190 => (if y187.length + y190.length < 140737488355328 then (impl_set_tidy.l1 k2 x3_1 y183 (y187 ++ y190)) else (none))) else (none)) = some (r1, r2) := by first | (have H2_ := (Option.bind_some _ _).symm.trans H; rw [hy187]; with_reducible exact H2_)
               have Ny187 := Aside0.mk hy187
               clear hy187
               have c25b0 := eq_true (of_decide_eq_true (by (with_reducible assumption)) : 0 ≤ (ji20))
               by_cases c26 : (ji20) ≤ (x5_2.length : Int)
               ·rw [if_pos c26] at H
                have c26b0 := eq_true c26
                have c26b1 : decide ((ji20) ≤ (x5_2.length : Int)) = true := decide_eq_true c26
                clear c26
                obtain ⟨y190, hy190⟩ : ∃ y_ : List Bool, y_ = (x5_2.take ((ji20) : Int).toNat) := ⟨_, rfl⟩
                replace H : (if y187.length + y190.length < 140737488355328 then (impl_set_tidy.l1 k2 x3_1 y183 (y187 ++ y190)) else (none)) = some (r1, r2) := by first | (have H2_ := (Option.bind_some _ _).symm.trans H; rw [hy190]; with_reducible exact H2_)
                have Ny190 := Aside0.mk hy190
                clear hy190
                by_cases c27 : y187.length + y190.length < 140737488355328
                ·rw [if_pos c27] at H
                 have LMc27 := Aside0.mk c27
                 clear c27
                 obtain ⟨y194, hy194⟩ : ∃ y_ : List Bool, y_ = (y187 ++ y190) := ⟨_, rfl⟩
                 replace H : (impl_set_tidy.l1 k2 x3_1 y183 y194) = some (r1, r2) := by first | (rw [hy194]; with_reducible exact H)
                 have Ny194 := Aside0.mk hy194
                 clear hy194
                 have H' := Aside0.mk H
                 clear H
                 try go_wp2
                 replace HO_4 := Aside0.mk (Kd.R_drew HO_4.out)
                 replace HO_5 := Aside0.mk (Kd.R_drew HO_5.out)
                 replace BK171 := Aside0.mk (blk_drew BK171.out)
                 replace BK172 := Aside0.mk (blk_drew BK172.out)
                 replace HB := Aside0.mk (below_drew1 HB.out)
                 obtain ⟨Ao29, co29, eo29⟩ := Kd.R_slice HO_4.out
                 (subst eo29)
                 have p181 : 0 ≤ ((ji17) : Int) := of_decide_eq_true (by (with_reducible assumption))
                 have q181 : (ji17) < (x4_2.length : Int) := of_decide_eq_true (by (with_reducible assumption))
                 obtain ⟨ad181, e181, hx181_0⟩ := Kd.at_bool (Kd.R_reads' HO_4.out).2.2 (ji17) p181 q181
                 cases e181
                 replace p181 := eq_true p181
                 replace q181 := eq_true q181
                 obtain ⟨Ao30, co30, eo30⟩ := Kd.R_slice HO_5.out
                 (subst eo30)
                 have p182 : 0 ≤ ((ji20) : Int) := of_decide_eq_true (by (with_reducible assumption))
                 have q182 : (ji20) < (x5_2.length : Int) := of_decide_eq_true (by (with_reducible assumption))
                 obtain ⟨ad182, e182, hx182_0⟩ := Kd.at_bool (Kd.R_reads' HO_5.out).2.2 (ji20) p182 q182
                 cases e182
                 replace p182 := eq_true p182
                 replace q182 := eq_true q182
                 refine start_ (n := 17) (S := fun w' => w'.cell? (ad181.add ((ji17)).toNat) = some (.bool (rdOf false x4_2 (ji17))) ∧ w'.cell? (ad182.add ((ji20)).toNat) = some (.bool (rdOf false x5_2 (ji20)))) (ds := []) #[false, false, false, false, false, false, false, false, false, false, false, false, false, false, false, false, false] (by kernel_rfl) rfl rfl ⟨hx181_0, hx182_0⟩ (fun hHeld => ?_); refine with_tabW impl_set_tidy.tab5 impl_set_tidy.bits5 (fun HT_ HW_ => ?_)
                 generalize wr.drew = w28 at HO_4 HO_5 BK171 BK172 HB hx181_0 hx182_0 hHeld ⊢
                 refine pure_ (i := 0) (N := some 21) (v := ?_) (a' := ?_) #[true, false, false, false, false, false, false, false, false, false, false, false, false, false, false, false, false] rfl rfl (any_of HT_.out (by kernel_rfl)) (fun _ _ _ h => h) (Or.inl ⟨by rfl, ?_⟩) ?_ ?_
                 rotate_left
                 ·intro w'
                  go_simp
                  with_reducible rfl
                 rotate_left
                 ·simp only [Act.put, List.setIfInBounds_toArray, List.set_cons_zero, List.set_cons_succ, i64_w, i32_w]
                  rfl
                 refine pure_ (i := 1) (N := some 22) (v := ?_) (a' := ?_) #[true, true, false, false, false, false, false, false, false, false, false, false, false, false, false, false, false] rfl rfl (any_of HT_.out (by kernel_rfl)) (fun _ _ _ h => h) (Or.inl ⟨by rfl, ?_⟩) ?_ ?_
                 rotate_left
                 ·intro w'
                  go_simp
                  with_reducible rfl
                 rotate_left
                 ·simp only [Act.put, List.setIfInBounds_toArray, List.set_cons_zero, List.set_cons_succ, i64_w, i32_w]
                  rfl
                 refine pure_ (i := 2) (N := some 23) (v := ?_) (a' := ?_) #[true, true, true, false, false, false, false, false, false, false, false, false, false, false, false, false, false] rfl rfl (any_of HT_.out (by kernel_rfl)) (fun _ _ _ h => h) (Or.inl ⟨by rfl, ?_⟩) ?_ ?_
                 rotate_left
                 ·intro w'
                  go_simp
                  with_reducible rfl
                 rotate_left
                 ·simp only [Act.put, List.setIfInBounds_toArray, List.set_cons_zero, List.set_cons_succ, i64_w, i32_w]
                  rfl
                 refine pure_ (i := 3) (N := some 24) (v := ?_) (a' := ?_) #[true, true, true, true, false, false, false, false, false, false, false, false, false, false, false, false, false] rfl rfl (any_of HT_.out (by kernel_rfl)) (fun _ _ _ h => h) (Or.inl ⟨by rfl, ?_⟩) ?_ ?_
                 rotate_left
                 ·intro w'
                  go_simp
                  with_reducible rfl
                 rotate_left
                 ·simp only [Act.put, List.setIfInBounds_toArray, List.set_cons_zero, List.set_cons_succ, i64_w, i32_w]
                  rfl
                 refine pure_ (i := 4) (N := some 25) (v := ?_) (a' := ?_) #[true, true, true, true, true, false, false, false, false, false, false, false, false, false, false, false, false] rfl rfl (any_of HT_.out (by kernel_rfl)) (fun _ _ _ h => h) (Or.inl ⟨by rfl, ?_⟩) ?_ ?_
                 rotate_left
                 ·intro w'
                  go_simp
                  with_reducible rfl
                 rotate_left
                 ·simp only [Act.put, List.setIfInBounds_toArray, List.set_cons_zero, List.set_cons_succ, i64_w, i32_w]
                  rfl
                 refine pure_ (i := 5) (N := some 26) (v := ?_) (a' := ?_) #[true, true, true, true, true, true, false, false, false, false, false, false, false, false, false, false, false] rfl rfl (any_of HT_.out (by kernel_rfl)) (fun _ _ _ h => h) (Or.inl ⟨by rfl, ?_⟩) ?_ ?_
                 rotate_left
                 ·intro w'
                  go_simp
                  with_reducible rfl
                 rotate_left
                 ·simp only [Act.put, List.setIfInBounds_toArray, List.set_cons_zero, List.set_cons_succ, i64_w, i32_w]
                  rfl
                 refine pure_ (i := 6) (N := some 27) (v := ?_) (a' := ?_) #[true, true, true, true, true, true, true, false, false, false, false, false, false, false, false, false, false] rfl rfl (any_of HT_.out (by kernel_rfl)) (fun _ _ _ h => h) (Or.inl ⟨by rfl, ?_⟩) ?_ ?_
                 rotate_left
                 ·intro w'
                  go_simp
                  with_reducible rfl
                 rotate_left
                 ·simp only [Act.put, List.setIfInBounds_toArray, List.set_cons_zero, List.set_cons_succ, i64_w, i32_w]
                  rfl
                 refine pure_ (i := 7) (N := some 28) (v := ?_) (a' := ?_) #[true, true, true, true, true, true, true, true, false, false, false, false, false, false, false, false, false] rfl rfl (any_of HT_.out (by kernel_rfl)) (fun _ _ _ h => h) (Or.inl ⟨by rfl, ?_⟩) ?_ ?_
                 rotate_left
                 ·intro w'
                  go_simp
                  with_reducible rfl
                 rotate_left
                 ·simp only [Act.put, List.setIfInBounds_toArray, List.set_cons_zero, List.set_cons_succ, i64_w, i32_w]
                  rfl
                 refine pure_ (i := 8) (N := some 29) (v := ?_) (a' := ?_) #[true, true, true, true, true, true, true, true, true, false, false, false, false, false, false, false, false] rfl rfl (any_of HT_.out (by kernel_rfl)) (fun _ _ _ h => h) (Or.inl ⟨by rfl, ?_⟩) ?_ ?_
                 rotate_left
                 ·intro w'
                  go_simp
                  with_reducible rfl
                 rotate_left
                 ·simp only [Act.put, List.setIfInBounds_toArray, List.set_cons_zero, List.set_cons_succ, i64_w, i32_w]
                  rfl
                 refine pure_ (i := 10) (N := some 31) (v := ?_) (a' := ?_) #[true, true, true, true, true, true, true, true, true, false, true, false, false, false, false, false, false] rfl rfl (any_of HT_.out (by kernel_rfl)) (fun _ _ _ h => h) (Or.inl ⟨by rfl, ?_⟩) ?_ ?_
                 rotate_left
                 ·intro w'
                  go_simp
                  with_reducible rfl
                 rotate_left
                 ·simp only [Act.put, List.setIfInBounds_toArray, List.set_cons_zero, List.set_cons_succ, i64_w, i32_w]
                  rfl
                 refine pure_ (i := 11) (N := some 32) (v := ?_) (a' := ?_) #[true, true, true, true, true, true, true, true, true, false, true, true, false, false, false, false, false] rfl rfl (any_of HT_.out (by kernel_rfl)) (fun _ _ _ h => h) (Or.inl ⟨by rfl, ?_⟩) ?_ ?_
                 rotate_left
                 ·intro w'
                  go_simp
                  with_reducible rfl
                 rotate_left
                 ·simp only [Act.put, List.setIfInBounds_toArray, List.set_cons_zero, List.set_cons_succ, i64_w, i32_w]
                  rfl
                 refine pure_ (i := 12) (N := some 33) (v := ?_) (a' := ?_) #[true, true, true, true, true, true, true, true, true, false, true, true, true, false, false, false, false] rfl rfl (any_of HT_.out (by kernel_rfl)) (fun _ _ _ h => h) (Or.inl ⟨by rfl, ?_⟩) ?_ ?_
                 rotate_left
                 ·intro w'
                  go_simp
                  with_reducible rfl
                 rotate_left
                 ·simp only [Act.put, List.setIfInBounds_toArray, List.set_cons_zero, List.set_cons_succ, i64_w, i32_w]
                  rfl
                 refine pure_ (i := 13) (N := some 34) (v := ?_) (a' := ?_) #[true, true, true, true, true, true, true, true, true, false, true, true, true, true, false, false, false] rfl rfl (any_of HT_.out (by kernel_rfl)) (fun _ _ _ h => h) (Or.inl ⟨by rfl, ?_⟩) ?_ ?_
                 rotate_left
                 ·intro w'
                  go_simp
                  with_reducible rfl
                 rotate_left
                 ·simp only [Act.put, List.setIfInBounds_toArray, List.set_cons_zero, List.set_cons_succ, i64_w, i32_w]
                  rfl
                 refine take_ (i := 9) (N := some 30) (v := ?_) (a' := ?_) #[true, true, true, true, true, true, true, true, true, true, true, true, true, true, false, false, false] rfl rfl (take_ofW HT_.out HW_.out (by kernel_rfl)) (fun _ _ _ h => h) (Or.inl ⟨by rfl, ?_⟩) hHeld ?_ ?_
                 rotate_left
                 ·rintro w' ⟨s0, s1⟩
                  go_simp
                  with_reducible rfl
                 rotate_left
                 ·simp only [Act.put, List.setIfInBounds_toArray, List.set_cons_zero, List.set_cons_succ, i64_w, i32_w]
                  rfl
                 refine take_ (i := 14) (N := some 35) (v := ?_) (a' := ?_) #[true, true, true, true, true, true, true, true, true, true, true, true, true, true, true, false, false] rfl rfl (take_ofW HT_.out HW_.out (by kernel_rfl)) (fun _ _ _ h => h) (Or.inl ⟨by rfl, ?_⟩) hHeld ?_ ?_
                 rotate_left
                 ·rintro w' ⟨s0, s1⟩
                  go_simp
                  with_reducible rfl
                 rotate_left
                 ·simp only [Act.put, List.setIfInBounds_toArray, List.set_cons_zero, List.set_cons_succ, i64_w, i32_w]
                  rfl
                 refine pure_ (i := 15) (N := some 36) (v := ?_) (a' := ?_) #[true, true, true, true, true, true, true, true, true, true, true, true, true, true, true, true, false] rfl rfl (any_of HT_.out (by kernel_rfl)) (fun _ _ _ h => h) (Or.inl ⟨by rfl, ?_⟩) ?_ ?_
                 rotate_left
                 ·intro w'
                  go_simp
                  with_reducible rfl
                 rotate_left
                 ·simp only [Act.put, List.setIfInBounds_toArray, List.set_cons_zero, List.set_cons_succ, i64_w, i32_w]
                  rfl
                 refine pure_ (i := 16) (N := some 37) (v := ?_) (a' := ?_) #[true, true, true, true, true, true, true, true, true, true, true, true, true, true, true, true, true] rfl rfl (any_of HT_.out (by kernel_rfl)) (fun _ _ _ h => h) (Or.inl ⟨by rfl, ?_⟩) ?_ ?_
                 rotate_left
                 ·intro w'
                  go_simp
                  with_reducible rfl
                 rotate_left
                 ·simp only [Act.put, List.setIfInBounds_toArray, List.set_cons_zero, List.set_cons_succ, i64_w, i32_w]
                  rfl
                 refine done_ (done_of HT_.out (by kernel_rfl)) ?_
                 have q31 : ((ji17) : Int) ≤ ((x4_2.length : Int) : Int) := of_decide_eq_true (by (with_reducible assumption))
                 obtain ⟨i031, hi031, _, hsz31, _⟩ := info_parts info4
                 have hcut31 := cut_to (P := Try.prog) 58 4 .i64 Try.underlying58 hi031 (some ad181) x4_2.length co29 (ji17) (of_decide_eq_true (by (with_reducible assumption))) q31 (Kd.R_reads' HO_4.out).2.1
                 have hr31 := Kd.R_take (m := ((ji17) : Int).toNat) HO_4.out (by omega)
                 have hy31 : y183.length = ((ji17) : Int).toNat := (by rw [Ny183.out, List.length_take]; omega)
                 rw [← Ny183.out] at hr31
                 rw [← hy31] at hr31 hcut31
                 clear hy31 hi031 hsz31 HO_4
                 have HO185 := Aside0.mk hr31
                 clear hr31
                 replace q31 := eq_true q31
                 try go_wp2
                 replace HO185 := Aside0.mk (Kd.R_drew HO185.out)
                 replace HO_5 := Aside0.mk (Kd.R_drew HO_5.out)
                 replace BK171 := Aside0.mk (blk_drew BK171.out)
                 replace BK172 := Aside0.mk (blk_drew BK172.out)
                 replace HB := Aside0.mk (below_drew1 HB.out)
                 have p186 : 0 ≤ ((ji20) : Int) := of_decide_eq_true (by (with_reducible assumption))
                 have q186 : (ji20) < (x5_2.length : Int) := of_decide_eq_true (by (with_reducible assumption))
                 obtain ⟨ad186, e186, hx186_0⟩ := Kd.at_bool (Kd.R_reads' HO_5.out).2.2 (ji20) p186 q186
                 obtain rfl : ad182 = ad186 := (by injection e186)
                 replace p186 := eq_true p186
                 replace q186 := eq_true q186
                 have q33 : ((ji20) : Int) ≤ ((x5_2.length : Int) : Int) := of_decide_eq_true (by (with_reducible assumption))
                 obtain ⟨i033, hi033, _, hsz33, _⟩ := info_parts info4
                 have hroom33 : x5_2.length ≤ co30 := (Kd.R_reads' HO_5.out).2.1
                 have hC33 : Kd.C Kd.bool _ (some ad182) x5_2.length x5_2 := (Kd.R_reads' HO_5.out).2.2
                 have hcut33 := cut_to (P := Try.prog) 58 4 .i64 Try.underlying58 hi033 (some ad182) x5_2.length co30 (ji20) (of_decide_eq_true (by (with_reducible assumption))) q33 hroom33
                 have hr33 := Kd.C_take (m := ((ji20) : Int).toNat) hC33 (by omega)
                 have hy33 : y190.length = ((ji20) : Int).toNat := (by rw [Ny190.out, List.length_take]; omega)
                 rw [← Ny190.out] at hr33
                 rw [← hy33] at hcut33
                 have HR193 := Aside0.mk hr33
                 have HC193 := Aside0.mk (show y190.length ≤ co30 from by omega)
                 clear hr33 hC33 hroom33 hi033 hsz33
                 have KY33 := Aside0.mk hy33
                 clear hy33
                 have KL33 := Aside0.mk (show ((ji20) : Int).toNat ≤ x5_2.length from by omega)
                 replace q33 := eq_true q33
                 refine start_ (n := 12) (S := fun w' => w'.cell? (ad182.add ((ji20)).toNat) = some (.bool (rdOf false x5_2 (ji20)))) (ds := [10]) #[false, false, false, false, false, false, false, false, false, false, false, false] (by kernel_rfl) rfl rfl (hx186_0) (fun hHeld => ?_); refine with_tabW impl_set_tidy.tab7 impl_set_tidy.bits7 (fun HT_ HW_ => ?_)
                 generalize w28.drew = w32 at HO185 HO_5 BK171 BK172 HB HR193 hx186_0 hHeld ⊢
                 refine pure_ (i := 0) (N := some 43) (v := ?_) (a' := ?_) #[true, false, false, false, false, false, false, false, false, false, false, false] rfl rfl (any_of HT_.out (by kernel_rfl)) (fun _ _ _ h => h) (Or.inl ⟨by rfl, ?_⟩) ?_ ?_
                 rotate_left
                 ·intro w'
                  go_simp
                  with_reducible rfl
                 rotate_left
                 ·simp only [Act.put, List.setIfInBounds_toArray, List.set_cons_zero, List.set_cons_succ, i64_w, i32_w]
                  rfl
                 refine pure_ (i := 1) (N := some 44) (v := ?_) (a' := ?_) #[true, true, false, false, false, false, false, false, false, false, false, false] rfl rfl (any_of HT_.out (by kernel_rfl)) (fun _ _ _ h => h) (Or.inl ⟨by rfl, ?_⟩) ?_ ?_
                 rotate_left
                 ·intro w'
                  go_simp
                  with_reducible rfl
                 rotate_left
                 ·simp only [Act.put, List.setIfInBounds_toArray, List.set_cons_zero, List.set_cons_succ, i64_w, i32_w]
                  rfl
                 refine pure_ (i := 2) (N := some 45) (v := ?_) (a' := ?_) #[true, true, true, false, false, false, false, false, false, false, false, false] rfl rfl (any_of HT_.out (by kernel_rfl)) (fun _ _ _ h => h) (Or.inl ⟨by rfl, ?_⟩) ?_ ?_
                 rotate_left
                 ·intro w'
                  go_simp
                  with_reducible rfl
                 rotate_left
                 ·simp only [Act.put, List.setIfInBounds_toArray, List.set_cons_zero, List.set_cons_succ, i64_w, i32_w]
                  rfl
                 refine pure_ (i := 3) (N := some 46) (v := ?_) (a' := ?_) #[true, true, true, true, false, false, false, false, false, false, false, false] rfl rfl (any_of HT_.out (by kernel_rfl)) (fun _ _ _ h => h) (Or.inl ⟨by rfl, ?_⟩) ?_ ?_
                 rotate_left
                 ·intro w'
                  go_simp
                  with_reducible rfl
                 rotate_left
                 ·simp only [Act.put, List.setIfInBounds_toArray, List.set_cons_zero, List.set_cons_succ, i64_w, i32_w]
                  rfl
                 refine pure_ (i := 6) (N := some 49) (v := ?_) (a' := ?_) #[true, true, true, true, false, false, true, false, false, false, false, false] rfl rfl (any_of HT_.out (by kernel_rfl)) (fun _ _ _ h => h) (Or.inl ⟨by rfl, ?_⟩) ?_ ?_
                 rotate_left
                 ·intro w'
                  go_simp
                  with_reducible rfl
                 rotate_left
                 ·simp only [Act.put, List.setIfInBounds_toArray, List.set_cons_zero, List.set_cons_succ, i64_w, i32_w]
                  rfl
                 refine pure_ (i := 7) (N := some 50) (v := ?_) (a' := ?_) #[true, true, true, true, false, false, true, true, false, false, false, false] rfl rfl (any_of HT_.out (by kernel_rfl)) (fun _ _ _ h => h) (Or.inl ⟨by rfl, ?_⟩) ?_ ?_
                 rotate_left
                 ·intro w'
                  go_simp
                  with_reducible rfl
                 rotate_left
                 ·simp only [Act.put, List.setIfInBounds_toArray, List.set_cons_zero, List.set_cons_succ, i64_w, i32_w]
                  rfl
                 refine pure_ (i := 8) (N := some 51) (v := ?_) (a' := ?_) #[true, true, true, true, false, false, true, true, true, false, false, false] rfl rfl (any_of HT_.out (by kernel_rfl)) (fun _ _ _ h => h) (Or.inl ⟨by rfl, ?_⟩) ?_ ?_
                 rotate_left
                 ·intro w'
                  go_simp
                  with_reducible rfl
                 rotate_left
                 ·simp only [Act.put, List.setIfInBounds_toArray, List.set_cons_zero, List.set_cons_succ, i64_w, i32_w]
                  rfl
                 refine pure_ (i := 9) (N := some 52) (v := ?_) (a' := ?_) #[true, true, true, true, false, false, true, true, true, true, false, false] rfl rfl (any_of HT_.out (by kernel_rfl)) (fun _ _ _ h => h) (Or.inl ⟨by rfl, ?_⟩) ?_ ?_
                 rotate_left
                 ·intro w'
                  go_simp
                  with_reducible rfl
                 rotate_left
                 ·simp only [Act.put, List.setIfInBounds_toArray, List.set_cons_zero, List.set_cons_succ, i64_w, i32_w]
                  rfl
                 refine take_ (i := 4) (N := some 47) (v := ?_) (a' := ?_) #[true, true, true, true, true, false, true, true, true, true, false, false] rfl rfl (take_ofW HT_.out HW_.out (by kernel_rfl)) (fun _ _ _ h => h) (Or.inl ⟨by rfl, ?_⟩) hHeld ?_ ?_
                 rotate_left
                 ·intro w' s0
                  go_simp
                  with_reducible rfl
                 rotate_left
                 ·simp only [Act.put, List.setIfInBounds_toArray, List.set_cons_zero, List.set_cons_succ, i64_w, i32_w]
                  rfl
                 refine one_ (i := 5) (N := some 48) #[true, true, true, true, true, true, true, true, true, true, false, false] rfl rfl (one_of HT_.out (by kernel_rfl)) (by decide) (fun K hK => ?_)
                 refine Kd.R_lit_step Kd.bool _ 4 ?hg (N := 48) ?hd (xs := ([rdOf false x5_2 (ji20)] : List Bool)) (inner := [.bool (rdOf false x5_2 (ji20))]) (ok := fun _ => True) (okp := fun _ => True) ?hr ?hp (fun _ hk => hk) trivial (Below.refl _ _) (Nat.le_refl _) (by simp) ?_; (case hd => rfl); (case hg => rfl); (case hr => first | (go_simp; done)); (case hp => exact (Reps.one (show Kd.M Kd.bool _ _ _ (rdOf false x5_2 (ji20)) [.bool (rdOf false x5_2 (ji20))] from rfl) (Reps.none _ _)))
                 intro v188 w34 ho35 hb hg_ hnew_
                 have HS0_ := (hb.cell (World.block_lt_of_cell? _ _ (hHeld))).trans (hHeld)
                 clear hg_ hnew_
                 (rw [← Ny187.out] at ho35)
                 have HO189 := Aside0.mk (Kd.R_lower (Kd.R_new' (Kd.R_new' ho35 (Kd.R_lt HO185.out)) (Kd.R_lt HO_5.out)) (below_size HB.out))
                 replace HO185 := Aside0.mk (Kd.R_elder' HO185.out (Kd.R_base ho35) hb)
                 replace HO_5 := Aside0.mk (Kd.R_elder' HO_5.out (Kd.R_base ho35) hb)
                 replace BK171 := Aside0.mk (blk_below (g := gb171) (o := .cells #[.slice A0_0 l0_0.length c0_0, .slice A0_1 l0_1.length c0_1] 60 (0, 0)) BK171.out hb)
                 replace BK172 := Aside0.mk (blk_below (g := gb172) (o := .cells #[.slice none 0 0, .slice none 0 0] 60 (0, 0)) BK172.out hb)
                 replace HR193 := Aside0.mk (Kd.C_below HR193.out hb)
                 replace HB := Aside0.mk (below_step HB.out hb)
                 clear hb ho35
                 refine hK.out _ _ (HS0_) (fun hHeld => ?_)
                 clear hK K
                 refine norm_ (a' := ?_) ?_ ?_
                 rotate_left
                 ·show Act.put _ (some 48) _ = _
                  simp only [Act.put, List.setIfInBounds_toArray, List.set_cons_zero, List.set_cons_succ, i64_w, i32_w]
                  rfl
                 refine last_ (i := 10) (N := some 53) #[true, true, true, true, true, true, true, true, true, true, true, false] rfl rfl (one_of HT_.out (by kernel_rfl)) (by decide) (fun K hK => ?_)
                 refine Kd.R_append_rows_step Kd.bool (w0 := w) w.heap.size (by rfl) (.tmp 48) (.tmp 52) 58 4 (.bool false) 1 rfl Try.underlying58 info4 rfl (by decide) (by omega) v188 y187 y190 _ _ _ (fun k_ => some k_ ≠ (.slice (some ad181) y183.length co29 : Value).ownBlock ∧ some k_ ≠ (.slice (some ad182) x5_2.length co30 : Value).ownBlock) (fun _ => False) rfl rfl ?aO ?aR (fun _ _ h => h) (fun _ h => h.elim) ?aF ?aB ?aS ?aL ?_
                 (case aR => repeat (exact (by repeat (exact HR193.out))))
                 (case aB => exact HB.out)
                 (case aF => exact (fun k_ hk => ⟨Kd.fresh' (Kd.R_lt HO185.out) k_ hk, Kd.fresh' (Kd.R_lt HO_5.out) k_ hk⟩))
                 (case aO => exact (by exact Kd.R_mono HO189.out (fun _ hk => ⟨hk.1.2, hk.2⟩)))
                 (case aS => exact (below_size HB.out))
                 (case aL => have := LMc27.out; omega)
                 intro v195 w36 ho hb hg hat
                 rw [← Ny194.out] at ho
                 replace HO185 := Aside0.mk (Kd.R_after (ok := (fun k_ => some k_ ≠ (.slice (some ad182) x5_2.length co30 : Value).ownBlock)) HO185.out hg hat)
                 replace BK171 := Aside0.mk (blk_grown (g := gb171) (o := .cells #[.slice A0_0 l0_0.length c0_0, .slice A0_1 l0_1.length c0_1] 60 (0, 0)) BK171.out hg (Kd.R_ne HO189.out BK171.out (by decide)))
                 replace BK172 := Aside0.mk (blk_grown (g := gb172) (o := .cells #[.slice none 0 0, .slice none 0 0] 60 (0, 0)) BK172.out hg (Kd.R_ne HO189.out BK172.out (by decide)))
                 replace HB := Aside0.mk hb
                 replace HR193 := Aside0.mk ((show Kd.C Kd.bool w36 (some ad182) y190.length y190 from by rw [Ny190.out]; exact Kd.C_take (m := ((ji20) : Int).toNat) ((Kd.R_reads' (Kd.R_after (ok := (fun k_ => some k_ ≠ (.slice (some ad181) y183.length co29 : Value).ownBlock)) HO_5.out hg hat)).2.2) KL33.out))
                 replace HO_5 := Aside0.mk (Kd.R_after (ok := (fun k_ => some k_ ≠ (.slice (some ad181) y183.length co29 : Value).ownBlock)) HO_5.out hg hat)
                 have HO196 := Aside0.mk ho
                 clear HO189
                 clear ho hb hg hat
                 refine hK.out _ _ ?_
                 clear hK K
                 refine norm_ (a' := ?_) ?_ ?_
                 rotate_left
                 ·show Act.put _ (some 53) _ = _
                  simp only [Act.put, List.setIfInBounds_toArray, List.set_cons_zero, List.set_cons_succ, i64_w, i32_w]
                  rfl
                 refine pure_ (i := 11) (N := some 5) (v := ?_) (a' := ?_) #[true, true, true, true, true, true, true, true, true, true, true, true] rfl rfl (any_of HT_.out (by kernel_rfl)) (fun _ _ _ h => h) (Or.inl ⟨by rfl, ?_⟩) ?_ ?_
                 rotate_left
                 ·intro w'
                  go_simp
                  with_reducible rfl
                 rotate_left
                 ·simp only [Act.put, List.setIfInBounds_toArray, List.set_cons_zero, List.set_cons_succ, i64_w, i32_w]
                  rfl
                 refine done_ (done_of HT_.out (by kernel_rfl)) ?_
                 try go_wp2
                 go_roundg k2
                 case measure => have := HK1.out; have := HK2.out; omega
                 case rel => exact ⟨(y183), (y194), H', ⟨by have := HK1.out; have := HK2.out; omega⟩, ⟨by exact Kd.R_mono HO185.out (fun _ hk => hk.2)⟩, ⟨by exact Kd.R_mono HO196.out (fun _ hk => hk.1)⟩, ⟨by exact BK171.out⟩, ⟨by exact BK172.out⟩, ⟨HB.out⟩⟩
                ·rw [if_neg c27] at H
                 exact absurd H (by simp)
               ·rw [if_neg c26] at H
                exact absurd H (by simp)
              ·rw [if_neg c24] at H
               exact absurd H (by simp)
             ·rw [if_neg c23] at H
              have c23b0 : ((rdOf false x4_2 (ji17)) == (rdOf false x5_2 (ji20))) = false := by simpa using c23
              (try (have c23b1 : decide ((rdOf false x4_2 (ji17)) = (rdOf false x5_2 (ji20))) = false := by simpa using c23))
              (try (have c23b2 : ((rdOf false x4_2 (ji17)) == (rdOf false x5_2 (ji20))) = false := by simpa using c23))
              (try (have c23b3 : ¬ ((rdOf false x4_2 (ji17)) = (rdOf false x5_2 (ji20))) := by simpa using c23))
              clear c23
              simp only [Option.some.injEq, Prod.mk.injEq] at H
              obtain ⟨rfl, rfl⟩ := H
              try go_wp2
              replace HO_4 := Aside0.mk (Kd.R_drew HO_4.out)
              replace HO_5 := Aside0.mk (Kd.R_drew HO_5.out)
              replace BK171 := Aside0.mk (blk_drew BK171.out)
              replace BK172 := Aside0.mk (blk_drew BK172.out)
              replace HB := Aside0.mk (below_drew1 HB.out)
              obtain ⟨Ao38, co38, eo38⟩ := Kd.R_slice HO_4.out
              (subst eo38)
              have p181 : 0 ≤ ((ji17) : Int) := of_decide_eq_true (by (with_reducible assumption))
              have q181 : (ji17) < (x4_2.length : Int) := of_decide_eq_true (by (with_reducible assumption))
              obtain ⟨ad181, e181, hx181_0⟩ := Kd.at_bool (Kd.R_reads' HO_4.out).2.2 (ji17) p181 q181
              cases e181
              replace p181 := eq_true p181
              replace q181 := eq_true q181
              obtain ⟨Ao39, co39, eo39⟩ := Kd.R_slice HO_5.out
              (subst eo39)
              have p182 : 0 ≤ ((ji20) : Int) := of_decide_eq_true (by (with_reducible assumption))
              have q182 : (ji20) < (x5_2.length : Int) := of_decide_eq_true (by (with_reducible assumption))
              obtain ⟨ad182, e182, hx182_0⟩ := Kd.at_bool (Kd.R_reads' HO_5.out).2.2 (ji20) p182 q182
              cases e182
              replace p182 := eq_true p182
              replace q182 := eq_true q182
              refine start_ (n := 17) (S := fun w' => w'.cell? (ad181.add ((ji17)).toNat) = some (.bool (rdOf false x4_2 (ji17))) ∧ w'.cell? (ad182.add ((ji20)).toNat) = some (.bool (rdOf false x5_2 (ji20)))) (ds := []) #[false, false, false, false, false, false, false, false, false, false, false, false, false, false, false, false, false] (by kernel_rfl) rfl rfl ⟨hx181_0, hx182_0⟩ (fun hHeld => ?_); refine with_tabW impl_set_tidy.tab5 impl_set_tidy.bits5 (fun HT_ HW_ => ?_)
              generalize wr.drew = w37 at HO_4 HO_5 BK171 BK172 HB hx181_0 hx182_0 hHeld ⊢
              refine pure_ (i := 0) (N := some 21) (v := ?_) (a' := ?_) #[true, false, false, false, false, false, false, false, false, false, false, false, false, false, false, false, false] rfl rfl (any_of HT_.out (by kernel_rfl)) (fun _ _ _ h => h) (Or.inl ⟨by rfl, ?_⟩) ?_ ?_
              rotate_left
              ·intro w'
               go_simp
               with_reducible rfl
              rotate_left
              ·simp only [Act.put, List.setIfInBounds_toArray, List.set_cons_zero, List.set_cons_succ, i64_w, i32_w]
               rfl
              refine pure_ (i := 1) (N := some 22) (v := ?_) (a' := ?_) #[true, true, false, false, false, false, false, false, false, false, false, false, false, false, false, false, false] rfl rfl (any_of HT_.out (by kernel_rfl)) (fun _ _ _ h => h) (Or.inl ⟨by rfl, ?_⟩) ?_ ?_
              rotate_left
              ·intro w'
               go_simp
               with_reducible rfl
              rotate_left
              ·simp only [Act.put, List.setIfInBounds_toArray, List.set_cons_zero, List.set_cons_succ, i64_w, i32_w]
               rfl
              refine pure_ (i := 2) (N := some 23) (v := ?_) (a' := ?_) #[true, true, true, false, false, false, false, false, false, false, false, false, false, false, false, false, false] rfl rfl (any_of HT_.out (by kernel_rfl)) (fun _ _ _ h => h) (Or.inl ⟨by rfl, ?_⟩) ?_ ?_
              rotate_left
              ·intro w'
               go_simp
               with_reducible rfl
              rotate_left
              ·simp only [Act.put, List.setIfInBounds_toArray, List.set_cons_zero, List.set_cons_succ, i64_w, i32_w]
               rfl
              refine pure_ (i := 3) (N := some 24) (v := ?_) (a' := ?_) #[true, true, true, true, false, false, false, false, false, false, false, false, false, false, false, false, false] rfl rfl (any_of HT_.out (by kernel_rfl)) (fun _ _ _ h => h) (Or.inl ⟨by rfl, ?_⟩) ?_ ?_
              rotate_left
              ·intro w'
               go_simp
               with_reducible rfl
              rotate_left
              ·simp only [Act.put, List.setIfInBounds_toArray, List.set_cons_zero, List.set_cons_succ, i64_w, i32_w]
               rfl
              refine pure_ (i := 4) (N := some 25) (v := ?_) (a' := ?_) #[true, true, true, true, true, false, false, false, false, false, false, false, false, false, false, false, false] rfl rfl (any_of HT_.out (by kernel_rfl)) (fun _ _ _ h => h) (Or.inl ⟨by rfl, ?_⟩) ?_ ?_
              rotate_left
              ·intro w'
               go_simp
               with_reducible rfl
              rotate_left
              ·simp only [Act.put, List.setIfInBounds_toArray, List.set_cons_zero, List.set_cons_succ, i64_w, i32_w]
               rfl
              refine pure_ (i := 5) (N := some 26) (v := ?_) (a' := ?_) #[true, true, true, true, true, true, false, false, false, false, false, false, false, false, false, false, false] rfl rfl (any_of HT_.out (by kernel_rfl)) (fun _ _ _ h => h) (Or.inl ⟨by rfl, ?_⟩) ?_ ?_
              rotate_left
              ·intro w'
               go_simp
               with_reducible rfl
              rotate_left
              ·simp only [Act.put, List.setIfInBounds_toArray, List.set_cons_zero, List.set_cons_succ, i64_w, i32_w]
               rfl
              refine pure_ (i := 6) (N := some 27) (v := ?_) (a' := ?_) #[true, true, true, true, true, true, true, false, false, false, false, false, false, false, false, false, false] rfl rfl (any_of HT_.out (by kernel_rfl)) (fun _ _ _ h => h) (Or.inl ⟨by rfl, ?_⟩) ?_ ?_
              rotate_left
              ·intro w'
               go_simp
               with_reducible rfl
              rotate_left
              ·simp only [Act.put, List.setIfInBounds_toArray, List.set_cons_zero, List.set_cons_succ, i64_w, i32_w]
               rfl
              refine pure_ (i := 7) (N := some 28) (v := ?_) (a' := ?_) #[true, true, true, true, true, true, true, true, false, false, false, false, false, false, false, false, false] rfl rfl (any_of HT_.out (by kernel_rfl)) (fun _ _ _ h => h) (Or.inl ⟨by rfl, ?_⟩) ?_ ?_
              rotate_left
              ·intro w'
               go_simp
               with_reducible rfl
              rotate_left
              ·simp only [Act.put, List.setIfInBounds_toArray, List.set_cons_zero, List.set_cons_succ, i64_w, i32_w]
               rfl
              refine pure_ (i := 8) (N := some 29) (v := ?_) (a' := ?_) #[true, true, true, true, true, true, true, true, true, false, false, false, false, false, false, false, false] rfl rfl (any_of HT_.out (by kernel_rfl)) (fun _ _ _ h => h) (Or.inl ⟨by rfl, ?_⟩) ?_ ?_
              rotate_left
              ·intro w'
               go_simp
               with_reducible rfl
              rotate_left
              ·simp only [Act.put, List.setIfInBounds_toArray, List.set_cons_zero, List.set_cons_succ, i64_w, i32_w]
               rfl
              refine pure_ (i := 10) (N := some 31) (v := ?_) (a' := ?_) #[true, true, true, true, true, true, true, true, true, false, true, false, false, false, false, false, false] rfl rfl (any_of HT_.out (by kernel_rfl)) (fun _ _ _ h => h) (Or.inl ⟨by rfl, ?_⟩) ?_ ?_
              rotate_left
              ·intro w'
               go_simp
               with_reducible rfl
              rotate_left
              ·simp only [Act.put, List.setIfInBounds_toArray, List.set_cons_zero, List.set_cons_succ, i64_w, i32_w]
               rfl
              refine pure_ (i := 11) (N := some 32) (v := ?_) (a' := ?_) #[true, true, true, true, true, true, true, true, true, false, true, true, false, false, false, false, false] rfl rfl (any_of HT_.out (by kernel_rfl)) (fun _ _ _ h => h) (Or.inl ⟨by rfl, ?_⟩) ?_ ?_
              rotate_left
              ·intro w'
               go_simp
               with_reducible rfl
              rotate_left
              ·simp only [Act.put, List.setIfInBounds_toArray, List.set_cons_zero, List.set_cons_succ, i64_w, i32_w]
               rfl
              refine pure_ (i := 12) (N := some 33) (v := ?_) (a' := ?_) #[true, true, true, true, true, true, true, true, true, false, true, true, true, false, false, false, false] rfl rfl (any_of HT_.out (by kernel_rfl)) (fun _ _ _ h => h) (Or.inl ⟨by rfl, ?_⟩) ?_ ?_
              rotate_left
              ·intro w'
               go_simp
               with_reducible rfl
              rotate_left
              ·simp only [Act.put, List.setIfInBounds_toArray, List.set_cons_zero, List.set_cons_succ, i64_w, i32_w]
               rfl
              refine pure_ (i := 13) (N := some 34) (v := ?_) (a' := ?_) #[true, true, true, true, true, true, true, true, true, false, true, true, true, true, false, false, false] rfl rfl (any_of HT_.out (by kernel_rfl)) (fun _ _ _ h => h) (Or.inl ⟨by rfl, ?_⟩) ?_ ?_
              rotate_left
              ·intro w'
               go_simp
               with_reducible rfl
              rotate_left
              ·simp only [Act.put, List.setIfInBounds_toArray, List.set_cons_zero, List.set_cons_succ, i64_w, i32_w]
               rfl
              refine take_ (i := 9) (N := some 30) (v := ?_) (a' := ?_) #[true, true, true, true, true, true, true, true, true, true, true, true, true, true, false, false, false] rfl rfl (take_ofW HT_.out HW_.out (by kernel_rfl)) (fun _ _ _ h => h) (Or.inl ⟨by rfl, ?_⟩) hHeld ?_ ?_
              rotate_left
              ·rintro w' ⟨s0, s1⟩
               go_simp
               with_reducible rfl
              rotate_left
              ·simp only [Act.put, List.setIfInBounds_toArray, List.set_cons_zero, List.set_cons_succ, i64_w, i32_w]
               rfl
              refine take_ (i := 14) (N := some 35) (v := ?_) (a' := ?_) #[true, true, true, true, true, true, true, true, true, true, true, true, true, true, true, false, false] rfl rfl (take_ofW HT_.out HW_.out (by kernel_rfl)) (fun _ _ _ h => h) (Or.inl ⟨by rfl, ?_⟩) hHeld ?_ ?_
              rotate_left
              ·rintro w' ⟨s0, s1⟩
               go_simp
               with_reducible rfl
              rotate_left
              ·simp only [Act.put, List.setIfInBounds_toArray, List.set_cons_zero, List.set_cons_succ, i64_w, i32_w]
               rfl
              refine pure_ (i := 15) (N := some 36) (v := ?_) (a' := ?_) #[true, true, true, true, true, true, true, true, true, true, true, true, true, true, true, true, false] rfl rfl (any_of HT_.out (by kernel_rfl)) (fun _ _ _ h => h) (Or.inl ⟨by rfl, ?_⟩) ?_ ?_
              rotate_left
              ·intro w'
               go_simp
               with_reducible rfl
              rotate_left
              ·simp only [Act.put, List.setIfInBounds_toArray, List.set_cons_zero, List.set_cons_succ, i64_w, i32_w]
               rfl
              refine pure_ (i := 16) (N := some 37) (v := ?_) (a' := ?_) #[true, true, true, true, true, true, true, true, true, true, true, true, true, true, true, true, true] rfl rfl (any_of HT_.out (by kernel_rfl)) (fun _ _ _ h => h) (Or.inl ⟨by rfl, ?_⟩) ?_ ?_
              rotate_left
              ·intro w'
               go_simp
               with_reducible rfl
              rotate_left
              ·simp only [Act.put, List.setIfInBounds_toArray, List.set_cons_zero, List.set_cons_succ, i64_w, i32_w]
               rfl
              refine done_ (done_of HT_.out (by kernel_rfl)) ?_
              have hnb40 := NB172_171.out
              have hnc40 := NB171_172.out
              have hcz41_0 : w37.cell? ⟨gb172, 0, none⟩ = some (.slice none 0 0) := (blk_cell BK172.out 0).trans rfl
              have hcz41_1 : w37.cell? ⟨gb172, 1, none⟩ = some (.slice none 0 0) := (blk_cell BK172.out 1).trans rfl
              have hfz41_0 := blk_frozen BK172.out 0
              have hfz41_1 := blk_frozen BK172.out 1
              try go_wp2
              refine bodyPost_ret (results_cell_row rfl _ _ gb172 60 #[.slice (some ad181) x4_2.length co38, .slice (some ad182) x5_2.length co39] (0, 0) _ rfl (by refine blk_put (cs := #[.slice (some ad181) x4_2.length co38, .slice none 0 0]) ?_ 1 _ rfl; refine blk_put (cs := #[.slice none 0 0, .slice none 0 0]) ?_ 0 _ rfl; exact BK172.out) Try.underlying60 rfl (by kernel_rfl)) rfl ?_
              exact ⟨_, _, by first | rfl | (simp [*, errW_none, errW_some] <;> rfl), by exact Kd.R_mono (Kd.R_far (p := ⟨gb172, 1, none⟩) (Kd.R_far (p := ⟨gb172, 0, none⟩) (Kd.R_types HO_4.out BK172.out (by decide)) (fun _ hk => hk.2) (.slice (some ad181) x4_2.length co38)) (fun _ hk => hk.2) (.slice (some ad182) x5_2.length co39)) (fun _ hk => hk.1), by exact Kd.R_mono (Kd.R_far (p := ⟨gb172, 1, none⟩) (Kd.R_far (p := ⟨gb172, 0, none⟩) (Kd.R_types HO_5.out BK172.out (by decide)) (fun _ hk => hk.2) (.slice (some ad181) x4_2.length co38)) (fun _ hk => hk.2) (.slice (some ad182) x5_2.length co39)) (fun _ hk => hk.1), by repeat (first | (with_reducible first | exact HB.out | refine below_set ?_ GE172.out))⟩
            ·rw [if_neg c22] at H
             exact absurd H (by simp)
           ·rw [if_neg c21] at H
            exact absurd H (by simp)
          ·rw [if_neg c19] at H
           exact absurd H (by simp)
         ·rw [if_neg c18] at H
          exact absurd H (by simp)
        ·rw [if_neg c16] at H
         have c16b0 : decide (0 < (x4_2.length : Int)) = false := decide_eq_false c16
         have c16b1 : decide (0 < x4_2.length) = false := decide_eq_false (by omega)
         clear c16
         simp only [Option.some.injEq, Prod.mk.injEq] at H
         obtain ⟨rfl, rfl⟩ := H
         try go_wp2
         replace HO_4 := Aside0.mk (Kd.R_drew HO_4.out)
         replace HO_5 := Aside0.mk (Kd.R_drew HO_5.out)
         replace BK171 := Aside0.mk (blk_drew BK171.out)
         replace BK172 := Aside0.mk (blk_drew BK172.out)
         replace HB := Aside0.mk (below_drew1 HB.out)
         obtain ⟨Ao43, co43, eo43⟩ := Kd.R_slice HO_4.out
         (subst eo43)
         refine start_ (n := 17) (S := fun w' => True) (ds := []) #[false, false, false, false, false, false, false, false, false, false, false, false, false, false, false, false, false] (by kernel_rfl) rfl rfl trivial (fun hHeld => ?_); refine with_tabW impl_set_tidy.tab5 impl_set_tidy.bits5 (fun HT_ HW_ => ?_)
         generalize wr.drew = w42 at HO_4 HO_5 BK171 BK172 HB hHeld ⊢
         refine pure_ (i := 0) (N := some 21) (v := ?_) (a' := ?_) #[true, false, false, false, false, false, false, false, false, false, false, false, false, false, false, false, false] rfl rfl (any_of HT_.out (by kernel_rfl)) (fun _ _ _ h => h) (Or.inl ⟨by rfl, ?_⟩) ?_ ?_
         rotate_left
         ·intro w'
          go_simp
          with_reducible rfl
         rotate_left
         ·simp only [Act.put, List.setIfInBounds_toArray, List.set_cons_zero, List.set_cons_succ, i64_w, i32_w]
          rfl
         refine pure_ (i := 1) (N := some 22) (v := ?_) (a' := ?_) #[true, true, false, false, false, false, false, false, false, false, false, false, false, false, false, false, false] rfl rfl (any_of HT_.out (by kernel_rfl)) (fun _ _ _ h => h) (Or.inl ⟨by rfl, ?_⟩) ?_ ?_
         rotate_left
         ·intro w'
          go_simp
          with_reducible rfl
         rotate_left
         ·simp only [Act.put, List.setIfInBounds_toArray, List.set_cons_zero, List.set_cons_succ, i64_w, i32_w]
          rfl
         refine pure_ (i := 2) (N := some 23) (v := ?_) (a' := ?_) #[true, true, true, false, false, false, false, false, false, false, false, false, false, false, false, false, false] rfl rfl (any_of HT_.out (by kernel_rfl)) (fun _ _ _ h => h) (Or.inl ⟨by rfl, ?_⟩) ?_ ?_
         rotate_left
         ·intro w'
          go_simp
          with_reducible rfl
         rotate_left
         ·simp only [Act.put, List.setIfInBounds_toArray, List.set_cons_zero, List.set_cons_succ, i64_w, i32_w]
          rfl
         refine pure_ (i := 3) (N := some 24) (v := ?_) (a' := ?_) #[true, true, true, true, false, false, false, false, false, false, false, false, false, false, false, false, false] rfl rfl (any_of HT_.out (by kernel_rfl)) (fun _ _ _ h => h) (Or.inl ⟨by rfl, ?_⟩) ?_ ?_
         rotate_left
         ·intro w'
          go_simp
          with_reducible rfl
         rotate_left
         ·simp only [Act.put, List.setIfInBounds_toArray, List.set_cons_zero, List.set_cons_succ, i64_w, i32_w]
          rfl
         refine pure_ (i := 4) (N := some 25) (v := undef) (a' := ?_) #[true, true, true, true, true, false, false, false, false, false, false, false, false, false, false, false, false] rfl rfl (any_of HT_.out (by kernel_rfl)) (fun _ _ _ h => h) (Or.inr ⟨by rfl, rfl⟩) ?_ ?_
         rotate_left
         ·simp only [Act.put, List.setIfInBounds_toArray, List.set_cons_zero, List.set_cons_succ, i64_w, i32_w]
          rfl
         refine pure_ (i := 5) (N := some 26) (v := undef) (a' := ?_) #[true, true, true, true, true, true, false, false, false, false, false, false, false, false, false, false, false] rfl rfl (any_of HT_.out (by kernel_rfl)) (fun _ _ _ h => h) (Or.inr ⟨by rfl, rfl⟩) ?_ ?_
         rotate_left
         ·simp only [Act.put, List.setIfInBounds_toArray, List.set_cons_zero, List.set_cons_succ, i64_w, i32_w]
          rfl
         refine pure_ (i := 6) (N := some 27) (v := undef) (a' := ?_) #[true, true, true, true, true, true, true, false, false, false, false, false, false, false, false, false, false] rfl rfl (any_of HT_.out (by kernel_rfl)) (fun _ _ _ h => h) (Or.inr ⟨by rfl, rfl⟩) ?_ ?_
         rotate_left
         ·simp only [Act.put, List.setIfInBounds_toArray, List.set_cons_zero, List.set_cons_succ, i64_w, i32_w]
          rfl
         refine pure_ (i := 7) (N := some 28) (v := undef) (a' := ?_) #[true, true, true, true, true, true, true, true, false, false, false, false, false, false, false, false, false] rfl rfl (any_of HT_.out (by kernel_rfl)) (fun _ _ _ h => h) (Or.inr ⟨by rfl, rfl⟩) ?_ ?_
         rotate_left
         ·simp only [Act.put, List.setIfInBounds_toArray, List.set_cons_zero, List.set_cons_succ, i64_w, i32_w]
          rfl
         refine pure_ (i := 8) (N := some 29) (v := undef) (a' := ?_) #[true, true, true, true, true, true, true, true, true, false, false, false, false, false, false, false, false] rfl rfl (any_of HT_.out (by kernel_rfl)) (fun _ _ _ h => h) (Or.inr ⟨by rfl, rfl⟩) ?_ ?_
         rotate_left
         ·simp only [Act.put, List.setIfInBounds_toArray, List.set_cons_zero, List.set_cons_succ, i64_w, i32_w]
          rfl
         refine pure_ (i := 9) (N := some 30) (v := undef) (a' := ?_) #[true, true, true, true, true, true, true, true, true, true, false, false, false, false, false, false, false] rfl rfl (any_of HT_.out (by kernel_rfl)) (fun _ _ _ h => h) (Or.inr ⟨by rfl, rfl⟩) ?_ ?_
         rotate_left
         ·simp only [Act.put, List.setIfInBounds_toArray, List.set_cons_zero, List.set_cons_succ, i64_w, i32_w]
          rfl
         refine pure_ (i := 10) (N := some 31) (v := undef) (a' := ?_) #[true, true, true, true, true, true, true, true, true, true, true, false, false, false, false, false, false] rfl rfl (any_of HT_.out (by kernel_rfl)) (fun _ _ _ h => h) (Or.inr ⟨by rfl, rfl⟩) ?_ ?_
         rotate_left
         ·simp only [Act.put, List.setIfInBounds_toArray, List.set_cons_zero, List.set_cons_succ, i64_w, i32_w]
          rfl
         refine pure_ (i := 11) (N := some 32) (v := undef) (a' := ?_) #[true, true, true, true, true, true, true, true, true, true, true, true, false, false, false, false, false] rfl rfl (any_of HT_.out (by kernel_rfl)) (fun _ _ _ h => h) (Or.inr ⟨by rfl, rfl⟩) ?_ ?_
         rotate_left
         ·simp only [Act.put, List.setIfInBounds_toArray, List.set_cons_zero, List.set_cons_succ, i64_w, i32_w]
          rfl
         refine pure_ (i := 12) (N := some 33) (v := undef) (a' := ?_) #[true, true, true, true, true, true, true, true, true, true, true, true, true, false, false, false, false] rfl rfl (any_of HT_.out (by kernel_rfl)) (fun _ _ _ h => h) (Or.inr ⟨by rfl, rfl⟩) ?_ ?_
         rotate_left
         ·simp only [Act.put, List.setIfInBounds_toArray, List.set_cons_zero, List.set_cons_succ, i64_w, i32_w]
          rfl
         refine pure_ (i := 13) (N := some 34) (v := undef) (a' := ?_) #[true, true, true, true, true, true, true, true, true, true, true, true, true, true, false, false, false] rfl rfl (any_of HT_.out (by kernel_rfl)) (fun _ _ _ h => h) (Or.inr ⟨by rfl, rfl⟩) ?_ ?_
         rotate_left
         ·simp only [Act.put, List.setIfInBounds_toArray, List.set_cons_zero, List.set_cons_succ, i64_w, i32_w]
          rfl
         refine pure_ (i := 14) (N := some 35) (v := undef) (a' := ?_) #[true, true, true, true, true, true, true, true, true, true, true, true, true, true, true, false, false] rfl rfl (any_of HT_.out (by kernel_rfl)) (fun _ _ _ h => h) (Or.inr ⟨by rfl, rfl⟩) ?_ ?_
         rotate_left
         ·simp only [Act.put, List.setIfInBounds_toArray, List.set_cons_zero, List.set_cons_succ, i64_w, i32_w]
          rfl
         refine pure_ (i := 15) (N := some 36) (v := undef) (a' := ?_) #[true, true, true, true, true, true, true, true, true, true, true, true, true, true, true, true, false] rfl rfl (any_of HT_.out (by kernel_rfl)) (fun _ _ _ h => h) (Or.inr ⟨by rfl, rfl⟩) ?_ ?_
         rotate_left
         ·simp only [Act.put, List.setIfInBounds_toArray, List.set_cons_zero, List.set_cons_succ, i64_w, i32_w]
          rfl
         refine pure_ (i := 16) (N := some 37) (v := ?_) (a' := ?_) #[true, true, true, true, true, true, true, true, true, true, true, true, true, true, true, true, true] rfl rfl (any_of HT_.out (by kernel_rfl)) (fun _ _ _ h => h) (Or.inl ⟨by rfl, ?_⟩) ?_ ?_
         rotate_left
         ·intro w'
          go_simp
          with_reducible rfl
         rotate_left
         ·simp only [Act.put, List.setIfInBounds_toArray, List.set_cons_zero, List.set_cons_succ, i64_w, i32_w]
          rfl
         refine done_ (done_of HT_.out (by kernel_rfl)) ?_
         obtain ⟨Ao44, co44, eo44⟩ := Kd.R_slice HO_5.out
         subst eo44
         have hnb45 := NB172_171.out
         have hnc45 := NB171_172.out
         have hcz46_0 : w42.cell? ⟨gb172, 0, none⟩ = some (.slice none 0 0) := (blk_cell BK172.out 0).trans rfl
         have hcz46_1 : w42.cell? ⟨gb172, 1, none⟩ = some (.slice none 0 0) := (blk_cell BK172.out 1).trans rfl
         have hfz46_0 := blk_frozen BK172.out 0
         have hfz46_1 := blk_frozen BK172.out 1
         try go_wp2
         refine bodyPost_ret (results_cell_row rfl _ _ gb172 60 #[.slice Ao43 x4_2.length co43, .slice Ao44 x5_2.length co44] (0, 0) _ rfl (by refine blk_put (cs := #[.slice Ao43 x4_2.length co43, .slice none 0 0]) ?_ 1 _ rfl; refine blk_put (cs := #[.slice none 0 0, .slice none 0 0]) ?_ 0 _ rfl; exact BK172.out) Try.underlying60 rfl (by kernel_rfl)) rfl ?_
         exact ⟨_, _, by first | rfl | (simp [*, errW_none, errW_some] <;> rfl), by exact Kd.R_mono (Kd.R_far (p := ⟨gb172, 1, none⟩) (Kd.R_far (p := ⟨gb172, 0, none⟩) (Kd.R_types HO_4.out BK172.out (by decide)) (fun _ hk => hk.2) (.slice Ao43 x4_2.length co43)) (fun _ hk => hk.2) (.slice Ao44 x5_2.length co44)) (fun _ hk => hk.1), by exact Kd.R_mono (Kd.R_far (p := ⟨gb172, 1, none⟩) (Kd.R_far (p := ⟨gb172, 0, none⟩) (Kd.R_types HO_5.out BK172.out (by decide)) (fun _ hk => hk.2) (.slice Ao43 x4_2.length co43)) (fun _ hk => hk.2) (.slice Ao44 x5_2.length co44)) (fun _ hk => hk.1), by repeat (first | (with_reducible first | exact HB.out | refine below_set ?_ GE172.out))⟩
     ·rw [if_neg c8] at H
      exact absurd H (by simp)
    ·rw [if_neg c7] at H
     exact absurd H (by simp)
   ·replace c5 := Bool.eq_false_iff.mpr c5
    subst c5
    replace H : (impl_set_tidy.l0 k1 (wrap64 (x3_1 + 1)) l0_0 l0_1) = some (r1, r2) := by rw [if_neg (show ¬ (false = true) by decide)] at H; exact H
    have H' := Aside0.mk H
    clear H
    have hnb47 := NB171_172.out
    have hnc47 := NB172_171.out
    have hcz48_0 : wr.cell? ⟨gb171, 0, none⟩ = some (.slice A0_0 l0_0.length c0_0) := (blk_cell BK171.out 0).trans rfl
    have hcz48_1 : wr.cell? ⟨gb171, 1, none⟩ = some (.slice A0_1 l0_1.length c0_1) := (blk_cell BK171.out 1).trans rfl
    have hfz48_0 := blk_frozen BK171.out 0
    have hfz48_1 := blk_frozen BK171.out 1
    go_wp2_with (first | ((with_reducible refine gate_callee (f := 122) rfl ?_); refine goesL_ (some 9) rfl rfl Try.func122 (by kernel_rfl) rfl #[.slice A0_1 l0_1.length c0_1, .int .i64 x3_1] rfl (by (try simp only [List.map_toArray, List.map_cons, List.map_nil]); rfl) ?_; (with_reducible refine (impl_turns.calls k1 _ _ l0_1 x3_1 false _ ?side1 ?side2 A4.out).mono ?_); (case side1 => repeat (exact (Kd.C_below HR0_1.out HB.out))); (case side2 => exact HC0_1.out); rintro e w' ⟨rfl, ⟨nd, rfl⟩⟩; refine ⟨_, rfl, ?_⟩))
    go_roundg k1
    case measure => have := HK1.out; omega
    case rel => exact ⟨(wrap64 (x3_1 + 1)), (by rfl), H', ⟨by have := HK1.out; omega⟩, ⟨by (with_reducible repeat (refine blk_drewN ?_ _)); exact BK171.out⟩, ⟨by (with_reducible repeat (refine blk_drewN ?_ _)); exact BK172.out⟩, ⟨by repeat (first | (with_reducible first | exact HB.out | apply pw_below_drewN))⟩⟩


def impl_tidied.f (k : Nat) (a0 : ByteArray) : Option (List Bool × List Bool × Bool) := (impl_setOf.f a0).bind fun bt198 => (if bt198.2.2 = true then ((impl_set_tidy.f k bt198.1 bt198.2.1).bind fun bt206 => (some (bt206.1, bt206.2, true))) else (some (([] : List Bool), ([] : List Bool), false)))
theorem impl_tidied.mono : ∀ a0 k, LeO (impl_tidied.f k a0) (impl_tidied.f (k + 1) a0) := by
 intro a0 k
 unfold impl_tidied.f
 repeat' first | (with_reducible exact impl_set_tidy.mono _ _ _) | (with_reducible exact LeO.refl _) | (with_reducible refine LeO.ite ?_ ?_) | (with_reducible refine LeO.bind ?_ (fun _ => ?_))
set_option maxHeartbeats 8000000 in
set_option maxRecDepth 100000 in
theorem impl_tidied.calls (k : Nat) (a0 : ByteArray) (r1 : List Bool) (r2 : List Bool) (r3 : Bool) (w : World) (h : impl_tidied.f k a0 = some (r1, r2, r3)) :
  Calls Try.prog 88 #[.string a0] w fun e w' => ∃ v0_ v1_ : Value, e = .returned (.tuple #[.agg #[v0_, v1_], .bool r3]) ∧ Kd.R Kd.bool 4 w' w.heap.size (fun k_ => some k_ ≠ (v1_ : Value).ownBlock) v0_ r1 ∧ Kd.R Kd.bool 4 w' w.heap.size (fun k_ => some k_ ≠ (v0_ : Value).ownBlock) v1_ r2 ∧ Below w.heap.size w w' := by
 have hu60 := Try.underlying60
 have HB := Aside0.mk (Below.refl w.heap.size w)
 have H : ((impl_setOf.f a0).bind fun bt198 => (if bt198.2.2 = true then ((impl_set_tidy.f k bt198.1 bt198.2.1).bind fun bt206 => (some (bt206.1, bt206.2, true))) else (some (([] : List Bool), ([] : List Bool), false)))) = some (r1, r2, r3) := h
 clear h
 replace H := Option.bind_eq_some_iff.mp H
 obtain ⟨⟨t198, t201, t204⟩, A20, H⟩ := H
 replace H : (if t204 = true then ((impl_set_tidy.f k t198 t201).bind fun bt206 => (some (bt206.1, bt206.2, true))) else (some (([] : List Bool), ([] : List Bool), false))) = some (r1, r2, r3) := H
 have A2 := Aside0.mk A20
 clear A20
 by_cases c3 : t204 = true
 ·subst c3
  replace H : ((impl_set_tidy.f k t198 t201).bind fun bt206 => (some (bt206.1, bt206.2, true))) = some (r1, r2, r3) := by rw [if_pos rfl] at H; exact H
  replace H := Option.bind_eq_some_iff.mp H
  obtain ⟨⟨t206, t209⟩, A40, H⟩ := H
  replace H : (some (t206, t209, true)) = some (r1, r2, r3) := H
  have A4 := Aside0.mk A40
  clear A40
  simp only [Option.some.injEq, Prod.mk.injEq] at H
  obtain ⟨rfl, rfl, rfl⟩ := H
  go_enter Try.func88, Try.ntmps88
  go_wp2_with (first | ((with_reducible refine gate_dst (N := 2) rfl ?_); refine box_event ?hg (N := 2) ?hd (cs := #[.slice none 0 0, .slice none 0 0]) (t := 60) ?hr ?_; (case hd => rfl); (case hg => rfl); (case hr => first | (go_simp; done)); intro gb197 hg w5 hbox hb; have BK197 := Aside0.mk hbox; have GW197 := Aside0.mk ((by rw [hg]; exact (below_size HB.out) : w.heap.size ≤ gb197)); have GE197 := Aside0.mk ((by rw [hg]; exact (below_size HB.out) : w.heap.size ≤ gb197)); replace HB := Aside0.mk (below_step HB.out hb); clear hb hbox hg) | ((with_reducible refine gate_callee (f := 60) rfl ?_); refine goesL_ (some 8) rfl rfl Try.func60 (by kernel_rfl) rfl #[.string a0] rfl (by (try simp only [List.map_toArray, List.map_cons, List.map_nil]); rfl) ?_; (with_reducible refine (impl_setOf.calls a0 t198 t201 true _ A2.out).mono ?_); rintro e w6 ⟨v199, v202, rfl, ho0, ho1, hb⟩; refine ⟨_, rfl, ?_⟩; have HO200 := Aside0.mk (Kd.R_lower ho0 (below_size HB.out)); have HO203 := Aside0.mk (Kd.R_lower ho1 (below_size HB.out)); replace BK197 := Aside0.mk (blk_below (g := gb197) (o := .cells #[.slice none 0 0, .slice none 0 0] 60 (0, 0)) BK197.out hb); replace HB := Aside0.mk (below_step HB.out hb); (try clear hb); (try clear ho0); (try clear ho1)) | ((with_reducible refine gate_dst (N := 4) rfl ?_); refine box_event ?hg (N := 4) ?hd (cs := #[.slice none 0 0, .slice none 0 0]) (t := 60) ?hr ?_; (case hd => rfl); (case hg => rfl); (case hr => first | (go_simp; done)); intro gb205 hg w7 hbox hb; replace HO200 := Aside0.mk (Kd.R_below HO200.out hb); replace HO203 := Aside0.mk (Kd.R_below HO203.out hb); have BK205 := Aside0.mk hbox; have GW205 := Aside0.mk ((by rw [hg]; exact (below_size HB.out) : w.heap.size ≤ gb205)); have GE205 := Aside0.mk ((by rw [hg]; exact (below_size HB.out) : w.heap.size ≤ gb205)); replace HB := Aside0.mk (below_step HB.out hb); have NB197_205 := Aside0.mk ((by rw [hg]; exact Nat.ne_of_lt (blk_lt (g := gb197) (o := .cells #[.slice none 0 0, .slice none 0 0] 60 (0, 0)) BK197.out) : gb197 ≠ gb205)); have NB205_197 := Aside0.mk ((by rw [hg]; exact Nat.ne_of_gt (blk_lt (g := gb197) (o := .cells #[.slice none 0 0, .slice none 0 0] 60 (0, 0)) BK197.out) : gb205 ≠ gb197)); replace BK197 := Aside0.mk (blk_below (g := gb197) (o := .cells #[.slice none 0 0, .slice none 0 0] 60 (0, 0)) BK197.out hb); clear hb hbox hg; obtain ⟨Ao8, co8, eo8⟩ := Kd.R_slice HO200.out; subst eo8; have hnb9 := NB205_197.out; have hnc9 := NB197_205.out; have hcz10_0 : w7.cell? ⟨gb205, 0, none⟩ = some (.slice none 0 0) := (blk_cell BK205.out 0).trans rfl; have hcz10_1 : w7.cell? ⟨gb205, 1, none⟩ = some (.slice none 0 0) := (blk_cell BK205.out 1).trans rfl; have hfz10_0 := blk_frozen BK205.out 0; have hfz10_1 := blk_frozen BK205.out 1; obtain ⟨Ao11, co11, eo11⟩ := Kd.R_slice HO203.out; subst eo11) | ((with_reducible refine gate_callee (f := 112) rfl ?_); refine goesL_ (some 15) rfl rfl Try.func112 (by kernel_rfl) rfl #[.agg #[.slice Ao8 t198.length co8, .slice Ao11 t201.length co11]] rfl (by (try simp only [List.map_toArray, List.map_cons, List.map_nil]); rfl) ?_; (with_reducible refine (impl_set_tidy.calls k _ _ t198 _ _ t201 t206 t209 _ ?side1 ?side2 ?side3 ?side4 A4.out).mono ?_); (case side1 => refine (Kd.R_reads' (e := 4) (base := w.heap.size) (ok := fun k_ => some k_ ≠ (.slice Ao11 t201.length co11 : Value).ownBlock) (n := t198.length) (c := co8) ?_).2.2; exact (by exact (Kd.R_mono (Kd.R_far (p := ⟨gb205, 1, none⟩) (Kd.R_far (p := ⟨gb205, 0, none⟩) (Kd.R_types HO200.out BK205.out (by decide)) (fun _ hk => hk.2) (.slice Ao8 t198.length co8)) (fun _ hk => hk.2) (.slice Ao11 t201.length co11)) (fun _ h_ => h_.1)))); (case side2 => exact (Kd.R_reads' HO200.out).2.1); (case side3 => refine (Kd.R_reads' (e := 4) (base := w.heap.size) (ok := fun k_ => some k_ ≠ (.slice Ao8 t198.length co8 : Value).ownBlock) (n := t201.length) (c := co11) ?_).2.2; exact (by exact (Kd.R_mono (Kd.R_far (p := ⟨gb205, 1, none⟩) (Kd.R_far (p := ⟨gb205, 0, none⟩) (Kd.R_types HO203.out BK205.out (by decide)) (fun _ hk => hk.2) (.slice Ao8 t198.length co8)) (fun _ hk => hk.2) (.slice Ao11 t201.length co11)) (fun _ h_ => h_.1)))); (case side4 => exact (Kd.R_reads' HO203.out).2.1); rintro e w12 ⟨v207, v210, rfl, ho0, ho1, hb⟩; refine ⟨_, rfl, ?_⟩; have HO208 := Aside0.mk (Kd.R_lower (Kd.R_new' (Kd.R_new' ho0 (Kd.R_lt (by exact (Kd.R_mono (Kd.R_far (p := ⟨gb205, 1, none⟩) (Kd.R_far (p := ⟨gb205, 0, none⟩) (Kd.R_types HO200.out BK205.out (by decide)) (fun _ hk => hk.2) (.slice Ao8 t198.length co8)) (fun _ hk => hk.2) (.slice Ao11 t201.length co11)) (fun _ h_ => h_.1))))) (Kd.R_lt (by exact (Kd.R_mono (Kd.R_far (p := ⟨gb205, 1, none⟩) (Kd.R_far (p := ⟨gb205, 0, none⟩) (Kd.R_types HO203.out BK205.out (by decide)) (fun _ hk => hk.2) (.slice Ao8 t198.length co8)) (fun _ hk => hk.2) (.slice Ao11 t201.length co11)) (fun _ h_ => h_.1))))) (below_size (by repeat (first | (with_reducible first | exact HB.out | refine below_set ?_ GE205.out))))); have HO211 := Aside0.mk (Kd.R_lower (Kd.R_new' (Kd.R_new' ho1 (Kd.R_lt (by exact (Kd.R_mono (Kd.R_far (p := ⟨gb205, 1, none⟩) (Kd.R_far (p := ⟨gb205, 0, none⟩) (Kd.R_types HO200.out BK205.out (by decide)) (fun _ hk => hk.2) (.slice Ao8 t198.length co8)) (fun _ hk => hk.2) (.slice Ao11 t201.length co11)) (fun _ h_ => h_.1))))) (Kd.R_lt (by exact (Kd.R_mono (Kd.R_far (p := ⟨gb205, 1, none⟩) (Kd.R_far (p := ⟨gb205, 0, none⟩) (Kd.R_types HO203.out BK205.out (by decide)) (fun _ hk => hk.2) (.slice Ao8 t198.length co8)) (fun _ hk => hk.2) (.slice Ao11 t201.length co11)) (fun _ h_ => h_.1))))) (below_size (by repeat (first | (with_reducible first | exact HB.out | refine below_set ?_ GE205.out))))); replace HO200 := Aside0.mk (Kd.R_mono (Kd.R_told (Kd.R_told (Kd.R_old (by exact (Kd.R_mono (Kd.R_far (p := ⟨gb205, 1, none⟩) (Kd.R_far (p := ⟨gb205, 0, none⟩) (Kd.R_types HO200.out BK205.out (by decide)) (fun _ hk => hk.2) (.slice Ao8 t198.length co8)) (fun _ hk => hk.2) (.slice Ao11 t201.length co11)) (fun _ h_ => h_.1))) hb) (Kd.R_base ho0)) (Kd.R_base ho1)) (fun _ h_ => h_.1)); replace HO203 := Aside0.mk (Kd.R_mono (Kd.R_told (Kd.R_told (Kd.R_old (by exact (Kd.R_mono (Kd.R_far (p := ⟨gb205, 1, none⟩) (Kd.R_far (p := ⟨gb205, 0, none⟩) (Kd.R_types HO203.out BK205.out (by decide)) (fun _ hk => hk.2) (.slice Ao8 t198.length co8)) (fun _ hk => hk.2) (.slice Ao11 t201.length co11)) (fun _ h_ => h_.1))) hb) (Kd.R_base ho0)) (Kd.R_base ho1)) (fun _ h_ => h_.1)); replace BK197 := Aside0.mk (blk_below (g := gb197) (o := .cells #[.slice none 0 0, .slice none 0 0] 60 (0, 0)) (by refine blk_far ?_ NB197_205.out _; refine blk_far ?_ NB197_205.out _; exact BK197.out) hb); replace BK205 := Aside0.mk (blk_below (g := gb205) (o := .cells #[.slice Ao8 t198.length co8, .slice Ao11 t201.length co11] 60 (0, 0)) (by refine blk_put (cs := #[.slice Ao8 t198.length co8, .slice none 0 0]) ?_ 1 _ rfl; refine blk_put (cs := #[.slice none 0 0, .slice none 0 0]) ?_ 0 _ rfl; exact BK205.out) hb); replace HB := Aside0.mk (below_step (by repeat (first | (with_reducible first | exact HB.out | refine below_set ?_ GE205.out))) hb); (try clear hb); (try clear ho0); (try clear ho1); obtain ⟨Ao13, co13, eo13⟩ := Kd.R_slice HO208.out; subst eo13; have hcz14_0 : w12.cell? ⟨gb197, 0, none⟩ = some (.slice none 0 0) := (blk_cell BK197.out 0).trans rfl; have hcz14_1 : w12.cell? ⟨gb197, 1, none⟩ = some (.slice none 0 0) := (blk_cell BK197.out 1).trans rfl; have hfz14_0 := blk_frozen BK197.out 0; have hfz14_1 := blk_frozen BK197.out 1; obtain ⟨Ao15, co15, eo15⟩ := Kd.R_slice HO211.out; subst eo15))
  refine bodyPost_ret (results_ct rfl _ _ gb197 60 #[.slice Ao13 t206.length co13, .slice Ao15 t209.length co15] (0, 0) _ rfl (by refine blk_put (cs := #[.slice Ao13 t206.length co13, .slice none 0 0]) ?_ 1 _ rfl; refine blk_put (cs := #[.slice none 0 0, .slice none 0 0]) ?_ 0 _ rfl; exact BK197.out) Try.underlying60 rfl (by kernel_rfl)) rfl ?_
  exact ⟨_, _, by first | rfl | (simp [*, errW_none, errW_some] <;> rfl), by exact Kd.R_mono (Kd.R_far (p := ⟨gb197, 1, none⟩) (Kd.R_far (p := ⟨gb197, 0, none⟩) (Kd.R_types HO208.out BK197.out (by decide)) (fun _ hk => hk.2) (.slice Ao13 t206.length co13)) (fun _ hk => hk.2) (.slice Ao15 t209.length co15)) (fun _ hk => hk.1.1.1), by exact Kd.R_mono (Kd.R_far (p := ⟨gb197, 1, none⟩) (Kd.R_far (p := ⟨gb197, 0, none⟩) (Kd.R_types HO211.out BK197.out (by decide)) (fun _ hk => hk.2) (.slice Ao13 t206.length co13)) (fun _ hk => hk.2) (.slice Ao15 t209.length co15)) (fun _ hk => hk.1.1.1), by repeat (first | (with_reducible first | exact HB.out | refine below_set ?_ GE197.out))⟩
 ·replace c3 := Bool.eq_false_iff.mpr c3
  subst c3
  replace H : (some (([] : List Bool), ([] : List Bool), false)) = some (r1, r2, r3) := by rw [if_neg (show ¬ (false = true) by decide)] at H; exact H
  simp only [Option.some.injEq, Prod.mk.injEq] at H
  obtain ⟨rfl, rfl, rfl⟩ := H
  go_enter Try.func88, Try.ntmps88
  go_wp2_with (first | ((with_reducible refine gate_dst (N := 2) rfl ?_); refine box_event ?hg (N := 2) ?hd (cs := #[.slice none 0 0, .slice none 0 0]) (t := 60) ?hr ?_; (case hd => rfl); (case hg => rfl); (case hr => first | (go_simp; done)); intro gb197 hg w16 hbox hb; have BK197 := Aside0.mk hbox; have GW197 := Aside0.mk ((by rw [hg]; exact (below_size HB.out) : w.heap.size ≤ gb197)); have GE197 := Aside0.mk ((by rw [hg]; exact (below_size HB.out) : w.heap.size ≤ gb197)); replace HB := Aside0.mk (below_step HB.out hb); clear hb hbox hg) | ((with_reducible refine gate_callee (f := 60) rfl ?_); refine goesL_ (some 8) rfl rfl Try.func60 (by kernel_rfl) rfl #[.string a0] rfl (by (try simp only [List.map_toArray, List.map_cons, List.map_nil]); rfl) ?_; (with_reducible refine (impl_setOf.calls a0 t198 t201 false _ A2.out).mono ?_); rintro e w17 ⟨v199, v202, rfl, ho0, ho1, hb⟩; refine ⟨_, rfl, ?_⟩; have HO200 := Aside0.mk (Kd.R_lower ho0 (below_size HB.out)); have HO203 := Aside0.mk (Kd.R_lower ho1 (below_size HB.out)); replace BK197 := Aside0.mk (blk_below (g := gb197) (o := .cells #[.slice none 0 0, .slice none 0 0] 60 (0, 0)) BK197.out hb); replace HB := Aside0.mk (below_step HB.out hb); (try clear hb); (try clear ho0); (try clear ho1)) | ((with_reducible refine gate_dst (N := 4) rfl ?_); refine box_event ?hg (N := 4) ?hd (cs := #[.slice none 0 0, .slice none 0 0]) (t := 60) ?hr ?_; (case hd => rfl); (case hg => rfl); (case hr => first | (go_simp; done)); intro gb205 hg w18 hbox hb; replace HO200 := Aside0.mk (Kd.R_below HO200.out hb); replace HO203 := Aside0.mk (Kd.R_below HO203.out hb); have BK205 := Aside0.mk hbox; have GW205 := Aside0.mk ((by rw [hg]; exact (below_size HB.out) : w.heap.size ≤ gb205)); have GE205 := Aside0.mk ((by rw [hg]; exact (below_size HB.out) : w.heap.size ≤ gb205)); replace HB := Aside0.mk (below_step HB.out hb); have NB197_205 := Aside0.mk ((by rw [hg]; exact Nat.ne_of_lt (blk_lt (g := gb197) (o := .cells #[.slice none 0 0, .slice none 0 0] 60 (0, 0)) BK197.out) : gb197 ≠ gb205)); have NB205_197 := Aside0.mk ((by rw [hg]; exact Nat.ne_of_gt (blk_lt (g := gb197) (o := .cells #[.slice none 0 0, .slice none 0 0] 60 (0, 0)) BK197.out) : gb205 ≠ gb197)); replace BK197 := Aside0.mk (blk_below (g := gb197) (o := .cells #[.slice none 0 0, .slice none 0 0] 60 (0, 0)) BK197.out hb); clear hb hbox hg; obtain ⟨Ao19, co19, eo19⟩ := Kd.R_slice HO200.out; subst eo19; have hnb20 := NB205_197.out; have hnc20 := NB197_205.out; have hcz21_0 : w18.cell? ⟨gb205, 0, none⟩ = some (.slice none 0 0) := (blk_cell BK205.out 0).trans rfl; have hcz21_1 : w18.cell? ⟨gb205, 1, none⟩ = some (.slice none 0 0) := (blk_cell BK205.out 1).trans rfl; have hfz21_0 := blk_frozen BK205.out 0; have hfz21_1 := blk_frozen BK205.out 1; obtain ⟨Ao22, co22, eo22⟩ := Kd.R_slice HO203.out; subst eo22; have hcz23_0 : w18.cell? ⟨gb197, 0, none⟩ = some (.slice none 0 0) := (blk_cell BK197.out 0).trans rfl; have hcz23_1 : w18.cell? ⟨gb197, 1, none⟩ = some (.slice none 0 0) := (blk_cell BK197.out 1).trans rfl; have hfz23_0 := blk_frozen BK197.out 0; have hfz23_1 := blk_frozen BK197.out 1))
  refine bodyPost_ret (results_ct rfl _ _ gb197 60 #[.slice none 0 0, .slice none 0 0] (0, 0) _ rfl (by refine blk_put (cs := #[.slice none 0 0, .slice none 0 0]) ?_ 1 _ rfl; refine blk_put (cs := #[.slice none 0 0, .slice none 0 0]) ?_ 0 _ rfl; refine blk_far ?_ NB197_205.out _; refine blk_far ?_ NB197_205.out _; exact BK197.out) Try.underlying60 rfl (by kernel_rfl)) rfl ?_
  exact ⟨_, _, by first | rfl | (simp [*, errW_none, errW_some] <;> rfl), by first | exact Kd.R_nil _ _ _ _ _ | exact Kd.S_nil _ _ _ _ _, by first | exact Kd.R_nil _ _ _ _ _ | exact Kd.S_nil _ _ _ _ _, by repeat (first | (with_reducible first | exact HB.out | refine below_set ?_ GE197.out | refine below_set ?_ GE205.out))⟩


def impl_small.f (k : Nat) (a0 : ByteArray) : Option (List Bool × List Bool × Bool) := (impl_tidied.f k a0).bind fun bt213 => (if bt213.2.2 = true then (if (bt213.1.length : Int) ≤ 8 then (some (bt213.1, bt213.2.1, decide ((bt213.2.1.length : Int) ≤ 8))) else (some (bt213.1, bt213.2.1, false))) else (some (bt213.1, bt213.2.1, false)))
theorem impl_small.mono : ∀ a0 k, LeO (impl_small.f k a0) (impl_small.f (k + 1) a0) := by
 intro a0 k
 unfold impl_small.f
 repeat' first | (with_reducible exact impl_tidied.mono _ _) | (with_reducible exact LeO.refl _) | (with_reducible refine LeO.bind ?_ (fun _ => ?_))
def impl_small.T2 : Bool × List (List Nat × List Nat) := (true, [([], []), ([], []), ([1], [1]), ([2], [2]), ([3, 2], [2, 3]), ([4, 2], [2, 4]), ([5, 2], [2, 5]), ([2, 6], [2, 6]), ([7, 2], [7]), ([8], [8]), ([9, 8], [8, 9]), ([10, 8], [8, 10]), ([11, 8], [8, 11]), ([8, 12], [8, 12]), ([0, 8, 0], [0]), ([13, 14, 0, 1, 2, 3, 4, 5, 6, 7, 8, 9, 10, 11, 12, 13, 14], [13])])
def impl_small.B2 : List Nat := [0, 0, 2, 6, 14, 30, 62, 126, 254, 510, 1022, 2046, 4094, 8190, 511, 32767]
theorem impl_small.tab2 : rtab .any (opsOf Try.f64 2) = impl_small.T2 := by kernel_rfl
theorem impl_small.bits2 : waitsOk impl_small.T2.2 impl_small.B2 = true := by kernel_rfl
set_option maxHeartbeats 8000000 in
set_option maxRecDepth 100000 in
theorem impl_small.calls (k : Nat) (a0 : ByteArray) (r1 : List Bool) (r2 : List Bool) (r3 : Bool) (w : World) (h : impl_small.f k a0 = some (r1, r2, r3)) :
  Calls Try.prog 64 #[.string a0] w fun e w' => ∃ v0_ v1_ : Value, e = .returned (.tuple #[.agg #[v0_, v1_], .bool r3]) ∧ Kd.R Kd.bool 4 w' w.heap.size (fun k_ => some k_ ≠ (v1_ : Value).ownBlock) v0_ r1 ∧ Kd.R Kd.bool 4 w' w.heap.size (fun k_ => some k_ ≠ (v0_ : Value).ownBlock) v1_ r2 ∧ Below w.heap.size w w' := by
 have hu60 := Try.underlying60
 have HB := Aside0.mk (Below.refl w.heap.size w)
 have H : ((impl_tidied.f k a0).bind fun bt213 => (if bt213.2.2 = true then (if (bt213.1.length : Int) ≤ 8 then (some (bt213.1, bt213.2.1, decide ((bt213.2.1.length : Int) ≤ 8))) else (some (bt213.1, bt213.2.1, false))) else (some (bt213.1, bt213.2.1, false)))) = some (r1, r2, r3) := h
 clear h
 replace H := Option.bind_eq_some_iff.mp H
 obtain ⟨⟨t213, t216, t219⟩, A20, H⟩ := H
 replace H : (if t219 = true then (if (t213.length : Int) ≤ 8 then (some (t213, t216, decide ((t216.length : Int) ≤ 8))) else (some (t213, t216, false))) else (some (t213, t216, false))) = some (r1, r2, r3) := H
 have A2 := Aside0.mk A20
 clear A20
 by_cases c3 : t219 = true
 ·subst c3
  replace H : (if (t213.length : Int) ≤ 8 then (some (t213, t216, decide ((t216.length : Int) ≤ 8))) else (some (t213, t216, false))) = some (r1, r2, r3) := by rw [if_pos rfl] at H; exact H
  by_cases c4 : (t213.length : Int) ≤ 8
  all_goals
   first
   |rw [if_pos c4] at H
    have c4b0 : decide ((t213.length : Int) ≤ 8) = true := decide_eq_true c4
    have c4b1 : decide (t213.length ≤ 8) = true := decide_eq_true (by omega)
   |rw [if_neg c4] at H
    have c4b0 : decide ((t213.length : Int) ≤ 8) = false := decide_eq_false c4
    have c4b1 : decide (t213.length ≤ 8) = false := decide_eq_false (by omega)
   clear c4
   simp only [Option.some.injEq, Prod.mk.injEq] at H
   obtain ⟨rfl, rfl, rfl⟩ := H
   go_enter Try.func64, Try.ntmps64
   try go_wp2_with (first | ((with_reducible refine gate_dst (N := 2) rfl ?_); (try (refine gate_guard (by rfl) ?_; dsimp only)); refine box_event ?hg (N := 2) ?hd (cs := #[.slice none 0 0, .slice none 0 0]) (t := 60) ?hr ?_; (case hd => rfl); (case hg => rfl); (case hr => first | (go_simp; done)); intro gb212 hg w5 hbox hb; have BK212 := Aside0.mk hbox; have GW212 := Aside0.mk ((by rw [hg]; exact (below_size HB.out) : w.heap.size ≤ gb212)); have GE212 := Aside0.mk ((by rw [hg]; exact (below_size HB.out) : w.heap.size ≤ gb212)); replace HB := Aside0.mk (below_step HB.out hb); clear hb hbox hg) | ((with_reducible refine gate_callee (f := 88) rfl ?_); refine goesL_ (some 8) rfl rfl Try.func88 (by kernel_rfl) rfl #[.string a0] rfl (by (try simp only [List.map_toArray, List.map_cons, List.map_nil]); rfl) ?_; (with_reducible refine (impl_tidied.calls k a0 t213 t216 true _ A2.out).mono ?_); rintro e w6 ⟨v214, v217, rfl, ho0, ho1, hb⟩; refine ⟨_, rfl, ?_⟩; have HO215 := Aside0.mk (Kd.R_lower ho0 (below_size HB.out)); have HO218 := Aside0.mk (Kd.R_lower ho1 (below_size HB.out)); replace BK212 := Aside0.mk (blk_below (g := gb212) (o := .cells #[.slice none 0 0, .slice none 0 0] 60 (0, 0)) BK212.out hb); replace HB := Aside0.mk (below_step HB.out hb); (try clear hb); (try clear ho0); (try clear ho1)) | ((with_reducible refine gate_dst (N := 4) rfl ?_); (try (refine gate_guard (by rfl) ?_; dsimp only)); refine box_event ?hg (N := 4) ?hd (cs := #[.slice none 0 0, .slice none 0 0]) (t := 60) ?hr ?_; (case hd => rfl); (case hg => rfl); (case hr => first | (go_simp; done)); intro gb220 hg w7 hbox hb; replace HO215 := Aside0.mk (Kd.R_below HO215.out hb); replace HO218 := Aside0.mk (Kd.R_below HO218.out hb); have BK220 := Aside0.mk hbox; have GW220 := Aside0.mk ((by rw [hg]; exact (below_size HB.out) : w.heap.size ≤ gb220)); have GE220 := Aside0.mk ((by rw [hg]; exact (below_size HB.out) : w.heap.size ≤ gb220)); replace HB := Aside0.mk (below_step HB.out hb); have NB212_220 := Aside0.mk ((by rw [hg]; exact Nat.ne_of_lt (blk_lt (g := gb212) (o := .cells #[.slice none 0 0, .slice none 0 0] 60 (0, 0)) BK212.out) : gb212 ≠ gb220)); have NB220_212 := Aside0.mk ((by rw [hg]; exact Nat.ne_of_gt (blk_lt (g := gb212) (o := .cells #[.slice none 0 0, .slice none 0 0] 60 (0, 0)) BK212.out) : gb220 ≠ gb212)); replace BK212 := Aside0.mk (blk_below (g := gb212) (o := .cells #[.slice none 0 0, .slice none 0 0] 60 (0, 0)) BK212.out hb); clear hb hbox hg; obtain ⟨Ao8, co8, eo8⟩ := Kd.R_slice HO215.out; subst eo8; have hnb9 := NB220_212.out; have hnc9 := NB212_220.out; have hcz10_0 : w7.cell? ⟨gb220, 0, none⟩ = some (.slice none 0 0) := (blk_cell BK220.out 0).trans rfl; have hcz10_1 : w7.cell? ⟨gb220, 1, none⟩ = some (.slice none 0 0) := (blk_cell BK220.out 1).trans rfl; have hfz10_0 := blk_frozen BK220.out 0; have hfz10_1 := blk_frozen BK220.out 1; obtain ⟨Ao11, co11, eo11⟩ := Kd.R_slice HO218.out; subst eo11))
   have n0_ : Aside0 (Kd.R Kd.bool 4 ((w7.setCell ⟨gb220, 0, none⟩ (.slice Ao8 t213.length co8)).setCell ⟨gb220, 1, none⟩ (.slice Ao11 t216.length co11)) w.heap.size (fun k_ => some k_ ≠ (.slice Ao11 t216.length co11 : Value).ownBlock) (.slice Ao8 t213.length co8) t213) := ⟨by exact Kd.R_mono (Kd.R_far (p := ⟨gb220, 1, none⟩) (Kd.R_far (p := ⟨gb220, 0, none⟩) (Kd.R_types HO215.out BK220.out (by decide)) (fun _ hk => hk.2) (.slice Ao8 t213.length co8)) (fun _ hk => hk.2) (.slice Ao11 t216.length co11)) (fun _ hk => hk.1)⟩
   have n1_ : Aside0 (Kd.R Kd.bool 4 ((w7.setCell ⟨gb220, 0, none⟩ (.slice Ao8 t213.length co8)).setCell ⟨gb220, 1, none⟩ (.slice Ao11 t216.length co11)) w.heap.size (fun k_ => some k_ ≠ (.slice Ao8 t213.length co8 : Value).ownBlock) (.slice Ao11 t216.length co11) t216) := ⟨by exact Kd.R_mono (Kd.R_far (p := ⟨gb220, 1, none⟩) (Kd.R_far (p := ⟨gb220, 0, none⟩) (Kd.R_types HO218.out BK220.out (by decide)) (fun _ hk => hk.2) (.slice Ao8 t213.length co8)) (fun _ hk => hk.2) (.slice Ao11 t216.length co11)) (fun _ hk => hk.1)⟩
   have n2_ : Aside0 (((w7.setCell ⟨gb220, 0, none⟩ (.slice Ao8 t213.length co8)).setCell ⟨gb220, 1, none⟩ (.slice Ao11 t216.length co11)).heap[gb212]? = some (.cells #[.slice none 0 0, .slice none 0 0] 60 (0, 0))) := ⟨by refine blk_far ?_ NB212_220.out _; refine blk_far ?_ NB212_220.out _; exact BK212.out⟩
   have n3_ : Aside0 (((w7.setCell ⟨gb220, 0, none⟩ (.slice Ao8 t213.length co8)).setCell ⟨gb220, 1, none⟩ (.slice Ao11 t216.length co11)).heap[gb220]? = some (.cells #[.slice Ao8 t213.length co8, .slice Ao11 t216.length co11] 60 (0, 0))) := ⟨by refine blk_put (cs := #[.slice Ao8 t213.length co8, .slice none 0 0]) ?_ 1 _ rfl; refine blk_put (cs := #[.slice none 0 0, .slice none 0 0]) ?_ 0 _ rfl; exact BK220.out⟩
   have n4_ : Aside0 (Below w.heap.size w ((w7.setCell ⟨gb220, 0, none⟩ (.slice Ao8 t213.length co8)).setCell ⟨gb220, 1, none⟩ (.slice Ao11 t216.length co11))) := ⟨by repeat (first | (with_reducible first | exact HB.out | refine below_set ?_ GE220.out))⟩
   (try clear HO215)
   (try clear HO218)
   (try clear BK212)
   (try clear BK220)
   (try clear HB)
   generalize ((w7.setCell ⟨gb220, 0, none⟩ (.slice Ao8 t213.length co8)).setCell ⟨gb220, 1, none⟩ (.slice Ao11 t216.length co11)) = w12 at n0_ n1_ n2_ n3_ n4_ ⊢
   have HO215 := n0_
   have HO218 := n1_
   have BK212 := n2_
   have BK220 := n3_
   have HB := n4_
   clear n0_ n1_ n2_ n3_ n4_
   replace HO215 := Aside0.mk (Kd.R_drew HO215.out)
   replace HO218 := Aside0.mk (Kd.R_drew HO218.out)
   replace BK212 := Aside0.mk (blk_drew BK212.out)
   replace BK220 := Aside0.mk (blk_drew BK220.out)
   replace HB := Aside0.mk (below_drew1 HB.out)
   refine start_ (n := 16) (S := fun w' => w'.cell? ⟨gb220, 0, none⟩ = some (.slice Ao8 t213.length co8) ∧ w'.cell? ⟨gb220, 1, none⟩ = some (.slice Ao11 t216.length co11)) (ds := []) #[false, false, false, false, false, false, false, false, false, false, false, false, false, false, false, false] (by kernel_rfl) rfl rfl ⟨(blk_cell BK220.out 0).trans rfl, (blk_cell BK220.out 1).trans rfl⟩ (fun hHeld => ?_); refine with_tabW impl_small.tab2 impl_small.bits2 (fun HT_ HW_ => ?_)
   generalize w12.drew = w13 at HO215 HO218 BK212 BK220 HB hHeld ⊢
   refine pure_ (i := 1) (N := some 12) (v := ?_) (a' := ?_) #[false, true, false, false, false, false, false, false, false, false, false, false, false, false, false, false] rfl rfl (any_of HT_.out (by kernel_rfl)) (fun _ _ _ h => h) (Or.inl ⟨by rfl, ?_⟩) ?_ ?_
   rotate_left
   ·intro w'
    go_simp
    with_reducible rfl
   rotate_left
   ·simp only [Act.put, List.setIfInBounds_toArray, List.set_cons_zero, List.set_cons_succ, i64_w, i32_w]
    rfl
   refine pure_ (i := 2) (N := some 13) (v := ?_) (a' := ?_) #[false, true, true, false, false, false, false, false, false, false, false, false, false, false, false, false] rfl rfl (any_of HT_.out (by kernel_rfl)) (fun _ _ _ h => h) (Or.inl ⟨by rfl, ?_⟩) ?_ ?_
   rotate_left
   ·intro w'
    go_simp
    with_reducible rfl
   rotate_left
   ·simp only [Act.put, List.setIfInBounds_toArray, List.set_cons_zero, List.set_cons_succ, i64_w, i32_w]
    rfl
   refine pure_ (i := 3) (N := some 14) (v := ?_) (a' := ?_) #[false, true, true, true, false, false, false, false, false, false, false, false, false, false, false, false] rfl rfl (any_of HT_.out (by kernel_rfl)) (fun _ _ _ h => h) (Or.inl ⟨by rfl, ?_⟩) ?_ ?_
   rotate_left
   ·intro w'
    go_simp
    with_reducible rfl
   rotate_left
   ·simp only [Act.put, List.setIfInBounds_toArray, List.set_cons_zero, List.set_cons_succ, i64_w, i32_w]
    rfl
   refine take_ (i := 0) (N := some 11) (v := ?_) (a' := ?_) #[true, true, true, true, false, false, false, false, false, false, false, false, false, false, false, false] rfl rfl (take_ofW HT_.out HW_.out (by kernel_rfl)) (fun _ _ _ h => h) (Or.inl ⟨by rfl, ?_⟩) hHeld ?_ ?_
   rotate_left
   ·rintro w' ⟨s0, s1⟩
    go_simp
    with_reducible rfl
   rotate_left
   ·simp only [Act.put, List.setIfInBounds_toArray, List.set_cons_zero, List.set_cons_succ, i64_w, i32_w]
    rfl
   refine take_ (i := 4) (N := some 15) (v := ?_) (a' := ?_) #[true, true, true, true, true, false, false, false, false, false, false, false, false, false, false, false] rfl rfl (take_ofW HT_.out HW_.out (by kernel_rfl)) (fun _ _ _ h => h) (Or.inl ⟨by rfl, ?_⟩) hHeld ?_ ?_
   rotate_left
   ·rintro w' ⟨s0, s1⟩
    go_simp
    with_reducible rfl
   rotate_left
   ·simp only [Act.put, List.setIfInBounds_toArray, List.set_cons_zero, List.set_cons_succ, i64_w, i32_w]
    rfl
   refine pure_ (i := 5) (N := some 16) (v := ?_) (a' := ?_) #[true, true, true, true, true, true, false, false, false, false, false, false, false, false, false, false] rfl rfl (any_of HT_.out (by kernel_rfl)) (fun _ _ _ h => h) (Or.inl ⟨by rfl, ?_⟩) ?_ ?_
   rotate_left
   ·intro w'
    go_simp
    with_reducible rfl
   rotate_left
   ·simp only [Act.put, List.setIfInBounds_toArray, List.set_cons_zero, List.set_cons_succ, i64_w, i32_w]
    rfl
   refine pure_ (i := 6) (N := some 17) (v := ?_) (a' := ?_) #[true, true, true, true, true, true, true, false, false, false, false, false, false, false, false, false] rfl rfl (any_of HT_.out (by kernel_rfl)) (fun _ _ _ h => h) (Or.inl ⟨by rfl, ?_⟩) ?_ ?_
   rotate_left
   ·intro w'
    go_simp
    with_reducible rfl
   rotate_left
   ·simp only [Act.put, List.setIfInBounds_toArray, List.set_cons_zero, List.set_cons_succ, i64_w, i32_w]
    rfl
   refine pure_ (i := 7) (N := some 18) (v := ?_) (a' := ?_) #[true, true, true, true, true, true, true, true, false, false, false, false, false, false, false, false] rfl rfl (any_of HT_.out (by kernel_rfl)) (fun _ _ _ h => h) (Or.inl ⟨by rfl, ?_⟩) ?_ ?_
   rotate_left
   ·intro w'
    go_simp
    with_reducible rfl
   rotate_left
   ·simp only [Act.put, List.setIfInBounds_toArray, List.set_cons_zero, List.set_cons_succ, i64_w, i32_w]
    rfl
   refine pure_ (i := 8) (N := some 19) (v := ?_) (a' := ?_) #[true, true, true, true, true, true, true, true, true, false, false, false, false, false, false, false] rfl rfl (any_of HT_.out (by kernel_rfl)) (fun _ _ _ h => h) (Or.inl ⟨by rfl, ?_⟩) ?_ ?_
   rotate_left
   ·intro w'
    go_simp
    with_reducible rfl
   rotate_left
   ·simp only [Act.put, List.setIfInBounds_toArray, List.set_cons_zero, List.set_cons_succ, i64_w, i32_w]
    rfl
   first
   |refine pure_ (i := 9) (N := some 20) (v := ?_) (a' := ?_) #[true, true, true, true, true, true, true, true, true, true, false, false, false, false, false, false] rfl rfl (any_of HT_.out (by kernel_rfl)) (fun _ _ _ h => h) (Or.inl ⟨by rfl, ?_⟩) ?_ ?_
    rotate_left
    ·intro w'
     go_simp
     with_reducible rfl
   |refine pure_ (i := 9) (N := some 20) (v := undef) (a' := ?_) #[true, true, true, true, true, true, true, true, true, true, false, false, false, false, false, false] rfl rfl (any_of HT_.out (by kernel_rfl)) (fun _ _ _ h => h) (Or.inr ⟨by rfl, rfl⟩) ?_ ?_
   rotate_left
   ·simp only [Act.put, List.setIfInBounds_toArray, List.set_cons_zero, List.set_cons_succ, i64_w, i32_w]
    rfl
   first
   |refine take_ (i := 10) (N := some 21) (v := ?_) (a' := ?_) #[true, true, true, true, true, true, true, true, true, true, true, false, false, false, false, false] rfl rfl (take_ofW HT_.out HW_.out (by kernel_rfl)) (fun _ _ _ h => h) (Or.inl ⟨by rfl, ?_⟩) hHeld ?_ ?_
    rotate_left
    ·rintro w' ⟨s0, s1⟩
     go_simp
     with_reducible rfl
   |refine pure_ (i := 10) (N := some 21) (v := undef) (a' := ?_) #[true, true, true, true, true, true, true, true, true, true, true, false, false, false, false, false] rfl rfl (any_of HT_.out (by kernel_rfl)) (fun _ _ _ h => h) (Or.inr ⟨by rfl, rfl⟩) ?_ ?_
   rotate_left
   ·simp only [Act.put, List.setIfInBounds_toArray, List.set_cons_zero, List.set_cons_succ, i64_w, i32_w]
    rfl
   first
   |refine pure_ (i := 11) (N := some 22) (v := ?_) (a' := ?_) #[true, true, true, true, true, true, true, true, true, true, true, true, false, false, false, false] rfl rfl (any_of HT_.out (by kernel_rfl)) (fun _ _ _ h => h) (Or.inl ⟨by rfl, ?_⟩) ?_ ?_
    rotate_left
    ·intro w'
     go_simp
     with_reducible rfl
   |refine pure_ (i := 11) (N := some 22) (v := undef) (a' := ?_) #[true, true, true, true, true, true, true, true, true, true, true, true, false, false, false, false] rfl rfl (any_of HT_.out (by kernel_rfl)) (fun _ _ _ h => h) (Or.inr ⟨by rfl, rfl⟩) ?_ ?_
   rotate_left
   ·simp only [Act.put, List.setIfInBounds_toArray, List.set_cons_zero, List.set_cons_succ, i64_w, i32_w]
    rfl
   first
   |refine pure_ (i := 12) (N := some 23) (v := ?_) (a' := ?_) #[true, true, true, true, true, true, true, true, true, true, true, true, true, false, false, false] rfl rfl (any_of HT_.out (by kernel_rfl)) (fun _ _ _ h => h) (Or.inl ⟨by rfl, ?_⟩) ?_ ?_
    rotate_left
    ·intro w'
     go_simp
     with_reducible rfl
   |refine pure_ (i := 12) (N := some 23) (v := undef) (a' := ?_) #[true, true, true, true, true, true, true, true, true, true, true, true, true, false, false, false] rfl rfl (any_of HT_.out (by kernel_rfl)) (fun _ _ _ h => h) (Or.inr ⟨by rfl, rfl⟩) ?_ ?_
   rotate_left
   ·simp only [Act.put, List.setIfInBounds_toArray, List.set_cons_zero, List.set_cons_succ, i64_w, i32_w]
    rfl
   refine pure_ (i := 13) (N := some 24) (v := ?_) (a' := ?_) #[true, true, true, true, true, true, true, true, true, true, true, true, true, true, false, false] rfl rfl (any_of HT_.out (by kernel_rfl)) (fun _ _ _ h => h) (Or.inl ⟨by rfl, ?_⟩) ?_ ?_
   rotate_left
   ·intro w'
    go_simp
    with_reducible rfl
   rotate_left
   ·simp only [Act.put, List.setIfInBounds_toArray, List.set_cons_zero, List.set_cons_succ, i64_w, i32_w]
    rfl
   refine one_ (i := 14) (N := none) #[true, true, true, true, true, true, true, true, true, true, true, true, true, true, true, false] rfl rfl (one_of HT_.out (by kernel_rfl)) (by decide) (fun K hK => ?_)
   have hs14 : w13.cell? ⟨gb212, 0, none⟩ = some (.slice none 0 0) := (blk_cell BK212.out 0).trans rfl
   have hfs14 := blk_frozen BK212.out 0
   have hns14_1 := NB220_212.out
   have hms14_1 := NB212_220.out
   have hs15 : w13.cell? ⟨gb212, 1, none⟩ = some (.slice none 0 0) := (blk_cell BK212.out 1).trans rfl
   have hfs15 := blk_frozen BK212.out 1
   have hns15_1 := NB220_212.out
   have hms15_1 := NB212_220.out
   refine skip_ (w1 := ?_) (by rfl) rfl ?_ ?_
   rotate_left
   ·go_simp
    rfl
   refine hK.out _ _ ⟨((cell_far (p := ⟨gb212, _, none⟩) NB220_212.out _).trans (((cell_far (p := ⟨gb212, _, none⟩) NB220_212.out _).trans (hHeld.1)))), ((cell_far (p := ⟨gb212, _, none⟩) NB220_212.out _).trans (((cell_far (p := ⟨gb212, _, none⟩) NB220_212.out _).trans (hHeld.2))))⟩ (fun hHeld => ?_)
   clear hK K
   refine pure_ (i := 15) (N := some 3) (v := ?_) (a' := ?_) #[true, true, true, true, true, true, true, true, true, true, true, true, true, true, true, true] rfl rfl (any_of HT_.out (by kernel_rfl)) (fun _ _ _ h => h) (Or.inl ⟨by rfl, ?_⟩) ?_ ?_
   rotate_left
   ·intro w'
    go_simp
    with_reducible rfl
   rotate_left
   ·simp only [Act.put, List.setIfInBounds_toArray, List.set_cons_zero, List.set_cons_succ, i64_w, i32_w]
    rfl
   refine done_ (done_of HT_.out (by kernel_rfl)) ?_
   try go_wp2
   refine bodyPost_ret (results_ct rfl _ _ gb212 60 #[.slice Ao8 t213.length co8, .slice Ao11 t216.length co11] (0, 0) _ rfl (by refine blk_put (cs := #[.slice Ao8 t213.length co8, .slice none 0 0]) ?_ 1 _ rfl; refine blk_put (cs := #[.slice none 0 0, .slice none 0 0]) ?_ 0 _ rfl; exact BK212.out) Try.underlying60 rfl (by kernel_rfl)) rfl ?_
   exact ⟨_, _, by first | rfl | (simp [*, errW_none, errW_some] <;> rfl), by exact Kd.R_mono (Kd.R_far (p := ⟨gb212, 1, none⟩) (Kd.R_far (p := ⟨gb212, 0, none⟩) (Kd.R_types HO215.out BK212.out (by decide)) (fun _ hk => hk.2) (.slice Ao8 t213.length co8)) (fun _ hk => hk.2) (.slice Ao11 t216.length co11)) (fun _ hk => hk.1), by exact Kd.R_mono (Kd.R_far (p := ⟨gb212, 1, none⟩) (Kd.R_far (p := ⟨gb212, 0, none⟩) (Kd.R_types HO218.out BK212.out (by decide)) (fun _ hk => hk.2) (.slice Ao8 t213.length co8)) (fun _ hk => hk.2) (.slice Ao11 t216.length co11)) (fun _ hk => hk.1), by repeat (first | (with_reducible first | exact HB.out | refine below_set ?_ GE212.out))⟩
 ·replace c3 := Bool.eq_false_iff.mpr c3
  subst c3
  replace H : (some (t213, t216, false)) = some (r1, r2, r3) := by rw [if_neg (show ¬ (false = true) by decide)] at H; exact H
  simp only [Option.some.injEq, Prod.mk.injEq] at H
  obtain ⟨rfl, rfl, rfl⟩ := H
  go_enter Try.func64, Try.ntmps64
  try go_wp2_with (first | ((with_reducible refine gate_dst (N := 2) rfl ?_); (try (refine gate_guard (by rfl) ?_; dsimp only)); refine box_event ?hg (N := 2) ?hd (cs := #[.slice none 0 0, .slice none 0 0]) (t := 60) ?hr ?_; (case hd => rfl); (case hg => rfl); (case hr => first | (go_simp; done)); intro gb212 hg w27 hbox hb; have BK212 := Aside0.mk hbox; have GW212 := Aside0.mk ((by rw [hg]; exact (below_size HB.out) : w.heap.size ≤ gb212)); have GE212 := Aside0.mk ((by rw [hg]; exact (below_size HB.out) : w.heap.size ≤ gb212)); replace HB := Aside0.mk (below_step HB.out hb); clear hb hbox hg) | ((with_reducible refine gate_callee (f := 88) rfl ?_); refine goesL_ (some 8) rfl rfl Try.func88 (by kernel_rfl) rfl #[.string a0] rfl (by (try simp only [List.map_toArray, List.map_cons, List.map_nil]); rfl) ?_; (with_reducible refine (impl_tidied.calls k a0 t213 t216 false _ A2.out).mono ?_); rintro e w28 ⟨v214, v217, rfl, ho0, ho1, hb⟩; refine ⟨_, rfl, ?_⟩; have HO215 := Aside0.mk (Kd.R_lower ho0 (below_size HB.out)); have HO218 := Aside0.mk (Kd.R_lower ho1 (below_size HB.out)); replace BK212 := Aside0.mk (blk_below (g := gb212) (o := .cells #[.slice none 0 0, .slice none 0 0] 60 (0, 0)) BK212.out hb); replace HB := Aside0.mk (below_step HB.out hb); (try clear hb); (try clear ho0); (try clear ho1)) | ((with_reducible refine gate_dst (N := 4) rfl ?_); (try (refine gate_guard (by rfl) ?_; dsimp only)); refine box_event ?hg (N := 4) ?hd (cs := #[.slice none 0 0, .slice none 0 0]) (t := 60) ?hr ?_; (case hd => rfl); (case hg => rfl); (case hr => first | (go_simp; done)); intro gb220 hg w29 hbox hb; replace HO215 := Aside0.mk (Kd.R_below HO215.out hb); replace HO218 := Aside0.mk (Kd.R_below HO218.out hb); have BK220 := Aside0.mk hbox; have GW220 := Aside0.mk ((by rw [hg]; exact (below_size HB.out) : w.heap.size ≤ gb220)); have GE220 := Aside0.mk ((by rw [hg]; exact (below_size HB.out) : w.heap.size ≤ gb220)); replace HB := Aside0.mk (below_step HB.out hb); have NB212_220 := Aside0.mk ((by rw [hg]; exact Nat.ne_of_lt (blk_lt (g := gb212) (o := .cells #[.slice none 0 0, .slice none 0 0] 60 (0, 0)) BK212.out) : gb212 ≠ gb220)); have NB220_212 := Aside0.mk ((by rw [hg]; exact Nat.ne_of_gt (blk_lt (g := gb212) (o := .cells #[.slice none 0 0, .slice none 0 0] 60 (0, 0)) BK212.out) : gb220 ≠ gb212)); replace BK212 := Aside0.mk (blk_below (g := gb212) (o := .cells #[.slice none 0 0, .slice none 0 0] 60 (0, 0)) BK212.out hb); clear hb hbox hg; obtain ⟨Ao30, co30, eo30⟩ := Kd.R_slice HO215.out; subst eo30; have hnb31 := NB220_212.out; have hnc31 := NB212_220.out; have hcz32_0 : w29.cell? ⟨gb220, 0, none⟩ = some (.slice none 0 0) := (blk_cell BK220.out 0).trans rfl; have hcz32_1 : w29.cell? ⟨gb220, 1, none⟩ = some (.slice none 0 0) := (blk_cell BK220.out 1).trans rfl; have hfz32_0 := blk_frozen BK220.out 0; have hfz32_1 := blk_frozen BK220.out 1; obtain ⟨Ao33, co33, eo33⟩ := Kd.R_slice HO218.out; subst eo33))
  have n0_ : Aside0 (Kd.R Kd.bool 4 ((w29.setCell ⟨gb220, 0, none⟩ (.slice Ao30 t213.length co30)).setCell ⟨gb220, 1, none⟩ (.slice Ao33 t216.length co33)) w.heap.size (fun k_ => some k_ ≠ (.slice Ao33 t216.length co33 : Value).ownBlock) (.slice Ao30 t213.length co30) t213) := ⟨by exact Kd.R_mono (Kd.R_far (p := ⟨gb220, 1, none⟩) (Kd.R_far (p := ⟨gb220, 0, none⟩) (Kd.R_types HO215.out BK220.out (by decide)) (fun _ hk => hk.2) (.slice Ao30 t213.length co30)) (fun _ hk => hk.2) (.slice Ao33 t216.length co33)) (fun _ hk => hk.1)⟩
  have n1_ : Aside0 (Kd.R Kd.bool 4 ((w29.setCell ⟨gb220, 0, none⟩ (.slice Ao30 t213.length co30)).setCell ⟨gb220, 1, none⟩ (.slice Ao33 t216.length co33)) w.heap.size (fun k_ => some k_ ≠ (.slice Ao30 t213.length co30 : Value).ownBlock) (.slice Ao33 t216.length co33) t216) := ⟨by exact Kd.R_mono (Kd.R_far (p := ⟨gb220, 1, none⟩) (Kd.R_far (p := ⟨gb220, 0, none⟩) (Kd.R_types HO218.out BK220.out (by decide)) (fun _ hk => hk.2) (.slice Ao30 t213.length co30)) (fun _ hk => hk.2) (.slice Ao33 t216.length co33)) (fun _ hk => hk.1)⟩
  have n2_ : Aside0 (((w29.setCell ⟨gb220, 0, none⟩ (.slice Ao30 t213.length co30)).setCell ⟨gb220, 1, none⟩ (.slice Ao33 t216.length co33)).heap[gb212]? = some (.cells #[.slice none 0 0, .slice none 0 0] 60 (0, 0))) := ⟨by refine blk_far ?_ NB212_220.out _; refine blk_far ?_ NB212_220.out _; exact BK212.out⟩
  have n3_ : Aside0 (((w29.setCell ⟨gb220, 0, none⟩ (.slice Ao30 t213.length co30)).setCell ⟨gb220, 1, none⟩ (.slice Ao33 t216.length co33)).heap[gb220]? = some (.cells #[.slice Ao30 t213.length co30, .slice Ao33 t216.length co33] 60 (0, 0))) := ⟨by refine blk_put (cs := #[.slice Ao30 t213.length co30, .slice none 0 0]) ?_ 1 _ rfl; refine blk_put (cs := #[.slice none 0 0, .slice none 0 0]) ?_ 0 _ rfl; exact BK220.out⟩
  have n4_ : Aside0 (Below w.heap.size w ((w29.setCell ⟨gb220, 0, none⟩ (.slice Ao30 t213.length co30)).setCell ⟨gb220, 1, none⟩ (.slice Ao33 t216.length co33))) := ⟨by repeat (first | (with_reducible first | exact HB.out | refine below_set ?_ GE220.out))⟩
  (try clear HO215)
  (try clear HO218)
  (try clear BK212)
  (try clear BK220)
  (try clear HB)
  generalize ((w29.setCell ⟨gb220, 0, none⟩ (.slice Ao30 t213.length co30)).setCell ⟨gb220, 1, none⟩ (.slice Ao33 t216.length co33)) = w34 at n0_ n1_ n2_ n3_ n4_ ⊢
  have HO215 := n0_
  have HO218 := n1_
  have BK212 := n2_
  have BK220 := n3_
  have HB := n4_
  clear n0_ n1_ n2_ n3_ n4_
  replace HO215 := Aside0.mk (Kd.R_drew HO215.out)
  replace HO218 := Aside0.mk (Kd.R_drew HO218.out)
  replace BK212 := Aside0.mk (blk_drew BK212.out)
  replace BK220 := Aside0.mk (blk_drew BK220.out)
  replace HB := Aside0.mk (below_drew1 HB.out)
  refine start_ (n := 16) (S := fun w' => w'.cell? ⟨gb220, 0, none⟩ = some (.slice Ao30 t213.length co30) ∧ w'.cell? ⟨gb220, 1, none⟩ = some (.slice Ao33 t216.length co33)) (ds := []) #[false, false, false, false, false, false, false, false, false, false, false, false, false, false, false, false] (by kernel_rfl) rfl rfl ⟨(blk_cell BK220.out 0).trans rfl, (blk_cell BK220.out 1).trans rfl⟩ (fun hHeld => ?_); refine with_tabW impl_small.tab2 impl_small.bits2 (fun HT_ HW_ => ?_)
  generalize w34.drew = w35 at HO215 HO218 BK212 BK220 HB hHeld ⊢
  refine pure_ (i := 1) (N := some 12) (v := ?_) (a' := ?_) #[false, true, false, false, false, false, false, false, false, false, false, false, false, false, false, false] rfl rfl (any_of HT_.out (by kernel_rfl)) (fun _ _ _ h => h) (Or.inl ⟨by rfl, ?_⟩) ?_ ?_
  rotate_left
  ·intro w'
   go_simp
   with_reducible rfl
  rotate_left
  ·simp only [Act.put, List.setIfInBounds_toArray, List.set_cons_zero, List.set_cons_succ, i64_w, i32_w]
   rfl
  refine pure_ (i := 2) (N := some 13) (v := ?_) (a' := ?_) #[false, true, true, false, false, false, false, false, false, false, false, false, false, false, false, false] rfl rfl (any_of HT_.out (by kernel_rfl)) (fun _ _ _ h => h) (Or.inl ⟨by rfl, ?_⟩) ?_ ?_
  rotate_left
  ·intro w'
   go_simp
   with_reducible rfl
  rotate_left
  ·simp only [Act.put, List.setIfInBounds_toArray, List.set_cons_zero, List.set_cons_succ, i64_w, i32_w]
   rfl
  refine pure_ (i := 3) (N := some 14) (v := undef) (a' := ?_) #[false, true, true, true, false, false, false, false, false, false, false, false, false, false, false, false] rfl rfl (any_of HT_.out (by kernel_rfl)) (fun _ _ _ h => h) (Or.inr ⟨by rfl, rfl⟩) ?_ ?_
  rotate_left
  ·simp only [Act.put, List.setIfInBounds_toArray, List.set_cons_zero, List.set_cons_succ, i64_w, i32_w]
   rfl
  refine pure_ (i := 4) (N := some 15) (v := undef) (a' := ?_) #[false, true, true, true, true, false, false, false, false, false, false, false, false, false, false, false] rfl rfl (any_of HT_.out (by kernel_rfl)) (fun _ _ _ h => h) (Or.inr ⟨by rfl, rfl⟩) ?_ ?_
  rotate_left
  ·simp only [Act.put, List.setIfInBounds_toArray, List.set_cons_zero, List.set_cons_succ, i64_w, i32_w]
   rfl
  refine pure_ (i := 5) (N := some 16) (v := undef) (a' := ?_) #[false, true, true, true, true, true, false, false, false, false, false, false, false, false, false, false] rfl rfl (any_of HT_.out (by kernel_rfl)) (fun _ _ _ h => h) (Or.inr ⟨by rfl, rfl⟩) ?_ ?_
  rotate_left
  ·simp only [Act.put, List.setIfInBounds_toArray, List.set_cons_zero, List.set_cons_succ, i64_w, i32_w]
   rfl
  refine pure_ (i := 6) (N := some 17) (v := undef) (a' := ?_) #[false, true, true, true, true, true, true, false, false, false, false, false, false, false, false, false] rfl rfl (any_of HT_.out (by kernel_rfl)) (fun _ _ _ h => h) (Or.inr ⟨by rfl, rfl⟩) ?_ ?_
  rotate_left
  ·simp only [Act.put, List.setIfInBounds_toArray, List.set_cons_zero, List.set_cons_succ, i64_w, i32_w]
   rfl
  refine pure_ (i := 7) (N := some 18) (v := ?_) (a' := ?_) #[false, true, true, true, true, true, true, true, false, false, false, false, false, false, false, false] rfl rfl (any_of HT_.out (by kernel_rfl)) (fun _ _ _ h => h) (Or.inl ⟨by rfl, ?_⟩) ?_ ?_
  rotate_left
  ·intro w'
   go_simp
   with_reducible rfl
  rotate_left
  ·simp only [Act.put, List.setIfInBounds_toArray, List.set_cons_zero, List.set_cons_succ, i64_w, i32_w]
   rfl
  refine pure_ (i := 8) (N := some 19) (v := ?_) (a' := ?_) #[false, true, true, true, true, true, true, true, true, false, false, false, false, false, false, false] rfl rfl (any_of HT_.out (by kernel_rfl)) (fun _ _ _ h => h) (Or.inl ⟨by rfl, ?_⟩) ?_ ?_
  rotate_left
  ·intro w'
   go_simp
   with_reducible rfl
  rotate_left
  ·simp only [Act.put, List.setIfInBounds_toArray, List.set_cons_zero, List.set_cons_succ, i64_w, i32_w]
   rfl
  refine pure_ (i := 9) (N := some 20) (v := undef) (a' := ?_) #[false, true, true, true, true, true, true, true, true, true, false, false, false, false, false, false] rfl rfl (any_of HT_.out (by kernel_rfl)) (fun _ _ _ h => h) (Or.inr ⟨by rfl, rfl⟩) ?_ ?_
  rotate_left
  ·simp only [Act.put, List.setIfInBounds_toArray, List.set_cons_zero, List.set_cons_succ, i64_w, i32_w]
   rfl
  refine pure_ (i := 10) (N := some 21) (v := undef) (a' := ?_) #[false, true, true, true, true, true, true, true, true, true, true, false, false, false, false, false] rfl rfl (any_of HT_.out (by kernel_rfl)) (fun _ _ _ h => h) (Or.inr ⟨by rfl, rfl⟩) ?_ ?_
  rotate_left
  ·simp only [Act.put, List.setIfInBounds_toArray, List.set_cons_zero, List.set_cons_succ, i64_w, i32_w]
   rfl
  refine pure_ (i := 11) (N := some 22) (v := undef) (a' := ?_) #[false, true, true, true, true, true, true, true, true, true, true, true, false, false, false, false] rfl rfl (any_of HT_.out (by kernel_rfl)) (fun _ _ _ h => h) (Or.inr ⟨by rfl, rfl⟩) ?_ ?_
  rotate_left
  ·simp only [Act.put, List.setIfInBounds_toArray, List.set_cons_zero, List.set_cons_succ, i64_w, i32_w]
   rfl
  refine pure_ (i := 12) (N := some 23) (v := undef) (a' := ?_) #[false, true, true, true, true, true, true, true, true, true, true, true, true, false, false, false] rfl rfl (any_of HT_.out (by kernel_rfl)) (fun _ _ _ h => h) (Or.inr ⟨by rfl, rfl⟩) ?_ ?_
  rotate_left
  ·simp only [Act.put, List.setIfInBounds_toArray, List.set_cons_zero, List.set_cons_succ, i64_w, i32_w]
   rfl
  refine pure_ (i := 13) (N := some 24) (v := ?_) (a' := ?_) #[false, true, true, true, true, true, true, true, true, true, true, true, true, true, false, false] rfl rfl (any_of HT_.out (by kernel_rfl)) (fun _ _ _ h => h) (Or.inl ⟨by rfl, ?_⟩) ?_ ?_
  rotate_left
  ·intro w'
   go_simp
   with_reducible rfl
  rotate_left
  ·simp only [Act.put, List.setIfInBounds_toArray, List.set_cons_zero, List.set_cons_succ, i64_w, i32_w]
   rfl
  refine take_ (i := 0) (N := some 11) (v := ?_) (a' := ?_) #[true, true, true, true, true, true, true, true, true, true, true, true, true, true, false, false] rfl rfl (take_ofW HT_.out HW_.out (by kernel_rfl)) (fun _ _ _ h => h) (Or.inl ⟨by rfl, ?_⟩) hHeld ?_ ?_
  rotate_left
  ·rintro w' ⟨s0, s1⟩
   go_simp
   with_reducible rfl
  rotate_left
  ·simp only [Act.put, List.setIfInBounds_toArray, List.set_cons_zero, List.set_cons_succ, i64_w, i32_w]
   rfl
  refine one_ (i := 14) (N := none) #[true, true, true, true, true, true, true, true, true, true, true, true, true, true, true, false] rfl rfl (one_of HT_.out (by kernel_rfl)) (by decide) (fun K hK => ?_)
  have hs36 : w35.cell? ⟨gb212, 0, none⟩ = some (.slice none 0 0) := (blk_cell BK212.out 0).trans rfl
  have hfs36 := blk_frozen BK212.out 0
  have hns36_1 := NB220_212.out
  have hms36_1 := NB212_220.out
  have hs37 : w35.cell? ⟨gb212, 1, none⟩ = some (.slice none 0 0) := (blk_cell BK212.out 1).trans rfl
  have hfs37 := blk_frozen BK212.out 1
  have hns37_1 := NB220_212.out
  have hms37_1 := NB212_220.out
  refine skip_ (w1 := ?_) (by rfl) rfl ?_ ?_
  rotate_left
  ·go_simp
   rfl
  refine hK.out _ _ ⟨((cell_far (p := ⟨gb212, _, none⟩) NB220_212.out _).trans (((cell_far (p := ⟨gb212, _, none⟩) NB220_212.out _).trans (hHeld.1)))), ((cell_far (p := ⟨gb212, _, none⟩) NB220_212.out _).trans (((cell_far (p := ⟨gb212, _, none⟩) NB220_212.out _).trans (hHeld.2))))⟩ (fun hHeld => ?_)
  clear hK K
  refine pure_ (i := 15) (N := some 3) (v := ?_) (a' := ?_) #[true, true, true, true, true, true, true, true, true, true, true, true, true, true, true, true] rfl rfl (any_of HT_.out (by kernel_rfl)) (fun _ _ _ h => h) (Or.inl ⟨by rfl, ?_⟩) ?_ ?_
  rotate_left
  ·intro w'
   go_simp
   with_reducible rfl
  rotate_left
  ·simp only [Act.put, List.setIfInBounds_toArray, List.set_cons_zero, List.set_cons_succ, i64_w, i32_w]
   rfl
  refine done_ (done_of HT_.out (by kernel_rfl)) ?_
  try go_wp2
  refine bodyPost_ret (results_ct rfl _ _ gb212 60 #[.slice Ao30 t213.length co30, .slice Ao33 t216.length co33] (0, 0) _ rfl (by refine blk_put (cs := #[.slice Ao30 t213.length co30, .slice none 0 0]) ?_ 1 _ rfl; refine blk_put (cs := #[.slice none 0 0, .slice none 0 0]) ?_ 0 _ rfl; exact BK212.out) Try.underlying60 rfl (by kernel_rfl)) rfl ?_
  exact ⟨_, _, by first | rfl | (simp [*, errW_none, errW_some] <;> rfl), by exact Kd.R_mono (Kd.R_far (p := ⟨gb212, 1, none⟩) (Kd.R_far (p := ⟨gb212, 0, none⟩) (Kd.R_types HO215.out BK212.out (by decide)) (fun _ hk => hk.2) (.slice Ao30 t213.length co30)) (fun _ hk => hk.2) (.slice Ao33 t216.length co33)) (fun _ hk => hk.1), by exact Kd.R_mono (Kd.R_far (p := ⟨gb212, 1, none⟩) (Kd.R_far (p := ⟨gb212, 0, none⟩) (Kd.R_types HO218.out BK212.out (by decide)) (fun _ hk => hk.2) (.slice Ao30 t213.length co30)) (fun _ hk => hk.2) (.slice Ao33 t216.length co33)) (fun _ hk => hk.1), by repeat (first | (with_reducible first | exact HB.out | refine below_set ?_ GE212.out))⟩


def impl_two.f (k : Nat) (a0 : ByteArray) (a1 : ByteArray) : Option (List Bool × List Bool × List Bool × List Bool × Bool) := (impl_small.f k a0).bind fun bt223 => ((impl_small.f k a1).bind fun bt231 => (if bt223.2.2 = true then (some (bt223.1, bt223.2.1, bt231.1, bt231.2.1, bt231.2.2)) else (some (bt223.1, bt223.2.1, bt231.1, bt231.2.1, false))))
theorem impl_two.mono : ∀ a0 a1 k, LeO (impl_two.f k a0 a1) (impl_two.f (k + 1) a0 a1) := by
 intro a0 a1 k
 unfold impl_two.f
 repeat' first | (with_reducible exact impl_small.mono _ _) | (with_reducible exact LeO.refl _) | (with_reducible refine LeO.bind ?_ (fun _ => ?_))
def impl_two.T3 : Bool × List (List Nat × List Nat) := (true, [([], []), ([], []), ([], []), ([2], [2]), ([3], [3]), ([3, 4], [3, 4]), ([0, 3, 0], [0]), ([1, 6, 0, 1, 6], [1]), ([5, 7, 0, 1, 2, 3, 4, 5, 6, 7], [5])])
def impl_two.B3 : List Nat := [0, 0, 0, 4, 12, 28, 13, 79, 255]
theorem impl_two.tab3 : rtab .any (opsOf Try.f54 3) = impl_two.T3 := by kernel_rfl
theorem impl_two.bits3 : waitsOk impl_two.T3.2 impl_two.B3 = true := by kernel_rfl
set_option maxHeartbeats 8000000 in
set_option maxRecDepth 100000 in
theorem impl_two.calls (k : Nat) (a0 : ByteArray) (a1 : ByteArray) (r1 : List Bool) (r2 : List Bool) (r3 : List Bool) (r4 : List Bool) (r5 : Bool) (w : World) (h : impl_two.f k a0 a1 = some (r1, r2, r3, r4, r5)) :
  Calls Try.prog 54 #[.string a0, .string a1] w fun e w' => ∃ v0_ v1_ v2_ v3_ : Value, e = .returned (.tuple #[.agg #[v0_, v1_], .agg #[v2_, v3_], .bool r5]) ∧ Kd.R Kd.bool 4 w' w.heap.size (fun k_ => some k_ ≠ (v1_ : Value).ownBlock ∧ some k_ ≠ (v2_ : Value).ownBlock ∧ some k_ ≠ (v3_ : Value).ownBlock) v0_ r1 ∧ Kd.R Kd.bool 4 w' w.heap.size (fun k_ => some k_ ≠ (v0_ : Value).ownBlock ∧ some k_ ≠ (v2_ : Value).ownBlock ∧ some k_ ≠ (v3_ : Value).ownBlock) v1_ r2 ∧ Kd.R Kd.bool 4 w' w.heap.size (fun k_ => some k_ ≠ (v0_ : Value).ownBlock ∧ some k_ ≠ (v1_ : Value).ownBlock ∧ some k_ ≠ (v3_ : Value).ownBlock) v2_ r3 ∧ Kd.R Kd.bool 4 w' w.heap.size (fun k_ => some k_ ≠ (v0_ : Value).ownBlock ∧ some k_ ≠ (v1_ : Value).ownBlock ∧ some k_ ≠ (v2_ : Value).ownBlock) v3_ r4 ∧ Below w.heap.size w w' := by
 have hu60 := Try.underlying60
 have HB := Aside0.mk (Below.refl w.heap.size w)
 have H : ((impl_small.f k a0).bind fun bt223 => ((impl_small.f k a1).bind fun bt231 => (if bt223.2.2 = true then (some (bt223.1, bt223.2.1, bt231.1, bt231.2.1, bt231.2.2)) else (some (bt223.1, bt223.2.1, bt231.1, bt231.2.1, false))))) = some (r1, r2, r3, r4, r5) := h
 clear h
 replace H := Option.bind_eq_some_iff.mp H
 obtain ⟨⟨t223, t226, t229⟩, A30, H⟩ := H
 replace H : ((impl_small.f k a1).bind fun bt231 => (if t229 = true then (some (t223, t226, bt231.1, bt231.2.1, bt231.2.2)) else (some (t223, t226, bt231.1, bt231.2.1, false)))) = some (r1, r2, r3, r4, r5) := H
 have A3 := Aside0.mk A30
 clear A30
 replace H := Option.bind_eq_some_iff.mp H
 obtain ⟨⟨t231, t234, t237⟩, A40, H⟩ := H
 replace H : (if t229 = true then (some (t223, t226, t231, t234, t237)) else (some (t223, t226, t231, t234, false))) = some (r1, r2, r3, r4, r5) := H
 have A4 := Aside0.mk A40
 clear A40
 by_cases c5 : t229 = true
 all_goals
  first
  |replace c5 := Bool.eq_false_iff.mpr c5
  |skip
  subst c5
  first
  |have H1 : (some (t223, t226, t231, t234, t237)) = some (r1, r2, r3, r4, r5) := by rw [if_pos rfl] at H; exact H
  |have H1 : (some (t223, t226, t231, t234, false)) = some (r1, r2, r3, r4, r5) := by rw [if_neg (show ¬ (false = true) by decide)] at H; exact H
  clear H
  have H := H1
  clear H1
  simp only [Option.some.injEq, Prod.mk.injEq] at H
  obtain ⟨rfl, rfl, rfl, rfl, rfl⟩ := H
  go_enter Try.func54, Try.ntmps54
  try go_wp2_with (first | ((with_reducible refine gate_dst (N := 4) rfl ?_); refine box_event ?hg (N := 4) ?hd (cs := #[.slice none 0 0, .slice none 0 0]) (t := 60) ?hr ?_; (case hd => rfl); (case hg => rfl); (case hr => first | (go_simp; done)); intro gb221 hg w6 hbox hb; have BK221 := Aside0.mk hbox; have GW221 := Aside0.mk ((by rw [hg]; exact (below_size HB.out) : w.heap.size ≤ gb221)); have GE221 := Aside0.mk ((by rw [hg]; exact (below_size HB.out) : w.heap.size ≤ gb221)); replace HB := Aside0.mk (below_step HB.out hb); clear hb hbox hg) | ((with_reducible refine gate_dst (N := 5) rfl ?_); refine box_event ?hg (N := 5) ?hd (cs := #[.slice none 0 0, .slice none 0 0]) (t := 60) ?hr ?_; (case hd => rfl); (case hg => rfl); (case hr => first | (go_simp; done)); intro gb222 hg w7 hbox hb; have BK222 := Aside0.mk hbox; have GW222 := Aside0.mk ((by rw [hg]; exact (below_size HB.out) : w.heap.size ≤ gb222)); have GE222 := Aside0.mk ((by rw [hg]; exact (below_size HB.out) : w.heap.size ≤ gb222)); replace HB := Aside0.mk (below_step HB.out hb); have NB221_222 := Aside0.mk ((by rw [hg]; exact Nat.ne_of_lt (blk_lt (g := gb221) (o := .cells #[.slice none 0 0, .slice none 0 0] 60 (0, 0)) BK221.out) : gb221 ≠ gb222)); have NB222_221 := Aside0.mk ((by rw [hg]; exact Nat.ne_of_gt (blk_lt (g := gb221) (o := .cells #[.slice none 0 0, .slice none 0 0] 60 (0, 0)) BK221.out) : gb222 ≠ gb221)); replace BK221 := Aside0.mk (blk_below (g := gb221) (o := .cells #[.slice none 0 0, .slice none 0 0] 60 (0, 0)) BK221.out hb); clear hb hbox hg) | ((with_reducible refine gate_callee (f := 64) rfl ?_); refine goesL_ (some 13) rfl rfl Try.func64 (by kernel_rfl) rfl #[.string a0] rfl (by (try simp only [List.map_toArray, List.map_cons, List.map_nil]); rfl) ?_; (with_reducible refine (impl_small.calls k a0 t223 t226 _ _ A3.out).mono ?_); rintro e w8 ⟨v224, v227, rfl, ho0, ho1, hb⟩; refine ⟨_, rfl, ?_⟩; have HO225 := Aside0.mk (Kd.R_lower ho0 (below_size HB.out)); have HO228 := Aside0.mk (Kd.R_lower ho1 (below_size HB.out)); replace BK221 := Aside0.mk (blk_below (g := gb221) (o := .cells #[.slice none 0 0, .slice none 0 0] 60 (0, 0)) BK221.out hb); replace BK222 := Aside0.mk (blk_below (g := gb222) (o := .cells #[.slice none 0 0, .slice none 0 0] 60 (0, 0)) BK222.out hb); replace HB := Aside0.mk (below_step HB.out hb); (try clear hb); (try clear ho0); (try clear ho1)) | ((with_reducible refine gate_dst (N := 7) rfl ?_); refine box_event ?hg (N := 7) ?hd (cs := #[.slice none 0 0, .slice none 0 0]) (t := 60) ?hr ?_; (case hd => rfl); (case hg => rfl); (case hr => first | (go_simp; done)); intro gb230 hg w9 hbox hb; replace HO225 := Aside0.mk (Kd.R_below HO225.out hb); replace HO228 := Aside0.mk (Kd.R_below HO228.out hb); have BK230 := Aside0.mk hbox; have GW230 := Aside0.mk ((by rw [hg]; exact (below_size HB.out) : w.heap.size ≤ gb230)); have GE230 := Aside0.mk ((by rw [hg]; exact (below_size HB.out) : w.heap.size ≤ gb230)); replace HB := Aside0.mk (below_step HB.out hb); have NB221_230 := Aside0.mk ((by rw [hg]; exact Nat.ne_of_lt (blk_lt (g := gb221) (o := .cells #[.slice none 0 0, .slice none 0 0] 60 (0, 0)) BK221.out) : gb221 ≠ gb230)); have NB230_221 := Aside0.mk ((by rw [hg]; exact Nat.ne_of_gt (blk_lt (g := gb221) (o := .cells #[.slice none 0 0, .slice none 0 0] 60 (0, 0)) BK221.out) : gb230 ≠ gb221)); replace BK221 := Aside0.mk (blk_below (g := gb221) (o := .cells #[.slice none 0 0, .slice none 0 0] 60 (0, 0)) BK221.out hb); have NB222_230 := Aside0.mk ((by rw [hg]; exact Nat.ne_of_lt (blk_lt (g := gb222) (o := .cells #[.slice none 0 0, .slice none 0 0] 60 (0, 0)) BK222.out) : gb222 ≠ gb230)); have NB230_222 := Aside0.mk ((by rw [hg]; exact Nat.ne_of_gt (blk_lt (g := gb222) (o := .cells #[.slice none 0 0, .slice none 0 0] 60 (0, 0)) BK222.out) : gb230 ≠ gb222)); replace BK222 := Aside0.mk (blk_below (g := gb222) (o := .cells #[.slice none 0 0, .slice none 0 0] 60 (0, 0)) BK222.out hb); clear hb hbox hg; obtain ⟨Ao10, co10, eo10⟩ := Kd.R_slice HO225.out; subst eo10; have hnb11 := NB230_221.out; have hnc11 := NB221_230.out; have hnb12 := NB230_222.out; have hnc12 := NB222_230.out; have hcz13_0 : w9.cell? ⟨gb230, 0, none⟩ = some (.slice none 0 0) := (blk_cell BK230.out 0).trans rfl; have hcz13_1 : w9.cell? ⟨gb230, 1, none⟩ = some (.slice none 0 0) := (blk_cell BK230.out 1).trans rfl; have hfz13_0 := blk_frozen BK230.out 0; have hfz13_1 := blk_frozen BK230.out 1; obtain ⟨Ao14, co14, eo14⟩ := Kd.R_slice HO228.out; subst eo14) | ((with_reducible refine gate_callee (f := 64) rfl ?_); refine goesL_ (some 18) rfl rfl Try.func64 (by kernel_rfl) rfl #[.string a1] rfl (by (try simp only [List.map_toArray, List.map_cons, List.map_nil]); rfl) ?_; (with_reducible refine (impl_small.calls k a1 t231 t234 t237 _ A4.out).mono ?_); rintro e w15 ⟨v232, v235, rfl, ho0, ho1, hb⟩; refine ⟨_, rfl, ?_⟩; have HO233 := Aside0.mk (Kd.R_lower (Kd.R_new' (Kd.R_new' ho0 (Kd.R_lt (by exact (Kd.R_mono (Kd.R_far (p := ⟨gb230, 1, none⟩) (Kd.R_far (p := ⟨gb230, 0, none⟩) (Kd.R_types HO225.out BK230.out (by decide)) (fun _ hk => hk.2) (.slice Ao10 t223.length co10)) (fun _ hk => hk.2) (.slice Ao14 t226.length co14)) (fun _ h_ => h_.1))))) (Kd.R_lt (by exact (Kd.R_mono (Kd.R_far (p := ⟨gb230, 1, none⟩) (Kd.R_far (p := ⟨gb230, 0, none⟩) (Kd.R_types HO228.out BK230.out (by decide)) (fun _ hk => hk.2) (.slice Ao10 t223.length co10)) (fun _ hk => hk.2) (.slice Ao14 t226.length co14)) (fun _ h_ => h_.1))))) (below_size (by repeat (first | (with_reducible first | exact HB.out | refine below_set ?_ GE230.out))))); have HO236 := Aside0.mk (Kd.R_lower (Kd.R_new' (Kd.R_new' ho1 (Kd.R_lt (by exact (Kd.R_mono (Kd.R_far (p := ⟨gb230, 1, none⟩) (Kd.R_far (p := ⟨gb230, 0, none⟩) (Kd.R_types HO225.out BK230.out (by decide)) (fun _ hk => hk.2) (.slice Ao10 t223.length co10)) (fun _ hk => hk.2) (.slice Ao14 t226.length co14)) (fun _ h_ => h_.1))))) (Kd.R_lt (by exact (Kd.R_mono (Kd.R_far (p := ⟨gb230, 1, none⟩) (Kd.R_far (p := ⟨gb230, 0, none⟩) (Kd.R_types HO228.out BK230.out (by decide)) (fun _ hk => hk.2) (.slice Ao10 t223.length co10)) (fun _ hk => hk.2) (.slice Ao14 t226.length co14)) (fun _ h_ => h_.1))))) (below_size (by repeat (first | (with_reducible first | exact HB.out | refine below_set ?_ GE230.out))))); replace HO225 := Aside0.mk (Kd.R_mono (Kd.R_told (Kd.R_told (Kd.R_old (by exact (Kd.R_mono (Kd.R_far (p := ⟨gb230, 1, none⟩) (Kd.R_far (p := ⟨gb230, 0, none⟩) (Kd.R_types HO225.out BK230.out (by decide)) (fun _ hk => hk.2) (.slice Ao10 t223.length co10)) (fun _ hk => hk.2) (.slice Ao14 t226.length co14)) (fun _ h_ => h_.1))) hb) (Kd.R_base ho0)) (Kd.R_base ho1)) (fun _ h_ => h_.1)); replace HO228 := Aside0.mk (Kd.R_mono (Kd.R_told (Kd.R_told (Kd.R_old (by exact (Kd.R_mono (Kd.R_far (p := ⟨gb230, 1, none⟩) (Kd.R_far (p := ⟨gb230, 0, none⟩) (Kd.R_types HO228.out BK230.out (by decide)) (fun _ hk => hk.2) (.slice Ao10 t223.length co10)) (fun _ hk => hk.2) (.slice Ao14 t226.length co14)) (fun _ h_ => h_.1))) hb) (Kd.R_base ho0)) (Kd.R_base ho1)) (fun _ h_ => h_.1)); replace BK221 := Aside0.mk (blk_below (g := gb221) (o := .cells #[.slice none 0 0, .slice none 0 0] 60 (0, 0)) (by refine blk_far ?_ NB221_230.out _; refine blk_far ?_ NB221_230.out _; exact BK221.out) hb); replace BK222 := Aside0.mk (blk_below (g := gb222) (o := .cells #[.slice none 0 0, .slice none 0 0] 60 (0, 0)) (by refine blk_far ?_ NB222_230.out _; refine blk_far ?_ NB222_230.out _; exact BK222.out) hb); replace BK230 := Aside0.mk (blk_below (g := gb230) (o := .cells #[.slice Ao10 t223.length co10, .slice Ao14 t226.length co14] 60 (0, 0)) (by refine blk_put (cs := #[.slice Ao10 t223.length co10, .slice none 0 0]) ?_ 1 _ rfl; refine blk_put (cs := #[.slice none 0 0, .slice none 0 0]) ?_ 0 _ rfl; exact BK230.out) hb); replace HB := Aside0.mk (below_step (by repeat (first | (with_reducible first | exact HB.out | refine below_set ?_ GE230.out))) hb); (try clear hb); (try clear ho0); (try clear ho1)) | ((with_reducible refine gate_dst (N := 9) rfl ?_); refine box_event ?hg (N := 9) ?hd (cs := #[.slice none 0 0, .slice none 0 0]) (t := 60) ?hr ?_; (case hd => rfl); (case hg => rfl); (case hr => first | (go_simp; done)); intro gb238 hg w16 hbox hb; replace HO225 := Aside0.mk (Kd.R_below HO225.out hb); replace HO228 := Aside0.mk (Kd.R_below HO228.out hb); replace HO233 := Aside0.mk (Kd.R_below HO233.out hb); replace HO236 := Aside0.mk (Kd.R_below HO236.out hb); have BK238 := Aside0.mk hbox; have GW238 := Aside0.mk ((by rw [hg]; exact (below_size HB.out) : w.heap.size ≤ gb238)); have GE238 := Aside0.mk ((by rw [hg]; exact (below_size HB.out) : w.heap.size ≤ gb238)); replace HB := Aside0.mk (below_step HB.out hb); have NB221_238 := Aside0.mk ((by rw [hg]; exact Nat.ne_of_lt (blk_lt (g := gb221) (o := .cells #[.slice none 0 0, .slice none 0 0] 60 (0, 0)) BK221.out) : gb221 ≠ gb238)); have NB238_221 := Aside0.mk ((by rw [hg]; exact Nat.ne_of_gt (blk_lt (g := gb221) (o := .cells #[.slice none 0 0, .slice none 0 0] 60 (0, 0)) BK221.out) : gb238 ≠ gb221)); replace BK221 := Aside0.mk (blk_below (g := gb221) (o := .cells #[.slice none 0 0, .slice none 0 0] 60 (0, 0)) BK221.out hb); have NB222_238 := Aside0.mk ((by rw [hg]; exact Nat.ne_of_lt (blk_lt (g := gb222) (o := .cells #[.slice none 0 0, .slice none 0 0] 60 (0, 0)) BK222.out) : gb222 ≠ gb238)); have NB238_222 := Aside0.mk ((by rw [hg]; exact Nat.ne_of_gt (blk_lt (g := gb222) (o := .cells #[.slice none 0 0, .slice none 0 0] 60 (0, 0)) BK222.out) : gb238 ≠ gb222)); replace BK222 := Aside0.mk (blk_below (g := gb222) (o := .cells #[.slice none 0 0, .slice none 0 0] 60 (0, 0)) BK222.out hb); have NB230_238 := Aside0.mk ((by rw [hg]; exact Nat.ne_of_lt (blk_lt (g := gb230) (o := .cells #[.slice Ao10 t223.length co10, .slice Ao14 t226.length co14] 60 (0, 0)) BK230.out) : gb230 ≠ gb238)); have NB238_230 := Aside0.mk ((by rw [hg]; exact Nat.ne_of_gt (blk_lt (g := gb230) (o := .cells #[.slice Ao10 t223.length co10, .slice Ao14 t226.length co14] 60 (0, 0)) BK230.out) : gb238 ≠ gb230)); replace BK230 := Aside0.mk (blk_below (g := gb230) (o := .cells #[.slice Ao10 t223.length co10, .slice Ao14 t226.length co14] 60 (0, 0)) BK230.out hb); clear hb hbox hg; obtain ⟨Ao17, co17, eo17⟩ := Kd.R_slice HO233.out; subst eo17; have hnb18 := NB238_221.out; have hnc18 := NB221_238.out; have hnb19 := NB238_222.out; have hnc19 := NB222_238.out; have hnb20 := NB238_230.out; have hnc20 := NB230_238.out; have hcz21_0 : w16.cell? ⟨gb238, 0, none⟩ = some (.slice none 0 0) := (blk_cell BK238.out 0).trans rfl; have hcz21_1 : w16.cell? ⟨gb238, 1, none⟩ = some (.slice none 0 0) := (blk_cell BK238.out 1).trans rfl; have hfz21_0 := blk_frozen BK238.out 0; have hfz21_1 := blk_frozen BK238.out 1; obtain ⟨Ao22, co22, eo22⟩ := Kd.R_slice HO236.out; subst eo22))
  have n0_ : Aside0 (Kd.R Kd.bool 4 ((w16.setCell ⟨gb238, 0, none⟩ (.slice Ao17 t231.length co17)).setCell ⟨gb238, 1, none⟩ (.slice Ao22 t234.length co22)) w.heap.size (fun k_ => some k_ ≠ (.slice Ao14 t226.length co14 : Value).ownBlock ∧ some k_ ≠ (.slice Ao17 t231.length co17 : Value).ownBlock ∧ some k_ ≠ (.slice Ao22 t234.length co22 : Value).ownBlock) (.slice Ao10 t223.length co10) t223) := ⟨by exact Kd.R_mono (Kd.R_far (p := ⟨gb238, 1, none⟩) (Kd.R_far (p := ⟨gb238, 0, none⟩) (Kd.R_types HO225.out BK238.out (by decide)) (fun _ hk => hk.2) (.slice Ao17 t231.length co17)) (fun _ hk => hk.2) (.slice Ao22 t234.length co22)) (fun _ hk => ⟨hk.1.1.1, ⟨hk.1.1.2, hk.1.2⟩⟩)⟩
  have n1_ : Aside0 (Kd.R Kd.bool 4 ((w16.setCell ⟨gb238, 0, none⟩ (.slice Ao17 t231.length co17)).setCell ⟨gb238, 1, none⟩ (.slice Ao22 t234.length co22)) w.heap.size (fun k_ => some k_ ≠ (.slice Ao10 t223.length co10 : Value).ownBlock ∧ some k_ ≠ (.slice Ao17 t231.length co17 : Value).ownBlock ∧ some k_ ≠ (.slice Ao22 t234.length co22 : Value).ownBlock) (.slice Ao14 t226.length co14) t226) := ⟨by exact Kd.R_mono (Kd.R_far (p := ⟨gb238, 1, none⟩) (Kd.R_far (p := ⟨gb238, 0, none⟩) (Kd.R_types HO228.out BK238.out (by decide)) (fun _ hk => hk.2) (.slice Ao17 t231.length co17)) (fun _ hk => hk.2) (.slice Ao22 t234.length co22)) (fun _ hk => ⟨hk.1.1.1, ⟨hk.1.1.2, hk.1.2⟩⟩)⟩
  have n2_ : Aside0 (Kd.R Kd.bool 4 ((w16.setCell ⟨gb238, 0, none⟩ (.slice Ao17 t231.length co17)).setCell ⟨gb238, 1, none⟩ (.slice Ao22 t234.length co22)) w.heap.size (fun k_ => some k_ ≠ (.slice Ao10 t223.length co10 : Value).ownBlock ∧ some k_ ≠ (.slice Ao14 t226.length co14 : Value).ownBlock ∧ some k_ ≠ (.slice Ao22 t234.length co22 : Value).ownBlock) (.slice Ao17 t231.length co17) t231) := ⟨by exact Kd.R_mono (Kd.R_far (p := ⟨gb238, 1, none⟩) (Kd.R_far (p := ⟨gb238, 0, none⟩) (Kd.R_types HO233.out BK238.out (by decide)) (fun _ hk => hk.2) (.slice Ao17 t231.length co17)) (fun _ hk => hk.2) (.slice Ao22 t234.length co22)) (fun _ hk => ⟨hk.1.1.2, ⟨hk.1.2, hk.1.1.1⟩⟩)⟩
  have n3_ : Aside0 (Kd.R Kd.bool 4 ((w16.setCell ⟨gb238, 0, none⟩ (.slice Ao17 t231.length co17)).setCell ⟨gb238, 1, none⟩ (.slice Ao22 t234.length co22)) w.heap.size (fun k_ => some k_ ≠ (.slice Ao10 t223.length co10 : Value).ownBlock ∧ some k_ ≠ (.slice Ao14 t226.length co14 : Value).ownBlock ∧ some k_ ≠ (.slice Ao17 t231.length co17 : Value).ownBlock) (.slice Ao22 t234.length co22) t234) := ⟨by exact Kd.R_mono (Kd.R_far (p := ⟨gb238, 1, none⟩) (Kd.R_far (p := ⟨gb238, 0, none⟩) (Kd.R_types HO236.out BK238.out (by decide)) (fun _ hk => hk.2) (.slice Ao17 t231.length co17)) (fun _ hk => hk.2) (.slice Ao22 t234.length co22)) (fun _ hk => ⟨hk.1.1.2, ⟨hk.1.2, hk.1.1.1⟩⟩)⟩
  have n4_ : Aside0 (((w16.setCell ⟨gb238, 0, none⟩ (.slice Ao17 t231.length co17)).setCell ⟨gb238, 1, none⟩ (.slice Ao22 t234.length co22)).heap[gb221]? = some (.cells #[.slice none 0 0, .slice none 0 0] 60 (0, 0))) := ⟨by refine blk_far ?_ NB221_238.out _; refine blk_far ?_ NB221_238.out _; exact BK221.out⟩
  have n5_ : Aside0 (((w16.setCell ⟨gb238, 0, none⟩ (.slice Ao17 t231.length co17)).setCell ⟨gb238, 1, none⟩ (.slice Ao22 t234.length co22)).heap[gb222]? = some (.cells #[.slice none 0 0, .slice none 0 0] 60 (0, 0))) := ⟨by refine blk_far ?_ NB222_238.out _; refine blk_far ?_ NB222_238.out _; exact BK222.out⟩
  have n6_ : Aside0 (((w16.setCell ⟨gb238, 0, none⟩ (.slice Ao17 t231.length co17)).setCell ⟨gb238, 1, none⟩ (.slice Ao22 t234.length co22)).heap[gb230]? = some (.cells #[.slice Ao10 t223.length co10, .slice Ao14 t226.length co14] 60 (0, 0))) := ⟨by refine blk_far ?_ NB230_238.out _; refine blk_far ?_ NB230_238.out _; exact BK230.out⟩
  have n7_ : Aside0 (((w16.setCell ⟨gb238, 0, none⟩ (.slice Ao17 t231.length co17)).setCell ⟨gb238, 1, none⟩ (.slice Ao22 t234.length co22)).heap[gb238]? = some (.cells #[.slice Ao17 t231.length co17, .slice Ao22 t234.length co22] 60 (0, 0))) := ⟨by refine blk_put (cs := #[.slice Ao17 t231.length co17, .slice none 0 0]) ?_ 1 _ rfl; refine blk_put (cs := #[.slice none 0 0, .slice none 0 0]) ?_ 0 _ rfl; exact BK238.out⟩
  have n8_ : Aside0 (Below w.heap.size w ((w16.setCell ⟨gb238, 0, none⟩ (.slice Ao17 t231.length co17)).setCell ⟨gb238, 1, none⟩ (.slice Ao22 t234.length co22))) := ⟨by repeat (first | (with_reducible first | exact HB.out | refine below_set ?_ GE238.out))⟩
  (try clear HO225)
  (try clear HO228)
  (try clear HO233)
  (try clear HO236)
  (try clear BK221)
  (try clear BK222)
  (try clear BK230)
  (try clear BK238)
  (try clear HB)
  generalize ((w16.setCell ⟨gb238, 0, none⟩ (.slice Ao17 t231.length co17)).setCell ⟨gb238, 1, none⟩ (.slice Ao22 t234.length co22)) = w23 at n0_ n1_ n2_ n3_ n4_ n5_ n6_ n7_ n8_ ⊢
  have HO225 := n0_
  have HO228 := n1_
  have HO233 := n2_
  have HO236 := n3_
  have BK221 := n4_
  have BK222 := n5_
  have BK230 := n6_
  have BK238 := n7_
  have HB := n8_
  clear n0_ n1_ n2_ n3_ n4_ n5_ n6_ n7_ n8_
  replace HO225 := Aside0.mk (Kd.R_drew HO225.out)
  replace HO228 := Aside0.mk (Kd.R_drew HO228.out)
  replace HO233 := Aside0.mk (Kd.R_drew HO233.out)
  replace HO236 := Aside0.mk (Kd.R_drew HO236.out)
  replace BK221 := Aside0.mk (blk_drew BK221.out)
  replace BK222 := Aside0.mk (blk_drew BK222.out)
  replace BK230 := Aside0.mk (blk_drew BK230.out)
  replace BK238 := Aside0.mk (blk_drew BK238.out)
  replace HB := Aside0.mk (below_drew1 HB.out)
  refine start_ (n := 9) (S := fun w' => w'.cell? ⟨gb230, 0, none⟩ = some (.slice Ao10 t223.length co10) ∧ w'.cell? ⟨gb230, 1, none⟩ = some (.slice Ao14 t226.length co14) ∧ w'.cell? ⟨gb238, 0, none⟩ = some (.slice Ao17 t231.length co17) ∧ w'.cell? ⟨gb238, 1, none⟩ = some (.slice Ao22 t234.length co22)) (ds := []) #[false, false, false, false, false, false, false, false, false] (by kernel_rfl) rfl rfl ⟨(blk_cell BK230.out 0).trans rfl, (blk_cell BK230.out 1).trans rfl, (blk_cell BK238.out 0).trans rfl, (blk_cell BK238.out 1).trans rfl⟩ (fun hHeld => ?_); refine with_tabW impl_two.tab3 impl_two.bits3 (fun HT_ HW_ => ?_)
  generalize w23.drew = w24 at HO225 HO228 HO233 HO236 BK221 BK222 BK230 BK238 HB hHeld ⊢
  refine pure_ (i := 2) (N := some 23) (v := ?_) (a' := ?_) #[false, false, true, false, false, false, false, false, false] rfl rfl (any_of HT_.out (by kernel_rfl)) (fun _ _ _ h => h) (Or.inl ⟨by rfl, ?_⟩) ?_ ?_
  rotate_left
  ·intro w'
   go_simp
   with_reducible rfl
  rotate_left
  ·simp only [Act.put, List.setIfInBounds_toArray, List.set_cons_zero, List.set_cons_succ, i64_w, i32_w]
   rfl
  refine pure_ (i := 3) (N := some 24) (v := ?_) (a' := ?_) #[false, false, true, true, false, false, false, false, false] rfl rfl (any_of HT_.out (by kernel_rfl)) (fun _ _ _ h => h) (Or.inl ⟨by rfl, ?_⟩) ?_ ?_
  rotate_left
  ·intro w'
   go_simp
   with_reducible rfl
  rotate_left
  ·simp only [Act.put, List.setIfInBounds_toArray, List.set_cons_zero, List.set_cons_succ, i64_w, i32_w]
   rfl
  first
  |refine pure_ (i := 4) (N := some 25) (v := ?_) (a' := ?_) #[false, false, true, true, true, false, false, false, false] rfl rfl (any_of HT_.out (by kernel_rfl)) (fun _ _ _ h => h) (Or.inl ⟨by rfl, ?_⟩) ?_ ?_
   rotate_left
   ·intro w'
    go_simp
    with_reducible rfl
  |refine pure_ (i := 4) (N := some 25) (v := undef) (a' := ?_) #[false, false, true, true, true, false, false, false, false] rfl rfl (any_of HT_.out (by kernel_rfl)) (fun _ _ _ h => h) (Or.inr ⟨by rfl, rfl⟩) ?_ ?_
  rotate_left
  ·simp only [Act.put, List.setIfInBounds_toArray, List.set_cons_zero, List.set_cons_succ, i64_w, i32_w]
   rfl
  refine pure_ (i := 5) (N := some 26) (v := ?_) (a' := ?_) #[false, false, true, true, true, true, false, false, false] rfl rfl (any_of HT_.out (by kernel_rfl)) (fun _ _ _ h => h) (Or.inl ⟨by rfl, ?_⟩) ?_ ?_
  rotate_left
  ·intro w'
   go_simp
   with_reducible rfl
  rotate_left
  ·simp only [Act.put, List.setIfInBounds_toArray, List.set_cons_zero, List.set_cons_succ, i64_w, i32_w]
   rfl
  refine take_ (i := 0) (N := some 21) (v := ?_) (a' := ?_) #[true, false, true, true, true, true, false, false, false] rfl rfl (take_ofW HT_.out HW_.out (by kernel_rfl)) (fun _ _ _ h => h) (Or.inl ⟨by rfl, ?_⟩) hHeld ?_ ?_
  rotate_left
  ·rintro w' ⟨s0, s1, s2, s3⟩
   go_simp
   with_reducible rfl
  rotate_left
  ·simp only [Act.put, List.setIfInBounds_toArray, List.set_cons_zero, List.set_cons_succ, i64_w, i32_w]
   rfl
  refine take_ (i := 1) (N := some 22) (v := ?_) (a' := ?_) #[true, true, true, true, true, true, false, false, false] rfl rfl (take_ofW HT_.out HW_.out (by kernel_rfl)) (fun _ _ _ h => h) (Or.inl ⟨by rfl, ?_⟩) hHeld ?_ ?_
  rotate_left
  ·rintro w' ⟨s0, s1, s2, s3⟩
   go_simp
   with_reducible rfl
  rotate_left
  ·simp only [Act.put, List.setIfInBounds_toArray, List.set_cons_zero, List.set_cons_succ, i64_w, i32_w]
   rfl
  refine one_ (i := 6) (N := none) #[true, true, true, true, true, true, true, false, false] rfl rfl (one_of HT_.out (by kernel_rfl)) (by decide) (fun K hK => ?_)
  have hs25 : w24.cell? ⟨gb221, 0, none⟩ = some (.slice none 0 0) := (blk_cell BK221.out 0).trans rfl
  have hfs25 := blk_frozen BK221.out 0
  have hns25_1 := NB222_221.out
  have hns25_2 := NB230_221.out
  have hns25_3 := NB238_221.out
  have hms25_1 := NB221_222.out
  have hms25_2 := NB221_230.out
  have hms25_3 := NB221_238.out
  have hs26 : w24.cell? ⟨gb221, 1, none⟩ = some (.slice none 0 0) := (blk_cell BK221.out 1).trans rfl
  have hfs26 := blk_frozen BK221.out 1
  have hns26_1 := NB222_221.out
  have hns26_2 := NB230_221.out
  have hns26_3 := NB238_221.out
  have hms26_1 := NB221_222.out
  have hms26_2 := NB221_230.out
  have hms26_3 := NB221_238.out
  refine skip_ (w1 := ?_) (by rfl) rfl ?_ ?_
  rotate_left
  ·go_simp
   rfl
  refine hK.out _ _ ⟨((cell_far (p := ⟨gb221, _, none⟩) NB230_221.out _).trans (((cell_far (p := ⟨gb221, _, none⟩) NB230_221.out _).trans (hHeld.1)))), ((cell_far (p := ⟨gb221, _, none⟩) NB230_221.out _).trans (((cell_far (p := ⟨gb221, _, none⟩) NB230_221.out _).trans (hHeld.2.1)))), ((cell_far (p := ⟨gb221, _, none⟩) NB238_221.out _).trans (((cell_far (p := ⟨gb221, _, none⟩) NB238_221.out _).trans (hHeld.2.2.1)))), ((cell_far (p := ⟨gb221, _, none⟩) NB238_221.out _).trans (((cell_far (p := ⟨gb221, _, none⟩) NB238_221.out _).trans (hHeld.2.2.2))))⟩ (fun hHeld => ?_)
  clear hK K
  refine one_ (i := 7) (N := none) #[true, true, true, true, true, true, true, true, false] rfl rfl (one_of HT_.out (by kernel_rfl)) (by decide) (fun K hK => ?_)
  have hs27 : w24.cell? ⟨gb222, 0, none⟩ = some (.slice none 0 0) := (blk_cell BK222.out 0).trans rfl
  have hfs27 := blk_frozen BK222.out 0
  have hns27_0 := NB221_222.out
  have hns27_2 := NB230_222.out
  have hns27_3 := NB238_222.out
  have hms27_0 := NB222_221.out
  have hms27_2 := NB222_230.out
  have hms27_3 := NB222_238.out
  have hs28 : w24.cell? ⟨gb222, 1, none⟩ = some (.slice none 0 0) := (blk_cell BK222.out 1).trans rfl
  have hfs28 := blk_frozen BK222.out 1
  have hns28_0 := NB221_222.out
  have hns28_2 := NB230_222.out
  have hns28_3 := NB238_222.out
  have hms28_0 := NB222_221.out
  have hms28_2 := NB222_230.out
  have hms28_3 := NB222_238.out
  refine skip_ (w1 := ?_) (by rfl) rfl ?_ ?_
  rotate_left
  ·go_simp
   rfl
  refine hK.out _ _ ⟨((cell_far (p := ⟨gb222, _, none⟩) NB230_222.out _).trans (((cell_far (p := ⟨gb222, _, none⟩) NB230_222.out _).trans (hHeld.1)))), ((cell_far (p := ⟨gb222, _, none⟩) NB230_222.out _).trans (((cell_far (p := ⟨gb222, _, none⟩) NB230_222.out _).trans (hHeld.2.1)))), ((cell_far (p := ⟨gb222, _, none⟩) NB238_222.out _).trans (((cell_far (p := ⟨gb222, _, none⟩) NB238_222.out _).trans (hHeld.2.2.1)))), ((cell_far (p := ⟨gb222, _, none⟩) NB238_222.out _).trans (((cell_far (p := ⟨gb222, _, none⟩) NB238_222.out _).trans (hHeld.2.2.2))))⟩ (fun hHeld => ?_)
  clear hK K
  refine pure_ (i := 8) (N := some 6) (v := ?_) (a' := ?_) #[true, true, true, true, true, true, true, true, true] rfl rfl (any_of HT_.out (by kernel_rfl)) (fun _ _ _ h => h) (Or.inl ⟨by rfl, ?_⟩) ?_ ?_
  rotate_left
  ·intro w'
   go_simp
   with_reducible rfl
  rotate_left
  ·simp only [Act.put, List.setIfInBounds_toArray, List.set_cons_zero, List.set_cons_succ, i64_w, i32_w]
   rfl
  refine done_ (done_of HT_.out (by kernel_rfl)) ?_
  try go_wp2
  refine bodyPost_ret (results_list (rs := [.cell 4 60, .cell 5 60, .tmp 6]) rfl (by simp) (.cell gb221 60 #[.slice Ao10 t223.length co10, .slice Ao14 t226.length co14] (0, 0) _ rfl (by refine blk_far ?_ NB221_222.out _; refine blk_far ?_ NB221_222.out _; refine blk_put (cs := #[.slice Ao10 t223.length co10, .slice none 0 0]) ?_ 1 _ rfl; refine blk_put (cs := #[.slice none 0 0, .slice none 0 0]) ?_ 0 _ rfl; exact BK221.out) Try.underlying60 rfl (by kernel_rfl) (.cell gb222 60 #[.slice Ao17 t231.length co17, .slice Ao22 t234.length co22] (0, 0) _ rfl (by refine blk_put (cs := #[.slice Ao17 t231.length co17, .slice none 0 0]) ?_ 1 _ rfl; refine blk_put (cs := #[.slice none 0 0, .slice none 0 0]) ?_ 0 _ rfl; refine blk_far ?_ NB222_221.out _; refine blk_far ?_ NB222_221.out _; exact BK222.out) Try.underlying60 rfl (by kernel_rfl) (.tmp .nil)))) rfl ?_
  exact ⟨_, _, _, _, by first | rfl | (simp [*, errW_none, errW_some] <;> rfl), by exact Kd.R_mono (Kd.R_far (p := ⟨gb222, 1, none⟩) (Kd.R_far (p := ⟨gb222, 0, none⟩) (Kd.R_far (p := ⟨gb221, 1, none⟩) (Kd.R_far (p := ⟨gb221, 0, none⟩) (Kd.R_types (Kd.R_types HO225.out BK221.out (by decide)) BK222.out (by decide)) (fun _ hk => hk.1.2) (.slice Ao10 t223.length co10)) (fun _ hk => hk.1.2) (.slice Ao14 t226.length co14)) (fun _ hk => hk.2) (.slice Ao17 t231.length co17)) (fun _ hk => hk.2) (.slice Ao22 t234.length co22)) (fun _ hk => ⟨hk.1.1.1, ⟨hk.1.1.2.1, hk.1.1.2.2⟩⟩), by exact Kd.R_mono (Kd.R_far (p := ⟨gb222, 1, none⟩) (Kd.R_far (p := ⟨gb222, 0, none⟩) (Kd.R_far (p := ⟨gb221, 1, none⟩) (Kd.R_far (p := ⟨gb221, 0, none⟩) (Kd.R_types (Kd.R_types HO228.out BK221.out (by decide)) BK222.out (by decide)) (fun _ hk => hk.1.2) (.slice Ao10 t223.length co10)) (fun _ hk => hk.1.2) (.slice Ao14 t226.length co14)) (fun _ hk => hk.2) (.slice Ao17 t231.length co17)) (fun _ hk => hk.2) (.slice Ao22 t234.length co22)) (fun _ hk => ⟨hk.1.1.1, ⟨hk.1.1.2.1, hk.1.1.2.2⟩⟩), by exact Kd.R_mono (Kd.R_far (p := ⟨gb222, 1, none⟩) (Kd.R_far (p := ⟨gb222, 0, none⟩) (Kd.R_far (p := ⟨gb221, 1, none⟩) (Kd.R_far (p := ⟨gb221, 0, none⟩) (Kd.R_types (Kd.R_types HO233.out BK221.out (by decide)) BK222.out (by decide)) (fun _ hk => hk.1.2) (.slice Ao10 t223.length co10)) (fun _ hk => hk.1.2) (.slice Ao14 t226.length co14)) (fun _ hk => hk.2) (.slice Ao17 t231.length co17)) (fun _ hk => hk.2) (.slice Ao22 t234.length co22)) (fun _ hk => ⟨hk.1.1.1, ⟨hk.1.1.2.1, hk.1.1.2.2⟩⟩), by exact Kd.R_mono (Kd.R_far (p := ⟨gb222, 1, none⟩) (Kd.R_far (p := ⟨gb222, 0, none⟩) (Kd.R_far (p := ⟨gb221, 1, none⟩) (Kd.R_far (p := ⟨gb221, 0, none⟩) (Kd.R_types (Kd.R_types HO236.out BK221.out (by decide)) BK222.out (by decide)) (fun _ hk => hk.1.2) (.slice Ao10 t223.length co10)) (fun _ hk => hk.1.2) (.slice Ao14 t226.length co14)) (fun _ hk => hk.2) (.slice Ao17 t231.length co17)) (fun _ hk => hk.2) (.slice Ao22 t234.length co22)) (fun _ hk => ⟨hk.1.1.1, ⟨hk.1.1.2.1, hk.1.1.2.2⟩⟩), by repeat (first | (with_reducible first | exact HB.out | refine below_set ?_ GE221.out | refine below_set ?_ GE222.out))⟩


def impl_in.f (a0 : Int) (a1 : Int) (a2 : Int) : Option (Bool) := if a0 ≥ a1 then (some (decide (a0 ≤ a2))) else (some false)
set_option maxHeartbeats 8000000 in
set_option maxRecDepth 100000 in
theorem impl_in.calls (a0 : Int) (a1 : Int) (a2 : Int) (r : Bool) (w : World) (h : impl_in.f a0 a1 a2 = some r) :
  Calls Try.prog 55 #[.int .i64 a0, .int .i64 a1, .int .i64 a2] w fun e w' => e = .returned (.bool r) ∧ Drawn0 w w' := by
 have H : (if a0 ≥ a1 then (some (decide (a0 ≤ a2))) else (some false)) = some r := h
 clear h
 by_cases c4 : a0 ≥ a1
 ·rw [if_pos c4] at H
  have c4b0 : decide (a1 ≤ a0) = true := decide_eq_true c4
  clear c4
  obtain rfl := Option.some.inj H
  go_enter Try.func55, Try.ntmps55
  go_wp2
  go_ret
  exact ⟨by first | rfl | (simp [*]; done), by repeat (exact Drawn0.refl _)⟩
 ·rw [if_neg c4] at H
  have c4b0 : decide (a1 ≤ a0) = false := decide_eq_false c4
  clear c4
  obtain rfl := Option.some.inj H
  go_enter Try.func55, Try.ntmps55
  go_wp2
  go_ret
  exact ⟨by first | rfl | (simp [*]; done), by repeat (exact Drawn0.refl _)⟩


def impl_set_has.f (l0_0 : List Bool) (l0_1 : List Bool) (a1 : Int) : Option (Bool) := if a1 < 0 then (some false) else (if a1 < (l0_0.length : Int) then (if 0 ≤ a1 then (some (rdOf false l0_0 a1)) else (none)) else (if (l0_1.length : Int) = 0 then (none) else (if 0 ≤ (Int.tmod (wrap64 (a1 - (l0_0.length : Int))) (l0_1.length : Int)) then (if (Int.tmod (wrap64 (a1 - (l0_0.length : Int))) (l0_1.length : Int)) < (l0_1.length : Int) then (some (rdOf false l0_1 (Int.tmod (wrap64 (a1 - (l0_0.length : Int))) (l0_1.length : Int)))) else (none)) else (none))))
set_option maxHeartbeats 8000000 in
set_option maxRecDepth 100000 in
theorem impl_set_has.calls (A0_0 : Option Addr) (c0_0 : Nat) (l0_0 : List Bool) (A0_1 : Option Addr) (c0_1 : Nat) (l0_1 : List Bool) (a1 : Int) (r : Bool) (w : World) (hr0_0 : Kd.C Kd.bool w A0_0 l0_0.length l0_0) (hc0_0 : l0_0.length ≤ c0_0) (hr0_1 : Kd.C Kd.bool w A0_1 l0_1.length l0_1) (hc0_1 : l0_1.length ≤ c0_1) (h : impl_set_has.f l0_0 l0_1 a1 = some r) :
  Calls Try.prog 61 #[.agg #[.slice A0_0 l0_0.length c0_0, .slice A0_1 l0_1.length c0_1], .int .i64 a1] w fun e w' => e = .returned (.bool r) ∧ Below w.heap.size w w' := by
 have hu60 := Try.underlying60
 have HR0_0 := Aside0.mk hr0_0
 have HC0_0 := Aside0.mk hc0_0
 clear hr0_0 hc0_0
 have HR0_1 := Aside0.mk hr0_1
 have HC0_1 := Aside0.mk hc0_1
 clear hr0_1 hc0_1
 have HB := Aside0.mk (Below.refl w.heap.size w)
 have H : (if a1 < 0 then (some false) else (if a1 < (l0_0.length : Int) then (if 0 ≤ a1 then (some (rdOf false l0_0 a1)) else (none)) else (if (l0_1.length : Int) = 0 then (none) else (if 0 ≤ (Int.tmod (wrap64 (a1 - (l0_0.length : Int))) (l0_1.length : Int)) then (if (Int.tmod (wrap64 (a1 - (l0_0.length : Int))) (l0_1.length : Int)) < (l0_1.length : Int) then (some (rdOf false l0_1 (Int.tmod (wrap64 (a1 - (l0_0.length : Int))) (l0_1.length : Int)))) else (none)) else (none))))) = some r := h
 clear h
 by_cases c3 : a1 < 0
 ·rw [if_pos c3] at H
  have c3b0 : decide (a1 < 0) = true := decide_eq_true c3
  clear c3
  obtain rfl := Option.some.inj H
  go_enter Try.func61, Try.ntmps61
  go_wp2_with (first | ((with_reducible refine gate_dst (N := 2) rfl ?_); refine box_event ?hg (N := 2) ?hd (cs := #[.slice A0_0 l0_0.length c0_0, .slice A0_1 l0_1.length c0_1]) (t := 60) ?hr ?_; (case hd => rfl); (case hg => rfl); (case hr => first | (go_simp; done)); intro gb239 hg w4 hbox hb; have BK239 := Aside0.mk hbox; have GW239 := Aside0.mk ((by rw [hg]; exact (below_size HB.out) : w.heap.size ≤ gb239)); have GE239 := Aside0.mk ((by rw [hg]; exact (below_size HB.out) : w.heap.size ≤ gb239)); replace HB := Aside0.mk (below_step HB.out hb); clear hb hbox hg))
  repeat (go_quiet (fail); try go_wp2_with (fail))
  go_ret
  exact ⟨by first | rfl | (simp [*, errW_none, errW_some] <;> rfl), HB.out⟩
 ·rw [if_neg c3] at H
  have c3b0 : decide (a1 < 0) = false := decide_eq_false c3
  clear c3
  by_cases c5 : a1 < (l0_0.length : Int)
  ·rw [if_pos c5] at H
   have c5b0 : decide (a1 < (l0_0.length : Int)) = true := decide_eq_true c5
   clear c5
   by_cases c6 : 0 ≤ a1
   ·rw [if_pos c6] at H
    have c6b0 : decide (0 ≤ a1) = true := decide_eq_true c6
    clear c6
    obtain rfl := Option.some.inj H
    go_enter Try.func61, Try.ntmps61
    go_wp2_with (first | ((with_reducible refine gate_dst (N := 2) rfl ?_); refine box_event ?hg (N := 2) ?hd (cs := #[.slice A0_0 l0_0.length c0_0, .slice A0_1 l0_1.length c0_1]) (t := 60) ?hr ?_; (case hd => rfl); (case hg => rfl); (case hr => first | (go_simp; done)); intro gb239 hg w7 hbox hb; have BK239 := Aside0.mk hbox; have GW239 := Aside0.mk ((by rw [hg]; exact (below_size HB.out) : w.heap.size ≤ gb239)); have GE239 := Aside0.mk ((by rw [hg]; exact (below_size HB.out) : w.heap.size ≤ gb239)); replace HB := Aside0.mk (below_step HB.out hb); clear hb hbox hg; have hcz8_0 : w7.cell? ⟨gb239, 0, none⟩ = some (.slice A0_0 l0_0.length c0_0) := (blk_cell BK239.out 0).trans rfl; have hcz8_1 : w7.cell? ⟨gb239, 1, none⟩ = some (.slice A0_1 l0_1.length c0_1) := (blk_cell BK239.out 1).trans rfl; have hfz8_0 := blk_frozen BK239.out 0; have hfz8_1 := blk_frozen BK239.out 1; have p240 : 0 ≤ (a1 : Int) := of_decide_eq_true (by (with_reducible assumption)); have q240 : a1 < (l0_0.length : Int) := of_decide_eq_true (by (with_reducible assumption)); obtain ⟨ad240, e240, hx240_0⟩ := Kd.at_bool HR0_0.out a1 p240 q240; cases e240; replace hx240_0 := (HB.out.cell (World.block_lt_of_cell? w _ hx240_0)).trans hx240_0; replace p240 := eq_true p240; replace q240 := eq_true q240))
    repeat (go_quiet (fail); try go_wp2_with (fail))
    go_ret
    exact ⟨by first | rfl | (simp [*, errW_none, errW_some] <;> rfl), HB.out⟩
   ·rw [if_neg c6] at H
    exact absurd H (by simp)
  ·rw [if_neg c5] at H
   have c5b0 : decide (a1 < (l0_0.length : Int)) = false := decide_eq_false c5
   clear c5
   by_cases c9 : (l0_1.length : Int) = 0
   ·rw [if_pos c9] at H
    exact absurd H (by simp)
   ·rw [if_neg c9] at H
    have c9b0 : ((l0_1.length : Int) == 0) = false := beq_eq_false_iff_ne.mpr c9
    have c9b1 : ((l0_1.length : Int) != 0) = true := bne_iff_ne.mpr c9
    have c9b2 : ¬ (l0_1 = []) := fun h_ => c9 (by rw [h_]; rfl)
    obtain ⟨ji10, hji10⟩ : ∃ j_ : Int, (Int.tmod (wrap64 (a1 - (l0_0.length : Int))) (l0_1.length : Int)) = j_ := ⟨_, rfl⟩
    replace H : (if 0 ≤ (ji10) then (if (ji10) < (l0_1.length : Int) then (some (rdOf false l0_1 (ji10))) else (none)) else (none)) = some r := by first | (rw [hji10] at H; exact H)
    by_cases c11 : 0 ≤ (ji10)
    ·rw [if_pos c11] at H
     have c11b0 : decide (0 ≤ (ji10)) = true := decide_eq_true c11
     clear c11
     by_cases c12 : (ji10) < (l0_1.length : Int)
     ·rw [if_pos c12] at H
      have c12b0 : decide ((ji10) < (l0_1.length : Int)) = true := decide_eq_true c12
      clear c12
      obtain rfl := Option.some.inj H
      go_enter Try.func61, Try.ntmps61
      go_wp2_with (first | ((with_reducible refine gate_dst (N := 2) rfl ?_); refine box_event ?hg (N := 2) ?hd (cs := #[.slice A0_0 l0_0.length c0_0, .slice A0_1 l0_1.length c0_1]) (t := 60) ?hr ?_; (case hd => rfl); (case hg => rfl); (case hr => first | (go_simp; done)); intro gb239 hg w13 hbox hb; have BK239 := Aside0.mk hbox; have GW239 := Aside0.mk ((by rw [hg]; exact (below_size HB.out) : w.heap.size ≤ gb239)); have GE239 := Aside0.mk ((by rw [hg]; exact (below_size HB.out) : w.heap.size ≤ gb239)); replace HB := Aside0.mk (below_step HB.out hb); clear hb hbox hg; have hcz14_0 : w13.cell? ⟨gb239, 0, none⟩ = some (.slice A0_0 l0_0.length c0_0) := (blk_cell BK239.out 0).trans rfl; have hcz14_1 : w13.cell? ⟨gb239, 1, none⟩ = some (.slice A0_1 l0_1.length c0_1) := (blk_cell BK239.out 1).trans rfl; have hfz14_0 := blk_frozen BK239.out 0; have hfz14_1 := blk_frozen BK239.out 1; have p241 : 0 ≤ ((ji10) : Int) := of_decide_eq_true (by (with_reducible assumption)); have q241 : (ji10) < (l0_1.length : Int) := of_decide_eq_true (by (with_reducible assumption)); obtain ⟨ad241, e241, hx241_0⟩ := Kd.at_bool HR0_1.out (ji10) p241 q241; cases e241; replace hx241_0 := (HB.out.cell (World.block_lt_of_cell? w _ hx241_0)).trans hx241_0; replace p241 := eq_true p241; replace q241 := eq_true q241))
      repeat (go_quiet (fail); try go_wp2_with (fail))
      go_ret
      exact ⟨by first | rfl | (simp [*, errW_none, errW_some] <;> rfl), by repeat (first | (with_reducible first | exact HB.out | apply pw_below_drewN))⟩
     ·rw [if_neg c12] at H
      exact absurd H (by simp)
    ·rw [if_neg c11] at H
     exact absurd H (by simp)


mutual
def impl_star.l0 : Nat → List Bool → Int → Int → List Bool → List Bool → Option (List Bool)
 | 0, _, _, _, _, _ => none
 | k + 1, x5, x11, x12, x243000, x243001 => if x12 < x11 then (if 0 ≤ x12 then (if x12 < (x5.length : Int) then (impl_star.l1 k (x5.set (x12 : Int).toNat (x12 == 0)) x12 1 x11 x12 x243000 x243001) else (none)) else (none)) else (some x5)
def impl_star.l1 : Nat → List Bool → Int → Int → Int → Int → List Bool → List Bool → Option (List Bool)
 | 0, _, _, _, _, _, _, _ => none
 | k + 1, x5, x6, x7, x11, x12, x243000, x243001 => if x7 ≤ x6 then (if 0 ≤ x6 then (if x6 < (x5.length : Int) then (if rdOf false x5 x6 = true then (impl_star.l0 k x5 x11 (wrap64 (x12 + 1)) x243000 x243001) else ((impl_set_has.f x243000 x243001 x7).bind fun t248 => (if t248 = true then (if 0 ≤ (wrap64 (x6 - x7)) then (if (wrap64 (x6 - x7)) < (x5.length : Int) then (impl_star.l1 k (x5.set (x6 : Int).toNat (rdOf false x5 (wrap64 (x6 - x7)))) x6 (wrap64 (x7 + 1)) x11 x12 x243000 x243001) else (none)) else (none)) else (impl_star.l1 k (x5.set (x6 : Int).toNat false) x6 (wrap64 (x7 + 1)) x11 x12 x243000 x243001)))) else (none)) else (none)) else (impl_star.l0 k x5 x11 (wrap64 (x12 + 1)) x243000 x243001)
end
def impl_star.f (k : Nat) (l0_0 : List Bool) (l0_1 : List Bool) (a1 : Int) : Option (List Bool) := if 0 ≤ a1 then (if (a1 : Int).toNat ≤ 281474976710656 then ((some (List.replicate (a1 : Int).toNat false : List Bool)).bind fun y243 => (impl_star.l0 k y243 (y243.length : Int) 0 l0_0 l0_1)) else (none)) else (none)
theorem impl_star.mono_l : ∀ k, (∀ y0 y1 y2 y3 y4, LeO (impl_star.l0 k y0 y1 y2 y3 y4) (impl_star.l0 (k + 1) y0 y1 y2 y3 y4)) ∧ (∀ y0 y1 y2 y3 y4 y5 y6, LeO (impl_star.l1 k y0 y1 y2 y3 y4 y5 y6) (impl_star.l1 (k + 1) y0 y1 y2 y3 y4 y5 y6))
 | 0 => ⟨fun _ _ _ _ _ r h => by simp [impl_star.l0] at h, fun _ _ _ _ _ _ _ r h => by simp [impl_star.l1] at h⟩
 | k + 1 => by
  obtain ⟨ih0, ih1⟩ := impl_star.mono_l k
  refine ⟨?_, ?_⟩
  ·intro y0 y1 y2 y3 y4
   unfold impl_star.l0
   repeat' first | (with_reducible exact ih1 _ _ _ _ _ _ _) | (with_reducible exact LeO.refl _) | (with_reducible refine LeO.ite ?_ ?_)
  ·intro y0 y1 y2 y3 y4 y5 y6
   unfold impl_star.l1
   repeat' first | (with_reducible exact ih0 _ _ _ _ _) | (with_reducible exact ih1 _ _ _ _ _ _ _) | (with_reducible exact LeO.refl _) | (with_reducible refine LeO.ite ?_ ?_) | (with_reducible refine LeO.bind ?_ (fun _ => ?_))
theorem impl_star.mono : ∀ a0 a1 a2 k, LeO (impl_star.f k a0 a1 a2) (impl_star.f (k + 1) a0 a1 a2) := by
 intro a0 a1 a2 k
 obtain ⟨ih0, ih1⟩ := impl_star.mono_l k
 unfold impl_star.f
 repeat' first | (with_reducible exact ih0 _ _ _ _ _) | (with_reducible exact LeO.refl _) | (with_reducible refine LeO.ite ?_ ?_) | (with_reducible refine LeO.bind ?_ (fun _ => ?_))
set_option maxHeartbeats 8000000 in
set_option maxRecDepth 100000 in
theorem impl_star.calls (k : Nat) (A0_0 : Option Addr) (c0_0 : Nat) (l0_0 : List Bool) (A0_1 : Option Addr) (c0_1 : Nat) (l0_1 : List Bool) (a1 : Int) (r : List Bool) (w : World) (hr0_0 : Kd.C Kd.bool w A0_0 l0_0.length l0_0) (hc0_0 : l0_0.length ≤ c0_0) (hr0_1 : Kd.C Kd.bool w A0_1 l0_1.length l0_1) (hc0_1 : l0_1.length ≤ c0_1) (h : impl_star.f k l0_0 l0_1 a1 = some r) :
  Calls Try.prog 70 #[.agg #[.slice A0_0 l0_0.length c0_0, .slice A0_1 l0_1.length c0_1], .int .i64 a1] w fun e w' => ∃ v0_ : Value, e = .returned (v0_) ∧ Kd.R Kd.bool 4 w' w.heap.size (fun _ => True) v0_ r ∧ Below w.heap.size w w' := by
 have hu60 := Try.underlying60
 have HR0_0 := Aside0.mk hr0_0
 have HC0_0 := Aside0.mk hc0_0
 clear hr0_0 hc0_0
 have HR0_1 := Aside0.mk hr0_1
 have HC0_1 := Aside0.mk hc0_1
 clear hr0_1 hc0_1
 have HB := Aside0.mk (Below.refl w.heap.size w)
 have H : (if 0 ≤ a1 then (if (a1 : Int).toNat ≤ 281474976710656 then ((some (List.replicate (a1 : Int).toNat false : List Bool)).bind fun y243 => (impl_star.l0 k y243 (y243.length : Int) 0 l0_0 l0_1)) else (none)) else (none)) = some r := h
 clear h
 by_cases c3 : 0 ≤ a1
 ·rw [if_pos c3] at H
  have c3b0 := eq_true c3
  have c3b1 : decide (0 ≤ a1) = true := decide_eq_true c3
  clear c3
  by_cases c4 : (a1 : Int).toNat ≤ 281474976710656
  ·rw [if_pos c4] at H
   have c4b0 := eq_true c4
   have c4b1 : decide ((a1 : Int).toNat ≤ 281474976710656) = true := decide_eq_true c4
   clear c4
   obtain ⟨y243, hy243⟩ : ∃ y_ : List Bool, y_ = (List.replicate (a1 : Int).toNat false) := ⟨_, rfl⟩
   replace H : (impl_star.l0 k y243 (y243.length : Int) 0 l0_0 l0_1) = some r := by first | (have H2_ := (Option.bind_some _ _).symm.trans H; rw [hy243]; with_reducible exact H2_)
   have Ny243 := Aside0.mk hy243
   clear hy243
   have H' := Aside0.mk H
   clear H
   go_enter Try.func70, Try.ntmps70
   go_wp2_with (first | ((with_reducible refine gate_dst (N := 2) rfl ?_); refine box_event ?hg (N := 2) ?hd (cs := #[.slice A0_0 l0_0.length c0_0, .slice A0_1 l0_1.length c0_1]) (t := 60) ?hr ?_; (case hd => rfl); (case hg => rfl); (case hr => first | (go_simp; done)); intro gb242 hg w5 hbox hb; have BK242 := Aside0.mk hbox; have GW242 := Aside0.mk ((by rw [hg]; exact (below_size HB.out) : w.heap.size ≤ gb242)); have GE242 := Aside0.mk ((by rw [hg]; exact (below_size HB.out) : w.heap.size ≤ gb242)); replace HB := Aside0.mk (below_step HB.out hb); clear hb hbox hg) | ((with_reducible refine gate_dst (N := 9) rfl ?_); refine Kd.R_make Kd.bool _ 4 rfl (N := 9) rfl 58 _ _ rfl a1 rfl rfl Try.underlying58 (.bool false) 1 info4 rfl (by decide) (by omega) false (ok := fun _ => True) (okp := fun _ => True) rfl (fun _ hk => hk) trivial (of_decide_eq_true (by (with_reducible assumption))) (Nat.le_trans (Nat.mul_le_mul_right _ (of_decide_eq_true (by (with_reducible assumption)) : a1.toNat ≤ 281474976710656)) (by omega)) (Below.refl _ _) (Nat.le_refl _) ?_; intro v244 w6 ho7 hb hg_ hnew_; clear hg_ hnew_; (rw [← Ny243.out] at ho7); have HO245 := Aside0.mk (Kd.R_lower ho7 (below_size HB.out)); replace BK242 := Aside0.mk (blk_below (g := gb242) (o := .cells #[.slice A0_0 l0_0.length c0_0, .slice A0_1 l0_1.length c0_1] 60 (0, 0)) BK242.out hb); replace HB := Aside0.mk (below_step HB.out hb); clear hb ho7; obtain ⟨Ao8, co8, eo8⟩ := Kd.R_slice HO245.out; subst eo8))
   go_loopg [12] k (fun kq v12 w' => ∃ (x5_1 : List Bool) (x12_1 : Int), v12 = .int .i64 x12_1 ∧ Aside0 (impl_star.l0 kq x5_1 (y243.length : Int) x12_1 l0_0 l0_1 = some r) ∧ Aside0 (kq ≤ k) ∧ Aside0 (Kd.R Kd.bool 4 w' w.heap.size (fun _ => True) (.slice Ao8 y243.length co8) x5_1) ∧ Aside0 (w'.heap[gb242]? = some (.cells #[(.slice A0_0 l0_0.length c0_0), (.slice A0_1 l0_1.length c0_1)] 60 (0, 0))) ∧ Aside0 (Below w.heap.size w w'))
   case atStart => exact ⟨(y243), (0), (by rfl), H', ⟨Nat.le_refl _⟩, ⟨by exact HO245.out⟩, ⟨by exact BK242.out⟩, ⟨HB.out⟩⟩
   case round =>
    clear H'
    try clear c3b0
    try clear c3b1
    try clear c4b0
    try clear c4b1
    obtain ⟨x5_1, x12_1, rfl, HA, HK1, HO_5, BK242, HB⟩ := hrel
    have hl5_1 := (Kd.R_reads' HO_5.out).1
    rw [hl5_1] at HO_5
    (try simp only [hl5_1])
    cases gk with
    | zero => exact absurd HA.out (by simp [impl_star.l0])
    | succ k1 =>
     have H := HA.out
     clear HA
     simp only [impl_star.l0] at H
     by_cases c9 : x12_1 < (y243.length : Int)
     ·rw [if_pos c9] at H
      have c9b0 : decide (x12_1 < (y243.length : Int)) = true := decide_eq_true c9
      have c9b0z := c9b0
      (try simp only [hl5_1] at c9b0z)
      clear c9
      by_cases c10 : 0 ≤ x12_1
      ·rw [if_pos c10] at H
       have c10b0 : decide (0 ≤ x12_1) = true := decide_eq_true c10
       clear c10
       by_cases c11 : x12_1 < (x5_1.length : Int)
       ·rw [if_pos c11] at H
        have c11b0 : decide (x12_1 < (x5_1.length : Int)) = true := decide_eq_true c11
        have c11b0z := c11b0
        clear c11
        obtain ⟨y246, hy246⟩ : ∃ y_ : List Bool, y_ = (x5_1.set (x12_1 : Int).toNat (x12_1 == 0)) := ⟨_, rfl⟩
        replace H : (impl_star.l1 k1 y246 x12_1 1 (y243.length : Int) x12_1 l0_0 l0_1) = some r := by first | (rw [hy246]; with_reducible exact H)
        have Ny246 := Aside0.mk hy246
        clear hy246
        have H' := Aside0.mk H
        clear H
        have p12 : 0 ≤ (x12_1 : Int) := of_decide_eq_true (by (with_reducible assumption))
        have q12 : (x12_1 : Int) < ((x5_1.length : Int) : Int) := of_decide_eq_true (by (with_reducible assumption))
        obtain ⟨go12, co12, eo12, gb12, gl12, cl12, HG12⟩ := Kd.R_form HO_5.out (by omega)
        (cases eo12)
        have GB12 := Aside0.mk gb12
        have GG12 := Aside0.mk HG12
        clear gb12 gl12 HG12
        obtain ⟨hx12_0, hf12_0⟩ := Kd.R_celln false HO_5.out (x12_1 : Int) p12 q12
        replace p12 := eq_true p12
        replace q12 := eq_true q12
        have HP13 := Kd.R_putg HO_5.out (x12_1 : Int) (x12_1 == 0)
        go_wp2_with (first | ((with_reducible refine gate_store (t := 4) (p := 19) rfl ?_); refine store_event (t := 4) (p := 19) (v := ?vo_w14) (w1 := (wr.setCell ⟨go12, (x12_1 : Int).toNat, none⟩ (.bool (x12_1 == 0)))) ?hg ?ho ?hn ?hr ?_; (case ho => rfl); (case hg => rfl); (case hn => rfl); (case hr => first | (go_simp; done)); intro w14 hw; have hg : wr.grownBy w14 (some go12) := (by rw [hw]; exact HP13.2); have hp_ : Kd.R Kd.bool 4 w14 w.heap.size (fun _ => True) (.slice (some ⟨go12, 0, none⟩) x5_1.length co8) y246 := (by rw [hw, Ny246.out]; exact HP13.1); clear HP13; replace BK242 := Aside0.mk (blk_grown (g := gb242) (o := .cells #[.slice A0_0 l0_0.length c0_0, .slice A0_1 l0_1.length c0_1] 60 (0, 0)) BK242.out hg (Kd.R_ne HO_5.out BK242.out (by decide))); replace HO_5 := Aside0.mk hp_; replace HB := Aside0.mk ((by rw [hw]; exact below_set (HB.out) GB12.out : Below w.heap.size w w14)); clear hg hw hp_))
        go_loopg [7] k1 (fun kq v7 w' => ∃ (x5_2 : List Bool) (x7_2 : Int), v7 = .int .i64 x7_2 ∧ Aside0 (impl_star.l1 kq x5_2 x12_1 x7_2 (y243.length : Int) x12_1 l0_0 l0_1 = some r) ∧ Aside0 (kq ≤ k1) ∧ Aside0 (Kd.R Kd.bool 4 w' w.heap.size (fun _ => True) (.slice (some ⟨go12, 0, none⟩) x5_1.length co8) x5_2) ∧ Aside0 (w'.heap[gb242]? = some (.cells #[(.slice A0_0 l0_0.length c0_0), (.slice A0_1 l0_1.length c0_1)] 60 (0, 0))) ∧ Aside0 (Below w.heap.size w w'))
        case atStart => exact ⟨(y246), (1), (by rfl), H', ⟨Nat.le_refl _⟩, ⟨by exact HO_5.out⟩, ⟨by exact BK242.out⟩, ⟨HB.out⟩⟩
        case round =>
         clear H'
         try clear c9b0
         try clear c10b0
         try clear c11b0
         try clear p12
         try clear q12
         try clear hx12_0
         obtain ⟨x5_2, x7_2, rfl, HA, HK2, HO_5, BK242, HB⟩ := hrel
         have hl5_2 := (Kd.R_reads' HO_5.out).1
         rw [hl5_2] at HO_5
         (try simp only [hl5_2])
         cases gk with
         | zero => exact absurd HA.out (by simp [impl_star.l1])
         | succ k2 =>
          have H := HA.out
          clear HA
          simp only [impl_star.l1] at H
          by_cases c15 : x7_2 ≤ x12_1
          ·rw [if_pos c15] at H
           have c15b0 : decide (x7_2 ≤ x12_1) = true := decide_eq_true c15
           clear c15
           by_cases c16 : 0 ≤ x12_1
           ·rw [if_pos c16] at H
            have c16b0 : decide (0 ≤ x12_1) = true := decide_eq_true c16
            clear c16
            by_cases c17 : x12_1 < (x5_2.length : Int)
            ·rw [if_pos c17] at H
             have c17b0 : decide (x12_1 < (x5_2.length : Int)) = true := decide_eq_true c17
             have c17b0z := c17b0
             clear c17
             obtain ⟨bq18, hbq18⟩ : ∃ b_ : Bool, b_ = (rdOf false x5_2 x12_1) := ⟨_, rfl⟩
             replace H : (if bq18 = true then (impl_star.l0 k2 x5_2 (y243.length : Int) (wrap64 (x12_1 + 1)) l0_0 l0_1) else ((impl_set_has.f l0_0 l0_1 x7_2).bind fun t248 => (if t248 = true then (if 0 ≤ (wrap64 (x12_1 - x7_2)) then (if (wrap64 (x12_1 - x7_2)) < (x5_2.length : Int) then (impl_star.l1 k2 (x5_2.set (x12_1 : Int).toNat (rdOf false x5_2 (wrap64 (x12_1 - x7_2)))) x12_1 (wrap64 (x7_2 + 1)) (y243.length : Int) x12_1 l0_0 l0_1) else (none)) else (none)) else (impl_star.l1 k2 (x5_2.set (x12_1 : Int).toNat false) x12_1 (wrap64 (x7_2 + 1)) (y243.length : Int) x12_1 l0_0 l0_1)))) = some r := by rw [← hbq18] at H; exact H
             have Nbq18 := Aside0.mk hbq18
             clear hbq18
             by_cases c19 : bq18 = true
             ·subst c19
              replace H : (impl_star.l0 k2 x5_2 (y243.length : Int) (wrap64 (x12_1 + 1)) l0_0 l0_1) = some r := by rw [if_pos rfl] at H; exact H
              have H' := Aside0.mk H
              clear H
              have p247 : 0 ≤ (x12_1 : Int) := of_decide_eq_true (by (with_reducible assumption))
              have q247 : x12_1 < (x5_2.length : Int) := of_decide_eq_true (by (with_reducible assumption))
              obtain ⟨ad247, e247, hx247_0⟩ := Kd.at_bool (Kd.R_reads' HO_5.out).2.2 x12_1 p247 q247
              (try rw [← Nbq18.out] at hx247_0)
              obtain rfl : (⟨go12, 0, none⟩ : Addr) = ad247 := (by injection e247)
              (simp only [add_plain] at hx247_0)
              replace p247 := eq_true p247
              replace q247 := eq_true q247
              go_wp2
              (try simp only [← hl5_1, ← hl5_2])
              go_roundg k2
              case measure => have := HK1.out; have := HK2.out; omega
              case rel => exact ⟨(x5_2), (wrap64 (x12_1 + 1)), (by rfl), H', ⟨by have := HK1.out; have := HK2.out; omega⟩, ⟨by (try simp only [hl5_1]); (try simp only [hl5_2]); exact HO_5.out⟩, ⟨by exact BK242.out⟩, ⟨HB.out⟩⟩
             ·replace c19 := Bool.eq_false_iff.mpr c19
              subst c19
              replace H : ((impl_set_has.f l0_0 l0_1 x7_2).bind fun t248 => (if t248 = true then (if 0 ≤ (wrap64 (x12_1 - x7_2)) then (if (wrap64 (x12_1 - x7_2)) < (x5_2.length : Int) then (impl_star.l1 k2 (x5_2.set (x12_1 : Int).toNat (rdOf false x5_2 (wrap64 (x12_1 - x7_2)))) x12_1 (wrap64 (x7_2 + 1)) (y243.length : Int) x12_1 l0_0 l0_1) else (none)) else (none)) else (impl_star.l1 k2 (x5_2.set (x12_1 : Int).toNat false) x12_1 (wrap64 (x7_2 + 1)) (y243.length : Int) x12_1 l0_0 l0_1))) = some r := by rw [if_neg (show ¬ (false = true) by decide)] at H; exact H
              replace H := Option.bind_eq_some_iff.mp H
              obtain ⟨t248, A200, H⟩ := H
              replace H : (if t248 = true then (if 0 ≤ (wrap64 (x12_1 - x7_2)) then (if (wrap64 (x12_1 - x7_2)) < (x5_2.length : Int) then (impl_star.l1 k2 (x5_2.set (x12_1 : Int).toNat (rdOf false x5_2 (wrap64 (x12_1 - x7_2)))) x12_1 (wrap64 (x7_2 + 1)) (y243.length : Int) x12_1 l0_0 l0_1) else (none)) else (none)) else (impl_star.l1 k2 (x5_2.set (x12_1 : Int).toNat false) x12_1 (wrap64 (x7_2 + 1)) (y243.length : Int) x12_1 l0_0 l0_1)) = some r := H
              have A20 := Aside0.mk A200
              clear A200
              by_cases c21 : t248 = true
              ·subst c21
               replace H : (if 0 ≤ (wrap64 (x12_1 - x7_2)) then (if (wrap64 (x12_1 - x7_2)) < (x5_2.length : Int) then (impl_star.l1 k2 (x5_2.set (x12_1 : Int).toNat (rdOf false x5_2 (wrap64 (x12_1 - x7_2)))) x12_1 (wrap64 (x7_2 + 1)) (y243.length : Int) x12_1 l0_0 l0_1) else (none)) else (none)) = some r := by rw [if_pos rfl] at H; exact H
               obtain ⟨ji22, hji22⟩ : ∃ j_ : Int, (wrap64 (x12_1 - x7_2)) = j_ := ⟨_, rfl⟩
               replace H : (if 0 ≤ (ji22) then (if (ji22) < (x5_2.length : Int) then (impl_star.l1 k2 (x5_2.set (x12_1 : Int).toNat (rdOf false x5_2 (ji22))) x12_1 (wrap64 (x7_2 + 1)) (y243.length : Int) x12_1 l0_0 l0_1) else (none)) else (none)) = some r := by first | (rw [hji22] at H; exact H)
               have hji22w : (IntKind.i64.wrap (x12_1 - x7_2)) = ji22 := (i64_w _).trans hji22
               by_cases c23 : 0 ≤ (ji22)
               ·rw [if_pos c23] at H
                have c23b0 : decide (0 ≤ (ji22)) = true := decide_eq_true c23
                clear c23
                by_cases c24 : (ji22) < (x5_2.length : Int)
                ·rw [if_pos c24] at H
                 have c24b0 : decide ((ji22) < (x5_2.length : Int)) = true := decide_eq_true c24
                 have c24b0z := c24b0
                 clear c24
                 obtain ⟨y250, hy250⟩ : ∃ y_ : List Bool, y_ = (x5_2.set (x12_1 : Int).toNat (rdOf false x5_2 (ji22))) := ⟨_, rfl⟩
                 replace H : (impl_star.l1 k2 y250 x12_1 (wrap64 (x7_2 + 1)) (y243.length : Int) x12_1 l0_0 l0_1) = some r := by first | (rw [hy250]; with_reducible exact H)
                 have Ny250 := Aside0.mk hy250
                 clear hy250
                 have H' := Aside0.mk H
                 clear H
                 have p247 : 0 ≤ (x12_1 : Int) := of_decide_eq_true (by (with_reducible assumption))
                 have q247 : x12_1 < (x5_2.length : Int) := of_decide_eq_true (by (with_reducible assumption))
                 obtain ⟨ad247, e247, hx247_0⟩ := Kd.at_bool (Kd.R_reads' HO_5.out).2.2 x12_1 p247 q247
                 (try rw [← Nbq18.out] at hx247_0)
                 obtain rfl : (⟨go12, 0, none⟩ : Addr) = ad247 := (by injection e247)
                 (simp only [add_plain] at hx247_0)
                 replace p247 := eq_true p247
                 replace q247 := eq_true q247
                 have hcz26_0 : wr.cell? ⟨gb242, 0, none⟩ = some (.slice A0_0 l0_0.length c0_0) := (blk_cell BK242.out 0).trans rfl
                 have hcz26_1 : wr.cell? ⟨gb242, 1, none⟩ = some (.slice A0_1 l0_1.length c0_1) := (blk_cell BK242.out 1).trans rfl
                 have hfz26_0 := blk_frozen BK242.out 0
                 have hfz26_1 := blk_frozen BK242.out 1
                 go_wp2_with (first | ((with_reducible refine gate_callee (f := 61) rfl ?_); refine goesL_ (some 36) rfl rfl Try.func61 (by kernel_rfl) rfl #[.agg #[.slice A0_0 l0_0.length c0_0, .slice A0_1 l0_1.length c0_1], .int .i64 x7_2] rfl (by (try simp only [List.map_toArray, List.map_cons, List.map_nil]); rfl) ?_; (with_reducible refine (impl_set_has.calls _ _ l0_0 _ _ l0_1 x7_2 true _ ?side1 ?side2 ?side3 ?side4 A20.out).mono ?_); (case side1 => repeat (exact (Kd.C_below HR0_0.out HB.out))); (case side2 => exact HC0_0.out); (case side3 => repeat (exact (Kd.C_below HR0_1.out HB.out))); (case side4 => exact HC0_1.out); rintro e w27 ⟨rfl, hb⟩; refine ⟨_, rfl, ?_⟩; replace HO_5 := Aside0.mk (Kd.R_below HO_5.out hb); replace BK242 := Aside0.mk (blk_below (g := gb242) (o := .cells #[.slice A0_0 l0_0.length c0_0, .slice A0_1 l0_1.length c0_1] 60 (0, 0)) BK242.out hb); replace HB := Aside0.mk (below_step HB.out hb); (try clear hb); have p249 : 0 ≤ ((ji22) : Int) := of_decide_eq_true (by (with_reducible assumption)); have q249 : (ji22) < (x5_2.length : Int) := of_decide_eq_true (by (with_reducible assumption)); obtain ⟨ad249, e249, hx249_0⟩ := Kd.at_bool (Kd.R_reads' HO_5.out).2.2 (ji22) p249 q249; obtain rfl : (⟨go12, 0, none⟩ : Addr) = ad249 := (by injection e249); (simp only [add_plain] at hx249_0); replace p249 := eq_true p249; replace q249 := eq_true q249; have p25 : 0 ≤ (x12_1 : Int) := of_decide_eq_true (by (with_reducible assumption)); have q25 : (x12_1 : Int) < ((x5_2.length : Int) : Int) := of_decide_eq_true (by (with_reducible assumption)); obtain ⟨hx25_0, hf25_0⟩ := Kd.R_celln false HO_5.out (x12_1 : Int) p25 q25; replace p25 := eq_true p25; replace q25 := eq_true q25; obtain ⟨hy28_, hz28_⟩ := Kd.R_celln false HO_5.out (x12_1 : Int) (of_decide_eq_true (by (with_reducible assumption))) (of_decide_eq_true (by (with_reducible assumption))); have HP28 := Kd.R_putg HO_5.out (x12_1 : Int) (rdOf false x5_2 (ji22))) | ((with_reducible refine gate_store (t := 4) (p := 45) rfl ?_); refine store_event (t := 4) (p := 45) (v := ?vo_w29) (w1 := (w27.setCell ⟨go12, (x12_1 : Int).toNat, none⟩ (.bool (rdOf false x5_2 (ji22))))) ?hg ?ho ?hn ?hr ?_; (case ho => rfl); (case hg => rfl); (case hn => rfl); (case hr => first | (go_simp; done)); intro w29 hw; have hg : w27.grownBy w29 (some go12) := (by rw [hw]; exact HP28.2); have hp_ : Kd.R Kd.bool 4 w29 w.heap.size (fun _ => True) (.slice (some ⟨go12, 0, none⟩) x5_2.length co8) y250 := (by rw [hw, Ny250.out]; exact HP28.1); clear HP28; replace BK242 := Aside0.mk (blk_grown (g := gb242) (o := .cells #[.slice A0_0 l0_0.length c0_0, .slice A0_1 l0_1.length c0_1] 60 (0, 0)) BK242.out hg (Kd.R_ne HO_5.out BK242.out (by decide))); replace HO_5 := Aside0.mk hp_; replace HB := Aside0.mk ((by rw [hw]; exact below_set (HB.out) GB12.out : Below w.heap.size w w29)); clear hg hw hp_))
                 (try simp only [← hl5_2])
                 go_roundg k2
                 case measure => have := HK1.out; have := HK2.out; omega
                 case rel => exact ⟨(y250), (wrap64 (x7_2 + 1)), (by rfl), H', ⟨by have := HK1.out; have := HK2.out; omega⟩, ⟨by (try simp only [hl5_2]); exact HO_5.out⟩, ⟨by exact BK242.out⟩, ⟨HB.out⟩⟩
                ·rw [if_neg c24] at H
                 exact absurd H (by simp)
               ·rw [if_neg c23] at H
                exact absurd H (by simp)
              ·replace c21 := Bool.eq_false_iff.mpr c21
               subst c21
               replace H : (impl_star.l1 k2 (x5_2.set (x12_1 : Int).toNat false) x12_1 (wrap64 (x7_2 + 1)) (y243.length : Int) x12_1 l0_0 l0_1) = some r := by rw [if_neg (show ¬ (false = true) by decide)] at H; exact H
               obtain ⟨y251, hy251⟩ : ∃ y_ : List Bool, y_ = (x5_2.set (x12_1 : Int).toNat false) := ⟨_, rfl⟩
               replace H : (impl_star.l1 k2 y251 x12_1 (wrap64 (x7_2 + 1)) (y243.length : Int) x12_1 l0_0 l0_1) = some r := by first | (rw [hy251]; with_reducible exact H)
               have Ny251 := Aside0.mk hy251
               clear hy251
               have H' := Aside0.mk H
               clear H
               have p247 : 0 ≤ (x12_1 : Int) := of_decide_eq_true (by (with_reducible assumption))
               have q247 : x12_1 < (x5_2.length : Int) := of_decide_eq_true (by (with_reducible assumption))
               obtain ⟨ad247, e247, hx247_0⟩ := Kd.at_bool (Kd.R_reads' HO_5.out).2.2 x12_1 p247 q247
               (try rw [← Nbq18.out] at hx247_0)
               obtain rfl : (⟨go12, 0, none⟩ : Addr) = ad247 := (by injection e247)
               (simp only [add_plain] at hx247_0)
               replace p247 := eq_true p247
               replace q247 := eq_true q247
               have hcz31_0 : wr.cell? ⟨gb242, 0, none⟩ = some (.slice A0_0 l0_0.length c0_0) := (blk_cell BK242.out 0).trans rfl
               have hcz31_1 : wr.cell? ⟨gb242, 1, none⟩ = some (.slice A0_1 l0_1.length c0_1) := (blk_cell BK242.out 1).trans rfl
               have hfz31_0 := blk_frozen BK242.out 0
               have hfz31_1 := blk_frozen BK242.out 1
               go_wp2_with (first | ((with_reducible refine gate_callee (f := 61) rfl ?_); refine goesL_ (some 36) rfl rfl Try.func61 (by kernel_rfl) rfl #[.agg #[.slice A0_0 l0_0.length c0_0, .slice A0_1 l0_1.length c0_1], .int .i64 x7_2] rfl (by (try simp only [List.map_toArray, List.map_cons, List.map_nil]); rfl) ?_; (with_reducible refine (impl_set_has.calls _ _ l0_0 _ _ l0_1 x7_2 false _ ?side1 ?side2 ?side3 ?side4 A20.out).mono ?_); (case side1 => repeat (exact (Kd.C_below HR0_0.out HB.out))); (case side2 => exact HC0_0.out); (case side3 => repeat (exact (Kd.C_below HR0_1.out HB.out))); (case side4 => exact HC0_1.out); rintro e w32 ⟨rfl, hb⟩; refine ⟨_, rfl, ?_⟩; replace HO_5 := Aside0.mk (Kd.R_below HO_5.out hb); replace BK242 := Aside0.mk (blk_below (g := gb242) (o := .cells #[.slice A0_0 l0_0.length c0_0, .slice A0_1 l0_1.length c0_1] 60 (0, 0)) BK242.out hb); replace HB := Aside0.mk (below_step HB.out hb); (try clear hb); have p30 : 0 ≤ (x12_1 : Int) := of_decide_eq_true (by (with_reducible assumption)); have q30 : (x12_1 : Int) < ((x5_2.length : Int) : Int) := of_decide_eq_true (by (with_reducible assumption)); obtain ⟨hx30_0, hf30_0⟩ := Kd.R_celln false HO_5.out (x12_1 : Int) p30 q30; replace p30 := eq_true p30; replace q30 := eq_true q30; obtain ⟨hy33_, hz33_⟩ := Kd.R_celln false HO_5.out (x12_1 : Int) (of_decide_eq_true (by (with_reducible assumption))) (of_decide_eq_true (by (with_reducible assumption))); have HP33 := Kd.R_putg HO_5.out (x12_1 : Int) false) | ((with_reducible refine gate_store (t := 4) (p := 45) rfl ?_); refine store_event (t := 4) (p := 45) (v := ?vo_w34) (w1 := (w32.setCell ⟨go12, (x12_1 : Int).toNat, none⟩ (.bool false))) ?hg ?ho ?hn ?hr ?_; (case ho => rfl); (case hg => rfl); (case hn => rfl); (case hr => first | (go_simp; done)); intro w34 hw; have hg : w32.grownBy w34 (some go12) := (by rw [hw]; exact HP33.2); have hp_ : Kd.R Kd.bool 4 w34 w.heap.size (fun _ => True) (.slice (some ⟨go12, 0, none⟩) x5_2.length co8) y251 := (by rw [hw, Ny251.out]; exact HP33.1); clear HP33; replace BK242 := Aside0.mk (blk_grown (g := gb242) (o := .cells #[.slice A0_0 l0_0.length c0_0, .slice A0_1 l0_1.length c0_1] 60 (0, 0)) BK242.out hg (Kd.R_ne HO_5.out BK242.out (by decide))); replace HO_5 := Aside0.mk hp_; replace HB := Aside0.mk ((by rw [hw]; exact below_set (HB.out) GB12.out : Below w.heap.size w w34)); clear hg hw hp_))
               (try simp only [← hl5_2])
               go_roundg k2
               case measure => have := HK1.out; have := HK2.out; omega
               case rel => exact ⟨(y251), (wrap64 (x7_2 + 1)), (by rfl), H', ⟨by have := HK1.out; have := HK2.out; omega⟩, ⟨by (try simp only [hl5_2]); exact HO_5.out⟩, ⟨by exact BK242.out⟩, ⟨HB.out⟩⟩
            ·rw [if_neg c17] at H
             exact absurd H (by simp)
           ·rw [if_neg c16] at H
            exact absurd H (by simp)
          ·rw [if_neg c15] at H
           have c15b0 : decide (x7_2 ≤ x12_1) = false := decide_eq_false c15
           clear c15
           have H' := Aside0.mk H
           clear H
           go_wp2
           (try simp only [← hl5_1, ← hl5_2])
           go_roundg k2
           case measure => have := HK1.out; have := HK2.out; omega
           case rel => exact ⟨(x5_2), (wrap64 (x12_1 + 1)), (by rfl), H', ⟨by have := HK1.out; have := HK2.out; omega⟩, ⟨by (try simp only [hl5_1]); (try simp only [hl5_2]); exact HO_5.out⟩, ⟨by exact BK242.out⟩, ⟨HB.out⟩⟩
       ·rw [if_neg c11] at H
        exact absurd H (by simp)
      ·rw [if_neg c10] at H
       exact absurd H (by simp)
     ·rw [if_neg c9] at H
      have c9b0 : decide (x12_1 < (y243.length : Int)) = false := decide_eq_false c9
      have c9b0z := c9b0
      (try simp only [hl5_1] at c9b0z)
      clear c9
      obtain rfl := Option.some.inj H
      go_wp2
      go_ret
      exact ⟨_, by first | rfl | (simp [*, errW_none, errW_some] <;> rfl), by exact HO_5.out, HB.out⟩
  ·rw [if_neg c4] at H
   exact absurd H (by simp)
 ·rw [if_neg c3] at H
  exact absurd H (by simp)


mutual
def impl_solved.l0 : Nat → List Bool → List Bool → Int → Int → List Bool → List Bool → Option (List Bool)
 | 0, _, _, _, _, _, _ => none
 | k + 1, x7, x8, x17, x18, x254000, x254001 => if x18 < x17 then (impl_solved.l1 k x7 x8 x18 0 x17 x18 x254000 x254001) else (some x8)
def impl_solved.l1 : Nat → List Bool → List Bool → Int → Int → Int → Int → List Bool → List Bool → Option (List Bool)
 | 0, _, _, _, _, _, _, _, _ => none
 | k + 1, x7, x8, x9, x10, x17, x18, x254000, x254001 => if x10 ≤ x9 then (if 0 ≤ x9 then (if x9 < (x8.length : Int) then (if rdOf false x8 x9 = true then (impl_solved.l0 k x7 x8 x17 (wrap64 (x18 + 1)) x254000 x254001) else (if 0 ≤ x10 then (if x10 < (x7.length : Int) then (if rdOf false x7 x10 = true then ((impl_set_has.f x254000 x254001 (wrap64 (x9 - x10))).bind fun t262 => (impl_solved.l1 k x7 (x8.set (x9 : Int).toNat t262) x9 (wrap64 (x10 + 1)) x17 x18 x254000 x254001)) else (impl_solved.l1 k x7 (x8.set (x9 : Int).toNat false) x9 (wrap64 (x10 + 1)) x17 x18 x254000 x254001)) else (none)) else (none))) else (none)) else (none)) else (impl_solved.l0 k x7 x8 x17 (wrap64 (x18 + 1)) x254000 x254001)
end
def impl_solved.f (k : Nat) (l0_0 : List Bool) (l0_1 : List Bool) (l1_0 : List Bool) (l1_1 : List Bool) (a2 : Int) : Option (List Bool) := (impl_star.f k l0_0 l0_1 a2).bind fun t254 => (if 0 ≤ a2 then (if (a2 : Int).toNat ≤ 281474976710656 then ((some (List.replicate (a2 : Int).toNat false : List Bool)).bind fun y257 => (impl_solved.l0 k t254 y257 (y257.length : Int) 0 l1_0 l1_1)) else (none)) else (none))
theorem impl_solved.mono_l : ∀ k, (∀ y0 y1 y2 y3 y4 y5, LeO (impl_solved.l0 k y0 y1 y2 y3 y4 y5) (impl_solved.l0 (k + 1) y0 y1 y2 y3 y4 y5)) ∧ (∀ y0 y1 y2 y3 y4 y5 y6 y7, LeO (impl_solved.l1 k y0 y1 y2 y3 y4 y5 y6 y7) (impl_solved.l1 (k + 1) y0 y1 y2 y3 y4 y5 y6 y7))
 | 0 => ⟨fun _ _ _ _ _ _ r h => by simp [impl_solved.l0] at h, fun _ _ _ _ _ _ _ _ r h => by simp [impl_solved.l1] at h⟩
 | k + 1 => by
  obtain ⟨ih0, ih1⟩ := impl_solved.mono_l k
  refine ⟨?_, ?_⟩
  ·intro y0 y1 y2 y3 y4 y5
   unfold impl_solved.l0
   repeat' first | (with_reducible exact ih1 _ _ _ _ _ _ _ _) | (with_reducible exact LeO.refl _) | (with_reducible refine LeO.ite ?_ ?_)
  ·intro y0 y1 y2 y3 y4 y5 y6 y7
   unfold impl_solved.l1
   repeat' first | (with_reducible exact ih0 _ _ _ _ _ _) | (with_reducible exact ih1 _ _ _ _ _ _ _ _) | (with_reducible exact LeO.refl _) | (with_reducible refine LeO.ite ?_ ?_) | (with_reducible refine LeO.bind ?_ (fun _ => ?_))
theorem impl_solved.mono : ∀ a0 a1 a2 a3 a4 k, LeO (impl_solved.f k a0 a1 a2 a3 a4) (impl_solved.f (k + 1) a0 a1 a2 a3 a4) := by
 intro a0 a1 a2 a3 a4 k
 obtain ⟨ih0, ih1⟩ := impl_solved.mono_l k
 unfold impl_solved.f
 repeat' first | (with_reducible exact ih0 _ _ _ _ _ _) | (with_reducible exact impl_star.mono _ _ _ _) | (with_reducible exact LeO.refl _) | (with_reducible refine LeO.ite ?_ ?_) | (with_reducible refine LeO.bind ?_ (fun _ => ?_))
set_option maxHeartbeats 8000000 in
set_option maxRecDepth 100000 in
theorem impl_solved.calls (k : Nat) (A0_0 : Option Addr) (c0_0 : Nat) (l0_0 : List Bool) (A0_1 : Option Addr) (c0_1 : Nat) (l0_1 : List Bool) (A1_0 : Option Addr) (c1_0 : Nat) (l1_0 : List Bool) (A1_1 : Option Addr) (c1_1 : Nat) (l1_1 : List Bool) (a2 : Int) (r : List Bool) (w : World) (hr0_0 : Kd.C Kd.bool w A0_0 l0_0.length l0_0) (hc0_0 : l0_0.length ≤ c0_0) (hr0_1 : Kd.C Kd.bool w A0_1 l0_1.length l0_1) (hc0_1 : l0_1.length ≤ c0_1) (hr1_0 : Kd.C Kd.bool w A1_0 l1_0.length l1_0) (hc1_0 : l1_0.length ≤ c1_0) (hr1_1 : Kd.C Kd.bool w A1_1 l1_1.length l1_1) (hc1_1 : l1_1.length ≤ c1_1) (h : impl_solved.f k l0_0 l0_1 l1_0 l1_1 a2 = some r) :
  Calls Try.prog 56 #[.agg #[.slice A0_0 l0_0.length c0_0, .slice A0_1 l0_1.length c0_1], .agg #[.slice A1_0 l1_0.length c1_0, .slice A1_1 l1_1.length c1_1], .int .i64 a2] w fun e w' => ∃ v0_ : Value, e = .returned (v0_) ∧ Kd.R Kd.bool 4 w' w.heap.size (fun _ => True) v0_ r ∧ Below w.heap.size w w' := by
 have hu60 := Try.underlying60
 have HR0_0 := Aside0.mk hr0_0
 have HC0_0 := Aside0.mk hc0_0
 clear hr0_0 hc0_0
 have HR0_1 := Aside0.mk hr0_1
 have HC0_1 := Aside0.mk hc0_1
 clear hr0_1 hc0_1
 have HR1_0 := Aside0.mk hr1_0
 have HC1_0 := Aside0.mk hc1_0
 clear hr1_0 hc1_0
 have HR1_1 := Aside0.mk hr1_1
 have HC1_1 := Aside0.mk hc1_1
 clear hr1_1 hc1_1
 have HB := Aside0.mk (Below.refl w.heap.size w)
 have H : ((impl_star.f k l0_0 l0_1 a2).bind fun t254 => (if 0 ≤ a2 then (if (a2 : Int).toNat ≤ 281474976710656 then ((some (List.replicate (a2 : Int).toNat false : List Bool)).bind fun y257 => (impl_solved.l0 k t254 y257 (y257.length : Int) 0 l1_0 l1_1)) else (none)) else (none))) = some r := h
 clear h
 replace H := Option.bind_eq_some_iff.mp H
 obtain ⟨t254, A40, H⟩ := H
 replace H : (if 0 ≤ a2 then (if (a2 : Int).toNat ≤ 281474976710656 then ((some (List.replicate (a2 : Int).toNat false : List Bool)).bind fun y257 => (impl_solved.l0 k t254 y257 (y257.length : Int) 0 l1_0 l1_1)) else (none)) else (none)) = some r := H
 have A4 := Aside0.mk A40
 clear A40
 by_cases c5 : 0 ≤ a2
 ·rw [if_pos c5] at H
  have c5b0 := eq_true c5
  have c5b1 : decide (0 ≤ a2) = true := decide_eq_true c5
  clear c5
  by_cases c6 : (a2 : Int).toNat ≤ 281474976710656
  ·rw [if_pos c6] at H
   have c6b0 := eq_true c6
   have c6b1 : decide ((a2 : Int).toNat ≤ 281474976710656) = true := decide_eq_true c6
   clear c6
   obtain ⟨y257, hy257⟩ : ∃ y_ : List Bool, y_ = (List.replicate (a2 : Int).toNat false) := ⟨_, rfl⟩
   replace H : (impl_solved.l0 k t254 y257 (y257.length : Int) 0 l1_0 l1_1) = some r := by first | (have H2_ := (Option.bind_some _ _).symm.trans H; rw [hy257]; with_reducible exact H2_)
   have Ny257 := Aside0.mk hy257
   clear hy257
   have H' := Aside0.mk H
   clear H
   go_enter Try.func56, Try.ntmps56
   go_wp2_with (first | ((with_reducible refine gate_dst (N := 3) rfl ?_); refine box_event ?hg (N := 3) ?hd (cs := #[.slice A0_0 l0_0.length c0_0, .slice A0_1 l0_1.length c0_1]) (t := 60) ?hr ?_; (case hd => rfl); (case hg => rfl); (case hr => first | (go_simp; done)); intro gb252 hg w7 hbox hb; have BK252 := Aside0.mk hbox; have GW252 := Aside0.mk ((by rw [hg]; exact (below_size HB.out) : w.heap.size ≤ gb252)); have GE252 := Aside0.mk ((by rw [hg]; exact (below_size HB.out) : w.heap.size ≤ gb252)); replace HB := Aside0.mk (below_step HB.out hb); clear hb hbox hg) | ((with_reducible refine gate_dst (N := 4) rfl ?_); refine box_event ?hg (N := 4) ?hd (cs := #[.slice A1_0 l1_0.length c1_0, .slice A1_1 l1_1.length c1_1]) (t := 60) ?hr ?_; (case hd => rfl); (case hg => rfl); (case hr => first | (go_simp; done)); intro gb253 hg w8 hbox hb; have BK253 := Aside0.mk hbox; have GW253 := Aside0.mk ((by rw [hg]; exact (below_size HB.out) : w.heap.size ≤ gb253)); have GE253 := Aside0.mk ((by rw [hg]; exact (below_size HB.out) : w.heap.size ≤ gb253)); replace HB := Aside0.mk (below_step HB.out hb); have NB252_253 := Aside0.mk ((by rw [hg]; exact Nat.ne_of_lt (blk_lt (g := gb252) (o := .cells #[.slice A0_0 l0_0.length c0_0, .slice A0_1 l0_1.length c0_1] 60 (0, 0)) BK252.out) : gb252 ≠ gb253)); have NB253_252 := Aside0.mk ((by rw [hg]; exact Nat.ne_of_gt (blk_lt (g := gb252) (o := .cells #[.slice A0_0 l0_0.length c0_0, .slice A0_1 l0_1.length c0_1] 60 (0, 0)) BK252.out) : gb253 ≠ gb252)); replace BK252 := Aside0.mk (blk_below (g := gb252) (o := .cells #[.slice A0_0 l0_0.length c0_0, .slice A0_1 l0_1.length c0_1] 60 (0, 0)) BK252.out hb); clear hb hbox hg; have hnb9 := NB252_253.out; have hnc9 := NB253_252.out; have hcz10_0 : w8.cell? ⟨gb252, 0, none⟩ = some (.slice A0_0 l0_0.length c0_0) := (blk_cell BK252.out 0).trans rfl; have hcz10_1 : w8.cell? ⟨gb252, 1, none⟩ = some (.slice A0_1 l0_1.length c0_1) := (blk_cell BK252.out 1).trans rfl; have hfz10_0 := blk_frozen BK252.out 0; have hfz10_1 := blk_frozen BK252.out 1) | ((with_reducible refine gate_callee (f := 70) rfl ?_); refine goesL_ (some 13) rfl rfl Try.func70 (by kernel_rfl) rfl #[.agg #[.slice A0_0 l0_0.length c0_0, .slice A0_1 l0_1.length c0_1], .int .i64 a2] rfl (by (try simp only [List.map_toArray, List.map_cons, List.map_nil]); rfl) ?_; (with_reducible refine (impl_star.calls k _ _ l0_0 _ _ l0_1 a2 t254 _ ?side1 ?side2 ?side3 ?side4 A4.out).mono ?_); (case side1 => repeat (exact (Kd.C_below HR0_0.out HB.out))); (case side2 => exact HC0_0.out); (case side3 => repeat (exact (Kd.C_below HR0_1.out HB.out))); (case side4 => exact HC0_1.out); rintro e w11 ⟨v255, rfl, ho0, hb⟩; refine ⟨_, rfl, ?_⟩; have HO256 := Aside0.mk (Kd.R_lower ho0 (below_size HB.out)); replace BK252 := Aside0.mk (blk_below (g := gb252) (o := .cells #[.slice A0_0 l0_0.length c0_0, .slice A0_1 l0_1.length c0_1] 60 (0, 0)) BK252.out hb); replace BK253 := Aside0.mk (blk_below (g := gb253) (o := .cells #[.slice A1_0 l1_0.length c1_0, .slice A1_1 l1_1.length c1_1] 60 (0, 0)) BK253.out hb); replace HB := Aside0.mk (below_step HB.out hb); (try clear hb); (try clear ho0)) | ((with_reducible refine gate_dst (N := 15) rfl ?_); refine Kd.R_make Kd.bool _ 4 rfl (N := 15) rfl 58 _ _ rfl a2 rfl rfl Try.underlying58 (.bool false) 1 info4 rfl (by decide) (by omega) false (ok := fun _ => True) (okp := fun _ => True) rfl (fun _ hk => hk) trivial (of_decide_eq_true (by (with_reducible assumption))) (Nat.le_trans (Nat.mul_le_mul_right _ (of_decide_eq_true (by (with_reducible assumption)) : a2.toNat ≤ 281474976710656)) (by omega)) (Below.refl _ _) (Nat.le_refl _) ?_; intro v258 w12 ho13 hb hg_ hnew_; clear hg_ hnew_; (rw [← Ny257.out] at ho13); have HO259 := Aside0.mk (Kd.R_lower (Kd.R_new' ho13 (Kd.R_lt HO256.out)) (below_size HB.out)); replace HO256 := Aside0.mk (Kd.R_elder' HO256.out (Kd.R_base ho13) hb); replace BK252 := Aside0.mk (blk_below (g := gb252) (o := .cells #[.slice A0_0 l0_0.length c0_0, .slice A0_1 l0_1.length c0_1] 60 (0, 0)) BK252.out hb); replace BK253 := Aside0.mk (blk_below (g := gb253) (o := .cells #[.slice A1_0 l1_0.length c1_0, .slice A1_1 l1_1.length c1_1] 60 (0, 0)) BK253.out hb); replace HB := Aside0.mk (below_step HB.out hb); clear hb ho13; obtain ⟨Ao14, co14, eo14⟩ := Kd.R_slice HO259.out; subst eo14))
   go_loopg [18] k (fun kq v18 w' => ∃ (x8_1 : List Bool) (x18_1 : Int), v18 = .int .i64 x18_1 ∧ Aside0 (impl_solved.l0 kq t254 x8_1 (y257.length : Int) x18_1 l1_0 l1_1 = some r) ∧ Aside0 (kq ≤ k) ∧ Aside0 (Kd.R Kd.bool 4 w' w.heap.size (fun k_ => some k_ ≠ ((.slice Ao14 y257.length co14) : Value).ownBlock) v255 t254) ∧ Aside0 (Kd.R Kd.bool 4 w' w.heap.size (fun k_ => some k_ ≠ (v255 : Value).ownBlock) (.slice Ao14 y257.length co14) x8_1) ∧ Aside0 (w'.heap[gb252]? = some (.cells #[(.slice A0_0 l0_0.length c0_0), (.slice A0_1 l0_1.length c0_1)] 60 (0, 0))) ∧ Aside0 (w'.heap[gb253]? = some (.cells #[(.slice A1_0 l1_0.length c1_0), (.slice A1_1 l1_1.length c1_1)] 60 (0, 0))) ∧ Aside0 (Below w.heap.size w w'))
   case atStart => exact ⟨(y257), (0), (by rfl), H', ⟨Nat.le_refl _⟩, ⟨by exact Kd.R_mono HO256.out (fun _ hk => hk.2)⟩, ⟨by exact Kd.R_mono HO259.out (fun _ hk => hk.2)⟩, ⟨by exact BK252.out⟩, ⟨by exact BK253.out⟩, ⟨HB.out⟩⟩
   case round =>
    clear H'
    try clear c5b0
    try clear c5b1
    try clear c6b0
    try clear c6b1
    try clear hcz10_0
    try clear hcz10_1
    try clear hfz10_0
    try clear hfz10_1
    obtain ⟨x8_1, x18_1, rfl, HA, HK1, HO_7, HO_8, BK252, BK253, HB⟩ := hrel
    have hl8_1 := (Kd.R_reads' HO_8.out).1
    rw [hl8_1] at HO_8
    (try simp only [hl8_1])
    (try simp only [hl8_1] at HO_7)
    cases gk with
    | zero => exact absurd HA.out (by simp [impl_solved.l0])
    | succ k1 =>
     have H := HA.out
     clear HA
     simp only [impl_solved.l0] at H
     by_cases c15 : x18_1 < (y257.length : Int)
     ·rw [if_pos c15] at H
      have c15b0 : decide (x18_1 < (y257.length : Int)) = true := decide_eq_true c15
      have c15b0z := c15b0
      (try simp only [hl8_1] at c15b0z)
      clear c15
      have H' := Aside0.mk H
      clear H
      go_wp2
      go_loopg [10] k1 (fun kq v10 w' => ∃ (x8_2 : List Bool) (x10_2 : Int), v10 = .int .i64 x10_2 ∧ Aside0 (impl_solved.l1 kq t254 x8_2 x18_1 x10_2 (y257.length : Int) x18_1 l1_0 l1_1 = some r) ∧ Aside0 (kq ≤ k1) ∧ Aside0 (Kd.R Kd.bool 4 w' w.heap.size (fun k_ => some k_ ≠ ((.slice Ao14 x8_1.length co14) : Value).ownBlock) v255 t254) ∧ Aside0 (Kd.R Kd.bool 4 w' w.heap.size (fun k_ => some k_ ≠ (v255 : Value).ownBlock) (.slice Ao14 x8_1.length co14) x8_2) ∧ Aside0 (w'.heap[gb252]? = some (.cells #[(.slice A0_0 l0_0.length c0_0), (.slice A0_1 l0_1.length c0_1)] 60 (0, 0))) ∧ Aside0 (w'.heap[gb253]? = some (.cells #[(.slice A1_0 l1_0.length c1_0), (.slice A1_1 l1_1.length c1_1)] 60 (0, 0))) ∧ Aside0 (Below w.heap.size w w'))
      case atStart => exact ⟨(x8_1), (0), (by rfl), H', ⟨Nat.le_refl _⟩, ⟨by exact HO_7.out⟩, ⟨by exact HO_8.out⟩, ⟨by exact BK252.out⟩, ⟨by exact BK253.out⟩, ⟨HB.out⟩⟩
      case round =>
       clear H'
       try clear c15b0
       obtain ⟨x8_2, x10_2, rfl, HA, HK2, HO_7, HO_8, BK252, BK253, HB⟩ := hrel
       have hl8_2 := (Kd.R_reads' HO_8.out).1
       rw [hl8_2] at HO_8
       (try simp only [hl8_2])
       (try simp only [hl8_2] at HO_7)
       cases gk with
       | zero => exact absurd HA.out (by simp [impl_solved.l1])
       | succ k2 =>
        have H := HA.out
        clear HA
        simp only [impl_solved.l1] at H
        by_cases c16 : x10_2 ≤ x18_1
        ·rw [if_pos c16] at H
         have c16b0 : decide (x10_2 ≤ x18_1) = true := decide_eq_true c16
         clear c16
         by_cases c17 : 0 ≤ x18_1
         ·rw [if_pos c17] at H
          have c17b0 : decide (0 ≤ x18_1) = true := decide_eq_true c17
          clear c17
          by_cases c18 : x18_1 < (x8_2.length : Int)
          ·rw [if_pos c18] at H
           have c18b0 : decide (x18_1 < (x8_2.length : Int)) = true := decide_eq_true c18
           have c18b0z := c18b0
           clear c18
           obtain ⟨bq19, hbq19⟩ : ∃ b_ : Bool, b_ = (rdOf false x8_2 x18_1) := ⟨_, rfl⟩
           replace H : (if bq19 = true then (impl_solved.l0 k2 t254 x8_2 (y257.length : Int) (wrap64 (x18_1 + 1)) l1_0 l1_1) else (if 0 ≤ x10_2 then (if x10_2 < (t254.length : Int) then (if rdOf false t254 x10_2 = true then ((impl_set_has.f l1_0 l1_1 (wrap64 (x18_1 - x10_2))).bind fun t262 => (impl_solved.l1 k2 t254 (x8_2.set (x18_1 : Int).toNat t262) x18_1 (wrap64 (x10_2 + 1)) (y257.length : Int) x18_1 l1_0 l1_1)) else (impl_solved.l1 k2 t254 (x8_2.set (x18_1 : Int).toNat false) x18_1 (wrap64 (x10_2 + 1)) (y257.length : Int) x18_1 l1_0 l1_1)) else (none)) else (none))) = some r := by rw [← hbq19] at H; exact H
           have Nbq19 := Aside0.mk hbq19
           clear hbq19
           by_cases c20 : bq19 = true
           ·subst c20
            replace H : (impl_solved.l0 k2 t254 x8_2 (y257.length : Int) (wrap64 (x18_1 + 1)) l1_0 l1_1) = some r := by rw [if_pos rfl] at H; exact H
            have H' := Aside0.mk H
            clear H
            have p260 : 0 ≤ (x18_1 : Int) := of_decide_eq_true (by (with_reducible assumption))
            have q260 : x18_1 < (x8_2.length : Int) := of_decide_eq_true (by (with_reducible assumption))
            obtain ⟨ad260, e260, hx260_0⟩ := Kd.at_bool (Kd.R_reads' HO_8.out).2.2 x18_1 p260 q260
            (try rw [← Nbq19.out] at hx260_0)
            cases e260
            replace p260 := eq_true p260
            replace q260 := eq_true q260
            go_wp2
            (try simp only [← hl8_1, ← hl8_2])
            go_roundg k2
            case measure => have := HK1.out; have := HK2.out; omega
            case rel => exact ⟨(x8_2), (wrap64 (x18_1 + 1)), (by rfl), H', ⟨by have := HK1.out; have := HK2.out; omega⟩, ⟨by (try simp only [hl8_1]); (try simp only [hl8_2]); exact HO_7.out⟩, ⟨by (try simp only [hl8_1]); (try simp only [hl8_2]); exact HO_8.out⟩, ⟨by exact BK252.out⟩, ⟨by exact BK253.out⟩, ⟨HB.out⟩⟩
           ·replace c20 := Bool.eq_false_iff.mpr c20
            subst c20
            replace H : (if 0 ≤ x10_2 then (if x10_2 < (t254.length : Int) then (if rdOf false t254 x10_2 = true then ((impl_set_has.f l1_0 l1_1 (wrap64 (x18_1 - x10_2))).bind fun t262 => (impl_solved.l1 k2 t254 (x8_2.set (x18_1 : Int).toNat t262) x18_1 (wrap64 (x10_2 + 1)) (y257.length : Int) x18_1 l1_0 l1_1)) else (impl_solved.l1 k2 t254 (x8_2.set (x18_1 : Int).toNat false) x18_1 (wrap64 (x10_2 + 1)) (y257.length : Int) x18_1 l1_0 l1_1)) else (none)) else (none)) = some r := by rw [if_neg (show ¬ (false = true) by decide)] at H; exact H
            by_cases c21 : 0 ≤ x10_2
            ·rw [if_pos c21] at H
             have c21b0 : decide (0 ≤ x10_2) = true := decide_eq_true c21
             clear c21
             by_cases c22 : x10_2 < (t254.length : Int)
             ·rw [if_pos c22] at H
              have c22b0 : decide (x10_2 < (t254.length : Int)) = true := decide_eq_true c22
              have c22b0z := c22b0
              clear c22
              obtain ⟨bq23, hbq23⟩ : ∃ b_ : Bool, b_ = (rdOf false t254 x10_2) := ⟨_, rfl⟩
              replace H : (if bq23 = true then ((impl_set_has.f l1_0 l1_1 (wrap64 (x18_1 - x10_2))).bind fun t262 => (impl_solved.l1 k2 t254 (x8_2.set (x18_1 : Int).toNat t262) x18_1 (wrap64 (x10_2 + 1)) (y257.length : Int) x18_1 l1_0 l1_1)) else (impl_solved.l1 k2 t254 (x8_2.set (x18_1 : Int).toNat false) x18_1 (wrap64 (x10_2 + 1)) (y257.length : Int) x18_1 l1_0 l1_1)) = some r := by rw [← hbq23] at H; exact H
              have Nbq23 := Aside0.mk hbq23
              clear hbq23
              by_cases c24 : bq23 = true
              ·subst c24
               replace H : ((impl_set_has.f l1_0 l1_1 (wrap64 (x18_1 - x10_2))).bind fun t262 => (impl_solved.l1 k2 t254 (x8_2.set (x18_1 : Int).toNat t262) x18_1 (wrap64 (x10_2 + 1)) (y257.length : Int) x18_1 l1_0 l1_1)) = some r := by rw [if_pos rfl] at H; exact H
               replace H := Option.bind_eq_some_iff.mp H
               obtain ⟨t262, A250, H⟩ := H
               replace H : (impl_solved.l1 k2 t254 (x8_2.set (x18_1 : Int).toNat t262) x18_1 (wrap64 (x10_2 + 1)) (y257.length : Int) x18_1 l1_0 l1_1) = some r := H
               have A25 := Aside0.mk A250
               clear A250
               obtain ⟨y263, hy263⟩ : ∃ y_ : List Bool, y_ = (x8_2.set (x18_1 : Int).toNat t262) := ⟨_, rfl⟩
               replace H : (impl_solved.l1 k2 t254 y263 x18_1 (wrap64 (x10_2 + 1)) (y257.length : Int) x18_1 l1_0 l1_1) = some r := by first | (rw [hy263]; with_reducible exact H)
               have Ny263 := Aside0.mk hy263
               clear hy263
               have H' := Aside0.mk H
               clear H
               have p260 : 0 ≤ (x18_1 : Int) := of_decide_eq_true (by (with_reducible assumption))
               have q260 : x18_1 < (x8_2.length : Int) := of_decide_eq_true (by (with_reducible assumption))
               obtain ⟨ad260, e260, hx260_0⟩ := Kd.at_bool (Kd.R_reads' HO_8.out).2.2 x18_1 p260 q260
               (try rw [← Nbq19.out] at hx260_0)
               cases e260
               replace p260 := eq_true p260
               replace q260 := eq_true q260
               obtain ⟨Ao27, co27, eo27⟩ := Kd.R_slice HO_7.out
               subst eo27
               have p261 : 0 ≤ (x10_2 : Int) := of_decide_eq_true (by (with_reducible assumption))
               have q261 : x10_2 < (t254.length : Int) := of_decide_eq_true (by (with_reducible assumption))
               obtain ⟨ad261, e261, hx261_0⟩ := Kd.at_bool (Kd.R_reads' HO_7.out).2.2 x10_2 p261 q261
               (try rw [← Nbq23.out] at hx261_0)
               cases e261
               replace p261 := eq_true p261
               replace q261 := eq_true q261
               have hnb28 := NB253_252.out
               have hnc28 := NB252_253.out
               have hcz29_0 : wr.cell? ⟨gb253, 0, none⟩ = some (.slice A1_0 l1_0.length c1_0) := (blk_cell BK253.out 0).trans rfl
               have hcz29_1 : wr.cell? ⟨gb253, 1, none⟩ = some (.slice A1_1 l1_1.length c1_1) := (blk_cell BK253.out 1).trans rfl
               have hfz29_0 := blk_frozen BK253.out 0
               have hfz29_1 := blk_frozen BK253.out 1
               go_wp2_with (first | (go_at_call 61; (with_reducible refine (impl_set_has.calls _ _ l1_0 _ _ l1_1 (wrap64 (x18_1 - x10_2)) t262 _ ?side1 ?side2 ?side3 ?side4 A25.out).mono ?_); (case side1 => repeat (exact (Kd.C_below HR1_0.out HB.out))); (case side2 => exact HC1_0.out); (case side3 => repeat (exact (Kd.C_below HR1_1.out HB.out))); (case side4 => exact HC1_1.out); rintro e w30 ⟨rfl, hb⟩; replace HO_7 := Aside0.mk (Kd.R_below HO_7.out hb); replace HO_8 := Aside0.mk (Kd.R_below HO_8.out hb); replace BK252 := Aside0.mk (blk_below (g := gb252) (o := .cells #[.slice A0_0 l0_0.length c0_0, .slice A0_1 l0_1.length c0_1] 60 (0, 0)) BK252.out hb); replace BK253 := Aside0.mk (blk_below (g := gb253) (o := .cells #[.slice A1_0 l1_0.length c1_0, .slice A1_1 l1_1.length c1_1] 60 (0, 0)) BK253.out hb); replace HB := Aside0.mk (below_step HB.out hb); (try clear hb); have p26 : 0 ≤ (x18_1 : Int) := of_decide_eq_true (by (with_reducible assumption)); have q26 : (x18_1 : Int) < ((x8_2.length : Int) : Int) := of_decide_eq_true (by (with_reducible assumption)); obtain ⟨go26, co26, eo26, gb26, gl26, cl26, HG26⟩ := Kd.R_form HO_8.out (by omega); (cases eo26); have GB26 := Aside0.mk gb26; have GG26 := Aside0.mk HG26; clear gb26 gl26 HG26; (simp only [add_plain] at hx260_0); obtain ⟨hx26_0, hf26_0⟩ := Kd.R_celln false HO_8.out (x18_1 : Int) p26 q26; replace p26 := eq_true p26; replace q26 := eq_true q26; obtain ⟨hy31_, hz31_⟩ := Kd.R_celln false HO_8.out (x18_1 : Int) (of_decide_eq_true (by (with_reducible assumption))) (of_decide_eq_true (by (with_reducible assumption))); have HP31 := Kd.R_putg HO_8.out (x18_1 : Int) t262) | ((with_reducible refine gate_store (t := 4) (p := 46) rfl ?_); refine store_event (t := 4) (p := 46) (v := ?vo_w32) (w1 := (w30.setCell ⟨go26, (x18_1 : Int).toNat, none⟩ (.bool t262))) ?hg ?ho ?hn ?hr ?_; (case ho => rfl); (case hg => rfl); (case hn => rfl); (case hr => first | (go_simp; done)); intro w32 hw; have hg : w30.grownBy w32 (some go26) := (by rw [hw]; exact HP31.2); have hp_ : Kd.R Kd.bool 4 w32 w.heap.size (fun k_ => some k_ ≠ (.slice (some ad261) t254.length co27 : Value).ownBlock) (.slice (some ⟨go26, 0, none⟩) x8_2.length co14) y263 := (by rw [hw, Ny263.out]; exact HP31.1); clear HP31; replace HO_7 := Aside0.mk (Kd.R_after (v := (.slice (some ⟨go26, 0, none⟩) x8_2.length co14)) (v1 := (.slice (some ⟨go26, 0, none⟩) x8_2.length co14)) (ok := (fun _ => True)) (by exact Kd.R_mono HO_7.out (fun _ hk => ⟨trivial, hk⟩)) hg (.inl rfl)); replace BK252 := Aside0.mk (blk_grown (g := gb252) (o := .cells #[.slice A0_0 l0_0.length c0_0, .slice A0_1 l0_1.length c0_1] 60 (0, 0)) BK252.out hg (Kd.R_ne HO_8.out BK252.out (by decide))); replace BK253 := Aside0.mk (blk_grown (g := gb253) (o := .cells #[.slice A1_0 l1_0.length c1_0, .slice A1_1 l1_1.length c1_1] 60 (0, 0)) BK253.out hg (Kd.R_ne HO_8.out BK253.out (by decide))); replace HO_8 := Aside0.mk hp_; replace HB := Aside0.mk ((by rw [hw]; exact below_set (HB.out) GB26.out : Below w.heap.size w w32)); clear hg hw hp_))
               (try simp only [← hl8_2])
               go_roundg k2
               case measure => have := HK1.out; have := HK2.out; omega
               case rel => exact ⟨(y263), (wrap64 (x10_2 + 1)), (by rfl), H', ⟨by have := HK1.out; have := HK2.out; omega⟩, ⟨by (try simp only [hl8_2]); exact Kd.R_mono HO_7.out (fun _ hk => hk.2)⟩, ⟨by (try simp only [hl8_2]); exact HO_8.out⟩, ⟨by exact BK252.out⟩, ⟨by exact BK253.out⟩, ⟨HB.out⟩⟩
              ·replace c24 := Bool.eq_false_iff.mpr c24
               subst c24
               replace H : (impl_solved.l1 k2 t254 (x8_2.set (x18_1 : Int).toNat false) x18_1 (wrap64 (x10_2 + 1)) (y257.length : Int) x18_1 l1_0 l1_1) = some r := by rw [if_neg (show ¬ (false = true) by decide)] at H; exact H
               obtain ⟨y264, hy264⟩ : ∃ y_ : List Bool, y_ = (x8_2.set (x18_1 : Int).toNat false) := ⟨_, rfl⟩
               replace H : (impl_solved.l1 k2 t254 y264 x18_1 (wrap64 (x10_2 + 1)) (y257.length : Int) x18_1 l1_0 l1_1) = some r := by first | (rw [hy264]; with_reducible exact H)
               have Ny264 := Aside0.mk hy264
               clear hy264
               have H' := Aside0.mk H
               clear H
               have p260 : 0 ≤ (x18_1 : Int) := of_decide_eq_true (by (with_reducible assumption))
               have q260 : x18_1 < (x8_2.length : Int) := of_decide_eq_true (by (with_reducible assumption))
               obtain ⟨ad260, e260, hx260_0⟩ := Kd.at_bool (Kd.R_reads' HO_8.out).2.2 x18_1 p260 q260
               (try rw [← Nbq19.out] at hx260_0)
               cases e260
               replace p260 := eq_true p260
               replace q260 := eq_true q260
               obtain ⟨Ao34, co34, eo34⟩ := Kd.R_slice HO_7.out
               subst eo34
               have p261 : 0 ≤ (x10_2 : Int) := of_decide_eq_true (by (with_reducible assumption))
               have q261 : x10_2 < (t254.length : Int) := of_decide_eq_true (by (with_reducible assumption))
               obtain ⟨ad261, e261, hx261_0⟩ := Kd.at_bool (Kd.R_reads' HO_7.out).2.2 x10_2 p261 q261
               (try rw [← Nbq23.out] at hx261_0)
               cases e261
               replace p261 := eq_true p261
               replace q261 := eq_true q261
               have p33 : 0 ≤ (x18_1 : Int) := of_decide_eq_true (by (with_reducible assumption))
               have q33 : (x18_1 : Int) < ((x8_2.length : Int) : Int) := of_decide_eq_true (by (with_reducible assumption))
               obtain ⟨go33, co33, eo33, gb33, gl33, cl33, HG33⟩ := Kd.R_form HO_8.out (by omega)
               (cases eo33)
               have GB33 := Aside0.mk gb33
               have GG33 := Aside0.mk HG33
               clear gb33 gl33 HG33
               (simp only [add_plain] at hx260_0)
               obtain ⟨hx33_0, hf33_0⟩ := Kd.R_celln false HO_8.out (x18_1 : Int) p33 q33
               replace p33 := eq_true p33
               replace q33 := eq_true q33
               have HP35 := Kd.R_putg HO_8.out (x18_1 : Int) false
               go_wp2_with (first | ((with_reducible refine gate_store (t := 4) (p := 46) rfl ?_); refine store_event (t := 4) (p := 46) (v := ?vo_w36) (w1 := (wr.setCell ⟨go33, (x18_1 : Int).toNat, none⟩ (.bool false))) ?hg ?ho ?hn ?hr ?_; (case ho => rfl); (case hg => rfl); (case hn => rfl); (case hr => first | (go_simp; done)); intro w36 hw; have hg : wr.grownBy w36 (some go33) := (by rw [hw]; exact HP35.2); have hp_ : Kd.R Kd.bool 4 w36 w.heap.size (fun k_ => some k_ ≠ (.slice (some ad261) t254.length co34 : Value).ownBlock) (.slice (some ⟨go33, 0, none⟩) x8_2.length co14) y264 := (by rw [hw, Ny264.out]; exact HP35.1); clear HP35; replace HO_7 := Aside0.mk (Kd.R_after (v := (.slice (some ⟨go33, 0, none⟩) x8_2.length co14)) (v1 := (.slice (some ⟨go33, 0, none⟩) x8_2.length co14)) (ok := (fun _ => True)) (by exact Kd.R_mono HO_7.out (fun _ hk => ⟨trivial, hk⟩)) hg (.inl rfl)); replace BK252 := Aside0.mk (blk_grown (g := gb252) (o := .cells #[.slice A0_0 l0_0.length c0_0, .slice A0_1 l0_1.length c0_1] 60 (0, 0)) BK252.out hg (Kd.R_ne HO_8.out BK252.out (by decide))); replace BK253 := Aside0.mk (blk_grown (g := gb253) (o := .cells #[.slice A1_0 l1_0.length c1_0, .slice A1_1 l1_1.length c1_1] 60 (0, 0)) BK253.out hg (Kd.R_ne HO_8.out BK253.out (by decide))); replace HO_8 := Aside0.mk hp_; replace HB := Aside0.mk ((by rw [hw]; exact below_set (HB.out) GB33.out : Below w.heap.size w w36)); clear hg hw hp_))
               (try simp only [← hl8_2])
               go_roundg k2
               case measure => have := HK1.out; have := HK2.out; omega
               case rel => exact ⟨(y264), (wrap64 (x10_2 + 1)), (by rfl), H', ⟨by have := HK1.out; have := HK2.out; omega⟩, ⟨by (try simp only [hl8_2]); exact Kd.R_mono HO_7.out (fun _ hk => hk.2)⟩, ⟨by (try simp only [hl8_2]); exact HO_8.out⟩, ⟨by exact BK252.out⟩, ⟨by exact BK253.out⟩, ⟨HB.out⟩⟩
             ·rw [if_neg c22] at H
              exact absurd H (by simp)
            ·rw [if_neg c21] at H
             exact absurd H (by simp)
          ·rw [if_neg c18] at H
           exact absurd H (by simp)
         ·rw [if_neg c17] at H
          exact absurd H (by simp)
        ·rw [if_neg c16] at H
         have c16b0 : decide (x10_2 ≤ x18_1) = false := decide_eq_false c16
         clear c16
         have H' := Aside0.mk H
         clear H
         go_wp2
         (try simp only [← hl8_1, ← hl8_2])
         go_roundg k2
         case measure => have := HK1.out; have := HK2.out; omega
         case rel => exact ⟨(x8_2), (wrap64 (x18_1 + 1)), (by rfl), H', ⟨by have := HK1.out; have := HK2.out; omega⟩, ⟨by (try simp only [hl8_1]); (try simp only [hl8_2]); exact HO_7.out⟩, ⟨by (try simp only [hl8_1]); (try simp only [hl8_2]); exact HO_8.out⟩, ⟨by exact BK252.out⟩, ⟨by exact BK253.out⟩, ⟨HB.out⟩⟩
     ·rw [if_neg c15] at H
      have c15b0 : decide (x18_1 < (y257.length : Int)) = false := decide_eq_false c15
      have c15b0z := c15b0
      (try simp only [hl8_1] at c15b0z)
      clear c15
      obtain rfl := Option.some.inj H
      go_wp2
      go_ret
      exact ⟨_, by first | rfl | (simp [*, errW_none, errW_some] <;> rfl), by exact Kd.R_mono HO_8.out (fun _ hk => trivial), HB.out⟩
  ·rw [if_neg c6] at H
   exact absurd H (by simp)
 ·rw [if_neg c5] at H
  exact absurd H (by simp)

end Go.Proofs.Ytpkpgdlbgcjloaa.Q
