/- A term has what its set has; no condition beyond the statement's own. -/
import Derived.Lib.UnsafeStr
import Derived.Lib.Builder
import Derived.Test.YtedhckahjinieaaCFnTermHas8
namespace Go.Proofs.Ytedhckahjinieaa.Q
open Go.RowKit Go.Proofs.YtedhckahjinieaaW.PrintWords Go.Proofs.YtedhckahjinieaaW.PrintLast Go.Proofs.YtedhckahjinieaaW.PrintMore
attribute [local go_sem] max2_int max_two
set_option linter.unusedVariables false
set_option linter.unusedSimpArgs false
mutual
def impl_set_tidy.l0 : Nat → Int → List Bool → List Bool → Option (List Bool × List Bool)
 | 0, _, _, _ => none
 | k + 1, x3, x253000, x253001 => (impl_turns.f k x253001 x3).bind fun t254 => (if t254 = true then ((slices_Clone_bool_bool.f x253000).bind fun t255 => (if 0 ≤ x3 then (if x3 ≤ (x253001.length : Int) then ((slices_Clone_bool_bool.f (x253001.take (x3 : Int).toNat)).bind fun t259 => (impl_set_tidy.l1 k x3 t255 t259)) else (none)) else (none))) else (impl_set_tidy.l0 k (wrap64 (x3 + 1)) x253000 x253001))
def impl_set_tidy.l1 : Nat → Int → List Bool → List Bool → Option (List Bool × List Bool)
 | 0, _, _, _ => none
 | k + 1, x3, x4, x5 => if (x4.length : Int) > 0 then (if 0 ≤ (wrap64 ((x4.length : Int) - 1)) then (if (wrap64 ((x4.length : Int) - 1)) < (x4.length : Int) then (if 0 ≤ (wrap64 (x3 - 1)) then (if (wrap64 (x3 - 1)) < (x5.length : Int) then (if ((rdOf false x4 (wrap64 ((x4.length : Int) - 1))) == (rdOf false x5 (wrap64 (x3 - 1)))) = true then (if (wrap64 ((x4.length : Int) - 1)) ≤ (x4.length : Int) then ((some (([rdOf false x5 (wrap64 (x3 - 1))] : List Bool) : List Bool)).bind fun y268 => (if (wrap64 (x3 - 1)) ≤ (x5.length : Int) then ((some (x5.take ((wrap64 (x3 - 1)) : Int).toNat : List Bool)).bind fun y271 => (if y268.length + y271.length < 140737488355328 then (impl_set_tidy.l1 k x3 (x4.take ((wrap64 ((x4.length : Int) - 1)) : Int).toNat) (y268 ++ y271)) else (none))) else (none))) else (none)) else (some (x4, x5))) else (none)) else (none)) else (none)) else (none)) else (some (x4, x5))
end
def impl_set_tidy.f (k : Nat) (l0_0 : List Bool) (l0_1 : List Bool) : Option (List Bool × List Bool) := impl_set_tidy.l0 k 1 l0_0 l0_1
theorem impl_set_tidy.mono_l : ∀ k, (∀ y0 y1 y2, LeO (impl_set_tidy.l0 k y0 y1 y2) (impl_set_tidy.l0 (k + 1) y0 y1 y2)) ∧ (∀ y0 y1 y2, LeO (impl_set_tidy.l1 k y0 y1 y2) (impl_set_tidy.l1 (k + 1) y0 y1 y2))
 | 0 => ⟨fun _ _ _ r h => by simp [impl_set_tidy.l0] at h, fun _ _ _ r h => by simp [impl_set_tidy.l1] at h⟩
 | k + 1 => by
  obtain ⟨ih0, ih1⟩ := impl_set_tidy.mono_l k
  refine ⟨?_, ?_⟩
  ·intro y0 y1 y2
   unfold impl_set_tidy.l0
   repeat' first | (with_reducible exact ih0 _ _ _) | (with_reducible exact ih1 _ _ _) | (with_reducible exact impl_turns.mono _ _ _) | (with_reducible exact LeO.refl _) | (with_reducible refine LeO.ite ?_ ?_) | (with_reducible refine LeO.bind ?_ (fun _ => ?_))
  ·intro y0 y1 y2
   unfold impl_set_tidy.l1
   repeat' first | (with_reducible exact ih1 _ _ _) | (with_reducible exact LeO.refl _) | (with_reducible refine LeO.ite ?_ ?_) | (with_reducible refine LeO.bind ?_ (fun _ => ?_))
theorem impl_set_tidy.mono : ∀ a0 a1 k, LeO (impl_set_tidy.f k a0 a1) (impl_set_tidy.f (k + 1) a0 a1) := by
 intro a0 a1 k
 obtain ⟨ih0, ih1⟩ := impl_set_tidy.mono_l k
 unfold impl_set_tidy.f
 repeat' (with_reducible exact ih0 _ _ _)
def impl_set_tidy.T4 : Bool × List (List Nat × List Nat) := (true, [([], []), ([0], [0]), ([1], [1]), ([], []), ([3], [3]), ([], []), ([4, 5], [4, 5]), ([6, 2], [6]), ([2, 7, 0, 1, 2], [2]), ([7, 8, 0, 1, 2, 3, 4, 5, 6, 7, 8], [7])])
def impl_set_tidy.B4 : List Nat := [0, 1, 3, 0, 8, 0, 56, 127, 255, 511]
theorem impl_set_tidy.tab4 : rtab .any (opsOf Try.f59 4) = impl_set_tidy.T4 := by kernel_rfl
theorem impl_set_tidy.bits4 : waitsOk impl_set_tidy.T4.2 impl_set_tidy.B4 = true := by kernel_rfl
def impl_set_tidy.T7 : Bool × List (List Nat × List Nat) := (true, [([], []), ([], []), ([1], [1]), ([0, 2], [0, 2]), ([3], [3]), ([4], [4]), ([], []), ([], []), ([7], [7]), ([6, 8], [6, 8]), ([5, 9], [5, 9]), ([10, 10, 0, 1, 2, 3, 4, 5, 6, 7, 8, 9, 10], [0, 6, 10])])
def impl_set_tidy.B7 : List Nat := [0, 0, 2, 7, 15, 31, 0, 0, 128, 448, 1023, 2047]
theorem impl_set_tidy.tab7 : rtab .any (opsOf Try.f59 7) = impl_set_tidy.T7 := by kernel_rfl
theorem impl_set_tidy.bits7 : waitsOk impl_set_tidy.T7.2 impl_set_tidy.B7 = true := by kernel_rfl
set_option maxHeartbeats 8000000 in
set_option maxRecDepth 100000 in
theorem impl_set_tidy.calls (k : Nat) (A0_0 : Option Addr) (c0_0 : Nat) (l0_0 : List Bool) (A0_1 : Option Addr) (c0_1 : Nat) (l0_1 : List Bool) (r1 : List Bool) (r2 : List Bool) (w : World) (hr0_0 : Kd.C Kd.bool w A0_0 l0_0.length l0_0) (hc0_0 : l0_0.length ≤ c0_0) (hr0_1 : Kd.C Kd.bool w A0_1 l0_1.length l0_1) (hc0_1 : l0_1.length ≤ c0_1) (h : impl_set_tidy.f k l0_0 l0_1 = some (r1, r2)) :
  Calls Try.prog 59 #[.agg #[.slice A0_0 l0_0.length c0_0, .slice A0_1 l0_1.length c0_1]] w fun e w' => ∃ v0_ v1_ : Value, e = .returned (.agg #[v0_, v1_]) ∧ Kd.R Kd.bool 4 w' w.heap.size (fun k_ => some k_ ≠ (v1_ : Value).ownBlock) v0_ r1 ∧ Kd.R Kd.bool 4 w' w.heap.size (fun k_ => some k_ ≠ (v0_ : Value).ownBlock) v1_ r2 ∧ Below w.heap.size w w' := by
 have HR0_0 := aM hr0_0
 have HC0_0 := aM hc0_0
 clear hr0_0 hc0_0
 have HR0_1 := aM hr0_1
 have HC0_1 := aM hc0_1
 clear hr0_1 hc0_1
 have HB := aM (cE w.heap.size w)
 have H : (impl_set_tidy.l0 k 1 l0_0 l0_1) = some (r1, r2) := h
 clear h
 have H' := aM H
 clear H
 go_enter Try.func59, Try.ntmps59
 go_wp2_with (first | ((with_reducible refine aZ (N := 1) rfl ?_); (try (refine gate_guard (by rfl) ?_; dsimp only)); refine bB ?hg (N := 1) ?hd (cs := #[.slice A0_0 l0_0.length c0_0, .slice A0_1 l0_1.length c0_1]) (t := 56) ?hr ?_; (case hd => rfl); (case hg => rfl); (case hr => first | (go_simp; done)); intro gb252 hg w2 hbox hb; have BK252 := aM hbox; replace HB := aM (aE HB.out hb); clear hb hbox hg) | ((with_reducible refine aZ (N := 2) rfl ?_); (try (refine gate_guard (by rfl) ?_; dsimp only)); refine bB ?hg (N := 2) ?hd (cs := #[.slice none 0 0, .slice none 0 0]) (t := 56) ?hr ?_; (case hd => rfl); (case hg => rfl); (case hr => first | (go_simp; done)); intro gb253 hg w3 hbox hb; have BK253 := aM hbox; have GE253 := aM ((by rw [hg]; exact (aG HB.out) : w.heap.size ≤ gb253)); replace HB := aM (aE HB.out hb); replace BK252 := aM (aD (g := gb252) (o := .cells #[.slice A0_0 l0_0.length c0_0, .slice A0_1 l0_1.length c0_1] 56 (0, 0)) BK252.out hb); clear hb hbox hg))
 go_loopg [3] k (fun kq v3 w' => ∃ (x3_1 : Int), v3 = .int .i64 x3_1 ∧ Aside0 (impl_set_tidy.l0 kq x3_1 l0_0 l0_1 = some (r1, r2)) ∧ Aside0 (kq ≤ k) ∧ Aside0 (w'.heap[gb252]? = some (.cells #[(.slice A0_0 l0_0.length c0_0), (.slice A0_1 l0_1.length c0_1)] 56 (0, 0))) ∧ Aside0 (w'.heap[gb253]? = some (.cells #[(.slice none 0 0), (.slice none 0 0)] 56 (0, 0))) ∧ Aside0 (Below w.heap.size w w'))
 case atStart => exact ⟨(1), (by rfl), H', ⟨cD _⟩, ⟨by exact BK252.out⟩, ⟨by exact BK253.out⟩, ⟨HB.out⟩⟩
 case round =>
  clear H'
  obtain ⟨x3_1, rfl, HA, HK1, BK252, BK253, HB⟩ := hrel
  cases gk with
  | zero => exact absurd HA.out (by simp [impl_set_tidy.l0])
  | succ k1 =>
   have H := HA.out
   clear HA
   simp only [impl_set_tidy.l0] at H
   replace H := Option.bind_eq_some_iff.mp H
   obtain ⟨t254, A40, H⟩ := H
   replace H : (if t254 = true then ((slices_Clone_bool_bool.f l0_0).bind fun t255 => (if 0 ≤ x3_1 then (if x3_1 ≤ (l0_1.length : Int) then ((slices_Clone_bool_bool.f (l0_1.take (x3_1 : Int).toNat)).bind fun t259 => (impl_set_tidy.l1 k1 x3_1 t255 t259)) else (none)) else (none))) else (impl_set_tidy.l0 k1 (wrap64 (x3_1 + 1)) l0_0 l0_1)) = some (r1, r2) := H
   have A4 := aM A40
   clear A40
   by_cases c5 : t254 = true
   ·subst c5
    replace H : ((slices_Clone_bool_bool.f l0_0).bind fun t255 => (if 0 ≤ x3_1 then (if x3_1 ≤ (l0_1.length : Int) then ((slices_Clone_bool_bool.f (l0_1.take (x3_1 : Int).toNat)).bind fun t259 => (impl_set_tidy.l1 k1 x3_1 t255 t259)) else (none)) else (none))) = some (r1, r2) := by rw [if_pos rfl] at H; exact H
    replace H := Option.bind_eq_some_iff.mp H
    obtain ⟨t255, A60, H⟩ := H
    replace H : (if 0 ≤ x3_1 then (if x3_1 ≤ (l0_1.length : Int) then ((slices_Clone_bool_bool.f (l0_1.take (x3_1 : Int).toNat)).bind fun t259 => (impl_set_tidy.l1 k1 x3_1 t255 t259)) else (none)) else (none)) = some (r1, r2) := H
    have A6 := aM A60
    clear A60
    by_cases c7 : 0 ≤ x3_1
    ·rw [if_pos c7] at H
     have c7b0 := eq_true c7
     have c7b1 : decide (0 ≤ x3_1) = true := aH c7
     clear c7
     by_cases c8 : x3_1 ≤ (l0_1.length : Int)
     ·rw [if_pos c8] at H
      have c8b0 := eq_true c8
      have c8b1 : decide (x3_1 ≤ (l0_1.length : Int)) = true := aH c8
      clear c8
      replace H := Option.bind_eq_some_iff.mp H
      obtain ⟨t259, A90, H⟩ := H
      replace H : (impl_set_tidy.l1 k1 x3_1 t255 t259) = some (r1, r2) := H
      have A9 := aM A90
      clear A90
      have H' := aM H
      clear H
      have hcz11_0 : wr.cell? ⟨gb252, 0, none⟩ = some (.slice A0_0 l0_0.length c0_0) := (aA BK252.out 0).trans rfl
      have hcz11_1 : wr.cell? ⟨gb252, 1, none⟩ = some (.slice A0_1 l0_1.length c0_1) := (aA BK252.out 1).trans rfl
      have hfz11_0 := aC BK252.out 0
      have hfz11_1 := aC BK252.out 1
      try go_wp2_with (first | ((with_reducible refine aY (f := 78) rfl ?_); refine gL 9 Try.func78 #[.slice A0_1 l0_1.length c0_1, .int .i64 x3_1] ?_; (with_reducible refine (impl_turns.calls k1 _ _ l0_1 x3_1 true _ ?side1 ?side2 A4.out).mono ?_); (case side1 => repeat (exact (bF HR0_1.out HB.out))); (case side2 => exact HC0_1.out); rintro e w' ⟨rfl, ⟨nd, rfl⟩⟩; refine ⟨_, rfl, ?_⟩))
      (try (rw [drewN_self wr]; generalize hq_ : World.drewN wr _ = wr; have n0_ : Aside0 (wr.heap[gb252]? = some (.cells #[.slice A0_0 l0_0.length c0_0, .slice A0_1 l0_1.length c0_1] 56 (0, 0))) := ⟨by rw [← hq_]; exact (by (with_reducible repeat (refine kN ?_ _)); exact BK252.out)⟩; have n1_ : Aside0 (wr.heap[gb253]? = some (.cells #[.slice none 0 0, .slice none 0 0] 56 (0, 0))) := ⟨by rw [← hq_]; exact (by (with_reducible repeat (refine kN ?_ _)); exact BK253.out)⟩; have n2_ : Aside0 (Below w.heap.size w wr) := ⟨by rw [← hq_]; exact (by repeat (first | (with_reducible first | exact HB.out | apply bN)))⟩; clear BK252 BK253 HB hq_; have BK252 := n0_; have BK253 := n1_; have HB := n2_; clear n0_ n1_ n2_))
      replace BK252 := aM (kD BK252.out)
      replace BK253 := aM (kD BK253.out)
      replace HB := aM (b1 HB.out)
      obtain ⟨i013, hi013, _, hsz13, _⟩ := info_parts info4
      obtain ⟨hcut13, hA13, hC13⟩ := print_take_of (P := Try.prog) Value.bool false 52 4 .i64 Try.underlying52 hi013 hsz13 A0_1 c0_1 l0_1 x3_1 (aJ (by (with_reducible assumption))) (aJ (by (with_reducible assumption))) HC0_1.out
      have HR258 := aM (cP (h1 := fun _ => rfl) (hA13 _ (Kd.reads_of_C HR0_1.out)))
      have HC258 := aM hC13
      clear hA13 hC13 hi013 hsz13
      refine start_ (n := 10) (S := fun w' => w'.cell? ⟨gb252, 0, none⟩ = some (.slice A0_0 l0_0.length c0_0) ∧ w'.cell? ⟨gb252, 1, none⟩ = some (.slice A0_1 l0_1.length c0_1)) (ds := []) #[false, false, false, false, false, false, false, false, false, false] (by kernel_rfl) rfl rfl ⟨(aA BK252.out 0).trans rfl, (aA BK252.out 1).trans rfl⟩ (fun hHeld => ?_); refine with_tabW impl_set_tidy.tab4 impl_set_tidy.bits4 (fun HT_ HW_ => ?_)
      generalize wr.drew = w12 at BK252 BK253 HB HR258 hHeld ⊢
      refine pQ 0 13 HT_ ?_
      refine pQ 3 16 HT_ ?_
      refine pQ 5 18 HT_ ?_
      refine tQ 1 14 HT_ HW_ hHeld ?_
      refine tQ 4 17 HT_ HW_ hHeld ?_
      refine pQ 6 19 HT_ ?_
      refine oQ 2 15 HT_ (fun K hK => ?_)
      refine gO Try.func79 #[.slice A0_0 l0_0.length c0_0] ?_
      with_reducible refine (slices_Clone_bool_bool.calls _ _ l0_0 t255 _ ?side1 ?side2 A6.out).mono ?_
      (case side1 => repeat (exact (bF HR0_0.out HB.out)))
      (case side2 => exact HC0_0.out)
      rintro e w14 ⟨v256, rfl, ho0, hb⟩
      refine ⟨_, rfl, ?_⟩
      have HO257 := aM (bP ho0 (aG HB.out))
      replace BK252 := aM (aD (g := gb252) (o := .cells #[.slice A0_0 l0_0.length c0_0, .slice A0_1 l0_1.length c0_1] 56 (0, 0)) BK252.out hb)
      replace BK253 := aM (aD (g := gb253) (o := .cells #[.slice none 0 0, .slice none 0 0] 56 (0, 0)) BK253.out hb)
      replace HB := aM (aE HB.out hb)
      (try clear hb)
      (try clear ho0)
      refine hK.out _ _ ⟨(aA BK252.out 0).trans rfl, (aA BK252.out 1).trans rfl⟩ (fun hHeld => ?_)
      clear hK K
      refine nQ ?_
      refine oQ 7 20 HT_ (fun K hK => ?_)
      refine gO Try.func79 #[.slice A0_1 (l0_1.take (x3_1 : Int).toNat).length c0_1] (hargs := (by (try simp only [aN, aQ, aT]); first | (rw [show (l0_1.take (x3_1 : Int).toNat).length = x3_1.toNat from (by rw [List.length_take]; have h_ : (x3_1 : Int) ≤ (l0_1.length : Int) := aJ (by (with_reducible assumption)); omega)] <;> rfl))) ?_
      with_reducible refine (slices_Clone_bool_bool.calls _ _ (l0_1.take (x3_1 : Int).toNat) t259 _ ?side1 ?side2 A9.out).mono ?_
      (case side1 => repeat (exact (bF HR258.out HB.out)))
      (case side2 => exact HC258.out)
      rintro e w15 ⟨v260, rfl, ho0, hb⟩
      refine ⟨_, rfl, ?_⟩
      have HO261 := aM (bP (Kd.R_new' ho0 (Kd.R_lt HO257.out)) (aG HB.out))
      replace HO257 := aM (Kd.R_elder' HO257.out (Kd.R_base ho0) hb)
      replace BK252 := aM (aD (g := gb252) (o := .cells #[.slice A0_0 l0_0.length c0_0, .slice A0_1 l0_1.length c0_1] 56 (0, 0)) BK252.out hb)
      replace BK253 := aM (aD (g := gb253) (o := .cells #[.slice none 0 0, .slice none 0 0] 56 (0, 0)) BK253.out hb)
      replace HB := aM (aE HB.out hb)
      (try clear hb)
      (try clear ho0)
      refine hK.out _ _ ⟨(aA BK252.out 0).trans rfl, (aA BK252.out 1).trans rfl⟩ (fun hHeld => ?_)
      clear hK K
      refine nQ ?_
      refine pQ 8 4 HT_ ?_
      refine pQ 9 5 HT_ ?_
      refine done_ (done_of HT_.out (by kernel_rfl)) ?_
      try go_wp2
      go_loopg [4, 5] k1 (fun kq v4 v5 w' => ∃ (x4_2 : List Bool) (x5_2 : List Bool), Aside0 (impl_set_tidy.l1 kq x3_1 x4_2 x5_2 = some (r1, r2)) ∧ Aside0 (kq ≤ k1) ∧ Aside0 (Kd.R Kd.bool 4 w' w.heap.size (fun k_ => some k_ ≠ (v5 : Value).ownBlock) v4 x4_2) ∧ Aside0 (Kd.R Kd.bool 4 w' w.heap.size (fun k_ => some k_ ≠ (v4 : Value).ownBlock) v5 x5_2) ∧ Aside0 (w'.heap[gb252]? = some (.cells #[(.slice A0_0 l0_0.length c0_0), (.slice A0_1 l0_1.length c0_1)] 56 (0, 0))) ∧ Aside0 (w'.heap[gb253]? = some (.cells #[(.slice none 0 0), (.slice none 0 0)] 56 (0, 0))) ∧ Aside0 (Below w.heap.size w w'))
      case atStart => exact ⟨(t255), (t259), H', ⟨cD _⟩, ⟨by exact bJ HO257.out (fun _ hk => hk.2)⟩, ⟨by exact bJ HO261.out (fun _ hk => hk.2)⟩, ⟨by exact BK252.out⟩, ⟨by exact BK253.out⟩, ⟨HB.out⟩⟩
      case round =>
       clear H'
       try clear c7b0
       try clear c7b1
       try clear c8b0
       try clear c8b1
       try clear hcz11_0
       try clear hcz11_1
       try clear hfz11_0
       try clear hfz11_1
       obtain ⟨x4_2, x5_2, HA, HK2, HO_4, HO_5, BK252, BK253, HB⟩ := hrel
       cases gk with
       | zero => exact absurd HA.out (by simp [impl_set_tidy.l1])
       | succ k2 =>
        have H := HA.out
        clear HA
        simp only [impl_set_tidy.l1] at H
        by_cases c16 : (x4_2.length : Int) > 0
        ·rw [if_pos c16] at H
         have c16b1 : decide (0 < x4_2.length) = true := aH (by omega)
         clear c16
         obtain ⟨ji17, hji17⟩ : ∃ j_ : Int, (wrap64 ((x4_2.length : Int) - 1)) = j_ := ⟨_, rfl⟩
         replace H : (if 0 ≤ (ji17) then (if (ji17) < (x4_2.length : Int) then (if 0 ≤ (wrap64 (x3_1 - 1)) then (if (wrap64 (x3_1 - 1)) < (x5_2.length : Int) then (if ((rdOf false x4_2 (ji17)) == (rdOf false x5_2 (wrap64 (x3_1 - 1)))) = true then (if (ji17) ≤ (x4_2.length : Int) then ((some (([rdOf false x5_2 (wrap64 (x3_1 - 1))] : List Bool) : List Bool)).bind fun y268 => (if (wrap64 (x3_1 - 1)) ≤ (x5_2.length : Int) then ((some (x5_2.take ((wrap64 (x3_1 - 1)) : Int).toNat : List Bool)).bind fun y271 => (if y268.length + y271.length < 140737488355328 then (impl_set_tidy.l1 k2 x3_1 (x4_2.take ((ji17) : Int).toNat) (y268 ++ y271)) else (none))) else (none))) else (none)) else (some (x4_2, x5_2))) else (none)) else (none)) else (none)) else (none)) = some (r1, r2) := by first | (rw [hji17] at H; exact H)
         have hji17w : (IntKind.i64.wrap ((x4_2.length : Int) - 1)) = ji17 := (cS _).trans hji17
         by_cases c18 : 0 ≤ (ji17)
         ·rw [if_pos c18] at H
          have c18b0 : decide (0 ≤ (ji17)) = true := aH c18
          clear c18
          by_cases c19 : (ji17) < (x4_2.length : Int)
          ·rw [if_pos c19] at H
           have c19b0 : decide ((ji17) < (x4_2.length : Int)) = true := aH c19
           clear c19
           obtain ⟨ji20, hji20⟩ : ∃ j_ : Int, (wrap64 (x3_1 - 1)) = j_ := ⟨_, rfl⟩
           replace H : (if 0 ≤ (ji20) then (if (ji20) < (x5_2.length : Int) then (if ((rdOf false x4_2 (ji17)) == (rdOf false x5_2 (ji20))) = true then (if (ji17) ≤ (x4_2.length : Int) then ((some (([rdOf false x5_2 (ji20)] : List Bool) : List Bool)).bind fun y268 => (if (ji20) ≤ (x5_2.length : Int) then ((some (x5_2.take ((ji20) : Int).toNat : List Bool)).bind fun y271 => (if y268.length + y271.length < 140737488355328 then (impl_set_tidy.l1 k2 x3_1 (x4_2.take ((ji17) : Int).toNat) (y268 ++ y271)) else (none))) else (none))) else (none)) else (some (x4_2, x5_2))) else (none)) else (none)) = some (r1, r2) := by first | (rw [hji20] at H; exact H)
           have hji20w : (IntKind.i64.wrap (x3_1 - 1)) = ji20 := (cS _).trans hji20
           by_cases c21 : 0 ≤ (ji20)
           ·rw [if_pos c21] at H
            have c21b0 : decide (0 ≤ (ji20)) = true := aH c21
            clear c21
            by_cases c22 : (ji20) < (x5_2.length : Int)
            ·rw [if_pos c22] at H
             have c22b0 : decide ((ji20) < (x5_2.length : Int)) = true := aH c22
             clear c22
             by_cases c23 : ((rdOf false x4_2 (ji17)) == (rdOf false x5_2 (ji20))) = true
             ·rw [if_pos c23] at H
              have c23b0 : ((rdOf false x4_2 (ji17)) == (rdOf false x5_2 (ji20))) = true := c23
              (try (have c23b1 : decide ((rdOf false x4_2 (ji17)) = (rdOf false x5_2 (ji20))) = true := by simpa using c23))
              (try (have c23b2 : ((rdOf false x4_2 (ji17)) == (rdOf false x5_2 (ji20))) = true := by simpa using c23))
              clear c23
              by_cases c24 : (ji17) ≤ (x4_2.length : Int)
              ·rw [if_pos c24] at H
               have c24b1 : decide ((ji17) ≤ (x4_2.length : Int)) = true := aH c24
               clear c24
               obtain ⟨y264, hy264⟩ : ∃ y_ : List Bool, y_ = (x4_2.take ((ji17) : Int).toNat) := ⟨_, rfl⟩
               replace H : ((some (([rdOf false x5_2 (ji20)] : List Bool) : List Bool)).bind fun y268 => (if (ji20) ≤ (x5_2.length : Int) then ((some (x5_2.take ((ji20) : Int).toNat : List Bool)).bind fun y271 => (if y268.length + y271.length < 140737488355328 then (impl_set_tidy.l1 k2 x3_1 y264 (y268 ++ y271)) else (none))) else (none))) = some (r1, r2) := by first | (rw [hy264]; with_reducible exact H)
               have Ny264 := aM hy264
               clear hy264
               obtain ⟨y268, hy268⟩ : ∃ y_ : List Bool, y_ = (([rdOf false x5_2 (ji20)] : List Bool)) := ⟨_, rfl⟩
               replace H : (if (ji20) ≤ (x5_2.length : Int) then ((some (x5_2.take ((ji20) : Int).toNat : List Bool)).bind fun y271 => (if y268.length + y271.length < 140737488355328 then (impl_set_tidy.l1 k2 x3_1 y264 (y268 ++ y271)) else (none))) else (none)) = some (r1, r2) := by first | (have H2_ := (bR _ _).symm.trans H; rw [hy268]; with_reducible exact H2_)
               have Ny268 := aM hy268
               clear hy268
               have c25b0 := eq_true (aJ (by (with_reducible assumption)) : 0 ≤ (ji20))
               by_cases c26 : (ji20) ≤ (x5_2.length : Int)
               ·rw [if_pos c26] at H
                have c26b1 : decide ((ji20) ≤ (x5_2.length : Int)) = true := aH c26
                clear c26
                obtain ⟨y271, hy271⟩ : ∃ y_ : List Bool, y_ = (x5_2.take ((ji20) : Int).toNat) := ⟨_, rfl⟩
                replace H : (if y268.length + y271.length < 140737488355328 then (impl_set_tidy.l1 k2 x3_1 y264 (y268 ++ y271)) else (none)) = some (r1, r2) := by first | (have H2_ := (bR _ _).symm.trans H; rw [hy271]; with_reducible exact H2_)
                have Ny271 := aM hy271
                clear hy271
                by_cases c27 : y268.length + y271.length < 140737488355328
                ·rw [if_pos c27] at H
                 have LMc27 := aM c27
                 clear c27
                 obtain ⟨y275, hy275⟩ : ∃ y_ : List Bool, y_ = (y268 ++ y271) := ⟨_, rfl⟩
                 replace H : (impl_set_tidy.l1 k2 x3_1 y264 y275) = some (r1, r2) := by first | (rw [hy275]; with_reducible exact H)
                 have Ny275 := aM hy275
                 clear hy275
                 have H' := aM H
                 clear H
                 try go_wp2
                 replace HO_4 := aM (rD HO_4.out)
                 replace HO_5 := aM (rD HO_5.out)
                 replace BK252 := aM (kD BK252.out)
                 replace BK253 := aM (kD BK253.out)
                 replace HB := aM (b1 HB.out)
                 obtain ⟨Ao29, co29, eo29⟩ := bL HO_4.out
                 (subst eo29)
                 have p262 : 0 ≤ ((ji17) : Int) := aJ (by (with_reducible assumption))
                 have q262 : (ji17) < (x4_2.length : Int) := aJ (by (with_reducible assumption))
                 obtain ⟨ad262, e262, hx262_0⟩ := Kd.at_bool (bM HO_4.out).2.2 (ji17) p262 q262
                 cases e262
                 replace p262 := eq_true p262
                 replace q262 := eq_true q262
                 obtain ⟨Ao30, co30, eo30⟩ := bL HO_5.out
                 (subst eo30)
                 have p263 : 0 ≤ ((ji20) : Int) := aJ (by (with_reducible assumption))
                 have q263 : (ji20) < (x5_2.length : Int) := aJ (by (with_reducible assumption))
                 obtain ⟨ad263, e263, hx263_0⟩ := Kd.at_bool (bM HO_5.out).2.2 (ji20) p263 q263
                 cases e263
                 replace q263 := eq_true q263
                 go_region
                 generalize wr.drew = w28 at HO_4 HO_5 BK252 BK253 HB hx262_0 hx263_0 ⊢
                 have q31 : ((ji17) : Int) ≤ ((x4_2.length : Int) : Int) := aJ (by (with_reducible assumption))
                 obtain ⟨i031, hi031, _, hsz31, _⟩ := info_parts info4
                 have hcut31 := cut_to (P := Try.prog) 52 4 .i64 Try.underlying52 hi031 (some ad262) x4_2.length co29 (ji17) (aJ (by (with_reducible assumption))) q31 (bM HO_4.out).2.1
                 have hr31 := Kd.R_take (m := ((ji17) : Int).toNat) HO_4.out (by omega)
                 have hy31 : y264.length = ((ji17) : Int).toNat := (by rw [Ny264.out, List.length_take]; omega)
                 rw [← Ny264.out] at hr31
                 rw [← hy31] at hr31 hcut31
                 clear hy31 hi031 hsz31 HO_4
                 have HO266 := aM hr31
                 clear hr31
                 try go_wp2
                 replace HO266 := aM (rD HO266.out)
                 replace HO_5 := aM (rD HO_5.out)
                 replace BK252 := aM (kD BK252.out)
                 replace BK253 := aM (kD BK253.out)
                 replace HB := aM (b1 HB.out)
                 have p267 : 0 ≤ ((ji20) : Int) := aJ (by (with_reducible assumption))
                 have q267 : (ji20) < (x5_2.length : Int) := aJ (by (with_reducible assumption))
                 obtain ⟨ad267, e267, hx267_0⟩ := Kd.at_bool (bM HO_5.out).2.2 (ji20) p267 q267
                 obtain rfl : ad263 = ad267 := (by injection e267)
                 have q33 : ((ji20) : Int) ≤ ((x5_2.length : Int) : Int) := aJ (by (with_reducible assumption))
                 obtain ⟨i033, hi033, _, hsz33, _⟩ := info_parts info4
                 have hroom33 : x5_2.length ≤ co30 := (bM HO_5.out).2.1
                 have hC33 : Kd.C Kd.bool _ (some ad263) x5_2.length x5_2 := (bM HO_5.out).2.2
                 have hcut33 := cut_to (P := Try.prog) 52 4 .i64 Try.underlying52 hi033 (some ad263) x5_2.length co30 (ji20) (aJ (by (with_reducible assumption))) q33 hroom33
                 have hr33 := Kd.C_take (m := ((ji20) : Int).toNat) hC33 (by omega)
                 have hy33 : y271.length = ((ji20) : Int).toNat := (by rw [Ny271.out, List.length_take]; omega)
                 rw [← Ny271.out] at hr33
                 rw [← hy33] at hcut33
                 have HR274 := aM hr33
                 clear hr33 hC33 hroom33 hi033 hsz33
                 clear hy33
                 refine start_ (n := 12) (S := fun w' => w'.cell? (ad263.add ((ji20)).toNat) = some (.bool (rdOf false x5_2 (ji20)))) (ds := [10]) #[false, false, false, false, false, false, false, false, false, false, false, false] (by kernel_rfl) rfl rfl (hx267_0) (fun hHeld => ?_); refine with_tabW impl_set_tidy.tab7 impl_set_tidy.bits7 (fun HT_ HW_ => ?_)
                 generalize w28.drew = w32 at HO266 HO_5 BK252 BK253 HB HR274 hx267_0 hHeld ⊢
                 refine pQ 0 43 HT_ ?_
                 refine pQ 1 44 HT_ ?_
                 refine pQ 2 45 HT_ ?_
                 refine pQ 3 46 HT_ ?_
                 refine pQ 6 49 HT_ ?_
                 refine pQ 7 50 HT_ ?_
                 refine pQ 8 51 HT_ ?_
                 refine pQ 9 52 HT_ ?_
                 refine take_ (i := 4) (N := some 47) (v := ?_) (a' := ?_) #[true, true, true, true, true, false, true, true, true, true, false, false] rfl rfl (take_ofW HT_.out HW_.out (by kernel_rfl)) (fun _ _ _ h => h) (Or.inl ⟨by rfl, ?_⟩) hHeld ?_ ?_
                 rotate_left
                 ·intro w' s0
                  go_simp
                  with_reducible rfl
                 rotate_left
                 ·simp only [Act.put, sA, sZ, sS, cS, cT]
                  rfl
                 refine oQ 5 48 HT_ (fun K hK => ?_)
                 refine Kd.R_lit_step Kd.bool _ 4 ?hg (N := 48) ?hd (xs := ([rdOf false x5_2 (ji20)] : List Bool)) (inner := [.bool (rdOf false x5_2 (ji20))]) (ok := fun _ => True) (okp := fun _ => True) ?hr ?hp (fun _ hk => hk) trivial (cE _ _) (cD _) (by simp) ?_; (case hd => rfl); (case hg => rfl); (case hr => first | (go_simp; done)); (case hp => exact (Reps.one (show Kd.M Kd.bool _ _ _ (rdOf false x5_2 (ji20)) [.bool (rdOf false x5_2 (ji20))] from rfl) (Reps.none _ _)))
                 intro v269 w34 ho35 hb hg_ hnew_
                 have HS0_ := (hb.cell (World.block_lt_of_cell? _ _ (hHeld))).trans (hHeld)
                 clear hg_ hnew_
                 (rw [← Ny268.out] at ho35)
                 have HO270 := aM (bP (Kd.R_new' (Kd.R_new' ho35 (Kd.R_lt HO266.out)) (Kd.R_lt HO_5.out)) (aG HB.out))
                 replace HO266 := aM (Kd.R_elder' HO266.out (Kd.R_base ho35) hb)
                 replace HO_5 := aM (Kd.R_elder' HO_5.out (Kd.R_base ho35) hb)
                 replace BK252 := aM (aD (g := gb252) (o := .cells #[.slice A0_0 l0_0.length c0_0, .slice A0_1 l0_1.length c0_1] 56 (0, 0)) BK252.out hb)
                 replace BK253 := aM (aD (g := gb253) (o := .cells #[.slice none 0 0, .slice none 0 0] 56 (0, 0)) BK253.out hb)
                 replace HR274 := aM (bF HR274.out hb)
                 replace HB := aM (aE HB.out hb)
                 clear hb ho35
                 refine hK.out _ _ (HS0_) (fun hHeld => ?_)
                 clear hK K
                 refine nQ ?_
                 refine last_ (i := 10) (N := some 53) #[true, true, true, true, true, true, true, true, true, true, true, false] rfl rfl (one_of HT_.out (by kernel_rfl)) (by decide) (fun K hK => ?_)
                 refine Kd.R_append_rows_step Kd.bool (w0 := w) w.heap.size (by rfl) (.tmp 48) (.tmp 52) 52 4 (.bool false) 1 rfl Try.underlying52 info4 rfl (by decide) (by omega) v269 y268 y271 _ _ _ (fun k_ => some k_ ≠ (.slice (some ad262) y264.length co29 : Value).ownBlock ∧ some k_ ≠ (.slice (some ad263) x5_2.length co30 : Value).ownBlock) (fun _ => False) rfl rfl ?aO ?aR (fun _ _ h => h) (fun _ h => h.elim) ?aF ?aB ?aS ?aL ?_
                 (case aR => repeat (exact (by repeat (exact HR274.out))))
                 (case aB => exact HB.out)
                 (case aF => exact (fun k_ hk => ⟨Kd.fresh' (Kd.R_lt HO266.out) k_ hk, Kd.fresh' (Kd.R_lt HO_5.out) k_ hk⟩))
                 (case aO => exact (by exact bJ HO270.out (fun _ hk => ⟨hk.1.2, hk.2⟩)))
                 (case aS => exact (aG HB.out))
                 (case aL => have := LMc27.out; omega)
                 intro v276 w36 ho hb hg hat
                 rw [← Ny275.out] at ho
                 replace HO266 := aM (cJ (ok := (fun k_ => some k_ ≠ (.slice (some ad263) x5_2.length co30 : Value).ownBlock)) HO266.out hg hat)
                 replace BK252 := aM (blk_grown (g := gb252) (o := .cells #[.slice A0_0 l0_0.length c0_0, .slice A0_1 l0_1.length c0_1] 56 (0, 0)) BK252.out hg (Kd.R_ne HO270.out BK252.out (by decide)))
                 replace BK253 := aM (blk_grown (g := gb253) (o := .cells #[.slice none 0 0, .slice none 0 0] 56 (0, 0)) BK253.out hg (Kd.R_ne HO270.out BK253.out (by decide)))
                 replace HB := aM hb
                 have HO277 := aM ho
                 clear HO270
                 clear ho hb hg hat
                 refine hK.out _ _ ?_
                 clear hK K
                 refine nQ ?_
                 refine pQ 11 5 HT_ ?_
                 refine done_ (done_of HT_.out (by kernel_rfl)) ?_
                 try go_wp2
                 go_roundg k2
                 case measure => have := HK1.out; have := HK2.out; omega
                 case rel => exact ⟨(y264), (y275), H', ⟨by have := HK1.out; have := HK2.out; omega⟩, ⟨by exact bJ HO266.out (fun _ hk => hk.2)⟩, ⟨by exact bJ HO277.out (fun _ hk => hk.1)⟩, ⟨by exact BK252.out⟩, ⟨by exact BK253.out⟩, ⟨HB.out⟩⟩
                ·rw [if_neg c27] at H
                 exact absurd H (by simp)
               ·rw [if_neg c26] at H
                exact absurd H (by simp)
              ·rw [if_neg c24] at H
               exact absurd H (by simp)
             ·rw [if_neg c23] at H
              have c23b0 : ((rdOf false x4_2 (ji17)) == (rdOf false x5_2 (ji20))) = false := by simpa using c23
              (try (have c23b1 : decide ((rdOf false x4_2 (ji17)) = (rdOf false x5_2 (ji20))) = false := by simpa using c23))
              (try (have c23b2 : ((rdOf false x4_2 (ji17)) == (rdOf false x5_2 (ji20))) = false := by simpa using c23))
              (try (have c23b3 : ¬ ((rdOf false x4_2 (ji17)) = (rdOf false x5_2 (ji20))) := by simpa using c23))
              clear c23
              simp only [aV, aW] at H
              obtain ⟨rfl, rfl⟩ := H
              try go_wp2
              replace HO_4 := aM (rD HO_4.out)
              replace HO_5 := aM (rD HO_5.out)
              replace BK252 := aM (kD BK252.out)
              replace BK253 := aM (kD BK253.out)
              replace HB := aM (b1 HB.out)
              obtain ⟨Ao38, co38, eo38⟩ := bL HO_4.out
              (subst eo38)
              have p262 : 0 ≤ ((ji17) : Int) := aJ (by (with_reducible assumption))
              have q262 : (ji17) < (x4_2.length : Int) := aJ (by (with_reducible assumption))
              obtain ⟨ad262, e262, hx262_0⟩ := Kd.at_bool (bM HO_4.out).2.2 (ji17) p262 q262
              cases e262
              replace p262 := eq_true p262
              replace q262 := eq_true q262
              obtain ⟨Ao39, co39, eo39⟩ := bL HO_5.out
              (subst eo39)
              have p263 : 0 ≤ ((ji20) : Int) := aJ (by (with_reducible assumption))
              have q263 : (ji20) < (x5_2.length : Int) := aJ (by (with_reducible assumption))
              obtain ⟨ad263, e263, hx263_0⟩ := Kd.at_bool (bM HO_5.out).2.2 (ji20) p263 q263
              cases e263
              replace p263 := eq_true p263
              replace q263 := eq_true q263
              go_region
              generalize wr.drew = w37 at HO_4 HO_5 BK252 BK253 HB hx262_0 hx263_0 ⊢
              have hcz41_0 : w37.cell? ⟨gb253, 0, none⟩ = some (.slice none 0 0) := (aA BK253.out 0).trans rfl
              have hcz41_1 : w37.cell? ⟨gb253, 1, none⟩ = some (.slice none 0 0) := (aA BK253.out 1).trans rfl
              have hfz41_0 := aC BK253.out 0
              have hfz41_1 := aC BK253.out 1
              try go_wp2
              refine cF (results_cell_row rfl _ _ gb253 56 #[.slice (some ad262) x4_2.length co38, .slice (some ad263) x5_2.length co39] (0, 0) _ rfl (by refine bV (cs := #[.slice (some ad262) x4_2.length co38, .slice none 0 0]) ?_ 1 _ rfl; refine bV (cs := #[.slice none 0 0, .slice none 0 0]) ?_ 0 _ rfl; exact BK253.out) Try.underlying56 rfl (by kernel_rfl)) rfl ?_
              exact ⟨_, _, by first | rfl | (simp [*, errW_none, errW_some] <;> rfl), by exact bJ (bC (p := ⟨gb253, 1, none⟩) (bC (p := ⟨gb253, 0, none⟩) (bE HO_4.out BK253.out (by decide)) (fun _ hk => hk.2) (.slice (some ad262) x4_2.length co38)) (fun _ hk => hk.2) (.slice (some ad263) x5_2.length co39)) (fun _ hk => hk.1), by exact bJ (bC (p := ⟨gb253, 1, none⟩) (bC (p := ⟨gb253, 0, none⟩) (bE HO_5.out BK253.out (by decide)) (fun _ hk => hk.2) (.slice (some ad262) x4_2.length co38)) (fun _ hk => hk.2) (.slice (some ad263) x5_2.length co39)) (fun _ hk => hk.1), by repeat (first | (with_reducible first | exact HB.out | refine bS ?_ GE253.out))⟩
            ·rw [if_neg c22] at H
             exact absurd H (by simp)
           ·rw [if_neg c21] at H
            exact absurd H (by simp)
          ·rw [if_neg c19] at H
           exact absurd H (by simp)
         ·rw [if_neg c18] at H
          exact absurd H (by simp)
        ·rw [if_neg c16] at H
         have c16b1 : decide (0 < x4_2.length) = false := aK (by omega)
         clear c16
         simp only [aV, aW] at H
         obtain ⟨rfl, rfl⟩ := H
         try go_wp2
         replace HO_4 := aM (rD HO_4.out)
         replace HO_5 := aM (rD HO_5.out)
         replace BK252 := aM (kD BK252.out)
         replace BK253 := aM (kD BK253.out)
         replace HB := aM (b1 HB.out)
         obtain ⟨Ao43, co43, eo43⟩ := bL HO_4.out
         (subst eo43)
         go_region
         generalize wr.drew = w42 at HO_4 HO_5 BK252 BK253 HB ⊢
         obtain ⟨Ao44, co44, eo44⟩ := bL HO_5.out
         subst eo44
         have hcz46_0 : w42.cell? ⟨gb253, 0, none⟩ = some (.slice none 0 0) := (aA BK253.out 0).trans rfl
         have hcz46_1 : w42.cell? ⟨gb253, 1, none⟩ = some (.slice none 0 0) := (aA BK253.out 1).trans rfl
         have hfz46_0 := aC BK253.out 0
         have hfz46_1 := aC BK253.out 1
         try go_wp2
         refine cF (results_cell_row rfl _ _ gb253 56 #[.slice Ao43 x4_2.length co43, .slice Ao44 x5_2.length co44] (0, 0) _ rfl (by refine bV (cs := #[.slice Ao43 x4_2.length co43, .slice none 0 0]) ?_ 1 _ rfl; refine bV (cs := #[.slice none 0 0, .slice none 0 0]) ?_ 0 _ rfl; exact BK253.out) Try.underlying56 rfl (by kernel_rfl)) rfl ?_
         exact ⟨_, _, by first | rfl | (simp [*, errW_none, errW_some] <;> rfl), by exact bJ (bC (p := ⟨gb253, 1, none⟩) (bC (p := ⟨gb253, 0, none⟩) (bE HO_4.out BK253.out (by decide)) (fun _ hk => hk.2) (.slice Ao43 x4_2.length co43)) (fun _ hk => hk.2) (.slice Ao44 x5_2.length co44)) (fun _ hk => hk.1), by exact bJ (bC (p := ⟨gb253, 1, none⟩) (bC (p := ⟨gb253, 0, none⟩) (bE HO_5.out BK253.out (by decide)) (fun _ hk => hk.2) (.slice Ao43 x4_2.length co43)) (fun _ hk => hk.2) (.slice Ao44 x5_2.length co44)) (fun _ hk => hk.1), by repeat (first | (with_reducible first | exact HB.out | refine bS ?_ GE253.out))⟩
     ·rw [if_neg c8] at H
      exact absurd H (by simp)
    ·rw [if_neg c7] at H
     exact absurd H (by simp)
   ·replace c5 := Bool.eq_false_iff.mpr c5
    subst c5
    replace H : (impl_set_tidy.l0 k1 (wrap64 (x3_1 + 1)) l0_0 l0_1) = some (r1, r2) := by rw [if_neg (show ¬ (false = true) by decide)] at H; exact H
    have H' := aM H
    clear H
    have hcz48_1 : wr.cell? ⟨gb252, 1, none⟩ = some (.slice A0_1 l0_1.length c0_1) := (aA BK252.out 1).trans rfl
    go_wp2_with (first | ((with_reducible refine aY (f := 78) rfl ?_); refine gL 9 Try.func78 #[.slice A0_1 l0_1.length c0_1, .int .i64 x3_1] ?_; (with_reducible refine (impl_turns.calls k1 _ _ l0_1 x3_1 false _ ?side1 ?side2 A4.out).mono ?_); (case side1 => repeat (exact (bF HR0_1.out HB.out))); (case side2 => exact HC0_1.out); rintro e w' ⟨rfl, ⟨nd, rfl⟩⟩; refine ⟨_, rfl, ?_⟩))
    go_roundg k1
    case measure => have := HK1.out; omega
    case rel => exact ⟨(wrap64 (x3_1 + 1)), (by rfl), H', ⟨by have := HK1.out; omega⟩, ⟨by (with_reducible repeat (refine kN ?_ _)); exact BK252.out⟩, ⟨by (with_reducible repeat (refine kN ?_ _)); exact BK253.out⟩, ⟨by repeat (first | (with_reducible first | exact HB.out | apply bN))⟩⟩


def impl_tidied.f (k : Nat) (a0 : ByteArray) : Option (List Bool × List Bool × Bool) := (impl_setOf.f a0).bind fun bt279 => (if bt279.2.2 = true then ((impl_set_tidy.f k bt279.1 bt279.2.1).bind fun bt287 => (some (bt287.1, bt287.2, true))) else (some (([] : List Bool), ([] : List Bool), false)))
set_option maxHeartbeats 8000000 in
set_option maxRecDepth 100000 in
theorem impl_tidied.calls (k : Nat) (a0 : ByteArray) (r1 : List Bool) (r2 : List Bool) (r3 : Bool) (w : World) (h : impl_tidied.f k a0 = some (r1, r2, r3)) :
  Calls Try.prog 36 #[.string a0] w fun e w' => ∃ v0_ v1_ : Value, e = .returned (.tuple #[.agg #[v0_, v1_], .bool r3]) ∧ Kd.R Kd.bool 4 w' w.heap.size (fun k_ => some k_ ≠ (v1_ : Value).ownBlock) v0_ r1 ∧ Kd.R Kd.bool 4 w' w.heap.size (fun k_ => some k_ ≠ (v0_ : Value).ownBlock) v1_ r2 ∧ Below w.heap.size w w' := by
 have HB := aM (cE w.heap.size w)
 have H : ((impl_setOf.f a0).bind fun bt279 => (if bt279.2.2 = true then ((impl_set_tidy.f k bt279.1 bt279.2.1).bind fun bt287 => (some (bt287.1, bt287.2, true))) else (some (([] : List Bool), ([] : List Bool), false)))) = some (r1, r2, r3) := h
 clear h
 replace H := Option.bind_eq_some_iff.mp H
 obtain ⟨⟨t279, t282, t285⟩, A20, H⟩ := H
 replace H : (if t285 = true then ((impl_set_tidy.f k t279 t282).bind fun bt287 => (some (bt287.1, bt287.2, true))) else (some (([] : List Bool), ([] : List Bool), false))) = some (r1, r2, r3) := H
 have A2 := aM A20
 clear A20
 by_cases c3 : t285 = true
 ·subst c3
  replace H : ((impl_set_tidy.f k t279 t282).bind fun bt287 => (some (bt287.1, bt287.2, true))) = some (r1, r2, r3) := by rw [if_pos rfl] at H; exact H
  replace H := Option.bind_eq_some_iff.mp H
  obtain ⟨⟨t287, t290⟩, A40, H⟩ := H
  replace H : (some (t287, t290, true)) = some (r1, r2, r3) := H
  have A4 := aM A40
  clear A40
  simp only [aV, aW] at H
  obtain ⟨rfl, rfl, rfl⟩ := H
  go_enter Try.func36, Try.ntmps36
  go_wp2_with (first | ((with_reducible refine aZ (N := 2) rfl ?_); refine bB ?hg (N := 2) ?hd (cs := #[.slice none 0 0, .slice none 0 0]) (t := 56) ?hr ?_; (case hd => rfl); (case hg => rfl); (case hr => first | (go_simp; done)); intro gb278 hg w5 hbox hb; have BK278 := aM hbox; have GE278 := aM ((by rw [hg]; exact (aG HB.out) : w.heap.size ≤ gb278)); replace HB := aM (aE HB.out hb); clear hb hbox hg) | ((with_reducible refine aY (f := 32) rfl ?_); refine gL 8 Try.func32 #[.string a0] ?_; (with_reducible refine (impl_setOf.calls a0 t279 t282 true _ A2.out).mono ?_); rintro e w6 ⟨v280, v283, rfl, ho0, ho1, hb⟩; refine ⟨_, rfl, ?_⟩; have HO281 := aM (bP ho0 (aG HB.out)); have HO284 := aM (bP ho1 (aG HB.out)); replace BK278 := aM (aD (g := gb278) (o := .cells #[.slice none 0 0, .slice none 0 0] 56 (0, 0)) BK278.out hb); replace HB := aM (aE HB.out hb); (try clear hb); (try clear ho0); (try clear ho1)) | ((with_reducible refine aZ (N := 4) rfl ?_); refine bB ?hg (N := 4) ?hd (cs := #[.slice none 0 0, .slice none 0 0]) (t := 56) ?hr ?_; (case hd => rfl); (case hg => rfl); (case hr => first | (go_simp; done)); intro gb286 hg w7 hbox hb; replace HO281 := aM (bG HO281.out hb); replace HO284 := aM (bG HO284.out hb); have BK286 := aM hbox; have GE286 := aM ((by rw [hg]; exact (aG HB.out) : w.heap.size ≤ gb286)); replace HB := aM (aE HB.out hb); have NB278_286 := aM ((by rw [hg]; exact Nat.ne_of_lt (blk_lt (g := gb278) (o := .cells #[.slice none 0 0, .slice none 0 0] 56 (0, 0)) BK278.out) : gb278 ≠ gb286)); replace BK278 := aM (aD (g := gb278) (o := .cells #[.slice none 0 0, .slice none 0 0] 56 (0, 0)) BK278.out hb); clear hb hbox hg; obtain ⟨Ao8, co8, eo8⟩ := bL HO281.out; subst eo8; have hcz10_0 : w7.cell? ⟨gb286, 0, none⟩ = some (.slice none 0 0) := (aA BK286.out 0).trans rfl; have hcz10_1 : w7.cell? ⟨gb286, 1, none⟩ = some (.slice none 0 0) := (aA BK286.out 1).trans rfl; have hfz10_0 := aC BK286.out 0; have hfz10_1 := aC BK286.out 1; obtain ⟨Ao11, co11, eo11⟩ := bL HO284.out; subst eo11) | ((with_reducible refine aY (f := 59) rfl ?_); refine gL 15 Try.func59 #[.agg #[.slice Ao8 t279.length co8, .slice Ao11 t282.length co11]] ?_; (with_reducible refine (impl_set_tidy.calls k _ _ t279 _ _ t282 t287 t290 _ ?side1 ?side2 ?side3 ?side4 A4.out).mono ?_); (case side1 => refine (bM (e := 4) (base := w.heap.size) (ok := fun k_ => some k_ ≠ (.slice Ao11 t282.length co11 : Value).ownBlock) (n := t279.length) (c := co8) ?_).2.2; exact (by exact (bJ (bC (p := ⟨gb286, 1, none⟩) (bC (p := ⟨gb286, 0, none⟩) (bE HO281.out BK286.out (by decide)) (fun _ hk => hk.2) (.slice Ao8 t279.length co8)) (fun _ hk => hk.2) (.slice Ao11 t282.length co11)) (fun _ h_ => h_.1)))); (case side2 => exact (bM HO281.out).2.1); (case side3 => refine (bM (e := 4) (base := w.heap.size) (ok := fun k_ => some k_ ≠ (.slice Ao8 t279.length co8 : Value).ownBlock) (n := t282.length) (c := co11) ?_).2.2; exact (by exact (bJ (bC (p := ⟨gb286, 1, none⟩) (bC (p := ⟨gb286, 0, none⟩) (bE HO284.out BK286.out (by decide)) (fun _ hk => hk.2) (.slice Ao8 t279.length co8)) (fun _ hk => hk.2) (.slice Ao11 t282.length co11)) (fun _ h_ => h_.1)))); (case side4 => exact (bM HO284.out).2.1); rintro e w12 ⟨v288, v291, rfl, ho0, ho1, hb⟩; refine ⟨_, rfl, ?_⟩; have HO289 := aM (bP (Kd.R_new' (Kd.R_new' ho0 (Kd.R_lt (by exact (bJ (bC (p := ⟨gb286, 1, none⟩) (bC (p := ⟨gb286, 0, none⟩) (bE HO281.out BK286.out (by decide)) (fun _ hk => hk.2) (.slice Ao8 t279.length co8)) (fun _ hk => hk.2) (.slice Ao11 t282.length co11)) (fun _ h_ => h_.1))))) (Kd.R_lt (by exact (bJ (bC (p := ⟨gb286, 1, none⟩) (bC (p := ⟨gb286, 0, none⟩) (bE HO284.out BK286.out (by decide)) (fun _ hk => hk.2) (.slice Ao8 t279.length co8)) (fun _ hk => hk.2) (.slice Ao11 t282.length co11)) (fun _ h_ => h_.1))))) (aG (by repeat (first | (with_reducible first | exact HB.out | refine bS ?_ GE286.out))))); have HO292 := aM (bP (Kd.R_new' (Kd.R_new' ho1 (Kd.R_lt (by exact (bJ (bC (p := ⟨gb286, 1, none⟩) (bC (p := ⟨gb286, 0, none⟩) (bE HO281.out BK286.out (by decide)) (fun _ hk => hk.2) (.slice Ao8 t279.length co8)) (fun _ hk => hk.2) (.slice Ao11 t282.length co11)) (fun _ h_ => h_.1))))) (Kd.R_lt (by exact (bJ (bC (p := ⟨gb286, 1, none⟩) (bC (p := ⟨gb286, 0, none⟩) (bE HO284.out BK286.out (by decide)) (fun _ hk => hk.2) (.slice Ao8 t279.length co8)) (fun _ hk => hk.2) (.slice Ao11 t282.length co11)) (fun _ h_ => h_.1))))) (aG (by repeat (first | (with_reducible first | exact HB.out | refine bS ?_ GE286.out))))); replace HO281 := aM (bJ (Kd.R_told (Kd.R_told (Kd.R_old (by exact (bJ (bC (p := ⟨gb286, 1, none⟩) (bC (p := ⟨gb286, 0, none⟩) (bE HO281.out BK286.out (by decide)) (fun _ hk => hk.2) (.slice Ao8 t279.length co8)) (fun _ hk => hk.2) (.slice Ao11 t282.length co11)) (fun _ h_ => h_.1))) hb) (Kd.R_base ho0)) (Kd.R_base ho1)) (fun _ h_ => h_.1)); replace HO284 := aM (bJ (Kd.R_told (Kd.R_told (Kd.R_old (by exact (bJ (bC (p := ⟨gb286, 1, none⟩) (bC (p := ⟨gb286, 0, none⟩) (bE HO284.out BK286.out (by decide)) (fun _ hk => hk.2) (.slice Ao8 t279.length co8)) (fun _ hk => hk.2) (.slice Ao11 t282.length co11)) (fun _ h_ => h_.1))) hb) (Kd.R_base ho0)) (Kd.R_base ho1)) (fun _ h_ => h_.1)); replace BK278 := aM (aD (g := gb278) (o := .cells #[.slice none 0 0, .slice none 0 0] 56 (0, 0)) (by refine cL ?_ NB278_286.out _; refine cL ?_ NB278_286.out _; exact BK278.out) hb); replace HB := aM (aE (by repeat (first | (with_reducible first | exact HB.out | refine bS ?_ GE286.out))) hb); (try clear hb); (try clear ho0); (try clear ho1); obtain ⟨Ao13, co13, eo13⟩ := bL HO289.out; subst eo13; have hcz14_0 : w12.cell? ⟨gb278, 0, none⟩ = some (.slice none 0 0) := (aA BK278.out 0).trans rfl; have hcz14_1 : w12.cell? ⟨gb278, 1, none⟩ = some (.slice none 0 0) := (aA BK278.out 1).trans rfl; have hfz14_0 := aC BK278.out 0; have hfz14_1 := aC BK278.out 1; obtain ⟨Ao15, co15, eo15⟩ := bL HO292.out; subst eo15))
  refine cF (cG rfl _ _ gb278 56 #[.slice Ao13 t287.length co13, .slice Ao15 t290.length co15] (0, 0) _ rfl (by refine bV (cs := #[.slice Ao13 t287.length co13, .slice none 0 0]) ?_ 1 _ rfl; refine bV (cs := #[.slice none 0 0, .slice none 0 0]) ?_ 0 _ rfl; exact BK278.out) Try.underlying56 rfl (by kernel_rfl)) rfl ?_
  exact ⟨_, _, by first | rfl | (simp [*, errW_none, errW_some] <;> rfl), by exact bJ (bC (p := ⟨gb278, 1, none⟩) (bC (p := ⟨gb278, 0, none⟩) (bE HO289.out BK278.out (by decide)) (fun _ hk => hk.2) (.slice Ao13 t287.length co13)) (fun _ hk => hk.2) (.slice Ao15 t290.length co15)) (fun _ hk => hk.1.1.1), by exact bJ (bC (p := ⟨gb278, 1, none⟩) (bC (p := ⟨gb278, 0, none⟩) (bE HO292.out BK278.out (by decide)) (fun _ hk => hk.2) (.slice Ao13 t287.length co13)) (fun _ hk => hk.2) (.slice Ao15 t290.length co15)) (fun _ hk => hk.1.1.1), by repeat (first | (with_reducible first | exact HB.out | refine bS ?_ GE278.out))⟩
 ·replace c3 := Bool.eq_false_iff.mpr c3
  subst c3
  replace H : (some (([] : List Bool), ([] : List Bool), false)) = some (r1, r2, r3) := by rw [if_neg (show ¬ (false = true) by decide)] at H; exact H
  simp only [aV, aW] at H
  obtain ⟨rfl, rfl, rfl⟩ := H
  go_enter Try.func36, Try.ntmps36
  go_wp2_with (first | ((with_reducible refine aZ (N := 2) rfl ?_); refine bB ?hg (N := 2) ?hd (cs := #[.slice none 0 0, .slice none 0 0]) (t := 56) ?hr ?_; (case hd => rfl); (case hg => rfl); (case hr => first | (go_simp; done)); intro gb278 hg w16 hbox hb; have BK278 := aM hbox; have GE278 := aM ((by rw [hg]; exact (aG HB.out) : w.heap.size ≤ gb278)); replace HB := aM (aE HB.out hb); clear hb hbox hg) | ((with_reducible refine aY (f := 32) rfl ?_); refine gL 8 Try.func32 #[.string a0] ?_; (with_reducible refine (impl_setOf.calls a0 t279 t282 false _ A2.out).mono ?_); rintro e w17 ⟨v280, v283, rfl, ho0, ho1, hb⟩; refine ⟨_, rfl, ?_⟩; have HO281 := aM (bP ho0 (aG HB.out)); have HO284 := aM (bP ho1 (aG HB.out)); replace BK278 := aM (aD (g := gb278) (o := .cells #[.slice none 0 0, .slice none 0 0] 56 (0, 0)) BK278.out hb); replace HB := aM (aE HB.out hb); (try clear hb); (try clear ho0); (try clear ho1)) | ((with_reducible refine aZ (N := 4) rfl ?_); refine bB ?hg (N := 4) ?hd (cs := #[.slice none 0 0, .slice none 0 0]) (t := 56) ?hr ?_; (case hd => rfl); (case hg => rfl); (case hr => first | (go_simp; done)); intro gb286 hg w18 hbox hb; replace HO281 := aM (bG HO281.out hb); replace HO284 := aM (bG HO284.out hb); have BK286 := aM hbox; have GE286 := aM ((by rw [hg]; exact (aG HB.out) : w.heap.size ≤ gb286)); replace HB := aM (aE HB.out hb); have NB278_286 := aM ((by rw [hg]; exact Nat.ne_of_lt (blk_lt (g := gb278) (o := .cells #[.slice none 0 0, .slice none 0 0] 56 (0, 0)) BK278.out) : gb278 ≠ gb286)); replace BK278 := aM (aD (g := gb278) (o := .cells #[.slice none 0 0, .slice none 0 0] 56 (0, 0)) BK278.out hb); clear hb hbox hg; obtain ⟨Ao19, co19, eo19⟩ := bL HO281.out; subst eo19; have hnc20 := NB278_286.out; have hcz21_0 : w18.cell? ⟨gb286, 0, none⟩ = some (.slice none 0 0) := (aA BK286.out 0).trans rfl; have hcz21_1 : w18.cell? ⟨gb286, 1, none⟩ = some (.slice none 0 0) := (aA BK286.out 1).trans rfl; have hfz21_0 := aC BK286.out 0; have hfz21_1 := aC BK286.out 1; obtain ⟨Ao22, co22, eo22⟩ := bL HO284.out; subst eo22; have hcz23_0 : w18.cell? ⟨gb278, 0, none⟩ = some (.slice none 0 0) := (aA BK278.out 0).trans rfl; have hcz23_1 : w18.cell? ⟨gb278, 1, none⟩ = some (.slice none 0 0) := (aA BK278.out 1).trans rfl; have hfz23_0 := aC BK278.out 0; have hfz23_1 := aC BK278.out 1))
  refine cF (cG rfl _ _ gb278 56 #[.slice none 0 0, .slice none 0 0] (0, 0) _ rfl (by refine bV (cs := #[.slice none 0 0, .slice none 0 0]) ?_ 1 _ rfl; refine bV (cs := #[.slice none 0 0, .slice none 0 0]) ?_ 0 _ rfl; refine cL ?_ NB278_286.out _; refine cL ?_ NB278_286.out _; exact BK278.out) Try.underlying56 rfl (by kernel_rfl)) rfl ?_
  exact ⟨_, _, by first | rfl | (simp [*, errW_none, errW_some] <;> rfl), by first | exact Kd.R_nil _ _ _ _ _ | exact Kd.S_nil _ _ _ _ _, by first | exact Kd.R_nil _ _ _ _ _ | exact Kd.S_nil _ _ _ _ _, by repeat (first | (with_reducible first | exact HB.out | refine bS ?_ GE278.out | refine bS ?_ GE286.out))⟩


def impl_small.f (k : Nat) (a0 : ByteArray) : Option (List Bool × List Bool × Bool) := (impl_tidied.f k a0).bind fun bt294 => (if bt294.2.2 = true then (if (bt294.1.length : Int) ≤ 8 then (some (bt294.1, bt294.2.1, decide ((bt294.2.1.length : Int) ≤ 8))) else (some (bt294.1, bt294.2.1, false))) else (some (bt294.1, bt294.2.1, false)))
def impl_small.T2 : Bool × List (List Nat × List Nat) := (true, [([], []), ([], []), ([1], [1]), ([2], [2]), ([3, 2], [2, 3]), ([4, 2], [2, 4]), ([5, 2], [2, 5]), ([2, 6], [2, 6]), ([7, 2], [7]), ([8], [8]), ([9, 8], [8, 9]), ([10, 8], [8, 10]), ([11, 8], [8, 11]), ([8, 12], [8, 12]), ([0, 8, 0], [0]), ([13, 14, 0, 1, 2, 3, 4, 5, 6, 7, 8, 9, 10, 11, 12, 13, 14], [13])])
def impl_small.B2 : List Nat := [0, 0, 2, 6, 14, 30, 62, 126, 254, 510, 1022, 2046, 4094, 8190, 511, 32767]
theorem impl_small.tab2 : rtab .any (opsOf Try.f66 2) = impl_small.T2 := by kernel_rfl
theorem impl_small.bits2 : waitsOk impl_small.T2.2 impl_small.B2 = true := by kernel_rfl
set_option maxHeartbeats 8000000 in
set_option maxRecDepth 100000 in
theorem impl_small.calls (k : Nat) (a0 : ByteArray) (r1 : List Bool) (r2 : List Bool) (r3 : Bool) (w : World) (h : impl_small.f k a0 = some (r1, r2, r3)) :
  Calls Try.prog 66 #[.string a0] w fun e w' => ∃ v0_ v1_ : Value, e = .returned (.tuple #[.agg #[v0_, v1_], .bool r3]) ∧ Kd.R Kd.bool 4 w' w.heap.size (fun k_ => some k_ ≠ (v1_ : Value).ownBlock) v0_ r1 ∧ Kd.R Kd.bool 4 w' w.heap.size (fun k_ => some k_ ≠ (v0_ : Value).ownBlock) v1_ r2 ∧ Below w.heap.size w w' := by
 have HB := aM (cE w.heap.size w)
 have H : ((impl_tidied.f k a0).bind fun bt294 => (if bt294.2.2 = true then (if (bt294.1.length : Int) ≤ 8 then (some (bt294.1, bt294.2.1, decide ((bt294.2.1.length : Int) ≤ 8))) else (some (bt294.1, bt294.2.1, false))) else (some (bt294.1, bt294.2.1, false)))) = some (r1, r2, r3) := h
 clear h
 replace H := Option.bind_eq_some_iff.mp H
 obtain ⟨⟨t294, t297, t300⟩, A20, H⟩ := H
 replace H : (if t300 = true then (if (t294.length : Int) ≤ 8 then (some (t294, t297, decide ((t297.length : Int) ≤ 8))) else (some (t294, t297, false))) else (some (t294, t297, false))) = some (r1, r2, r3) := H
 have A2 := aM A20
 clear A20
 by_cases c3 : t300 = true
 ·subst c3
  replace H : (if (t294.length : Int) ≤ 8 then (some (t294, t297, decide ((t297.length : Int) ≤ 8))) else (some (t294, t297, false))) = some (r1, r2, r3) := by rw [if_pos rfl] at H; exact H
  by_cases c4 : (t294.length : Int) ≤ 8
  all_goals
   first
   |rw [if_pos c4] at H
    have c4b0 : decide ((t294.length : Int) ≤ 8) = true := aH c4
   |rw [if_neg c4] at H
    have c4b0 : decide ((t294.length : Int) ≤ 8) = false := aK c4
   clear c4
   simp only [aV, aW] at H
   obtain ⟨rfl, rfl, rfl⟩ := H
   go_enter Try.func66, Try.ntmps66
   try go_wp2_with (first | ((with_reducible refine aZ (N := 2) rfl ?_); (try (refine gate_guard (by rfl) ?_; dsimp only)); refine bB ?hg (N := 2) ?hd (cs := #[.slice none 0 0, .slice none 0 0]) (t := 56) ?hr ?_; (case hd => rfl); (case hg => rfl); (case hr => first | (go_simp; done)); intro gb293 hg w5 hbox hb; have BK293 := aM hbox; have GE293 := aM ((by rw [hg]; exact (aG HB.out) : w.heap.size ≤ gb293)); replace HB := aM (aE HB.out hb); clear hb hbox hg) | ((with_reducible refine aY (f := 36) rfl ?_); refine gL 8 Try.func36 #[.string a0] ?_; (with_reducible refine (impl_tidied.calls k a0 t294 t297 true _ A2.out).mono ?_); rintro e w6 ⟨v295, v298, rfl, ho0, ho1, hb⟩; refine ⟨_, rfl, ?_⟩; have HO296 := aM (bP ho0 (aG HB.out)); have HO299 := aM (bP ho1 (aG HB.out)); replace BK293 := aM (aD (g := gb293) (o := .cells #[.slice none 0 0, .slice none 0 0] 56 (0, 0)) BK293.out hb); replace HB := aM (aE HB.out hb); (try clear hb); (try clear ho0); (try clear ho1)) | ((with_reducible refine aZ (N := 4) rfl ?_); (try (refine gate_guard (by rfl) ?_; dsimp only)); refine bB ?hg (N := 4) ?hd (cs := #[.slice none 0 0, .slice none 0 0]) (t := 56) ?hr ?_; (case hd => rfl); (case hg => rfl); (case hr => first | (go_simp; done)); intro gb301 hg w7 hbox hb; replace HO296 := aM (bG HO296.out hb); replace HO299 := aM (bG HO299.out hb); have BK301 := aM hbox; have GE301 := aM ((by rw [hg]; exact (aG HB.out) : w.heap.size ≤ gb301)); replace HB := aM (aE HB.out hb); have NB293_301 := aM ((by rw [hg]; exact Nat.ne_of_lt (blk_lt (g := gb293) (o := .cells #[.slice none 0 0, .slice none 0 0] 56 (0, 0)) BK293.out) : gb293 ≠ gb301)); have NB301_293 := aM ((by rw [hg]; exact Nat.ne_of_gt (blk_lt (g := gb293) (o := .cells #[.slice none 0 0, .slice none 0 0] 56 (0, 0)) BK293.out) : gb301 ≠ gb293)); replace BK293 := aM (aD (g := gb293) (o := .cells #[.slice none 0 0, .slice none 0 0] 56 (0, 0)) BK293.out hb); clear hb hbox hg; obtain ⟨Ao8, co8, eo8⟩ := bL HO296.out; subst eo8; have hcz10_0 : w7.cell? ⟨gb301, 0, none⟩ = some (.slice none 0 0) := (aA BK301.out 0).trans rfl; have hcz10_1 : w7.cell? ⟨gb301, 1, none⟩ = some (.slice none 0 0) := (aA BK301.out 1).trans rfl; have hfz10_0 := aC BK301.out 0; have hfz10_1 := aC BK301.out 1; obtain ⟨Ao11, co11, eo11⟩ := bL HO299.out; subst eo11))
   have n0_ : Aside0 (Kd.R Kd.bool 4 ((w7.setCell ⟨gb301, 0, none⟩ (.slice Ao8 t294.length co8)).setCell ⟨gb301, 1, none⟩ (.slice Ao11 t297.length co11)) w.heap.size (fun k_ => some k_ ≠ (.slice Ao11 t297.length co11 : Value).ownBlock) (.slice Ao8 t294.length co8) t294) := ⟨by exact bJ (bC (p := ⟨gb301, 1, none⟩) (bC (p := ⟨gb301, 0, none⟩) (bE HO296.out BK301.out (by decide)) (fun _ hk => hk.2) (.slice Ao8 t294.length co8)) (fun _ hk => hk.2) (.slice Ao11 t297.length co11)) (fun _ hk => hk.1)⟩
   have n1_ : Aside0 (Kd.R Kd.bool 4 ((w7.setCell ⟨gb301, 0, none⟩ (.slice Ao8 t294.length co8)).setCell ⟨gb301, 1, none⟩ (.slice Ao11 t297.length co11)) w.heap.size (fun k_ => some k_ ≠ (.slice Ao8 t294.length co8 : Value).ownBlock) (.slice Ao11 t297.length co11) t297) := ⟨by exact bJ (bC (p := ⟨gb301, 1, none⟩) (bC (p := ⟨gb301, 0, none⟩) (bE HO299.out BK301.out (by decide)) (fun _ hk => hk.2) (.slice Ao8 t294.length co8)) (fun _ hk => hk.2) (.slice Ao11 t297.length co11)) (fun _ hk => hk.1)⟩
   have n2_ : Aside0 (((w7.setCell ⟨gb301, 0, none⟩ (.slice Ao8 t294.length co8)).setCell ⟨gb301, 1, none⟩ (.slice Ao11 t297.length co11)).heap[gb293]? = some (.cells #[.slice none 0 0, .slice none 0 0] 56 (0, 0))) := ⟨by refine cL ?_ NB293_301.out _; refine cL ?_ NB293_301.out _; exact BK293.out⟩
   have n3_ : Aside0 (((w7.setCell ⟨gb301, 0, none⟩ (.slice Ao8 t294.length co8)).setCell ⟨gb301, 1, none⟩ (.slice Ao11 t297.length co11)).heap[gb301]? = some (.cells #[.slice Ao8 t294.length co8, .slice Ao11 t297.length co11] 56 (0, 0))) := ⟨by refine bV (cs := #[.slice Ao8 t294.length co8, .slice none 0 0]) ?_ 1 _ rfl; refine bV (cs := #[.slice none 0 0, .slice none 0 0]) ?_ 0 _ rfl; exact BK301.out⟩
   have n4_ : Aside0 (Below w.heap.size w ((w7.setCell ⟨gb301, 0, none⟩ (.slice Ao8 t294.length co8)).setCell ⟨gb301, 1, none⟩ (.slice Ao11 t297.length co11))) := ⟨by repeat (first | (with_reducible first | exact HB.out | refine bS ?_ GE301.out))⟩
   (try clear HO296)
   (try clear HO299)
   (try clear BK293)
   (try clear BK301)
   (try clear HB)
   generalize ((w7.setCell ⟨gb301, 0, none⟩ (.slice Ao8 t294.length co8)).setCell ⟨gb301, 1, none⟩ (.slice Ao11 t297.length co11)) = w12 at n0_ n1_ n2_ n3_ n4_ ⊢
   have HO296 := n0_
   have HO299 := n1_
   have BK293 := n2_
   have BK301 := n3_
   have HB := n4_
   clear n0_ n1_ n2_ n3_ n4_
   replace HO296 := aM (rD HO296.out)
   replace HO299 := aM (rD HO299.out)
   replace BK293 := aM (kD BK293.out)
   replace BK301 := aM (kD BK301.out)
   replace HB := aM (b1 HB.out)
   refine start_ (n := 16) (S := fun w' => w'.cell? ⟨gb301, 0, none⟩ = some (.slice Ao8 t294.length co8) ∧ w'.cell? ⟨gb301, 1, none⟩ = some (.slice Ao11 t297.length co11)) (ds := []) #[false, false, false, false, false, false, false, false, false, false, false, false, false, false, false, false] (by kernel_rfl) rfl rfl ⟨(aA BK301.out 0).trans rfl, (aA BK301.out 1).trans rfl⟩ (fun hHeld => ?_); refine with_tabW impl_small.tab2 impl_small.bits2 (fun HT_ HW_ => ?_)
   generalize w12.drew = w13 at HO296 HO299 BK293 BK301 HB hHeld ⊢
   refine pQ 1 12 HT_ ?_
   refine pQ 2 13 HT_ ?_
   refine pQ 3 14 HT_ ?_
   refine tQ 0 11 HT_ HW_ hHeld ?_
   refine tQ 4 15 HT_ HW_ hHeld ?_
   refine pQ 5 16 HT_ ?_
   refine pQ 6 17 HT_ ?_
   refine pQ 7 18 HT_ ?_
   refine pQ 8 19 HT_ ?_
   first
   |refine pure_ (i := 9) (N := some 20) (v := ?_) (a' := ?_) #[true, true, true, true, true, true, true, true, true, true, false, false, false, false, false, false] rfl rfl (any_of HT_.out (by kernel_rfl)) (fun _ _ _ h => h) (Or.inl ⟨by rfl, ?_⟩) ?_ ?_
    rotate_left
    ·intro w'
     go_simp
     with_reducible rfl
   |refine pure_ (i := 9) (N := some 20) (v := undef) (a' := ?_) #[true, true, true, true, true, true, true, true, true, true, false, false, false, false, false, false] rfl rfl (any_of HT_.out (by kernel_rfl)) (fun _ _ _ h => h) (Or.inr ⟨by rfl, rfl⟩) ?_ ?_
   rotate_left
   ·simp only [Act.put, sA, sZ, sS, cS, cT]
    rfl
   first
   |refine take_ (i := 10) (N := some 21) (v := ?_) (a' := ?_) #[true, true, true, true, true, true, true, true, true, true, true, false, false, false, false, false] rfl rfl (take_ofW HT_.out HW_.out (by kernel_rfl)) (fun _ _ _ h => h) (Or.inl ⟨by rfl, ?_⟩) hHeld ?_ ?_
    rotate_left
    ·rintro w' ⟨s0, s1⟩
     go_simp
     with_reducible rfl
   |refine pure_ (i := 10) (N := some 21) (v := undef) (a' := ?_) #[true, true, true, true, true, true, true, true, true, true, true, false, false, false, false, false] rfl rfl (any_of HT_.out (by kernel_rfl)) (fun _ _ _ h => h) (Or.inr ⟨by rfl, rfl⟩) ?_ ?_
   rotate_left
   ·simp only [Act.put, sA, sZ, sS, cS, cT]
    rfl
   first
   |refine pure_ (i := 11) (N := some 22) (v := ?_) (a' := ?_) #[true, true, true, true, true, true, true, true, true, true, true, true, false, false, false, false] rfl rfl (any_of HT_.out (by kernel_rfl)) (fun _ _ _ h => h) (Or.inl ⟨by rfl, ?_⟩) ?_ ?_
    rotate_left
    ·intro w'
     go_simp
     with_reducible rfl
   |refine pure_ (i := 11) (N := some 22) (v := undef) (a' := ?_) #[true, true, true, true, true, true, true, true, true, true, true, true, false, false, false, false] rfl rfl (any_of HT_.out (by kernel_rfl)) (fun _ _ _ h => h) (Or.inr ⟨by rfl, rfl⟩) ?_ ?_
   rotate_left
   ·simp only [Act.put, sA, sZ, sS, cS, cT]
    rfl
   first
   |refine pure_ (i := 12) (N := some 23) (v := ?_) (a' := ?_) #[true, true, true, true, true, true, true, true, true, true, true, true, true, false, false, false] rfl rfl (any_of HT_.out (by kernel_rfl)) (fun _ _ _ h => h) (Or.inl ⟨by rfl, ?_⟩) ?_ ?_
    rotate_left
    ·intro w'
     go_simp
     with_reducible rfl
   |refine pure_ (i := 12) (N := some 23) (v := undef) (a' := ?_) #[true, true, true, true, true, true, true, true, true, true, true, true, true, false, false, false] rfl rfl (any_of HT_.out (by kernel_rfl)) (fun _ _ _ h => h) (Or.inr ⟨by rfl, rfl⟩) ?_ ?_
   rotate_left
   ·simp only [Act.put, sA, sZ, sS, cS, cT]
    rfl
   refine pQ 13 24 HT_ ?_
   refine one_ (i := 14) (N := none) #[true, true, true, true, true, true, true, true, true, true, true, true, true, true, true, false] rfl rfl (one_of HT_.out (by kernel_rfl)) (by decide) (fun K hK => ?_)
   have hs14 : w13.cell? ⟨gb293, 0, none⟩ = some (.slice none 0 0) := (aA BK293.out 0).trans rfl
   have hfs14 := aC BK293.out 0
   have hs15 : w13.cell? ⟨gb293, 1, none⟩ = some (.slice none 0 0) := (aA BK293.out 1).trans rfl
   have hfs15 := aC BK293.out 1
   refine skip_ (w1 := ?_) (by rfl) rfl ?_ ?_
   rotate_left
   ·go_simp
    rfl
   refine hK.out _ _ ⟨((cell_far (p := ⟨gb293, _, none⟩) NB301_293.out _).trans (((cell_far (p := ⟨gb293, _, none⟩) NB301_293.out _).trans (hHeld.1)))), ((cell_far (p := ⟨gb293, _, none⟩) NB301_293.out _).trans (((cell_far (p := ⟨gb293, _, none⟩) NB301_293.out _).trans (hHeld.2))))⟩ (fun hHeld => ?_)
   clear hK K
   refine pQ 15 3 HT_ ?_
   refine done_ (done_of HT_.out (by kernel_rfl)) ?_
   try go_wp2
   refine cF (cG rfl _ _ gb293 56 #[.slice Ao8 t294.length co8, .slice Ao11 t297.length co11] (0, 0) _ rfl (by refine bV (cs := #[.slice Ao8 t294.length co8, .slice none 0 0]) ?_ 1 _ rfl; refine bV (cs := #[.slice none 0 0, .slice none 0 0]) ?_ 0 _ rfl; exact BK293.out) Try.underlying56 rfl (by kernel_rfl)) rfl ?_
   exact ⟨_, _, by first | rfl | (simp [*, errW_none, errW_some] <;> rfl), by exact bJ (bC (p := ⟨gb293, 1, none⟩) (bC (p := ⟨gb293, 0, none⟩) (bE HO296.out BK293.out (by decide)) (fun _ hk => hk.2) (.slice Ao8 t294.length co8)) (fun _ hk => hk.2) (.slice Ao11 t297.length co11)) (fun _ hk => hk.1), by exact bJ (bC (p := ⟨gb293, 1, none⟩) (bC (p := ⟨gb293, 0, none⟩) (bE HO299.out BK293.out (by decide)) (fun _ hk => hk.2) (.slice Ao8 t294.length co8)) (fun _ hk => hk.2) (.slice Ao11 t297.length co11)) (fun _ hk => hk.1), by repeat (first | (with_reducible first | exact HB.out | refine bS ?_ GE293.out))⟩
 ·replace c3 := Bool.eq_false_iff.mpr c3
  subst c3
  replace H : (some (t294, t297, false)) = some (r1, r2, r3) := by rw [if_neg (show ¬ (false = true) by decide)] at H; exact H
  simp only [aV, aW] at H
  obtain ⟨rfl, rfl, rfl⟩ := H
  go_enter Try.func66, Try.ntmps66
  try go_wp2_with (first | ((with_reducible refine aZ (N := 2) rfl ?_); (try (refine gate_guard (by rfl) ?_; dsimp only)); refine bB ?hg (N := 2) ?hd (cs := #[.slice none 0 0, .slice none 0 0]) (t := 56) ?hr ?_; (case hd => rfl); (case hg => rfl); (case hr => first | (go_simp; done)); intro gb293 hg w27 hbox hb; have BK293 := aM hbox; have GE293 := aM ((by rw [hg]; exact (aG HB.out) : w.heap.size ≤ gb293)); replace HB := aM (aE HB.out hb); clear hb hbox hg) | ((with_reducible refine aY (f := 36) rfl ?_); refine gL 8 Try.func36 #[.string a0] ?_; (with_reducible refine (impl_tidied.calls k a0 t294 t297 false _ A2.out).mono ?_); rintro e w28 ⟨v295, v298, rfl, ho0, ho1, hb⟩; refine ⟨_, rfl, ?_⟩; have HO296 := aM (bP ho0 (aG HB.out)); have HO299 := aM (bP ho1 (aG HB.out)); replace BK293 := aM (aD (g := gb293) (o := .cells #[.slice none 0 0, .slice none 0 0] 56 (0, 0)) BK293.out hb); replace HB := aM (aE HB.out hb); (try clear hb); (try clear ho0); (try clear ho1)) | ((with_reducible refine aZ (N := 4) rfl ?_); (try (refine gate_guard (by rfl) ?_; dsimp only)); refine bB ?hg (N := 4) ?hd (cs := #[.slice none 0 0, .slice none 0 0]) (t := 56) ?hr ?_; (case hd => rfl); (case hg => rfl); (case hr => first | (go_simp; done)); intro gb301 hg w29 hbox hb; replace HO296 := aM (bG HO296.out hb); replace HO299 := aM (bG HO299.out hb); have BK301 := aM hbox; have GE301 := aM ((by rw [hg]; exact (aG HB.out) : w.heap.size ≤ gb301)); replace HB := aM (aE HB.out hb); have NB293_301 := aM ((by rw [hg]; exact Nat.ne_of_lt (blk_lt (g := gb293) (o := .cells #[.slice none 0 0, .slice none 0 0] 56 (0, 0)) BK293.out) : gb293 ≠ gb301)); have NB301_293 := aM ((by rw [hg]; exact Nat.ne_of_gt (blk_lt (g := gb293) (o := .cells #[.slice none 0 0, .slice none 0 0] 56 (0, 0)) BK293.out) : gb301 ≠ gb293)); replace BK293 := aM (aD (g := gb293) (o := .cells #[.slice none 0 0, .slice none 0 0] 56 (0, 0)) BK293.out hb); clear hb hbox hg; obtain ⟨Ao30, co30, eo30⟩ := bL HO296.out; subst eo30; have hcz32_0 : w29.cell? ⟨gb301, 0, none⟩ = some (.slice none 0 0) := (aA BK301.out 0).trans rfl; have hcz32_1 : w29.cell? ⟨gb301, 1, none⟩ = some (.slice none 0 0) := (aA BK301.out 1).trans rfl; have hfz32_0 := aC BK301.out 0; have hfz32_1 := aC BK301.out 1; obtain ⟨Ao33, co33, eo33⟩ := bL HO299.out; subst eo33))
  have n0_ : Aside0 (Kd.R Kd.bool 4 ((w29.setCell ⟨gb301, 0, none⟩ (.slice Ao30 t294.length co30)).setCell ⟨gb301, 1, none⟩ (.slice Ao33 t297.length co33)) w.heap.size (fun k_ => some k_ ≠ (.slice Ao33 t297.length co33 : Value).ownBlock) (.slice Ao30 t294.length co30) t294) := ⟨by exact bJ (bC (p := ⟨gb301, 1, none⟩) (bC (p := ⟨gb301, 0, none⟩) (bE HO296.out BK301.out (by decide)) (fun _ hk => hk.2) (.slice Ao30 t294.length co30)) (fun _ hk => hk.2) (.slice Ao33 t297.length co33)) (fun _ hk => hk.1)⟩
  have n1_ : Aside0 (Kd.R Kd.bool 4 ((w29.setCell ⟨gb301, 0, none⟩ (.slice Ao30 t294.length co30)).setCell ⟨gb301, 1, none⟩ (.slice Ao33 t297.length co33)) w.heap.size (fun k_ => some k_ ≠ (.slice Ao30 t294.length co30 : Value).ownBlock) (.slice Ao33 t297.length co33) t297) := ⟨by exact bJ (bC (p := ⟨gb301, 1, none⟩) (bC (p := ⟨gb301, 0, none⟩) (bE HO299.out BK301.out (by decide)) (fun _ hk => hk.2) (.slice Ao30 t294.length co30)) (fun _ hk => hk.2) (.slice Ao33 t297.length co33)) (fun _ hk => hk.1)⟩
  have n2_ : Aside0 (((w29.setCell ⟨gb301, 0, none⟩ (.slice Ao30 t294.length co30)).setCell ⟨gb301, 1, none⟩ (.slice Ao33 t297.length co33)).heap[gb293]? = some (.cells #[.slice none 0 0, .slice none 0 0] 56 (0, 0))) := ⟨by refine cL ?_ NB293_301.out _; refine cL ?_ NB293_301.out _; exact BK293.out⟩
  have n3_ : Aside0 (((w29.setCell ⟨gb301, 0, none⟩ (.slice Ao30 t294.length co30)).setCell ⟨gb301, 1, none⟩ (.slice Ao33 t297.length co33)).heap[gb301]? = some (.cells #[.slice Ao30 t294.length co30, .slice Ao33 t297.length co33] 56 (0, 0))) := ⟨by refine bV (cs := #[.slice Ao30 t294.length co30, .slice none 0 0]) ?_ 1 _ rfl; refine bV (cs := #[.slice none 0 0, .slice none 0 0]) ?_ 0 _ rfl; exact BK301.out⟩
  have n4_ : Aside0 (Below w.heap.size w ((w29.setCell ⟨gb301, 0, none⟩ (.slice Ao30 t294.length co30)).setCell ⟨gb301, 1, none⟩ (.slice Ao33 t297.length co33))) := ⟨by repeat (first | (with_reducible first | exact HB.out | refine bS ?_ GE301.out))⟩
  (try clear HO296)
  (try clear HO299)
  (try clear BK293)
  (try clear BK301)
  (try clear HB)
  generalize ((w29.setCell ⟨gb301, 0, none⟩ (.slice Ao30 t294.length co30)).setCell ⟨gb301, 1, none⟩ (.slice Ao33 t297.length co33)) = w34 at n0_ n1_ n2_ n3_ n4_ ⊢
  have HO296 := n0_
  have HO299 := n1_
  have BK293 := n2_
  have BK301 := n3_
  have HB := n4_
  clear n0_ n1_ n2_ n3_ n4_
  replace HO296 := aM (rD HO296.out)
  replace HO299 := aM (rD HO299.out)
  replace BK293 := aM (kD BK293.out)
  replace BK301 := aM (kD BK301.out)
  replace HB := aM (b1 HB.out)
  refine start_ (n := 16) (S := fun w' => w'.cell? ⟨gb301, 0, none⟩ = some (.slice Ao30 t294.length co30) ∧ w'.cell? ⟨gb301, 1, none⟩ = some (.slice Ao33 t297.length co33)) (ds := []) #[false, false, false, false, false, false, false, false, false, false, false, false, false, false, false, false] (by kernel_rfl) rfl rfl ⟨(aA BK301.out 0).trans rfl, (aA BK301.out 1).trans rfl⟩ (fun hHeld => ?_); refine with_tabW impl_small.tab2 impl_small.bits2 (fun HT_ HW_ => ?_)
  generalize w34.drew = w35 at HO296 HO299 BK293 BK301 HB hHeld ⊢
  refine pQ 1 12 HT_ ?_
  refine pQ 2 13 HT_ ?_
  refine uQ 3 14 HT_ ?_
  refine uQ 4 15 HT_ ?_
  refine uQ 5 16 HT_ ?_
  refine uQ 6 17 HT_ ?_
  refine pQ 7 18 HT_ ?_
  refine pQ 8 19 HT_ ?_
  refine uQ 9 20 HT_ ?_
  refine uQ 10 21 HT_ ?_
  refine uQ 11 22 HT_ ?_
  refine uQ 12 23 HT_ ?_
  refine pQ 13 24 HT_ ?_
  refine tQ 0 11 HT_ HW_ hHeld ?_
  refine one_ (i := 14) (N := none) #[true, true, true, true, true, true, true, true, true, true, true, true, true, true, true, false] rfl rfl (one_of HT_.out (by kernel_rfl)) (by decide) (fun K hK => ?_)
  have hs36 : w35.cell? ⟨gb293, 0, none⟩ = some (.slice none 0 0) := (aA BK293.out 0).trans rfl
  have hfs36 := aC BK293.out 0
  have hs37 : w35.cell? ⟨gb293, 1, none⟩ = some (.slice none 0 0) := (aA BK293.out 1).trans rfl
  have hfs37 := aC BK293.out 1
  refine skip_ (w1 := ?_) (by rfl) rfl ?_ ?_
  rotate_left
  ·go_simp
   rfl
  refine hK.out _ _ ⟨((cell_far (p := ⟨gb293, _, none⟩) NB301_293.out _).trans (((cell_far (p := ⟨gb293, _, none⟩) NB301_293.out _).trans (hHeld.1)))), ((cell_far (p := ⟨gb293, _, none⟩) NB301_293.out _).trans (((cell_far (p := ⟨gb293, _, none⟩) NB301_293.out _).trans (hHeld.2))))⟩ (fun hHeld => ?_)
  clear hK K
  refine pQ 15 3 HT_ ?_
  refine done_ (done_of HT_.out (by kernel_rfl)) ?_
  try go_wp2
  refine cF (cG rfl _ _ gb293 56 #[.slice Ao30 t294.length co30, .slice Ao33 t297.length co33] (0, 0) _ rfl (by refine bV (cs := #[.slice Ao30 t294.length co30, .slice none 0 0]) ?_ 1 _ rfl; refine bV (cs := #[.slice none 0 0, .slice none 0 0]) ?_ 0 _ rfl; exact BK293.out) Try.underlying56 rfl (by kernel_rfl)) rfl ?_
  exact ⟨_, _, by first | rfl | (simp [*, errW_none, errW_some] <;> rfl), by exact bJ (bC (p := ⟨gb293, 1, none⟩) (bC (p := ⟨gb293, 0, none⟩) (bE HO296.out BK293.out (by decide)) (fun _ hk => hk.2) (.slice Ao30 t294.length co30)) (fun _ hk => hk.2) (.slice Ao33 t297.length co33)) (fun _ hk => hk.1), by exact bJ (bC (p := ⟨gb293, 1, none⟩) (bC (p := ⟨gb293, 0, none⟩) (bE HO299.out BK293.out (by decide)) (fun _ hk => hk.2) (.slice Ao30 t294.length co30)) (fun _ hk => hk.2) (.slice Ao33 t297.length co33)) (fun _ hk => hk.1), by repeat (first | (with_reducible first | exact HB.out | refine bS ?_ GE293.out))⟩


/-- The signs of a list as a text. -/
def impl_told.sgn (b : Bool) : UInt8 := if b = true then 49 else 48
def impl_told.f (l0 : List Bool) : Option ByteArray := if l0.length < 140737488355328 then some ⟨(l0.map impl_told.sgn).toArray⟩ else none
theorem impl_told.size : (Try.prog.info? 104).map (·.size) = some 2 := by kernel_rfl
theorem impl_told.lies : liesAt Try.prog Try.prog.depth 104 (2 / Try.prog.cellsOf 104) 0 104 1 = true := by kernel_rfl
set_option maxHeartbeats 1000000 in
set_option maxRecDepth 100000 in
theorem impl_told.cc_used (b : Nat) (w : World) (h0 : w.cell? ⟨b, 0, none⟩ = some (.pointer (some ⟨b, 0, none⟩))) :
  Calls Try.prog 99 #[.pointer (some ⟨b, 0, none⟩)] w fun e w' => e = .returned (.tuple #[]) ∧ w' = w := by
 obtain ⟨j, hj, _⟩ := Option.map_eq_some_iff.1 impl_told.size
 go_enter Try.func99, Try.ntmps99
 go_wp2
 rw [Lib.run_neq_ptr_same w _ Try.underlying102 hj]
 go_wp2
 go_end0
 exact ⟨rfl, rfl⟩
set_option maxHeartbeats 1000000 in
set_option maxRecDepth 100000 in
theorem impl_told.cc_fresh (b : Nat) (w : World) (h0 : w.cell? ⟨b, 0, none⟩ = some (.pointer none)) (hsh : w.shape? b = some (104, 2)) (hfz : w.frozen? ⟨b, 0, none⟩ = false) :
  Calls Try.prog 99 #[.pointer (some ⟨b, 0, none⟩)] w fun e w' => e = .returned (.tuple #[]) ∧ w' = w.setCell ⟨b, 0, none⟩ (.pointer (some ⟨b, 0, none⟩)) := by
 obtain ⟨j, hj, hjs⟩ := Option.map_eq_some_iff.1 impl_told.size
 go_enter Try.func99, Try.ntmps99
 go_wp2
 rw [Lib.run_to_unsafe w ⟨b, 0, none⟩ Try.underlying102 Try.underlying124 hj (by rw [hjs]; decide) hsh (Nat.zero_lt_succ 1)]
 simp only [Result.andThen]
 rw [Oper.upon_value]
 go_wp2
 rw [run_callFunc_extern Try.func107 (by kernel_rfl) (by kernel_rfl) (by kernel_rfl) (e := Extern.AbiNoEscape.same) (by kernel_rfl)]
 rw [Lib.run_noEscape]
 simp only [Result.andThen]
 rw [Oper.upon_value]
 go_wp2
 rw [Lib.run_from_unsafe w ⟨b, 0, none⟩ Try.underlying124 Try.underlying102 hj hsh impl_told.lies]
 simp only [Result.andThen]
 rw [Oper.upon_value]
 go_wp2
 go_end0
 exact ⟨rfl, rfl⟩
theorem impl_told.cc (B b : Nat) (bs : List Value) (w : World) (h : Lib.IsBuilder 104 5 B b bs w) :
  Calls Try.prog 99 #[.pointer (some ⟨b, 0, none⟩)] w fun e w' => e = .returned (.tuple #[]) ∧ (Lib.BuilderAt 104 5 B b (.pointer (some ⟨b, 0, none⟩)) bs w' ∧ Below B w w') := by
 rcases h with h | h
 ·refine (impl_told.cc_fresh b w h.cell0 h.shape h.frozen0).mono ?_
  rintro e w' ⟨rfl, rfl⟩
  exact ⟨rfl, h.used _, (cE B w).setCell (p := ⟨b, 0, none⟩) h.1 _⟩
 ·refine (impl_told.cc_used b w h.cell0).mono ?_
  rintro e w' ⟨rfl, rfl⟩
  exact ⟨rfl, h, cE B _⟩
set_option maxHeartbeats 2000000 in
set_option maxRecDepth 100000 in
theorem impl_told.wb (B b : Nat) (bs : List Value) (c : Int) (w : World) (h : Lib.IsBuilder 104 5 B b bs w) (hlen : bs.length + 1 ≤ 140737488355328) (hBw : B ≤ w.heap.size) :
  Calls Try.prog 80 #[.pointer (some ⟨b, 0, none⟩), .int .u8 c] w fun e w' => e = .returned .nilIface ∧ (Lib.BuilderAt 104 5 B b (.pointer (some ⟨b, 0, none⟩)) (bs ++ [.int .u8 c]) w' ∧ Below B w w') := by
 obtain ⟨i0, hi, hz0, hz1, hz2⟩ := info_parts (P := Try.prog) (e := 5) info5
 go_enter Try.func80, Try.ntmps80
 go_wp2_with (go_at_call 99; refine (impl_told.cc B b bs _ h).mono ?_)
 rintro e w1 ⟨rfl, h1, hb1⟩
 obtain ⟨hB, v, hbk, hown, hne⟩ := h1
 have c0 : w1.cell? ⟨b, 0, none⟩ = some (.pointer (some ⟨b, 0, none⟩)) := by rw [Lib.cell_of_heap hbk]; rfl
 have c1 : w1.cell? ⟨b, 1, none⟩ = some v := by rw [Lib.cell_of_heap hbk]; rfl
 go_wp2_with (at_builtin; refine wpList_append_own _ rfl _ _ 22 rfl B 5 i0 (.int .u8 0) 1 1 Try.underlying22 hi hz0 hz1 hz2 rfl (by decide) _ _ _ rfl (hown.alloc _) ⟨w1.heap.size, 0, none⟩ 1 1 [.int .u8 c] rfl rfl ?c1 ?c2 ?c3 ?c4 ?c5 ?_)
 case c1 =>
  intro j u hj
  match j, hj with
  | 0, hj => simp at hj; subst hj; simp [Addr.add]
 case c2 => intro u hu; simp at hu; subst hu; rfl
 case c3 => unfold maxLen; omega
 case c4 => omega
 case c5 => have := hb1.size; simp; omega
 intro v' w2 hown' hgrow _
 have hlt : b < w1.heap.size := by
  rcases Nat.lt_or_ge b w1.heap.size with h' | h'
  ·exact h'
  ·simp [Array.getElem?_eq_none h'] at hbk
 have hb2 : w2.heap[b]? = some (.cells #[.pointer (some ⟨b, 0, none⟩), v] 104 (0, 0)) := by
  rw [hgrow.block b (by simp; omega) (fun e => hne e.symm), Lib.alloc_old w1 _ b hlt]
  exact hbk
 have d0 : w2.cell? ⟨b, 0, none⟩ = some (.pointer (some ⟨b, 0, none⟩)) := by rw [Lib.cell_of_heap hb2]; rfl
 have d1 : w2.cell? ⟨b, 1, none⟩ = some v := by rw [Lib.cell_of_heap hb2]; rfl
 have f1 : w2.frozen? ⟨b, 1, none⟩ = false := Lib.frozen_of_heap hb2 1
 obtain ⟨g, cap, rfl⟩ : ∃ g cap, v' = .slice (some ⟨g, 0, none⟩) (bs.length + 1) cap := by
  rcases hown'.2 with ⟨_, h0⟩ | ⟨g, cap, cur, hv, _⟩
  ·omega
  ·exact ⟨g, cap, hv⟩
 go_wp2
 go_ret
 refine ⟨rfl, ?_, ?_⟩
 ·exact Lib.BuilderAt.put (T := 104) (e := 5) hB hb2 (bs' := bs ++ [.int .u8 c]) (by simpa using hown') (by decide)
 ·exact ((hb1.alloc (by have := hb1.size; omega) _).grown hgrow (by have := hb1.size; simp; omega) (fun k hk => (hown.lt k hk).1)).setCell (p := ⟨b, 1, none⟩) hB _
theorem impl_told.take (l : List Bool) (k : Nat) (b : Bool) (h : k < l.length) (e : l.getD k false = b) : Lib.byteCells ((l.take (k + 1)).map impl_told.sgn) = Lib.byteCells ((l.take k).map impl_told.sgn) ++ [.int .u8 ((impl_told.sgn b).toNat : Int)] := by
 rw [List.take_succ_eq_append_getElem h, List.map_append, Lib.byteCells_append]
 have : l[k] = b := by rw [← e]; simp [List.getD, List.getElem?_eq_getElem h]
 rw [this]; rfl
set_option maxHeartbeats 1000000 in
set_option maxRecDepth 100000 in
theorem impl_told.calls (A0 : Option Addr) (c0 : Nat) (l0 : List Bool) (r : ByteArray) (w : World) (hr0 : Kd.C Kd.bool w A0 l0.length l0) (hc0 : l0.length ≤ c0) (h : impl_told.f l0 = some r) :
  Calls Try.prog 60 #[.slice A0 l0.length c0] w fun e w' => e = .returned (.string r) ∧ Below w.heap.size w w' := by
 unfold impl_told.f at h
 split at h
 case isFalse => cases h
 rename_i hs
 obtain rfl := bU h
 clear h
 have HR := Lib.hid (Kd.reads_of_C (d := false) hr0)
 clear hr0 hc0
 go_enter Try.func60, Try.ntmps60
 go_wp2
 go_loopw [8] (fun v8 wr => ∃ k : Nat, k ≤ l0.length ∧ v8 = .int .i64 k ∧ Aside0 (Lib.IsBuilder 104 5 w.heap.size w.heap.size (Lib.byteCells ((l0.take k).map impl_told.sgn)) wr) ∧ Aside0 (Below w.heap.size w wr)) (fun v8 _ => l0.length - (intOf v8).toNat)
 case atStart => exact ⟨0, Nat.zero_le _, rfl, ⟨Lib.fresh_isBuilder 104 5 w⟩, ⟨(cE _ w).alloc (cD _) _⟩⟩
 case round =>
  obtain ⟨k, hk, rfl, HI, HB⟩ := hrel
  by_cases hlt : k < l0.length
  ·obtain ⟨ad, had, hcell⟩ := (ReadsOf.below HR.out HB.out).at_ (k : Int) (by omega) (by omega)
   subst had
   simp only [Int.toNat_natCast] at hcell
   have hlen : (Lib.byteCells ((l0.take k).map impl_told.sgn)).length + 1 ≤ 140737488355328 := by rw [Lib.byteCells_length, List.length_map, List.length_take]; omega
   have hsz := HB.out.size
   have hrd : rdOf false l0 (k : Int) = l0.getD k false := by simp [rdOf]
   rw [hrd] at hcell
   cases hv : l0.getD k false with
   | true =>
    have HT := Lib.hid (impl_told.take l0 k true hlt hv)
    rw [hv] at hcell
    clear hv hrd
    go_wp2_with (go_at_call 80; refine (impl_told.wb w.heap.size w.heap.size _ 49 _ HI.out hlen hsz).mono ?_)
    rintro e W1 ⟨rfl, h1, b1⟩
    have H1 := aM h1; have B1 := aM b1; clear h1 b1
    go_wp2
    go_roundw
    case rel => exact ⟨k + 1, by omega, by go_num, ⟨by rw [HT.out]; exact Or.inr H1.out⟩, ⟨HB.out.trans B1.out⟩⟩
    case measure => simp [intOf]; omega
   | false =>
    have HT := Lib.hid (impl_told.take l0 k false hlt hv)
    rw [hv] at hcell
    clear hv hrd
    go_wp2_with (go_at_call 80; refine (impl_told.wb w.heap.size w.heap.size _ 48 _ HI.out hlen hsz).mono ?_)
    rintro e W1 ⟨rfl, h1, b1⟩
    have H1 := aM h1; have B1 := aM b1; clear h1 b1
    go_wp2
    go_roundw
    case rel => exact ⟨k + 1, by omega, by go_num, ⟨by rw [HT.out]; exact Or.inr H1.out⟩, ⟨HB.out.trans B1.out⟩⟩
    case measure => simp [intOf]; omega
  ·obtain rfl : k = l0.length := by omega
   have HI2 := HI.out
   rw [List.take_of_length_le (cD _)] at HI2
   have hsz := HB.out.size
   go_wp2_with (go_at_call 81; refine (Try.Builder_String_any w.heap.size w.heap.size _ _ HI2 hsz).mono ?_)
   rintro e W1 ⟨rfl, b1⟩
   have B1 := aM b1; clear b1
   go_wp2
   go_ret
   exact ⟨rfl, HB.out.trans B1.out⟩

def impl_set_text.j0 : Nat → Bool → List Bool → List Bool → Option (ByteArray × Bool)
 | 0, _, _, _ => none
 | k + 1, x13, x303000, x303001 => if x13 = true then (some ((⟨#[]⟩ : ByteArray), false)) else ((impl_told.f x303000).bind fun t303 => (if t303.size + 1 ≤ 9223372036854775807 then ((impl_told.f x303001).bind fun t304 => (if t303.size + 1 + t304.size ≤ 9223372036854775807 then (if t303.size + 1 + t304.size + 1 ≤ 9223372036854775807 then (some (((t303 ++ (⟨#[40]⟩ : ByteArray)) ++ t304) ++ (⟨#[41]⟩ : ByteArray), true)) else (none)) else (none))) else (none)))
def impl_set_text.f (k : Nat) (l0_0 : List Bool) (l0_1 : List Bool) : Option (ByteArray × Bool) := if (l0_0.length : Int) > 60 then (impl_set_text.j0 k true l0_0 l0_1) else (impl_set_text.j0 k (decide ((l0_1.length : Int) > 60)) l0_0 l0_1)
theorem impl_set_text.mono_l : ∀ k, (∀ y0 y1 y2, LeO (impl_set_text.j0 k y0 y1 y2) (impl_set_text.j0 (k + 1) y0 y1 y2))
 | 0 => fun _ _ _ r h => by simp [impl_set_text.j0] at h
 | k + 1 => by
  ·intro y0 y1 y2
   unfold impl_set_text.j0
   repeat' (with_reducible exact LeO.refl _)
theorem impl_set_text.mono : ∀ a0 a1 k, LeO (impl_set_text.f k a0 a1) (impl_set_text.f (k + 1) a0 a1) := by
 intro a0 a1 k
 have ih0 := impl_set_text.mono_l k
 unfold impl_set_text.f
 repeat' first | (with_reducible exact ih0 _ _ _) | (with_reducible refine LeO.ite ?_ ?_)
def impl_set_text.T3 : Bool × List (List Nat × List Nat) := (true, [([], []), ([0], [0]), ([1], [1]), ([2], [2]), ([], []), ([4], [4]), ([5, 2], [5]), ([3, 6], [3, 6]), ([7], [7]), ([8, 6, 0, 1, 2, 3, 4, 5, 6, 7, 8], [8]), ([9, 0, 1, 2, 3, 4, 5, 6, 7, 8, 9], [])])
def impl_set_text.B3 : List Nat := [0, 1, 3, 7, 0, 16, 55, 127, 255, 511, 1023]
theorem impl_set_text.tab3 : rtab .any (opsOf Try.f37 3) = impl_set_text.T3 := by kernel_rfl
theorem impl_set_text.bits3 : waitsOk impl_set_text.T3.2 impl_set_text.B3 = true := by kernel_rfl
set_option maxHeartbeats 8000000 in
set_option maxRecDepth 100000 in
theorem impl_set_text.calls (k : Nat) (A0_0 : Option Addr) (c0_0 : Nat) (l0_0 : List Bool) (A0_1 : Option Addr) (c0_1 : Nat) (l0_1 : List Bool) (r1 : ByteArray) (r2 : Bool) (w : World) (hr0_0 : Kd.C Kd.bool w A0_0 l0_0.length l0_0) (hc0_0 : l0_0.length ≤ c0_0) (hr0_1 : Kd.C Kd.bool w A0_1 l0_1.length l0_1) (hc0_1 : l0_1.length ≤ c0_1) (h : impl_set_text.f k l0_0 l0_1 = some (r1, r2)) :
  Calls Try.prog 37 #[.agg #[.slice A0_0 l0_0.length c0_0, .slice A0_1 l0_1.length c0_1]] w fun e w' => e = .returned (.tuple #[.string r1, .bool r2]) ∧ Below w.heap.size w w' := by
 have HR0_0 := aM hr0_0
 have HC0_0 := aM hc0_0
 clear hr0_0 hc0_0
 have HR0_1 := aM hr0_1
 have HC0_1 := aM hc0_1
 clear hr0_1 hc0_1
 have HB := aM (cE w.heap.size w)
 have H : (if (l0_0.length : Int) > 60 then (impl_set_text.j0 k true l0_0 l0_1) else (impl_set_text.j0 k (decide ((l0_1.length : Int) > 60)) l0_0 l0_1)) = some (r1, r2) := h
 clear h
 have HC2 := aM H
 clear H
 go_enter Try.func37, Try.ntmps37
 go_upto_region 1 with (first | ((with_reducible refine aZ (N := 1) rfl ?_); (try (refine gate_guard (by rfl) ?_; dsimp only)); refine bB ?hg (N := 1) ?hd (cs := #[.slice A0_0 l0_0.length c0_0, .slice A0_1 l0_1.length c0_1]) (t := 56) ?hr ?_; (case hd => rfl); (case hg => rfl); (case hr => first | (go_simp; done)); intro gb302 hg w3 hbox hb; have BK302 := aM hbox; replace HB := aM (aE HB.out hb); clear hb hbox hg))
 go_cut [13] (fun v13 wc => ∃ (kq : Nat) (x13_1 : Bool), v13 = .bool x13_1 ∧ Aside0 (impl_set_text.j0 kq x13_1 l0_0 l0_1 = some (r1, r2)) ∧ Aside0 (kq ≤ k) ∧ Aside0 (wc.heap[gb302]? = some (.cells #[(.slice A0_0 l0_0.length c0_0), (.slice A0_1 l0_1.length c0_1)] 56 (0, 0))) ∧ Aside0 (Below w.heap.size w wc))
 case first =>
  have H := HC2.out
  clear HC2
  by_cases c4 : (l0_0.length : Int) > 60
  ·rw [if_pos c4] at H
   have c4b0 : decide (60 < (l0_0.length : Int)) = true := aH c4
   clear c4
   have H' := aM H
   clear H
   have hcz5_0 : w3.cell? ⟨gb302, 0, none⟩ = some (.slice A0_0 l0_0.length c0_0) := (aA BK302.out 0).trans rfl
   go_wp2
   go_meet
   case rel => exact ⟨_, (true), (by rfl), H', ⟨by omega⟩, ⟨by exact BK302.out⟩, ⟨HB.out⟩⟩
  ·rw [if_neg c4] at H
   have c4b0 : decide (60 < (l0_0.length : Int)) = false := aK c4
   clear c4
   have H' := aM H
   clear H
   have hcz6_0 : w3.cell? ⟨gb302, 0, none⟩ = some (.slice A0_0 l0_0.length c0_0) := (aA BK302.out 0).trans rfl
   have hcz6_1 : w3.cell? ⟨gb302, 1, none⟩ = some (.slice A0_1 l0_1.length c0_1) := (aA BK302.out 1).trans rfl
   go_wp2
   go_meet
   case rel => exact ⟨_, (decide ((l0_1.length : Int) > 60)), (by rfl), H', ⟨by omega⟩, ⟨by exact BK302.out⟩, ⟨HB.out⟩⟩
 case rest =>
  clear HC2
  obtain ⟨kq, x13_1, rfl, HA, HJ1, BK302, HB⟩ := hcut
  cases kq with
  | zero => exact absurd HA.out (by simp [impl_set_text.j0])
  | succ kj1 =>
   have H := HA.out
   clear HA
   simp only [impl_set_text.j0] at H
   by_cases c7 : x13_1 = true
   ·subst c7
    replace H : (some ((⟨#[]⟩ : ByteArray), false)) = some (r1, r2) := by rw [if_pos rfl] at H; exact H
    simp only [aV, aW] at H
    obtain ⟨rfl, rfl⟩ := H
    go_wp2
    go_ret2
    exact ⟨by first | rfl | (simp [*, errW_none, errW_some] <;> rfl), HB.out⟩
   ·replace c7 := Bool.eq_false_iff.mpr c7
    subst c7
    replace H : ((impl_told.f l0_0).bind fun t303 => (if t303.size + 1 ≤ 9223372036854775807 then ((impl_told.f l0_1).bind fun t304 => (if t303.size + 1 + t304.size ≤ 9223372036854775807 then (if t303.size + 1 + t304.size + 1 ≤ 9223372036854775807 then (some (((t303 ++ (⟨#[40]⟩ : ByteArray)) ++ t304) ++ (⟨#[41]⟩ : ByteArray), true)) else (none)) else (none))) else (none))) = some (r1, r2) := by rw [if_neg (show ¬ (false = true) by decide)] at H; exact H
    replace H := Option.bind_eq_some_iff.mp H
    obtain ⟨t303, A80, H⟩ := H
    replace H : (if t303.size + 1 ≤ 9223372036854775807 then ((impl_told.f l0_1).bind fun t304 => (if t303.size + 1 + t304.size ≤ 9223372036854775807 then (if t303.size + 1 + t304.size + 1 ≤ 9223372036854775807 then (some (((t303 ++ (⟨#[40]⟩ : ByteArray)) ++ t304) ++ (⟨#[41]⟩ : ByteArray), true)) else (none)) else (none))) else (none)) = some (r1, r2) := H
    have A8 := aM A80
    clear A80
    by_cases c9 : t303.size + 1 ≤ 9223372036854775807
    ·rw [if_pos c9] at H
     try have c9b2 : (9223372036854775807 < t303.size + 1) = False := eq_false (Nat.not_lt.2 c9)
     replace H := Option.bind_eq_some_iff.mp H
     obtain ⟨t304, A100, H⟩ := H
     replace H : (if t303.size + 1 + t304.size ≤ 9223372036854775807 then (if t303.size + 1 + t304.size + 1 ≤ 9223372036854775807 then (some (((t303 ++ (⟨#[40]⟩ : ByteArray)) ++ t304) ++ (⟨#[41]⟩ : ByteArray), true)) else (none)) else (none)) = some (r1, r2) := H
     have A10 := aM A100
     clear A100
     by_cases c11 : t303.size + 1 + t304.size ≤ 9223372036854775807
     ·rw [if_pos c11] at H
      have c11b0 := eq_true c11
      have c11b1 : decide (t303.size + 1 + t304.size ≤ 9223372036854775807) = true := aH c11
      try have c11b2 : (9223372036854775807 < t303.size + 1 + t304.size) = False := eq_false (Nat.not_lt.2 c11)
      by_cases c12 : t303.size + 1 + t304.size + 1 ≤ 9223372036854775807
      ·rw [if_pos c12] at H
       try have c12b2 : (9223372036854775807 < t303.size + 1 + t304.size + 1) = False := eq_false (Nat.not_lt.2 c12)
       simp only [aV, aW] at H
       obtain ⟨rfl, rfl⟩ := H
       try go_wp2
       replace BK302 := aM (kD BK302.out)
       replace HB := aM (b1 HB.out)
       refine start_ (n := 11) (S := fun w' => w'.cell? ⟨gb302, 0, none⟩ = some (.slice A0_0 l0_0.length c0_0) ∧ w'.cell? ⟨gb302, 1, none⟩ = some (.slice A0_1 l0_1.length c0_1)) (ds := []) #[false, false, false, false, false, false, false, false, false, false, false] (by kernel_rfl) rfl rfl ⟨(aA BK302.out 0).trans rfl, (aA BK302.out 1).trans rfl⟩ (fun hHeld => ?_); refine with_tabW impl_set_text.tab3 impl_set_text.bits3 (fun HT_ HW_ => ?_)
       generalize wc.drew = w13 at BK302 HB hHeld ⊢
       refine pQ 0 14 HT_ ?_
       refine pQ 4 18 HT_ ?_
       refine tQ 1 15 HT_ HW_ hHeld ?_
       refine tQ 5 19 HT_ HW_ hHeld ?_
       refine oQ 2 16 HT_ (fun K hK => ?_)
       refine gO Try.func60 #[.slice A0_0 l0_0.length c0_0] ?_
       with_reducible refine (impl_told.calls _ _ l0_0 t303 _ ?side1 ?side2 A8.out).mono ?_
       (case side1 => repeat (exact (bF HR0_0.out HB.out)))
       (case side2 => exact HC0_0.out)
       rintro e w14 ⟨rfl, hb⟩
       refine ⟨_, rfl, ?_⟩
       replace BK302 := aM (aD (g := gb302) (o := .cells #[.slice A0_0 l0_0.length c0_0, .slice A0_1 l0_1.length c0_1] 56 (0, 0)) BK302.out hb)
       replace HB := aM (aE HB.out hb)
       (try clear hb)
       refine hK.out _ _ ⟨(aA BK302.out 0).trans rfl, (aA BK302.out 1).trans rfl⟩ (fun hHeld => ?_)
       clear hK K
       refine nQ ?_
       refine pQ 3 17 HT_ ?_
       refine oQ 6 20 HT_ (fun K hK => ?_)
       refine gO Try.func60 #[.slice A0_1 l0_1.length c0_1] ?_
       with_reducible refine (impl_told.calls _ _ l0_1 t304 _ ?side1 ?side2 A10.out).mono ?_
       (case side1 => repeat (exact (bF HR0_1.out HB.out)))
       (case side2 => exact HC0_1.out)
       rintro e w15 ⟨rfl, hb⟩
       refine ⟨_, rfl, ?_⟩
       replace BK302 := aM (aD (g := gb302) (o := .cells #[.slice A0_0 l0_0.length c0_0, .slice A0_1 l0_1.length c0_1] 56 (0, 0)) BK302.out hb)
       replace HB := aM (aE HB.out hb)
       (try clear hb)
       refine hK.out _ _ ⟨(aA BK302.out 0).trans rfl, (aA BK302.out 1).trans rfl⟩ (fun hHeld => ?_)
       clear hK K
       refine nQ ?_
       refine pQ 7 21 HT_ ?_
       refine pQ 8 22 HT_ ?_
       refine pQ 9 2 HT_ ?_
       refine pQ 10 3 HT_ ?_
       refine done_ (done_of HT_.out (by kernel_rfl)) ?_
       try go_wp2
       go_ret2
       exact ⟨by first | rfl | (simp [*, errW_none, errW_some] <;> rfl), HB.out⟩
      ·rw [if_neg c12] at H
       exact absurd H (by simp)
     ·rw [if_neg c11] at H
      exact absurd H (by simp)
    ·rw [if_neg c9] at H
     exact absurd H (by simp)


theorem impl_made.goesV_ {P : Program} {ops : Array Oper} {Q : Exit → Act → World → Prop} {oi : Oper} {N : Option Tmp} {a : Act} {w : World} {K : Act → World → Prop} {c : Operand} {g : FuncId} {lb : Array Value} (eg : ∀ args w, (callFunc g args).run P w = .ok (.enter g args) w) {ars : Array Operand} {ts : Array TypeId} (args : Array Value)
  (hw : Region.wanted oi (yielded ops a.tmps) = true) (hN : oi.dst = N) (hop : oi.op = .call { callee := .value c, args := ars, argTypes := ts }) (hc : a.eval c = .func (.func g) #[] lb) (hargs : ars.map a.eval = args)
  (h : Calls P g (args ++ lb) w fun e w' => ∃ v, e = .returned v ∧ K (a.put N v) w') : if Region.wanted oi (yielded ops a.tmps) = true then Oper.wp P oi a w K Q else K (a.put N undef) w := by
 refine call_ g (args ++ lb) hw hN ?_ h
 have he := eg (args ++ lb) w
 unfold execOp
 simp [hop, hc, resolve, Deferred.ofValue, invoke, hargs, he]
mutual
def impl_made.l0 (p_ : Int → Option Bool) : Nat → Int → Int → Int → Int → List Bool → Option (ByteArray × Bool)
 | 0, _, _, _, _, _ => none
 | k + 1, x0, x1, x11, x12, x306000 => if x12 < x11 then ((p_ x12).bind fun t306 => (if x306000.length < 140737488355328 then (impl_made.l0 p_ k x0 x1 x11 (wrap64 (x12 + 1)) (x306000 ++ [t306])) else (none))) else (impl_made.l1 p_ k x0 x1 0 x306000 ([] : List Bool))
def impl_made.l1 (p_ : Int → Option Bool) : Nat → Int → Int → Int → List Bool → List Bool → Option (ByteArray × Bool)
 | 0, _, _, _, _, _ => none
 | k + 1, x0, x24, x25, x306000, x306001 => if x25 < x24 then ((p_ (wrap64 (x0 + x25))).bind fun t310 => (if x306001.length < 140737488355328 then (impl_made.l1 p_ k x0 x24 (wrap64 (x25 + 1)) x306000 (x306001 ++ [t310])) else (none))) else ((impl_set_tidy.f k x306000 x306001).bind fun bt314 => ((impl_set_text.f k bt314.1 bt314.2).bind fun bt320 => (some (bt320.1, bt320.2))))
end
def impl_made.f (k : Nat) (a0 : Int) (a1 : Int) (p_ : Int → Option Bool) : Option (ByteArray × Bool) := impl_made.l0 p_ k a0 a1 a0 0 ([] : List Bool)
theorem impl_made.mono_l (p_ q_ : Int → Option Bool) (hp_ : ∀ n, LeO (p_ n) (q_ n)) : ∀ k, (∀ y0 y1 y2 y3 y4, LeO (impl_made.l0 p_ k y0 y1 y2 y3 y4) (impl_made.l0 q_ (k + 1) y0 y1 y2 y3 y4)) ∧ (∀ y0 y1 y2 y3 y4, LeO (impl_made.l1 p_ k y0 y1 y2 y3 y4) (impl_made.l1 q_ (k + 1) y0 y1 y2 y3 y4))
 | 0 => ⟨fun _ _ _ _ _ r h => by simp [impl_made.l0] at h, fun _ _ _ _ _ r h => by simp [impl_made.l1] at h⟩
 | k + 1 => by
  obtain ⟨ih0, ih1⟩ := impl_made.mono_l p_ q_ hp_ k
  refine ⟨?_, ?_⟩
  ·intro y0 y1 y2 y3 y4
   unfold impl_made.l0
   repeat' first
   |(with_reducible exact hp_ _)
   |(with_reducible exact ih0 _ _ _ _ _)
   |(with_reducible exact ih1 _ _ _ _ _)
   |(with_reducible exact impl_set_text.mono _ _ _)
   |(with_reducible exact impl_set_tidy.mono _ _ _)
   |(with_reducible exact LeO.refl _)
   |(with_reducible exact LeO.none _)
   |(with_reducible refine LeO.ite ?_ ?_)
   |(with_reducible refine LeO.bind ?_ (fun _ => ?_))
   |exact ih0 _ _ _ _ _
   |exact ih1 _ _ _ _ _
   |exact impl_set_text.mono _ _ _
   |exact impl_set_tidy.mono _ _ _
   |exact LeO.none _
   |refine LeO.ite ?_ ?_
   |refine LeO.bind ?_ (fun _ => ?_)
  ·intro y0 y1 y2 y3 y4
   unfold impl_made.l1
   repeat' first
   |(with_reducible exact hp_ _)
   |(with_reducible exact ih0 _ _ _ _ _)
   |(with_reducible exact ih1 _ _ _ _ _)
   |(with_reducible exact impl_set_text.mono _ _ _)
   |(with_reducible exact impl_set_tidy.mono _ _ _)
   |(with_reducible exact LeO.refl _)
   |(with_reducible exact LeO.none _)
   |(with_reducible refine LeO.ite ?_ ?_)
   |(with_reducible refine LeO.bind ?_ (fun _ => ?_))
   |exact ih0 _ _ _ _ _
   |exact ih1 _ _ _ _ _
   |exact impl_set_text.mono _ _ _
   |exact impl_set_tidy.mono _ _ _
   |exact LeO.none _
   |refine LeO.ite ?_ ?_
   |refine LeO.bind ?_ (fun _ => ?_)
theorem impl_made.mono (p_ q_ : Int → Option Bool) (hp_ : ∀ n, LeO (p_ n) (q_ n)) : ∀ a0 a1 k, LeO (impl_made.f k a0 a1 p_) (impl_made.f (k + 1) a0 a1 q_) := by
 intro a0 a1 k
 obtain ⟨ih0, ih1⟩ := impl_made.mono_l p_ q_ hp_ k
 unfold impl_made.f
 repeat' first
 |(with_reducible exact hp_ _)
   |(with_reducible exact ih0 _ _ _ _ _)
   |(with_reducible exact ih1 _ _ _ _ _)
   |(with_reducible exact impl_set_text.mono _ _ _)
   |(with_reducible exact impl_set_tidy.mono _ _ _)
   |(with_reducible exact LeO.refl _)
   |(with_reducible exact LeO.none _)
   |(with_reducible refine LeO.ite ?_ ?_)
   |(with_reducible refine LeO.bind ?_ (fun _ => ?_))
   |exact ih0 _ _ _ _ _
   |exact ih1 _ _ _ _ _
   |exact impl_set_text.mono _ _ _
   |exact impl_set_tidy.mono _ _ _
   |exact LeO.none _
   |refine LeO.ite ?_ ?_
   |refine LeO.bind ?_ (fun _ => ?_)
def impl_made.T5 : Bool × List (List Nat × List Nat) := (true, [([], []), ([0], [0]), ([], []), ([], []), ([2, 3], [2, 3]), ([4], [4]), ([1, 5, 4], [1, 5]), ([0, 1, 2, 3, 4, 5, 6], []), ([7, 6, 6, 0, 1, 2, 3, 4, 5, 6], [6, 7])])
def impl_made.B5 : List Nat := [0, 1, 0, 0, 12, 28, 63, 127, 255]
theorem impl_made.tab5 : rtab .any (opsOf Try.f67 5) = impl_made.T5 := by kernel_rfl
theorem impl_made.bits5 : waitsOk impl_made.T5.2 impl_made.B5 = true := by kernel_rfl
def impl_made.T10 : Bool × List (List Nat × List Nat) := (true, [([], []), ([0], [0]), ([], []), ([], []), ([], []), ([3, 4], [3, 4]), ([2, 5], [2, 5]), ([6], [6]), ([1, 7, 6], [1, 7]), ([0, 1, 2, 3, 4, 5, 6, 7, 8], []), ([9, 8, 8, 0, 1, 2, 3, 4, 5, 6, 7, 8], [8, 9])])
def impl_made.B10 : List Nat := [0, 1, 0, 0, 0, 24, 60, 124, 255, 511, 1023]
theorem impl_made.tab10 : rtab .any (opsOf Try.f67 10) = impl_made.T10 := by kernel_rfl
theorem impl_made.bits10 : waitsOk impl_made.T10.2 impl_made.B10 = true := by kernel_rfl
set_option maxHeartbeats 8000000 in
set_option maxRecDepth 100000 in
theorem impl_made.calls (k : Nat) (a0 : Int) (a1 : Int) (p_ : Int → Option Bool) (g_ : Nat) (lb_ : Array Value) (r1 : ByteArray) (r2 : Bool) (w : World) (eg_ : ∀ args w, (callFunc g_ args).run Try.prog w = .ok (.enter g_ args) w) (hp_ : ∀ (n : Int) (b : Bool) (W : World), Below w.heap.size w W → p_ n = some b → Calls Try.prog g_ (#[.int .i64 n] ++ lb_) W fun e W' => e = .returned (.bool b) ∧ Below W.heap.size W W') (h : impl_made.f k a0 a1 p_ = some (r1, r2)) :
  Calls Try.prog 67 #[.int .i64 a0, .int .i64 a1, .func (.func g_) #[] lb_] w fun e w' => e = .returned (.tuple #[.string r1, .bool r2]) ∧ Below w.heap.size w w' := by
 have HB := aM (cE w.heap.size w)
 have H : (impl_made.l0 p_ k a0 a1 a0 0 ([] : List Bool)) = some (r1, r2) := h
 clear h
 have H' := aM H
 clear H
 go_enter Try.func67, Try.ntmps67
 go_wp2_with (first | ((with_reducible refine aZ (N := 8) rfl ?_); refine bB ?hg (N := 8) ?hd (cs := #[.slice none 0 0, .slice none 0 0]) (t := 56) ?hr ?_; (case hd => rfl); (case hg => rfl); (case hr => first | (go_simp; done) | (go_simp; rfl)); intro gb305 hg w4 hbox hb; have BK305 := aM hbox; have GE305 := aM ((by rw [hg]; exact (aG (by repeat (first | (with_reducible first | exact HB.out | apply bA | apply bN | apply b1) | exact HB.out))) : w.heap.size ≤ gb305)); replace HB := aM (aE (by repeat (first | (with_reducible first | exact HB.out | apply bA | apply bN | apply b1) | exact HB.out)) hb); clear hb hbox hg))
 go_loopg [12] k (fun kq v12 w' => ∃ (x12_1 : Int) (x306000_1 : List Bool) (u306000 : Value), v12 = .int .i64 x12_1 ∧ Aside0 (impl_made.l0 p_ kq a0 a1 a0 x12_1 x306000_1 = some (r1, r2)) ∧ Aside0 (kq ≤ k) ∧ Aside0 (Kd.R Kd.bool 4 w' w.heap.size (fun _ => True) u306000 x306000_1) ∧ Aside0 (w'.heap[gb305]? = some (.cells #[u306000, (.slice none 0 0)] 56 (0, 0))) ∧ Aside0 (Below w.heap.size w w'))
 case atStart => exact ⟨(0), (([] : List Bool)), (.slice none 0 0), (by first | rfl | (simp; done) | (simp [*]; done) | (simp [Int.tmod_eq_emod_of_nonneg]; done)), H', ⟨cD _⟩, ⟨by first | exact Kd.R_nil _ _ _ _ _ | exact Kd.N_nil _ _ _ _ _ | exact Kd.V_nil _ _ _ _ _ | exact Kd.Q_nil _ _ _ _ _ | exact Kd.S_nil _ _ _ _ _⟩, ⟨by (with_reducible repeat (first | refine kN ?_ _ | refine kD ?_ | refine kA ?_ _)); exact BK305.out⟩, ⟨by repeat (first | (with_reducible first | exact HB.out | apply bA | apply bN | apply b1 | refine bS ?_ GE305.out) | exact HB.out)⟩⟩
 case round =>
  clear H'
  try clear p2
  obtain ⟨x12_1, x306000_1, u306000, rfl, HA, HK1, HO_306000, BK305, HB⟩ := hrel
  cases gk with
  | zero => exact absurd HA.out (by simp [impl_made.l0])
  | succ k1 =>
   have H := HA.out
   clear HA
   simp only [impl_made.l0] at H
   by_cases c5 : x12_1 < a0
   ·rw [if_pos c5] at H
    have c5b0 : decide (x12_1 < a0) = true := aH c5
    clear c5
    replace H := Option.bind_eq_some_iff.mp H
    obtain ⟨t306, A60, H⟩ := H
    replace H : (if x306000_1.length < 140737488355328 then (impl_made.l0 p_ k1 a0 a1 a0 (wrap64 (x12_1 + 1)) (x306000_1 ++ [t306])) else (none)) = some (r1, r2) := H
    have A6 := aM A60
    clear A60
    by_cases c7 : x306000_1.length < 140737488355328
    ·rw [if_pos c7] at H
     have LMc7 := aM c7
     clear c7
     obtain ⟨y307, hy307⟩ : ∃ y_ : List Bool, y_ = (x306000_1 ++ [t306]) := ⟨_, rfl⟩
     replace H : (impl_made.l0 p_ k1 a0 a1 a0 (wrap64 (x12_1 + 1)) y307) = some (r1, r2) := by first | (rw [hy307]; with_reducible exact H) | (have H2_ := (bR _ _).symm.trans H; rw [hy307]; with_reducible exact H2_) | (have H2_ := (bR _ _).symm.trans H; with_reducible exact H2_) | with_reducible exact H | (rw [hy307]; exact H) | exact H
     have Ny307 := aM hy307
     clear hy307
     have H' := aM H
     clear H
     try go_wp2
     replace HO_306000 := aM (rD HO_306000.out)
     replace BK305 := aM (kD BK305.out)
     replace HB := aM (b1 HB.out)
     refine start_ (n := 9) (S := fun w' => w'.cell? ⟨gb305, 0, none⟩ = some (u306000) ∧ w'.cell? ⟨gb305, 1, none⟩ = some (.slice none 0 0)) (ds := [8]) #[false, false, false, false, false, false, false, false, false] (by kernel_rfl) rfl rfl ⟨(aA BK305.out 0).trans rfl, (aA BK305.out 1).trans rfl⟩ (fun hHeld => ?_); refine with_tabW impl_made.tab5 impl_made.bits5 (fun HT_ HW_ => ?_)
     generalize wr.drew = w8 at HO_306000 BK305 HB hHeld ⊢
     refine pQ 0 15 HT_ ?_
     refine pQ 2 17 HT_ ?_
     refine pQ 3 18 HT_ ?_
     refine tQ 1 16 HT_ HW_ hHeld ?_
     refine oQ 4 19 HT_ (fun K hK => ?_)
     refine impl_made.goesV_ eg_ #[.int .i64 x12_1] (by rfl) rfl rfl (by rfl) (by (try simp only [aN, aQ, aT]); first | done | rfl | (simp only [List.length_drop, List.length_take]; rfl)) ?_
     refine (hp_ x12_1 t306 _ (by repeat (first | (with_reducible first | exact HB.out | apply bA | apply bN | apply b1) | exact HB.out)) A6.out).mono ?_
     rintro e w9 ⟨rfl, hb⟩
     refine ⟨_, rfl, ?_⟩
     replace HO_306000 := aM (bG (by (with_reducible repeat (first | apply rA | apply rN | apply rD)); exact HO_306000.out) hb)
     replace BK305 := aM (aD (g := gb305) (o := .cells #[u306000, .slice none 0 0] 56 (0, 0)) (by (with_reducible repeat (first | refine kN ?_ _ | refine kD ?_ | refine kA ?_ _)); exact BK305.out) hb)
     replace HB := aM (aE (by repeat (first | (with_reducible first | exact HB.out | apply bA | apply bN | apply b1 | refine bS ?_ GE305.out) | exact HB.out)) hb)
     (try clear hb)
     (try clear hb2)
     (try clear hk)
     (try clear hi)
     refine hK.out _ _ ⟨(aA BK305.out 0).trans rfl, (aA BK305.out 1).trans rfl⟩ (fun hHeld => ?_)
     clear hK K
     refine nQ ?_
     refine oQ 5 20 HT_ (fun K hK => ?_)
     refine value_ (w1 := ?_) (v := ?_) (by rfl) rfl ?_ ?_
     rotate_left 2
     ·go_simp
      constructor
      ·rfl
      ·rfl
     refine hK.out _ _ ⟨(aA (kA BK305.out _) 0).trans rfl, (aA (kA BK305.out _) 1).trans rfl⟩ (fun hHeld => ?_)
     clear hK K
     refine nQ ?_
     refine oQ 6 21 HT_ (fun K hK => ?_)
     refine Kd.R_append_step Kd.bool (w0 := w) w.heap.size (by rfl) (.tmp 16) (.tmp 20) 52 4 (.bool false) 1 rfl Try.underlying52 info4 rfl (by decide) (by omega) u306000 x306000_1 t306 [.bool t306] (fun _ => True) (fun _ => False) rfl rfl ?aP (fun _ hk => hk.elim) ?aF ?aO ?aB ?aS ?aL ?_
     (case aP => exact rfl)
     (case aB => exact (by repeat (first | (with_reducible first | exact HB.out | apply bA | apply bN | apply b1 | refine bS ?_ GE305.out) | exact HB.out)))
     (case aF => exact (fun _ _ => trivial))
     (case aO => exact (by (with_reducible repeat (first | apply rA | apply rN | apply rD)); exact HO_306000.out))
     (case aS => exact (aG (by repeat (first | (with_reducible first | exact HB.out | apply bA | apply bN | apply b1 | refine bS ?_ GE305.out) | exact HB.out))))
     (case aL => have := LMc7.out; omega)
     intro v308 w10 ho hb hg hat
     rw [← Ny307.out] at ho
     replace BK305 := aM (blk_grown (g := gb305) (o := .cells #[u306000, .slice none 0 0] 56 (0, 0)) (by (with_reducible repeat (first | refine kN ?_ _ | refine kD ?_ | refine kA ?_ _)); exact BK305.out) hg (Kd.R_ne HO_306000.out BK305.out (by decide)))
     replace HB := aM hb
     have HO309 := aM ho
     clear HO_306000
     clear ho hb hg hat
     obtain ⟨Ao11, co11, eo11⟩ := bL HO309.out
     (first | subst eo11 | (injection eo11 with f1_ f2_ f3_; have f4_ := f1_.symm; have f5_ := f3_.symm; clear f1_ f2_ f3_; subst f4_; subst f5_))
     refine hK.out _ _ ⟨(aA BK305.out 0).trans rfl, (aA BK305.out 1).trans rfl⟩ (fun hHeld => ?_)
     clear hK K
     refine nQ ?_
     refine pQ 7 22 HT_ ?_
     refine last_ (i := 8) (N := none) #[true, true, true, true, true, true, true, true, true] rfl rfl (one_of HT_.out (by kernel_rfl)) (by decide) (fun K hK => ?_)
     have hfs12 := aC BK305.out 0
     refine skip_ (w1 := ?_) (by rfl) rfl ?_ ?_
     rotate_left
     ·go_simp
      rfl
     refine hK.out _ _ ?_
     clear hK K
     refine done_ (done_of HT_.out (by kernel_rfl)) ?_
     try go_wp2
     go_roundg k1
     case measure => have := HK1.out; omega
     case rel => exact ⟨(wrap64 (x12_1 + 1)), (y307), (.slice Ao11 y307.length co11), (by first | rfl | (simp; done) | (simp [*]; done) | (simp [Int.tmod_eq_emod_of_nonneg]; done)), H', ⟨by have := HK1.out; omega⟩, ⟨by (with_reducible repeat (first | apply rA | apply rN | apply rD)); exact bJ (bC (p := ⟨gb305, 0, none⟩) (bE HO309.out BK305.out (by decide)) (fun _ hk => hk.2) (.slice Ao11 y307.length co11)) (fun _ hk => trivial)⟩, ⟨by (with_reducible repeat (first | refine kN ?_ _ | refine kD ?_ | refine kA ?_ _)); refine bV (cs := #[u306000, .slice none 0 0]) ?_ 0 _ rfl; (with_reducible repeat (first | refine kN ?_ _ | refine kD ?_ | refine kA ?_ _)); exact BK305.out⟩, ⟨by repeat (first | (with_reducible first | exact HB.out | apply bA | apply bN | apply b1 | refine bS ?_ GE305.out) | exact HB.out)⟩⟩
    ·rw [if_neg c7] at H
     exact absurd H (by simp)
   ·rw [if_neg c5] at H
    have c5b0 : decide (x12_1 < a0) = false := aK c5
    clear c5
    have H' := aM H
    clear H
    go_wp2
    go_loopg [25] k1 (fun kq v25 w' => ∃ (x25_2 : Int) (x306001_2 : List Bool) (u306001 : Value), v25 = .int .i64 x25_2 ∧ Aside0 (impl_made.l1 p_ kq a0 a1 x25_2 x306000_1 x306001_2 = some (r1, r2)) ∧ Aside0 (kq ≤ k1) ∧ Aside0 (Kd.R Kd.bool 4 w' w.heap.size (fun k_ => some k_ ≠ (u306001 : Value).ownBlock) u306000 x306000_1) ∧ Aside0 (Kd.R Kd.bool 4 w' w.heap.size (fun k_ => some k_ ≠ (u306000 : Value).ownBlock) u306001 x306001_2) ∧ Aside0 (w'.heap[gb305]? = some (.cells #[u306000, u306001] 56 (0, 0))) ∧ Aside0 (Below w.heap.size w w'))
    case atStart => exact ⟨(0), (([] : List Bool)), (.slice none 0 0), (by first | rfl | (simp; done) | (simp [*]; done) | (simp [Int.tmod_eq_emod_of_nonneg]; done)), H', ⟨cD _⟩, ⟨by (with_reducible repeat (first | apply rA | apply rN | apply rD)); exact bJ HO_306000.out (fun _ hk => (by simp [Value.ownBlock]))⟩, ⟨by first | exact Kd.R_nil _ _ _ _ _ | exact Kd.N_nil _ _ _ _ _ | exact Kd.V_nil _ _ _ _ _ | exact Kd.Q_nil _ _ _ _ _ | exact Kd.S_nil _ _ _ _ _⟩, ⟨by (with_reducible repeat (first | refine kN ?_ _ | refine kD ?_ | refine kA ?_ _)); exact BK305.out⟩, ⟨by repeat (first | (with_reducible first | exact HB.out | apply bA | apply bN | apply b1 | refine bS ?_ GE305.out) | exact HB.out)⟩⟩
    case round =>
     clear H'
     try clear p2
     try clear c5
     try clear c5b0
     try clear c6
     try clear p6
     try clear c7
     try clear c9
     try clear p2
     obtain ⟨x25_2, x306001_2, u306001, rfl, HA, HK2, HO_306000, HO_306001, BK305, HB⟩ := hrel
     cases gk with
     | zero => exact absurd HA.out (by simp [impl_made.l1])
     | succ k2 =>
      have H := HA.out
      clear HA
      simp only [impl_made.l1] at H
      by_cases c13 : x25_2 < a1
      ·rw [if_pos c13] at H
       have c13b0 : decide (x25_2 < a1) = true := aH c13
       clear c13
       replace H := Option.bind_eq_some_iff.mp H
       obtain ⟨t310, A140, H⟩ := H
       replace H : (if x306001_2.length < 140737488355328 then (impl_made.l1 p_ k2 a0 a1 (wrap64 (x25_2 + 1)) x306000_1 (x306001_2 ++ [t310])) else (none)) = some (r1, r2) := H
       have A14 := aM A140
       clear A140
       by_cases c15 : x306001_2.length < 140737488355328
       ·rw [if_pos c15] at H
        have LMc15 := aM c15
        clear c15
        obtain ⟨y311, hy311⟩ : ∃ y_ : List Bool, y_ = (x306001_2 ++ [t310]) := ⟨_, rfl⟩
        replace H : (impl_made.l1 p_ k2 a0 a1 (wrap64 (x25_2 + 1)) x306000_1 y311) = some (r1, r2) := by first | (rw [hy311]; with_reducible exact H) | (have H2_ := (bR _ _).symm.trans H; rw [hy311]; with_reducible exact H2_) | (have H2_ := (bR _ _).symm.trans H; with_reducible exact H2_) | with_reducible exact H | (rw [hy311]; exact H) | exact H
        have Ny311 := aM hy311
        clear hy311
        have H' := aM H
        clear H
        try go_wp2
        replace HO_306000 := aM (rD HO_306000.out)
        replace HO_306001 := aM (rD HO_306001.out)
        replace BK305 := aM (kD BK305.out)
        replace HB := aM (b1 HB.out)
        refine start_ (n := 11) (S := fun w' => w'.cell? ⟨gb305, 0, none⟩ = some (u306000) ∧ w'.cell? ⟨gb305, 1, none⟩ = some (u306001)) (ds := [10]) #[false, false, false, false, false, false, false, false, false, false, false] (by kernel_rfl) rfl rfl ⟨(aA BK305.out 0).trans rfl, (aA BK305.out 1).trans rfl⟩ (fun hHeld => ?_); refine with_tabW impl_made.tab10 impl_made.bits10 (fun HT_ HW_ => ?_)
        generalize wr.drew = w16 at HO_306000 HO_306001 BK305 HB hHeld ⊢
        refine pQ 0 28 HT_ ?_
        refine pQ 2 30 HT_ ?_
        refine pQ 3 31 HT_ ?_
        refine pQ 4 32 HT_ ?_
        refine pQ 5 33 HT_ ?_
        refine tQ 1 29 HT_ HW_ hHeld ?_
        refine oQ 6 34 HT_ (fun K hK => ?_)
        refine impl_made.goesV_ eg_ #[.int .i64 (wrap64 (a0 + x25_2))] (by rfl) rfl rfl (by rfl) (by (try simp only [aN, aQ, aT]); first | done | rfl | (simp only [List.length_drop, List.length_take]; rfl)) ?_
        refine (hp_ (wrap64 (a0 + x25_2)) t310 _ (by repeat (first | (with_reducible first | exact HB.out | apply bA | apply bN | apply b1) | exact HB.out)) A14.out).mono ?_
        rintro e w17 ⟨rfl, hb⟩
        refine ⟨_, rfl, ?_⟩
        replace HO_306000 := aM (bG (by (with_reducible repeat (first | apply rA | apply rN | apply rD)); exact HO_306000.out) hb)
        replace HO_306001 := aM (bG (by (with_reducible repeat (first | apply rA | apply rN | apply rD)); exact HO_306001.out) hb)
        replace BK305 := aM (aD (g := gb305) (o := .cells #[u306000, u306001] 56 (0, 0)) (by (with_reducible repeat (first | refine kN ?_ _ | refine kD ?_ | refine kA ?_ _)); exact BK305.out) hb)
        replace HB := aM (aE (by repeat (first | (with_reducible first | exact HB.out | apply bA | apply bN | apply b1 | refine bS ?_ GE305.out) | exact HB.out)) hb)
        (try clear hb)
        (try clear hb2)
        (try clear hk)
        (try clear hi)
        refine hK.out _ _ ⟨(aA BK305.out 0).trans rfl, (aA BK305.out 1).trans rfl⟩ (fun hHeld => ?_)
        clear hK K
        refine nQ ?_
        refine oQ 7 35 HT_ (fun K hK => ?_)
        refine value_ (w1 := ?_) (v := ?_) (by rfl) rfl ?_ ?_
        rotate_left 2
        ·go_simp
         constructor
         ·rfl
         ·rfl
        refine hK.out _ _ ⟨(aA (kA BK305.out _) 0).trans rfl, (aA (kA BK305.out _) 1).trans rfl⟩ (fun hHeld => ?_)
        clear hK K
        refine nQ ?_
        refine oQ 8 36 HT_ (fun K hK => ?_)
        refine Kd.R_append_step Kd.bool (w0 := w) w.heap.size (by rfl) (.tmp 29) (.tmp 35) 52 4 (.bool false) 1 rfl Try.underlying52 info4 rfl (by decide) (by omega) u306001 x306001_2 t310 [.bool t310] (fun k_ => some k_ ≠ (u306000 : Value).ownBlock) (fun _ => False) rfl rfl ?aP (fun _ hk => hk.elim) ?aF ?aO ?aB ?aS ?aL ?_
        (case aP => exact rfl)
        (case aB => exact (by repeat (first | (with_reducible first | exact HB.out | apply bA | apply bN | apply b1 | refine bS ?_ GE305.out) | exact HB.out)))
        (case aF => exact (fun k_ hk => Kd.fresh' (Kd.R_lt (by (with_reducible repeat (first | apply rA | apply rN | apply rD)); exact HO_306000.out)) k_ hk))
        (case aO => exact (by (with_reducible repeat (first | apply rA | apply rN | apply rD)); exact HO_306001.out))
        (case aS => exact (aG (by repeat (first | (with_reducible first | exact HB.out | apply bA | apply bN | apply b1 | refine bS ?_ GE305.out) | exact HB.out))))
        (case aL => have := LMc15.out; omega)
        intro v312 w18 ho hb hg hat
        rw [← Ny311.out] at ho
        replace HO_306000 := aM (cJ (ok := (fun _ => True)) (by (with_reducible repeat (first | apply rA | apply rN | apply rD)); exact bJ HO_306000.out (fun _ hk => ⟨trivial, hk⟩)) hg hat)
        replace BK305 := aM (blk_grown (g := gb305) (o := .cells #[u306000, u306001] 56 (0, 0)) (by (with_reducible repeat (first | refine kN ?_ _ | refine kD ?_ | refine kA ?_ _)); exact BK305.out) hg (Kd.R_ne HO_306001.out BK305.out (by decide)))
        replace HB := aM hb
        have HO313 := aM ho
        clear HO_306001
        clear ho hb hg hat
        obtain ⟨Ao19, co19, eo19⟩ := bL HO313.out
        (first | subst eo19 | (injection eo19 with f1_ f2_ f3_; have f4_ := f1_.symm; have f5_ := f3_.symm; clear f1_ f2_ f3_; subst f4_; subst f5_))
        refine hK.out _ _ ⟨(aA BK305.out 0).trans rfl, (aA BK305.out 1).trans rfl⟩ (fun hHeld => ?_)
        clear hK K
        refine nQ ?_
        refine pQ 9 37 HT_ ?_
        refine last_ (i := 10) (N := none) #[true, true, true, true, true, true, true, true, true, true, true] rfl rfl (one_of HT_.out (by kernel_rfl)) (by decide) (fun K hK => ?_)
        have hfs20 := aC BK305.out 1
        refine skip_ (w1 := ?_) (by rfl) rfl ?_ ?_
        rotate_left
        ·go_simp
         rfl
        refine hK.out _ _ ?_
        clear hK K
        refine done_ (done_of HT_.out (by kernel_rfl)) ?_
        try go_wp2
        go_roundg k2
        case measure => have := HK1.out; have := HK2.out; omega
        case rel => exact ⟨(wrap64 (x25_2 + 1)), (y311), (.slice Ao19 y311.length co19), (by first | rfl | (simp; done) | (simp [*]; done) | (simp [Int.tmod_eq_emod_of_nonneg]; done)), H', ⟨by have := HK1.out; have := HK2.out; omega⟩, ⟨by (with_reducible repeat (first | apply rA | apply rN | apply rD)); exact bJ (bC (p := ⟨gb305, 1, none⟩) (bE HO_306000.out BK305.out (by decide)) (fun _ hk => hk.2) (.slice Ao19 y311.length co19)) (fun _ hk => hk.1.2)⟩, ⟨by (with_reducible repeat (first | apply rA | apply rN | apply rD)); exact bJ (bC (p := ⟨gb305, 1, none⟩) (bE HO313.out BK305.out (by decide)) (fun _ hk => hk.2) (.slice Ao19 y311.length co19)) (fun _ hk => hk.1)⟩, ⟨by (with_reducible repeat (first | refine kN ?_ _ | refine kD ?_ | refine kA ?_ _)); refine bV (cs := #[u306000, u306001]) ?_ 1 _ rfl; (with_reducible repeat (first | refine kN ?_ _ | refine kD ?_ | refine kA ?_ _)); exact BK305.out⟩, ⟨by repeat (first | (with_reducible first | exact HB.out | apply bA | apply bN | apply b1 | refine bS ?_ GE305.out) | exact HB.out)⟩⟩
       ·rw [if_neg c15] at H
        exact absurd H (by simp)
      ·rw [if_neg c13] at H
       have c13b0 : decide (x25_2 < a1) = false := aK c13
       clear c13
       replace H := Option.bind_eq_some_iff.mp H
       obtain ⟨⟨t314, t317⟩, A210, H⟩ := H
       replace H : ((impl_set_text.f k2 t314 t317).bind fun bt320 => (some (bt320.1, bt320.2))) = some (r1, r2) := H
       have A21 := aM A210
       clear A210
       replace H := Option.bind_eq_some_iff.mp H
       obtain ⟨⟨t320, t321⟩, A220, H⟩ := H
       replace H : (some (t320, t321)) = some (r1, r2) := H
       have A22 := aM A220
       clear A220
       simp only [aV, aW] at H
       obtain ⟨rfl, rfl⟩ := H
       have hcz23_0 : wr.cell? ⟨gb305, 0, none⟩ = some (u306000) := (aA BK305.out 0).trans rfl
       have hcz23_1 : wr.cell? ⟨gb305, 1, none⟩ = some (u306001) := (aA BK305.out 1).trans rfl
       obtain ⟨Ao24, co24, eo24⟩ := bL HO_306000.out
       subst eo24
       obtain ⟨Ao25, co25, eo25⟩ := bL HO_306001.out
       subst eo25
       go_wp2_with (first | ((with_reducible refine aY (f := 59) rfl ?_); refine gL 40 Try.func59 #[.agg #[.slice Ao24 x306000_1.length co24, .slice Ao25 x306001_2.length co25]] (hargs := (by (try simp only [aN, aQ, aT]); first | done | rfl | (simp only [List.length_drop, List.length_take]; rfl))) ?_; (with_reducible refine (impl_set_tidy.calls k2 _ _ x306000_1 _ _ x306001_2 t314 t317 _ ?side1 ?side2 ?side3 ?side4 A21.out).mono ?_); (case side1 => repeat (first | exact (bM HO_306000.out).2.2 | (with_reducible refine Kd.C_alloc ?_ _) | (with_reducible refine Kd.C_drewN ?_ _) | (with_reducible refine Kd.C_drew ?_))); (case side2 => exact (bM HO_306000.out).2.1); (case side3 => repeat (first | exact (bM HO_306001.out).2.2 | (with_reducible refine Kd.C_alloc ?_ _) | (with_reducible refine Kd.C_drewN ?_ _) | (with_reducible refine Kd.C_drew ?_))); (case side4 => exact (bM HO_306001.out).2.1); rintro e w26 ⟨v315, v318, rfl, ho0, ho1, hb⟩; refine ⟨_, rfl, ?_⟩; have HO316 := aM (bP (Kd.R_new' (Kd.R_new' ho0 (Kd.R_lt (by (with_reducible repeat (first | apply rA | apply rN | apply rD)); exact HO_306000.out))) (Kd.R_lt (by (with_reducible repeat (first | apply rA | apply rN | apply rD)); exact HO_306001.out))) (aG (by repeat (first | (with_reducible first | exact HB.out | apply bA | apply bN | apply b1 | refine bS ?_ GE305.out) | exact HB.out)))); have HO319 := aM (bP (Kd.R_new' (Kd.R_new' ho1 (Kd.R_lt (by (with_reducible repeat (first | apply rA | apply rN | apply rD)); exact HO_306000.out))) (Kd.R_lt (by (with_reducible repeat (first | apply rA | apply rN | apply rD)); exact HO_306001.out))) (aG (by repeat (first | (with_reducible first | exact HB.out | apply bA | apply bN | apply b1 | refine bS ?_ GE305.out) | exact HB.out)))); replace HO_306000 := aM (bJ (Kd.R_told (Kd.R_told (Kd.R_old (by (with_reducible repeat (first | apply rA | apply rN | apply rD)); exact HO_306000.out) hb) (Kd.R_base ho0)) (Kd.R_base ho1)) (fun _ h_ => h_.1)); replace HO_306001 := aM (bJ (Kd.R_told (Kd.R_told (Kd.R_old (by (with_reducible repeat (first | apply rA | apply rN | apply rD)); exact HO_306001.out) hb) (Kd.R_base ho0)) (Kd.R_base ho1)) (fun _ h_ => h_.1)); replace HB := aM (aE (by repeat (first | (with_reducible first | exact HB.out | apply bA | apply bN | apply b1 | refine bS ?_ GE305.out) | exact HB.out)) hb); (try clear hb); (try clear hb2); (try clear hk); (try clear hi); (try clear ho0); (try clear ho1); obtain ⟨Ao27, co27, eo27⟩ := bL HO316.out; subst eo27; obtain ⟨Ao28, co28, eo28⟩ := bL HO319.out; subst eo28) | ((with_reducible refine aY (f := 37) rfl ?_); refine gL 41 Try.func37 #[.agg #[.slice Ao27 t314.length co27, .slice Ao28 t317.length co28]] (hargs := (by (try simp only [aN, aQ, aT]); first | done | rfl | (simp only [List.length_drop, List.length_take]; rfl))) ?_; (with_reducible refine (impl_set_text.calls k2 _ _ t314 _ _ t317 t320 t321 _ ?side1 ?side2 ?side3 ?side4 A22.out).mono ?_); (case side1 => repeat (first | exact (bM HO316.out).2.2 | (with_reducible refine Kd.C_alloc ?_ _) | (with_reducible refine Kd.C_drewN ?_ _) | (with_reducible refine Kd.C_drew ?_))); (case side2 => exact (bM HO316.out).2.1); (case side3 => repeat (first | exact (bM HO319.out).2.2 | (with_reducible refine Kd.C_alloc ?_ _) | (with_reducible refine Kd.C_drewN ?_ _) | (with_reducible refine Kd.C_drew ?_))); (case side4 => exact (bM HO319.out).2.1); rintro e w29 ⟨rfl, hb⟩; refine ⟨_, rfl, ?_⟩; replace HB := aM (aE (by repeat (first | (with_reducible first | exact HB.out | apply bA | apply bN | apply b1 | refine bS ?_ GE305.out) | exact HB.out)) hb); (try clear hb); (try clear hb2); (try clear hk); (try clear hi)))
       go_ret2
       exact ⟨by first | rfl | (simp [errW_none, errW_some] <;> rfl) | (simp [errW_none, errW_some]; exact ⟨rfl, rfl⟩) | (simp [errW_none, errW_some]; exact ⟨rfl, rfl, rfl⟩) | (simp [*, errW_none, errW_some] <;> rfl), by repeat (first | (with_reducible first | exact HB.out | apply bA | apply bN | apply b1 | refine bS ?_ GE305.out) | exact HB.out)⟩


def impl_set_has.f (l0_0 : List Bool) (l0_1 : List Bool) (a1 : Int) : Option (Bool) := if a1 < 0 then (some false) else (if a1 < (l0_0.length : Int) then (if 0 ≤ a1 then (some (rdOf false l0_0 a1)) else (none)) else (if (l0_1.length : Int) = 0 then (none) else (if 0 ≤ (Int.tmod (wrap64 (a1 - (l0_0.length : Int))) (l0_1.length : Int)) then (if (Int.tmod (wrap64 (a1 - (l0_0.length : Int))) (l0_1.length : Int)) < (l0_1.length : Int) then (some (rdOf false l0_1 (Int.tmod (wrap64 (a1 - (l0_0.length : Int))) (l0_1.length : Int)))) else (none)) else (none))))
set_option maxHeartbeats 8000000 in
set_option maxRecDepth 100000 in
theorem impl_set_has.calls (A0_0 : Option Addr) (c0_0 : Nat) (l0_0 : List Bool) (A0_1 : Option Addr) (c0_1 : Nat) (l0_1 : List Bool) (a1 : Int) (r : Bool) (w : World) (hr0_0 : Kd.C Kd.bool w A0_0 l0_0.length l0_0) (hc0_0 : l0_0.length ≤ c0_0) (hr0_1 : Kd.C Kd.bool w A0_1 l0_1.length l0_1) (hc0_1 : l0_1.length ≤ c0_1) (h : impl_set_has.f l0_0 l0_1 a1 = some r) :
  Calls Try.prog 33 #[.agg #[.slice A0_0 l0_0.length c0_0, .slice A0_1 l0_1.length c0_1], .int .i64 a1] w fun e w' => e = .returned (.bool r) ∧ Below w.heap.size w w' := by
 have HR0_0 := aM hr0_0
 clear hr0_0 hc0_0
 have HR0_1 := aM hr0_1
 clear hr0_1 hc0_1
 have HB := aM (cE w.heap.size w)
 have H : (if a1 < 0 then (some false) else (if a1 < (l0_0.length : Int) then (if 0 ≤ a1 then (some (rdOf false l0_0 a1)) else (none)) else (if (l0_1.length : Int) = 0 then (none) else (if 0 ≤ (Int.tmod (wrap64 (a1 - (l0_0.length : Int))) (l0_1.length : Int)) then (if (Int.tmod (wrap64 (a1 - (l0_0.length : Int))) (l0_1.length : Int)) < (l0_1.length : Int) then (some (rdOf false l0_1 (Int.tmod (wrap64 (a1 - (l0_0.length : Int))) (l0_1.length : Int)))) else (none)) else (none))))) = some r := h
 clear h
 by_cases c3 : a1 < 0
 ·rw [if_pos c3] at H
  have c3b0 : decide (a1 < 0) = true := aH c3
  clear c3
  obtain rfl := bU H
  go_enter Try.func33, Try.ntmps33
  go_wp2_with (first | ((with_reducible refine aZ (N := 2) rfl ?_); refine bB ?hg (N := 2) ?hd (cs := #[.slice A0_0 l0_0.length c0_0, .slice A0_1 l0_1.length c0_1]) (t := 56) ?hr ?_; (case hd => rfl); (case hg => rfl); (case hr => first | (go_simp; done)); intro gb101 hg w4 hbox hb; replace HB := aM (aE HB.out hb); clear hb hbox hg))
  repeat (go_quiet (fail); try go_wp2_with (fail))
  go_ret
  exact ⟨by first | rfl | (simp [*, errW_none, errW_some] <;> rfl), HB.out⟩
 ·rw [if_neg c3] at H
  have c3b0 : decide (a1 < 0) = false := aK c3
  clear c3
  by_cases c5 : a1 < (l0_0.length : Int)
  ·rw [if_pos c5] at H
   have c5b0 : decide (a1 < (l0_0.length : Int)) = true := aH c5
   clear c5
   by_cases c6 : 0 ≤ a1
   ·rw [if_pos c6] at H
    have c6b0 : decide (0 ≤ a1) = true := aH c6
    clear c6
    obtain rfl := bU H
    go_enter Try.func33, Try.ntmps33
    go_wp2_with (first | ((with_reducible refine aZ (N := 2) rfl ?_); refine bB ?hg (N := 2) ?hd (cs := #[.slice A0_0 l0_0.length c0_0, .slice A0_1 l0_1.length c0_1]) (t := 56) ?hr ?_; (case hd => rfl); (case hg => rfl); (case hr => first | (go_simp; done)); intro gb101 hg w7 hbox hb; have BK101 := aM hbox; replace HB := aM (aE HB.out hb); clear hb hbox hg; have hcz8_0 : w7.cell? ⟨gb101, 0, none⟩ = some (.slice A0_0 l0_0.length c0_0) := (aA BK101.out 0).trans rfl; have p102 : 0 ≤ (a1 : Int) := aJ (by (with_reducible assumption)); have q102 : a1 < (l0_0.length : Int) := aJ (by (with_reducible assumption)); obtain ⟨ad102, e102, hx102_0⟩ := Kd.at_bool HR0_0.out a1 p102 q102; cases e102; replace hx102_0 := (HB.out.cell (World.block_lt_of_cell? w _ hx102_0)).trans hx102_0; replace p102 := eq_true p102; replace q102 := eq_true q102))
    repeat (go_quiet (fail); try go_wp2_with (fail))
    go_ret
    exact ⟨by first | rfl | (simp [*, errW_none, errW_some] <;> rfl), HB.out⟩
   ·rw [if_neg c6] at H
    exact absurd H (by simp)
  ·rw [if_neg c5] at H
   have c5b0 : decide (a1 < (l0_0.length : Int)) = false := aK c5
   clear c5
   by_cases c9 : (l0_1.length : Int) = 0
   ·rw [if_pos c9] at H
    exact absurd H (by simp)
   ·rw [if_neg c9] at H
    have c9b2 : ¬ (l0_1 = []) := fun h_ => c9 (by rw [h_]; rfl)
    obtain ⟨ji10, hji10⟩ : ∃ j_ : Int, (Int.tmod (wrap64 (a1 - (l0_0.length : Int))) (l0_1.length : Int)) = j_ := ⟨_, rfl⟩
    replace H : (if 0 ≤ (ji10) then (if (ji10) < (l0_1.length : Int) then (some (rdOf false l0_1 (ji10))) else (none)) else (none)) = some r := by first | (rw [hji10] at H; exact H)
    by_cases c11 : 0 ≤ (ji10)
    ·rw [if_pos c11] at H
     have c11b0 : decide (0 ≤ (ji10)) = true := aH c11
     clear c11
     by_cases c12 : (ji10) < (l0_1.length : Int)
     ·rw [if_pos c12] at H
      have c12b0 : decide ((ji10) < (l0_1.length : Int)) = true := aH c12
      clear c12
      obtain rfl := bU H
      go_enter Try.func33, Try.ntmps33
      go_wp2_with (first | ((with_reducible refine aZ (N := 2) rfl ?_); refine bB ?hg (N := 2) ?hd (cs := #[.slice A0_0 l0_0.length c0_0, .slice A0_1 l0_1.length c0_1]) (t := 56) ?hr ?_; (case hd => rfl); (case hg => rfl); (case hr => first | (go_simp; done)); intro gb101 hg w13 hbox hb; have BK101 := aM hbox; replace HB := aM (aE HB.out hb); clear hb hbox hg; have hcz14_0 : w13.cell? ⟨gb101, 0, none⟩ = some (.slice A0_0 l0_0.length c0_0) := (aA BK101.out 0).trans rfl; have hcz14_1 : w13.cell? ⟨gb101, 1, none⟩ = some (.slice A0_1 l0_1.length c0_1) := (aA BK101.out 1).trans rfl; have p103 : 0 ≤ ((ji10) : Int) := aJ (by (with_reducible assumption)); have q103 : (ji10) < (l0_1.length : Int) := aJ (by (with_reducible assumption)); obtain ⟨ad103, e103, hx103_0⟩ := Kd.at_bool HR0_1.out (ji10) p103 q103; cases e103; replace hx103_0 := (HB.out.cell (World.block_lt_of_cell? w _ hx103_0)).trans hx103_0; replace p103 := eq_true p103; replace q103 := eq_true q103))
      repeat (go_quiet (fail); try go_wp2_with (fail))
      go_ret
      exact ⟨by first | rfl | (simp [*, errW_none, errW_some] <;> rfl), by repeat (first | (with_reducible first | exact HB.out | apply bN))⟩
     ·rw [if_neg c12] at H
      exact absurd H (by simp)
    ·rw [if_neg c11] at H
     exact absurd H (by simp)


def impl_set_least.l0 : Nat → Int → List Bool → List Bool → Option (Int)
 | 0, _, _, _ => none
 | k + 1, x3, x323000, x323001 => if x3 ≤ (wrap64 ((x323000.length : Int) + (x323001.length : Int))) then ((impl_set_has.f x323000 x323001 x3).bind fun t323 => (if t323 = true then (some x3) else (impl_set_least.l0 k (wrap64 (x3 + 1)) x323000 x323001))) else (some 0)
def impl_set_least.f (k : Nat) (l0_0 : List Bool) (l0_1 : List Bool) : Option (Int) := impl_set_least.l0 k 1 l0_0 l0_1
set_option maxHeartbeats 8000000 in
set_option maxRecDepth 100000 in
theorem impl_set_least.calls (k : Nat) (A0_0 : Option Addr) (c0_0 : Nat) (l0_0 : List Bool) (A0_1 : Option Addr) (c0_1 : Nat) (l0_1 : List Bool) (r : Int) (w : World) (hr0_0 : Kd.C Kd.bool w A0_0 l0_0.length l0_0) (hc0_0 : l0_0.length ≤ c0_0) (hr0_1 : Kd.C Kd.bool w A0_1 l0_1.length l0_1) (hc0_1 : l0_1.length ≤ c0_1) (h : impl_set_least.f k l0_0 l0_1 = some r) :
  Calls Try.prog 83 #[.agg #[.slice A0_0 l0_0.length c0_0, .slice A0_1 l0_1.length c0_1]] w fun e w' => e = .returned (.int .i64 r) ∧ Below w.heap.size w w' := by
 have HR0_0 := aM hr0_0
 have HC0_0 := aM hc0_0
 clear hr0_0 hc0_0
 have HR0_1 := aM hr0_1
 have HC0_1 := aM hc0_1
 clear hr0_1 hc0_1
 have HB := aM (cE w.heap.size w)
 have H : (impl_set_least.l0 k 1 l0_0 l0_1) = some r := h
 clear h
 have H' := aM H
 clear H
 go_enter Try.func83, Try.ntmps83
 go_wp2_with (first | ((with_reducible refine aZ (N := 1) rfl ?_); refine bB ?hg (N := 1) ?hd (cs := #[.slice A0_0 l0_0.length c0_0, .slice A0_1 l0_1.length c0_1]) (t := 56) ?hr ?_; (case hd => rfl); (case hg => rfl); (case hr => first | (go_simp; done)); intro gb322 hg w2 hbox hb; have BK322 := aM hbox; replace HB := aM (aE HB.out hb); clear hb hbox hg))
 go_loopg [3] k (fun kq v3 w' => ∃ (x3_1 : Int), v3 = .int .i64 x3_1 ∧ Aside0 (impl_set_least.l0 kq x3_1 l0_0 l0_1 = some r) ∧ Aside0 (kq ≤ k) ∧ Aside0 (w'.heap[gb322]? = some (.cells #[(.slice A0_0 l0_0.length c0_0), (.slice A0_1 l0_1.length c0_1)] 56 (0, 0))) ∧ Aside0 (Below w.heap.size w w'))
 case atStart => exact ⟨(1), (by rfl), H', ⟨cD _⟩, ⟨by exact BK322.out⟩, ⟨HB.out⟩⟩
 case round =>
  clear H'
  obtain ⟨x3_1, rfl, HA, HK1, BK322, HB⟩ := hrel
  cases gk with
  | zero => exact absurd HA.out (by simp [impl_set_least.l0])
  | succ k1 =>
   have H := HA.out
   clear HA
   simp only [impl_set_least.l0] at H
   by_cases c3 : x3_1 ≤ (wrap64 ((l0_0.length : Int) + (l0_1.length : Int)))
   ·rw [if_pos c3] at H
    have c3b0 : decide (x3_1 ≤ (wrap64 ((l0_0.length : Int) + (l0_1.length : Int)))) = true := aH c3
    clear c3
    replace H := Option.bind_eq_some_iff.mp H
    obtain ⟨t323, A40, H⟩ := H
    replace H : (if t323 = true then (some x3_1) else (impl_set_least.l0 k1 (wrap64 (x3_1 + 1)) l0_0 l0_1)) = some r := H
    have A4 := aM A40
    clear A40
    by_cases c5 : t323 = true
    all_goals
     first
     |replace c5 := Bool.eq_false_iff.mpr c5
     |skip
     subst c5
     first
     |have H1 : (some x3_1) = some r := by rw [if_pos rfl] at H; exact H
     |have H1 : (impl_set_least.l0 k1 (wrap64 (x3_1 + 1)) l0_0 l0_1) = some r := by rw [if_neg (show ¬ (false = true) by decide)] at H; exact H
     clear H
     have H := H1
     clear H1
     first
     |obtain rfl := bU H
     |have H' := aM H
      clear H
     have hcz6_0 : wr.cell? ⟨gb322, 0, none⟩ = some (.slice A0_0 l0_0.length c0_0) := (aA BK322.out 0).trans rfl
     have hcz6_1 : wr.cell? ⟨gb322, 1, none⟩ = some (.slice A0_1 l0_1.length c0_1) := (aA BK322.out 1).trans rfl
     go_wp2_with (first | ((with_reducible refine aY (f := 33) rfl ?_); refine gL 17 Try.func33 #[.agg #[.slice A0_0 l0_0.length c0_0, .slice A0_1 l0_1.length c0_1], .int .i64 x3_1] ?_; (with_reducible refine (impl_set_has.calls _ _ l0_0 _ _ l0_1 x3_1 _ _ ?side1 ?side2 ?side3 ?side4 A4.out).mono ?_); (case side1 => repeat (exact (bF HR0_0.out HB.out))); (case side2 => exact HC0_0.out); (case side3 => repeat (exact (bF HR0_1.out HB.out))); (case side4 => exact HC0_1.out); rintro e w7 ⟨rfl, hb⟩; refine ⟨_, rfl, ?_⟩; replace BK322 := aM (aD (g := gb322) (o := .cells #[.slice A0_0 l0_0.length c0_0, .slice A0_1 l0_1.length c0_1] 56 (0, 0)) BK322.out hb); replace HB := aM (aE HB.out hb); (try clear hb)))
     first
     |go_ret
      exact ⟨by first | rfl | (simp [*, errW_none, errW_some] <;> rfl), HB.out⟩
     |go_roundg k1
      case measure => have := HK1.out; omega
      case rel => exact ⟨(wrap64 (x3_1 + 1)), (by rfl), H', ⟨by have := HK1.out; omega⟩, ⟨by exact BK322.out⟩, ⟨HB.out⟩⟩
   ·rw [if_neg c3] at H
    have c3b0 : decide (x3_1 ≤ (wrap64 ((l0_0.length : Int) + (l0_1.length : Int)))) = false := aK c3
    clear c3
    obtain rfl := bU H
    have hcz10_0 : wr.cell? ⟨gb322, 0, none⟩ = some (.slice A0_0 l0_0.length c0_0) := (aA BK322.out 0).trans rfl
    have hcz10_1 : wr.cell? ⟨gb322, 1, none⟩ = some (.slice A0_1 l0_1.length c0_1) := (aA BK322.out 1).trans rfl
    go_wp2
    go_ret
    exact ⟨by first | rfl | (simp [*, errW_none, errW_some] <;> rfl), HB.out⟩


mutual
def impl_star.l0 : Nat → List Bool → Int → Int → List Bool → List Bool → Option (List Bool)
 | 0, _, _, _, _, _ => none
 | k + 1, x5, x11, x12, x325000, x325001 => if x12 < x11 then (if 0 ≤ x12 then (if x12 < (x5.length : Int) then (impl_star.l1 k (x5.set (x12 : Int).toNat (x12 == 0)) x12 1 x11 x12 x325000 x325001) else (none)) else (none)) else (some x5)
def impl_star.l1 : Nat → List Bool → Int → Int → Int → Int → List Bool → List Bool → Option (List Bool)
 | 0, _, _, _, _, _, _, _ => none
 | k + 1, x5, x6, x7, x11, x12, x325000, x325001 => if x7 ≤ x6 then (if 0 ≤ x6 then (if x6 < (x5.length : Int) then (if rdOf false x5 x6 = true then (impl_star.l0 k x5 x11 (wrap64 (x12 + 1)) x325000 x325001) else ((impl_set_has.f x325000 x325001 x7).bind fun t330 => (if t330 = true then (if 0 ≤ (wrap64 (x6 - x7)) then (if (wrap64 (x6 - x7)) < (x5.length : Int) then (impl_star.l1 k (x5.set (x6 : Int).toNat (rdOf false x5 (wrap64 (x6 - x7)))) x6 (wrap64 (x7 + 1)) x11 x12 x325000 x325001) else (none)) else (none)) else (impl_star.l1 k (x5.set (x6 : Int).toNat false) x6 (wrap64 (x7 + 1)) x11 x12 x325000 x325001)))) else (none)) else (none)) else (impl_star.l0 k x5 x11 (wrap64 (x12 + 1)) x325000 x325001)
end
def impl_star.f (k : Nat) (l0_0 : List Bool) (l0_1 : List Bool) (a1 : Int) : Option (List Bool) := if 0 ≤ a1 then (if (a1 : Int).toNat ≤ 281474976710656 then ((some (List.replicate (a1 : Int).toNat false : List Bool)).bind fun y325 => (impl_star.l0 k y325 (y325.length : Int) 0 l0_0 l0_1)) else (none)) else (none)
set_option maxHeartbeats 8000000 in
set_option maxRecDepth 100000 in
theorem impl_star.calls (k : Nat) (A0_0 : Option Addr) (c0_0 : Nat) (l0_0 : List Bool) (A0_1 : Option Addr) (c0_1 : Nat) (l0_1 : List Bool) (a1 : Int) (r : List Bool) (w : World) (hr0_0 : Kd.C Kd.bool w A0_0 l0_0.length l0_0) (hc0_0 : l0_0.length ≤ c0_0) (hr0_1 : Kd.C Kd.bool w A0_1 l0_1.length l0_1) (hc0_1 : l0_1.length ≤ c0_1) (h : impl_star.f k l0_0 l0_1 a1 = some r) :
  Calls Try.prog 84 #[.agg #[.slice A0_0 l0_0.length c0_0, .slice A0_1 l0_1.length c0_1], .int .i64 a1] w fun e w' => ∃ v0_ : Value, e = .returned (v0_) ∧ Kd.R Kd.bool 4 w' w.heap.size (fun _ => True) v0_ r ∧ Below w.heap.size w w' := by
 have HR0_0 := aM hr0_0
 have HC0_0 := aM hc0_0
 clear hr0_0 hc0_0
 have HR0_1 := aM hr0_1
 have HC0_1 := aM hc0_1
 clear hr0_1 hc0_1
 have HB := aM (cE w.heap.size w)
 have H : (if 0 ≤ a1 then (if (a1 : Int).toNat ≤ 281474976710656 then ((some (List.replicate (a1 : Int).toNat false : List Bool)).bind fun y325 => (impl_star.l0 k y325 (y325.length : Int) 0 l0_0 l0_1)) else (none)) else (none)) = some r := h
 clear h
 by_cases c3 : 0 ≤ a1
 ·rw [if_pos c3] at H
  have c3b0 := eq_true c3
  have c3b1 : decide (0 ≤ a1) = true := aH c3
  clear c3
  by_cases c4 : (a1 : Int).toNat ≤ 281474976710656
  ·rw [if_pos c4] at H
   have c4b0 := eq_true c4
   have c4b1 : decide ((a1 : Int).toNat ≤ 281474976710656) = true := aH c4
   clear c4
   obtain ⟨y325, hy325⟩ : ∃ y_ : List Bool, y_ = (List.replicate (a1 : Int).toNat false) := ⟨_, rfl⟩
   replace H : (impl_star.l0 k y325 (y325.length : Int) 0 l0_0 l0_1) = some r := by first | (have H2_ := (bR _ _).symm.trans H; rw [hy325]; with_reducible exact H2_)
   have Ny325 := aM hy325
   clear hy325
   have H' := aM H
   clear H
   go_enter Try.func84, Try.ntmps84
   go_wp2_with (first | ((with_reducible refine aZ (N := 2) rfl ?_); refine bB ?hg (N := 2) ?hd (cs := #[.slice A0_0 l0_0.length c0_0, .slice A0_1 l0_1.length c0_1]) (t := 56) ?hr ?_; (case hd => rfl); (case hg => rfl); (case hr => first | (go_simp; done)); intro gb324 hg w5 hbox hb; have BK324 := aM hbox; replace HB := aM (aE HB.out hb); clear hb hbox hg) | ((with_reducible refine aZ (N := 9) rfl ?_); refine Kd.R_make Kd.bool _ 4 rfl (N := 9) rfl 52 _ _ rfl a1 rfl rfl Try.underlying52 (.bool false) 1 info4 rfl (by decide) (by omega) false (ok := fun _ => True) (okp := fun _ => True) rfl (fun _ hk => hk) trivial (aJ (by (with_reducible assumption))) (Nat.le_trans (Nat.mul_le_mul_right _ (aJ (by (with_reducible assumption)) : a1.toNat ≤ 281474976710656)) (by omega)) (cE _ _) (cD _) ?_; intro v326 w6 ho7 hb hg_ hnew_; clear hg_ hnew_; (rw [← Ny325.out] at ho7); have HO327 := aM (bP ho7 (aG HB.out)); replace BK324 := aM (aD (g := gb324) (o := .cells #[.slice A0_0 l0_0.length c0_0, .slice A0_1 l0_1.length c0_1] 56 (0, 0)) BK324.out hb); replace HB := aM (aE HB.out hb); clear hb ho7; obtain ⟨Ao8, co8, eo8⟩ := bL HO327.out; subst eo8))
   go_loopg [12] k (fun kq v12 w' => ∃ (x5_1 : List Bool) (x12_1 : Int), v12 = .int .i64 x12_1 ∧ Aside0 (impl_star.l0 kq x5_1 (y325.length : Int) x12_1 l0_0 l0_1 = some r) ∧ Aside0 (kq ≤ k) ∧ Aside0 (Kd.R Kd.bool 4 w' w.heap.size (fun _ => True) (.slice Ao8 y325.length co8) x5_1) ∧ Aside0 (w'.heap[gb324]? = some (.cells #[(.slice A0_0 l0_0.length c0_0), (.slice A0_1 l0_1.length c0_1)] 56 (0, 0))) ∧ Aside0 (Below w.heap.size w w'))
   case atStart => exact ⟨(y325), (0), (by rfl), H', ⟨cD _⟩, ⟨by exact HO327.out⟩, ⟨by exact BK324.out⟩, ⟨HB.out⟩⟩
   case round =>
    clear H'
    try clear c3b0
    try clear c3b1
    try clear c4b0
    try clear c4b1
    obtain ⟨x5_1, x12_1, rfl, HA, HK1, HO_5, BK324, HB⟩ := hrel
    have hl5_1 := (bM HO_5.out).1
    rw [hl5_1] at HO_5
    (try simp only [hl5_1])
    cases gk with
    | zero => exact absurd HA.out (by simp [impl_star.l0])
    | succ k1 =>
     have H := HA.out
     clear HA
     simp only [impl_star.l0] at H
     by_cases c9 : x12_1 < (y325.length : Int)
     ·rw [if_pos c9] at H
      have c9b0 : decide (x12_1 < (y325.length : Int)) = true := aH c9
      have c9b0z := c9b0
      (try simp only [hl5_1] at c9b0z)
      clear c9
      by_cases c10 : 0 ≤ x12_1
      ·rw [if_pos c10] at H
       have c10b0 : decide (0 ≤ x12_1) = true := aH c10
       clear c10
       by_cases c11 : x12_1 < (x5_1.length : Int)
       ·rw [if_pos c11] at H
        have c11b0 : decide (x12_1 < (x5_1.length : Int)) = true := aH c11
        have c11b0z := c11b0
        clear c11
        obtain ⟨y328, hy328⟩ : ∃ y_ : List Bool, y_ = (x5_1.set (x12_1 : Int).toNat (x12_1 == 0)) := ⟨_, rfl⟩
        replace H : (impl_star.l1 k1 y328 x12_1 1 (y325.length : Int) x12_1 l0_0 l0_1) = some r := by first | (rw [hy328]; with_reducible exact H)
        have Ny328 := aM hy328
        clear hy328
        have H' := aM H
        clear H
        have p12 : 0 ≤ (x12_1 : Int) := aJ (by (with_reducible assumption))
        have q12 : (x12_1 : Int) < ((x5_1.length : Int) : Int) := aJ (by (with_reducible assumption))
        obtain ⟨go12, co12, eo12, gb12, gl12, cl12, HG12⟩ := cQ HO_5.out (by omega)
        (cases eo12)
        have GB12 := aM gb12
        clear gb12 gl12 HG12
        obtain ⟨hx12_0, hf12_0⟩ := Kd.R_celln false HO_5.out (x12_1 : Int) p12 q12
        replace p12 := eq_true p12
        replace q12 := eq_true q12
        have HP13 := Kd.R_putg HO_5.out (x12_1 : Int) (x12_1 == 0)
        go_wp2_with (first | ((with_reducible refine gate_store (t := 4) (p := 19) rfl ?_); refine store_event (t := 4) (p := 19) (v := ?vo_w14) (w1 := (wr.setCell ⟨go12, (x12_1 : Int).toNat, none⟩ (.bool (x12_1 == 0)))) ?hg ?ho ?hn ?hr ?_; (case ho => rfl); (case hg => rfl); (case hn => rfl); (case hr => first | (go_simp; done)); intro w14 hw; have hg : wr.grownBy w14 (some go12) := (by rw [hw]; exact HP13.2); have hp_ : Kd.R Kd.bool 4 w14 w.heap.size (fun _ => True) (.slice (some ⟨go12, 0, none⟩) x5_1.length co8) y328 := (by rw [hw, Ny328.out]; exact HP13.1); clear HP13; replace BK324 := aM (blk_grown (g := gb324) (o := .cells #[.slice A0_0 l0_0.length c0_0, .slice A0_1 l0_1.length c0_1] 56 (0, 0)) BK324.out hg (Kd.R_ne HO_5.out BK324.out (by decide))); replace HO_5 := aM hp_; replace HB := aM ((by rw [hw]; exact bS (HB.out) GB12.out : Below w.heap.size w w14)); clear hg hw hp_))
        go_loopg [7] k1 (fun kq v7 w' => ∃ (x5_2 : List Bool) (x7_2 : Int), v7 = .int .i64 x7_2 ∧ Aside0 (impl_star.l1 kq x5_2 x12_1 x7_2 (y325.length : Int) x12_1 l0_0 l0_1 = some r) ∧ Aside0 (kq ≤ k1) ∧ Aside0 (Kd.R Kd.bool 4 w' w.heap.size (fun _ => True) (.slice (some ⟨go12, 0, none⟩) x5_1.length co8) x5_2) ∧ Aside0 (w'.heap[gb324]? = some (.cells #[(.slice A0_0 l0_0.length c0_0), (.slice A0_1 l0_1.length c0_1)] 56 (0, 0))) ∧ Aside0 (Below w.heap.size w w'))
        case atStart => exact ⟨(y328), (1), (by rfl), H', ⟨cD _⟩, ⟨by exact HO_5.out⟩, ⟨by exact BK324.out⟩, ⟨HB.out⟩⟩
        case round =>
         clear H'
         try clear c9b0
         try clear c10b0
         try clear c11b0
         try clear p12
         try clear q12
         try clear hx12_0
         obtain ⟨x5_2, x7_2, rfl, HA, HK2, HO_5, BK324, HB⟩ := hrel
         have hl5_2 := (bM HO_5.out).1
         rw [hl5_2] at HO_5
         (try simp only [hl5_2])
         cases gk with
         | zero => exact absurd HA.out (by simp [impl_star.l1])
         | succ k2 =>
          have H := HA.out
          clear HA
          simp only [impl_star.l1] at H
          by_cases c15 : x7_2 ≤ x12_1
          ·rw [if_pos c15] at H
           have c15b0 : decide (x7_2 ≤ x12_1) = true := aH c15
           clear c15
           by_cases c16 : 0 ≤ x12_1
           ·rw [if_pos c16] at H
            have c16b0 : decide (0 ≤ x12_1) = true := aH c16
            clear c16
            by_cases c17 : x12_1 < (x5_2.length : Int)
            ·rw [if_pos c17] at H
             have c17b0 : decide (x12_1 < (x5_2.length : Int)) = true := aH c17
             have c17b0z := c17b0
             clear c17
             obtain ⟨bq18, hbq18⟩ : ∃ b_ : Bool, b_ = (rdOf false x5_2 x12_1) := ⟨_, rfl⟩
             replace H : (if bq18 = true then (impl_star.l0 k2 x5_2 (y325.length : Int) (wrap64 (x12_1 + 1)) l0_0 l0_1) else ((impl_set_has.f l0_0 l0_1 x7_2).bind fun t330 => (if t330 = true then (if 0 ≤ (wrap64 (x12_1 - x7_2)) then (if (wrap64 (x12_1 - x7_2)) < (x5_2.length : Int) then (impl_star.l1 k2 (x5_2.set (x12_1 : Int).toNat (rdOf false x5_2 (wrap64 (x12_1 - x7_2)))) x12_1 (wrap64 (x7_2 + 1)) (y325.length : Int) x12_1 l0_0 l0_1) else (none)) else (none)) else (impl_star.l1 k2 (x5_2.set (x12_1 : Int).toNat false) x12_1 (wrap64 (x7_2 + 1)) (y325.length : Int) x12_1 l0_0 l0_1)))) = some r := by rw [← hbq18] at H; exact H
             have Nbq18 := aM hbq18
             clear hbq18
             by_cases c19 : bq18 = true
             ·subst c19
              replace H : (impl_star.l0 k2 x5_2 (y325.length : Int) (wrap64 (x12_1 + 1)) l0_0 l0_1) = some r := by rw [if_pos rfl] at H; exact H
              have H' := aM H
              clear H
              have p329 : 0 ≤ (x12_1 : Int) := aJ (by (with_reducible assumption))
              have q329 : x12_1 < (x5_2.length : Int) := aJ (by (with_reducible assumption))
              obtain ⟨ad329, e329, hx329_0⟩ := Kd.at_bool (bM HO_5.out).2.2 x12_1 p329 q329
              (try rw [← Nbq18.out] at hx329_0)
              obtain rfl : (⟨go12, 0, none⟩ : Addr) = ad329 := (by injection e329)
              (simp only [add_plain] at hx329_0)
              replace p329 := eq_true p329
              replace q329 := eq_true q329
              go_wp2
              (try simp only [← hl5_1, ← hl5_2])
              go_roundg k2
              case measure => have := HK1.out; have := HK2.out; omega
              case rel => exact ⟨(x5_2), (wrap64 (x12_1 + 1)), (by rfl), H', ⟨by have := HK1.out; have := HK2.out; omega⟩, ⟨by (try simp only [hl5_1]); (try simp only [hl5_2]); exact HO_5.out⟩, ⟨by exact BK324.out⟩, ⟨HB.out⟩⟩
             ·replace c19 := Bool.eq_false_iff.mpr c19
              subst c19
              replace H : ((impl_set_has.f l0_0 l0_1 x7_2).bind fun t330 => (if t330 = true then (if 0 ≤ (wrap64 (x12_1 - x7_2)) then (if (wrap64 (x12_1 - x7_2)) < (x5_2.length : Int) then (impl_star.l1 k2 (x5_2.set (x12_1 : Int).toNat (rdOf false x5_2 (wrap64 (x12_1 - x7_2)))) x12_1 (wrap64 (x7_2 + 1)) (y325.length : Int) x12_1 l0_0 l0_1) else (none)) else (none)) else (impl_star.l1 k2 (x5_2.set (x12_1 : Int).toNat false) x12_1 (wrap64 (x7_2 + 1)) (y325.length : Int) x12_1 l0_0 l0_1))) = some r := by rw [if_neg (show ¬ (false = true) by decide)] at H; exact H
              replace H := Option.bind_eq_some_iff.mp H
              obtain ⟨t330, A200, H⟩ := H
              replace H : (if t330 = true then (if 0 ≤ (wrap64 (x12_1 - x7_2)) then (if (wrap64 (x12_1 - x7_2)) < (x5_2.length : Int) then (impl_star.l1 k2 (x5_2.set (x12_1 : Int).toNat (rdOf false x5_2 (wrap64 (x12_1 - x7_2)))) x12_1 (wrap64 (x7_2 + 1)) (y325.length : Int) x12_1 l0_0 l0_1) else (none)) else (none)) else (impl_star.l1 k2 (x5_2.set (x12_1 : Int).toNat false) x12_1 (wrap64 (x7_2 + 1)) (y325.length : Int) x12_1 l0_0 l0_1)) = some r := H
              have A20 := aM A200
              clear A200
              by_cases c21 : t330 = true
              ·subst c21
               replace H : (if 0 ≤ (wrap64 (x12_1 - x7_2)) then (if (wrap64 (x12_1 - x7_2)) < (x5_2.length : Int) then (impl_star.l1 k2 (x5_2.set (x12_1 : Int).toNat (rdOf false x5_2 (wrap64 (x12_1 - x7_2)))) x12_1 (wrap64 (x7_2 + 1)) (y325.length : Int) x12_1 l0_0 l0_1) else (none)) else (none)) = some r := by rw [if_pos rfl] at H; exact H
               obtain ⟨ji22, hji22⟩ : ∃ j_ : Int, (wrap64 (x12_1 - x7_2)) = j_ := ⟨_, rfl⟩
               replace H : (if 0 ≤ (ji22) then (if (ji22) < (x5_2.length : Int) then (impl_star.l1 k2 (x5_2.set (x12_1 : Int).toNat (rdOf false x5_2 (ji22))) x12_1 (wrap64 (x7_2 + 1)) (y325.length : Int) x12_1 l0_0 l0_1) else (none)) else (none)) = some r := by first | (rw [hji22] at H; exact H)
               have hji22w : (IntKind.i64.wrap (x12_1 - x7_2)) = ji22 := (cS _).trans hji22
               by_cases c23 : 0 ≤ (ji22)
               ·rw [if_pos c23] at H
                have c23b0 : decide (0 ≤ (ji22)) = true := aH c23
                clear c23
                by_cases c24 : (ji22) < (x5_2.length : Int)
                ·rw [if_pos c24] at H
                 have c24b0 : decide ((ji22) < (x5_2.length : Int)) = true := aH c24
                 have c24b0z := c24b0
                 clear c24
                 obtain ⟨y332, hy332⟩ : ∃ y_ : List Bool, y_ = (x5_2.set (x12_1 : Int).toNat (rdOf false x5_2 (ji22))) := ⟨_, rfl⟩
                 replace H : (impl_star.l1 k2 y332 x12_1 (wrap64 (x7_2 + 1)) (y325.length : Int) x12_1 l0_0 l0_1) = some r := by first | (rw [hy332]; with_reducible exact H)
                 have Ny332 := aM hy332
                 clear hy332
                 have H' := aM H
                 clear H
                 have p329 : 0 ≤ (x12_1 : Int) := aJ (by (with_reducible assumption))
                 have q329 : x12_1 < (x5_2.length : Int) := aJ (by (with_reducible assumption))
                 obtain ⟨ad329, e329, hx329_0⟩ := Kd.at_bool (bM HO_5.out).2.2 x12_1 p329 q329
                 (try rw [← Nbq18.out] at hx329_0)
                 obtain rfl : (⟨go12, 0, none⟩ : Addr) = ad329 := (by injection e329)
                 (simp only [add_plain] at hx329_0)
                 replace p329 := eq_true p329
                 replace q329 := eq_true q329
                 have hcz26_0 : wr.cell? ⟨gb324, 0, none⟩ = some (.slice A0_0 l0_0.length c0_0) := (aA BK324.out 0).trans rfl
                 have hcz26_1 : wr.cell? ⟨gb324, 1, none⟩ = some (.slice A0_1 l0_1.length c0_1) := (aA BK324.out 1).trans rfl
                 go_wp2_with (first | ((with_reducible refine aY (f := 33) rfl ?_); refine gL 36 Try.func33 #[.agg #[.slice A0_0 l0_0.length c0_0, .slice A0_1 l0_1.length c0_1], .int .i64 x7_2] ?_; (with_reducible refine (impl_set_has.calls _ _ l0_0 _ _ l0_1 x7_2 true _ ?side1 ?side2 ?side3 ?side4 A20.out).mono ?_); (case side1 => repeat (exact (bF HR0_0.out HB.out))); (case side2 => exact HC0_0.out); (case side3 => repeat (exact (bF HR0_1.out HB.out))); (case side4 => exact HC0_1.out); rintro e w27 ⟨rfl, hb⟩; refine ⟨_, rfl, ?_⟩; replace HO_5 := aM (bG HO_5.out hb); replace BK324 := aM (aD (g := gb324) (o := .cells #[.slice A0_0 l0_0.length c0_0, .slice A0_1 l0_1.length c0_1] 56 (0, 0)) BK324.out hb); replace HB := aM (aE HB.out hb); (try clear hb); have p331 : 0 ≤ ((ji22) : Int) := aJ (by (with_reducible assumption)); have q331 : (ji22) < (x5_2.length : Int) := aJ (by (with_reducible assumption)); obtain ⟨ad331, e331, hx331_0⟩ := Kd.at_bool (bM HO_5.out).2.2 (ji22) p331 q331; obtain rfl : (⟨go12, 0, none⟩ : Addr) = ad331 := (by injection e331); (simp only [add_plain] at hx331_0); replace p331 := eq_true p331; replace q331 := eq_true q331; have p25 : 0 ≤ (x12_1 : Int) := aJ (by (with_reducible assumption)); have q25 : (x12_1 : Int) < ((x5_2.length : Int) : Int) := aJ (by (with_reducible assumption)); obtain ⟨hx25_0, hf25_0⟩ := Kd.R_celln false HO_5.out (x12_1 : Int) p25 q25; obtain ⟨hy28_, hz28_⟩ := Kd.R_celln false HO_5.out (x12_1 : Int) (aJ (by (with_reducible assumption))) (aJ (by (with_reducible assumption))); have HP28 := Kd.R_putg HO_5.out (x12_1 : Int) (rdOf false x5_2 (ji22))) | ((with_reducible refine gate_store (t := 4) (p := 45) rfl ?_); refine store_event (t := 4) (p := 45) (v := ?vo_w29) (w1 := (w27.setCell ⟨go12, (x12_1 : Int).toNat, none⟩ (.bool (rdOf false x5_2 (ji22))))) ?hg ?ho ?hn ?hr ?_; (case ho => rfl); (case hg => rfl); (case hn => rfl); (case hr => first | (go_simp; done)); intro w29 hw; have hg : w27.grownBy w29 (some go12) := (by rw [hw]; exact HP28.2); have hp_ : Kd.R Kd.bool 4 w29 w.heap.size (fun _ => True) (.slice (some ⟨go12, 0, none⟩) x5_2.length co8) y332 := (by rw [hw, Ny332.out]; exact HP28.1); clear HP28; replace BK324 := aM (blk_grown (g := gb324) (o := .cells #[.slice A0_0 l0_0.length c0_0, .slice A0_1 l0_1.length c0_1] 56 (0, 0)) BK324.out hg (Kd.R_ne HO_5.out BK324.out (by decide))); replace HO_5 := aM hp_; replace HB := aM ((by rw [hw]; exact bS (HB.out) GB12.out : Below w.heap.size w w29)); clear hg hw hp_))
                 (try simp only [← hl5_2])
                 go_roundg k2
                 case measure => have := HK1.out; have := HK2.out; omega
                 case rel => exact ⟨(y332), (wrap64 (x7_2 + 1)), (by rfl), H', ⟨by have := HK1.out; have := HK2.out; omega⟩, ⟨by (try simp only [hl5_2]); exact HO_5.out⟩, ⟨by exact BK324.out⟩, ⟨HB.out⟩⟩
                ·rw [if_neg c24] at H
                 exact absurd H (by simp)
               ·rw [if_neg c23] at H
                exact absurd H (by simp)
              ·replace c21 := Bool.eq_false_iff.mpr c21
               subst c21
               replace H : (impl_star.l1 k2 (x5_2.set (x12_1 : Int).toNat false) x12_1 (wrap64 (x7_2 + 1)) (y325.length : Int) x12_1 l0_0 l0_1) = some r := by rw [if_neg (show ¬ (false = true) by decide)] at H; exact H
               obtain ⟨y333, hy333⟩ : ∃ y_ : List Bool, y_ = (x5_2.set (x12_1 : Int).toNat false) := ⟨_, rfl⟩
               replace H : (impl_star.l1 k2 y333 x12_1 (wrap64 (x7_2 + 1)) (y325.length : Int) x12_1 l0_0 l0_1) = some r := by first | (rw [hy333]; with_reducible exact H)
               have Ny333 := aM hy333
               clear hy333
               have H' := aM H
               clear H
               have p329 : 0 ≤ (x12_1 : Int) := aJ (by (with_reducible assumption))
               have q329 : x12_1 < (x5_2.length : Int) := aJ (by (with_reducible assumption))
               obtain ⟨ad329, e329, hx329_0⟩ := Kd.at_bool (bM HO_5.out).2.2 x12_1 p329 q329
               (try rw [← Nbq18.out] at hx329_0)
               obtain rfl : (⟨go12, 0, none⟩ : Addr) = ad329 := (by injection e329)
               (simp only [add_plain] at hx329_0)
               replace p329 := eq_true p329
               replace q329 := eq_true q329
               have hcz31_0 : wr.cell? ⟨gb324, 0, none⟩ = some (.slice A0_0 l0_0.length c0_0) := (aA BK324.out 0).trans rfl
               have hcz31_1 : wr.cell? ⟨gb324, 1, none⟩ = some (.slice A0_1 l0_1.length c0_1) := (aA BK324.out 1).trans rfl
               go_wp2_with (first | ((with_reducible refine aY (f := 33) rfl ?_); refine gL 36 Try.func33 #[.agg #[.slice A0_0 l0_0.length c0_0, .slice A0_1 l0_1.length c0_1], .int .i64 x7_2] ?_; (with_reducible refine (impl_set_has.calls _ _ l0_0 _ _ l0_1 x7_2 false _ ?side1 ?side2 ?side3 ?side4 A20.out).mono ?_); (case side1 => repeat (exact (bF HR0_0.out HB.out))); (case side2 => exact HC0_0.out); (case side3 => repeat (exact (bF HR0_1.out HB.out))); (case side4 => exact HC0_1.out); rintro e w32 ⟨rfl, hb⟩; refine ⟨_, rfl, ?_⟩; replace HO_5 := aM (bG HO_5.out hb); replace BK324 := aM (aD (g := gb324) (o := .cells #[.slice A0_0 l0_0.length c0_0, .slice A0_1 l0_1.length c0_1] 56 (0, 0)) BK324.out hb); replace HB := aM (aE HB.out hb); (try clear hb); have p30 : 0 ≤ (x12_1 : Int) := aJ (by (with_reducible assumption)); have q30 : (x12_1 : Int) < ((x5_2.length : Int) : Int) := aJ (by (with_reducible assumption)); obtain ⟨hx30_0, hf30_0⟩ := Kd.R_celln false HO_5.out (x12_1 : Int) p30 q30; obtain ⟨hy33_, hz33_⟩ := Kd.R_celln false HO_5.out (x12_1 : Int) (aJ (by (with_reducible assumption))) (aJ (by (with_reducible assumption))); have HP33 := Kd.R_putg HO_5.out (x12_1 : Int) false) | ((with_reducible refine gate_store (t := 4) (p := 45) rfl ?_); refine store_event (t := 4) (p := 45) (v := ?vo_w34) (w1 := (w32.setCell ⟨go12, (x12_1 : Int).toNat, none⟩ (.bool false))) ?hg ?ho ?hn ?hr ?_; (case ho => rfl); (case hg => rfl); (case hn => rfl); (case hr => first | (go_simp; done)); intro w34 hw; have hg : w32.grownBy w34 (some go12) := (by rw [hw]; exact HP33.2); have hp_ : Kd.R Kd.bool 4 w34 w.heap.size (fun _ => True) (.slice (some ⟨go12, 0, none⟩) x5_2.length co8) y333 := (by rw [hw, Ny333.out]; exact HP33.1); clear HP33; replace BK324 := aM (blk_grown (g := gb324) (o := .cells #[.slice A0_0 l0_0.length c0_0, .slice A0_1 l0_1.length c0_1] 56 (0, 0)) BK324.out hg (Kd.R_ne HO_5.out BK324.out (by decide))); replace HO_5 := aM hp_; replace HB := aM ((by rw [hw]; exact bS (HB.out) GB12.out : Below w.heap.size w w34)); clear hg hw hp_))
               (try simp only [← hl5_2])
               go_roundg k2
               case measure => have := HK1.out; have := HK2.out; omega
               case rel => exact ⟨(y333), (wrap64 (x7_2 + 1)), (by rfl), H', ⟨by have := HK1.out; have := HK2.out; omega⟩, ⟨by (try simp only [hl5_2]); exact HO_5.out⟩, ⟨by exact BK324.out⟩, ⟨HB.out⟩⟩
            ·rw [if_neg c17] at H
             exact absurd H (by simp)
           ·rw [if_neg c16] at H
            exact absurd H (by simp)
          ·rw [if_neg c15] at H
           have c15b0 : decide (x7_2 ≤ x12_1) = false := aK c15
           clear c15
           have H' := aM H
           clear H
           go_wp2
           (try simp only [← hl5_1, ← hl5_2])
           go_roundg k2
           case measure => have := HK1.out; have := HK2.out; omega
           case rel => exact ⟨(x5_2), (wrap64 (x12_1 + 1)), (by rfl), H', ⟨by have := HK1.out; have := HK2.out; omega⟩, ⟨by (try simp only [hl5_1]); (try simp only [hl5_2]); exact HO_5.out⟩, ⟨by exact BK324.out⟩, ⟨HB.out⟩⟩
       ·rw [if_neg c11] at H
        exact absurd H (by simp)
      ·rw [if_neg c10] at H
       exact absurd H (by simp)
     ·rw [if_neg c9] at H
      have c9b0 : decide (x12_1 < (y325.length : Int)) = false := aK c9
      have c9b0z := c9b0
      (try simp only [hl5_1] at c9b0z)
      clear c9
      obtain rfl := bU H
      go_wp2
      go_ret
      exact ⟨_, by first | rfl | (simp [*, errW_none, errW_some] <;> rfl), by exact HO_5.out, HB.out⟩
  ·rw [if_neg c4] at H
   exact absurd H (by simp)
 ·rw [if_neg c3] at H
  exact absurd H (by simp)


/-- What is asked of the function that is made: of 0 z, of others the list. -/
def impl_starred.p (z : List Bool → List Bool → Option Bool) (t r l : List Bool) (n : Int) : Option Bool := if n = 0 then z t r else if 0 ≤ n then if n < l.length then some (rdOf false l n) else none else none
def impl_starred.g (k : Nat) (t r : List Bool) (z : List Bool → List Bool → Option Bool) (s : Int) : Option (ByteArray × Bool) := (impl_star.f k t r (1000 + s)).bind fun l => impl_made.f k 1000 s (impl_starred.p z t r l)
def impl_starred.f (k : Nat) (a0 : ByteArray) (z : List Bool → List Bool → Option Bool) : Option (ByteArray × Bool) :=
 (impl_small.f k a0).bind fun x => if x.2.2 = true then (impl_set_least.f k x.1 x.2.1).bind fun m => if 1 ≤ m then (if m ≤ 1000000 then impl_starred.g k x.1 x.2.1 z m else none) else impl_starred.g k x.1 x.2.1 z 1 else some (⟨#[]⟩, false)
/-- What the function that is handed in answers. -/
def impl_starred.Zero (w : World) (g0 : Nat) (lb0 : Array Value) (z : List Bool → List Bool → Option Bool) : Prop :=
 ∀ (A0 : Option Addr) (c0 : Nat) (l0 : List Bool) (A1 : Option Addr) (c1 : Nat) (l1 : List Bool) (b : Bool) (W : World), Below w.heap.size w W → Kd.C Kd.bool W A0 l0.length l0 → l0.length ≤ c0 → Kd.C Kd.bool W A1 l1.length l1 → l1.length ≤ c1 → z l0 l1 = some b →
  Calls Try.prog g0 (#[.agg #[.slice A0 l0.length c0, .slice A1 l1.length c1]] ++ lb0) W fun e W' => e = .returned (.bool b) ∧ Below W.heap.size W W'
set_option maxHeartbeats 1000000 in
set_option maxRecDepth 100000 in
theorem impl_starred.lit (g0 : Nat) (z : List Bool → List Bool → Option Bool) (w : World) (eg0 : ∀ args w, (callFunc g0 args).run Try.prog w = .ok (.enter g0 args) w) (hz : impl_starred.Zero w g0 #[] z)
  (B1 B2 B3 : Nat) (A0 : Option Addr) (c0 : Nat) (l0 : List Bool) (A1 : Option Addr) (c1 : Nat) (l1 : List Bool) (A2 : Option Addr) (c2 : Nat) (l2 : List Bool) (n : Int) (b : Bool) (W : World) (hw : Below w.heap.size w W)
  (h1 : W.heap[B1]? = some (.cells #[.func (.func g0) #[] #[]] 87 (0, 0))) (h2 : W.heap[B2]? = some (.cells #[.slice A0 l0.length c0, .slice A1 l1.length c1] 56 (0, 0))) (h3 : W.heap[B3]? = some (.cells #[.slice A2 l2.length c2] 52 (0, 0)))
  (r0 : Kd.C Kd.bool W A0 l0.length l0) (q0 : l0.length ≤ c0) (r1 : Kd.C Kd.bool W A1 l1.length l1) (q1 : l1.length ≤ c1) (r2 : Kd.C Kd.bool W A2 l2.length l2) (h : impl_starred.p z l0 l1 l2 n = some b) :
  Calls Try.prog 85 #[.int .i64 n, .pointer (some ⟨B1, 0, none⟩), .pointer (some ⟨B2, 0, none⟩), .pointer (some ⟨B3, 0, none⟩)] W fun e W' => e = .returned (.bool b) ∧ Below W.heap.size W W' := by
 have c10 : W.cell? ⟨B1, 0, none⟩ = some (.func (.func g0) #[] #[]) := (aA h1 0).trans rfl
 have c20 : W.cell? ⟨B2, 0, none⟩ = some (.slice A0 l0.length c0) := (aA h2 0).trans rfl
 have c21 : W.cell? ⟨B2, 1, none⟩ = some (.slice A1 l1.length c1) := (aA h2 1).trans rfl
 have c30 : W.cell? ⟨B3, 0, none⟩ = some (.slice A2 l2.length c2) := (aA h3 0).trans rfl
 unfold impl_starred.p at h
 by_cases e0 : n = 0
 ·subst e0
  rw [if_pos rfl] at h
  have C := hz A0 c0 l0 A1 c1 l1 b W hw r0 q0 r1 q1 h
  simp only [Array.append_empty] at C
  clear h1 h2 h3 r0 r1 r2 q0 q1 h hz hw
  go_enter Try.func85, Try.ntmps85
  go_wp2_with (go_at_fn g0; refine C.mono ?_; rintro e w' ⟨rfl, hb⟩)
  go_ret
  exact ⟨rfl, hb⟩
 ·rw [if_neg e0] at h
  by_cases e1 : 0 ≤ n
  ·rw [if_pos e1] at h
   by_cases e2 : n < (l2.length : Int)
   ·rw [if_pos e2] at h
    obtain ⟨ad, had, hcell⟩ := (Kd.reads_of_C (d := false) r2).at_ n e1 e2
    subst had
    obtain rfl := bU h
    have e0b : (n == 0) = false := by simpa using e0
    clear h1 h2 h3 r0 r1 r2 q0 q1 h hz hw
    go_enter Try.func85, Try.ntmps85
    go_wp2
    go_ret
    exact ⟨rfl, cE _ _⟩
   ·rw [if_neg e2] at h; cases h
  ·rw [if_neg e1] at h; cases h
theorem impl_starred.set2 {w : World} {g T : Nat} {u v u' v' : Value} (h : w.heap[g]? = some (.cells #[u, v] T (0, 0))) : ((w.setCell ⟨g, 0, none⟩ u').setCell ⟨g, 1, none⟩ v').heap[g]? = some (.cells #[u', v'] T (0, 0)) := cM (cM h 0 u') 1 v'
theorem impl_starred.set1 {w : World} {g T : Nat} {u u' : Value} (h : w.heap[g]? = some (.cells #[u] T (0, 0))) : (w.setCell ⟨g, 0, none⟩ u').heap[g]? = some (.cells #[u'] T (0, 0)) := cM h 0 u'
set_option maxHeartbeats 2000000 in
set_option maxRecDepth 100000 in
theorem impl_starred.calls (k : Nat) (a0 : ByteArray) (g0 : Nat) (z : List Bool → List Bool → Option Bool) (r1 : ByteArray) (r2 : Bool) (w : World) (eg0 : ∀ args w, (callFunc g0 args).run Try.prog w = .ok (.enter g0 args) w) (hz : impl_starred.Zero w g0 #[] z) (h : impl_starred.f k a0 z = some (r1, r2)) :
  Calls Try.prog 62 #[.string a0, .func (.func g0) #[] #[]] w fun e w' => e = .returned (.tuple #[.string r1, .bool r2]) ∧ Below w.heap.size w w' := by
 unfold impl_starred.f at h
 obtain ⟨⟨t, r, ok⟩, hsm, h⟩ := Option.bind_eq_some_iff.mp h
 have HZ := aM hz; have EG := aM eg0
 clear hz eg0
 have BZ := Lib.hid (blk_new w (.cells #[.func (.func g0) #[] #[]] 87))
 have HB0 : Aside0 (Below w.heap.size w (w.alloc (.cells #[.func (.func g0) #[] #[]] 87))) := ⟨(cE _ w).alloc (cD _) _⟩
 cases ok with
 | false =>
  have HS := aM hsm
  simp only [bX, if_false, aV, aW] at h
  obtain ⟨rfl, rfl⟩ := h
  clear hsm
  go_enter Try.func62, Try.ntmps62
  go_wp2_with (first | (go_at_call 66; refine (impl_small.calls k a0 t r false _ HS.out).mono ?_; rintro e w1 ⟨v0, v1, rfl, ho0, ho1, hb⟩; obtain ⟨A0, c0, rfl, q0, k0⟩ := Kd.R_reads ho0; obtain ⟨A1, c1, rfl, q1, k1⟩ := Kd.R_reads ho1; have HB1 := aM (aE HB0.out hb); clear ho0 ho1 k0 k1 q0 q1 hb) | ((with_reducible refine aZ (N := 6) rfl ?_); refine bB ?hg (N := 6) ?hd (cs := #[.slice none 0 0, .slice none 0 0]) (t := 56) ?hr ?_; (case hd => rfl); (case hg => rfl); (case hr => first | (go_simp; done)); intro gb hg w2 hbox hb; have c0_ := aA hbox 0; have c1_ := aA hbox 1; have f0_ := aC hbox 0; have f1_ := aC hbox 1; have HB2 := aM (aE HB1.out hb); have GB := aM (show w.heap.size ≤ gb by rw [hg]; exact HB1.out.size); clear hg hb hbox))
  go_ret2
  exact ⟨rfl, (HB2.out.setCell (p := ⟨gb, 0, none⟩) GB.out _).setCell (p := ⟨gb, 1, none⟩) GB.out _⟩
 | true =>
  simp only [if_true] at h
  obtain ⟨m, hm, h⟩ := Option.bind_eq_some_iff.mp h
  split at h
  ·rename_i m0
   split at h
   case isFalse => cases h
   rename_i m1
   obtain ⟨l, hl, h⟩ := Option.bind_eq_some_iff.mp h
   have HS := aM hsm; have HM := aM hm; have HL := aM hl; have H := aM h
   clear hsm hm hl h
   go_enter Try.func62, Try.ntmps62
   go_wp2_with (first | (go_at_call 66; refine (impl_small.calls k a0 t r true _ HS.out).mono ?_; rintro e w1 ⟨v0, v1, rfl, ho0, ho1, hb⟩; obtain ⟨A0, c0, rfl, q0, k0⟩ := Kd.R_reads ho0; obtain ⟨A1, c1, rfl, q1, k1⟩ := Kd.R_reads ho1; have HB1 := aM (aE HB0.out hb); have BZ1 := aM (aD BZ.out hb); have K0 := aM k0; have K1 := aM k1; clear ho0 ho1 k0 k1 hb) | ((with_reducible refine aZ (N := 6) rfl ?_); refine bB ?hg (N := 6) ?hd (cs := #[.slice none 0 0, .slice none 0 0]) (t := 56) ?hr ?_; (case hd => rfl); (case hg => rfl); (case hr => first | (go_simp; done)); intro gb hg w2 hbox hb; have c0_ := aA hbox 0; have c1_ := aA hbox 1; have f0_ := aC hbox 0; have f1_ := aC hbox 1; have hbs := (hb.setCell (p := ⟨gb, 0, none⟩) (by rw [hg]; exact cD _) (.slice A0 t.length c0)).setCell (p := ⟨gb, 1, none⟩) (by rw [hg]; exact cD _) (.slice A1 r.length c1); have BK2 := aM (impl_starred.set2 (u' := .slice A0 t.length c0) (v' := .slice A1 r.length c1) hbox); have BZ2 := aM (aD BZ1.out hbs); have HB2 := aM (aE HB1.out hbs); have KK0 := aM (bF K0.out hbs); have KK1 := aM (bF K1.out hbs); clear hg hb hbox hbs) | (go_at_call 83; refine (impl_set_least.calls k A0 c0 t A1 c1 r m _ KK0.out q0 KK1.out q1 HM.out).mono ?_; rintro e w3 ⟨rfl, hb⟩; clear c0_ c1_ f0_ f1_; have BK3 := aM (aD BK2.out hb); have BZ3 := aM (aD BZ2.out hb); have HB3 := aM (aE HB2.out hb); have L0 := aM (bF KK0.out hb); have L1 := aM (bF KK1.out hb); have d0_ : w3.cell? ⟨gb, 0, none⟩ = some (.slice A0 t.length c0) := aA BK3.out 0; have d1_ : w3.cell? ⟨gb, 1, none⟩ = some (.slice A1 r.length c1) := aA BK3.out 1; clear hb) | (go_at_call 84; refine (impl_star.calls k A0 c0 t A1 c1 r (1000 + m) l _ L0.out q0 L1.out q1 HL.out).mono ?_; rintro e w4 ⟨v2, rfl, ho2, hb⟩; obtain ⟨A2, c2, rfl, q2, k2⟩ := Kd.R_reads ho2; have BK4 := aM (aD BK3.out hb); have BZ4 := aM (aD BZ3.out hb); have HB4 := aM (aE HB3.out hb); have M0 := aM (bF L0.out hb); have M1 := aM (bF L1.out hb); have M2 := aM k2; clear d0_ d1_ ho2 k2 hb) | ((with_reducible refine aZ (N := 9) rfl ?_); refine bB ?hg (N := 9) ?hd (cs := #[.slice none 0 0]) (t := 52) ?hr ?_; (case hd => rfl); (case hg => rfl); (case hr => first | (go_simp; done)); intro gc hg w5 hbox hb; have e0_ := aA hbox 0; have e1_ := aC hbox 0; have hbs := hb.setCell (p := ⟨gc, 0, none⟩) (by rw [hg]; exact cD _) (.slice A2 l.length c2); have BL5 := aM (impl_starred.set1 (u' := .slice A2 l.length c2) hbox); have BK5 := aM (aD BK4.out hbs); have BZ5 := aM (aD BZ4.out hbs); have HB5 := aM (aE HB4.out hbs); have N0 := aM (bF M0.out hbs); have N1 := aM (bF M1.out hbs); have N2 := aM (bF M2.out hbs); clear hg hb hbox hbs) | (go_at_call 67; refine (impl_made.calls k 1000 (m) (impl_starred.p z t r l) 85 #[.pointer (some ⟨w.heap.size, 0, none⟩), .pointer (some ⟨gb, 0, none⟩), .pointer (some ⟨gc, 0, none⟩)] r1 r2 _ (fun args_ w_ => enters_ Try.func85 (by kernel_rfl) rfl args_ w_) ?hpx H.out).mono ?_; (case hpx => intro n_ b_ W_ hW_ hb_; exact impl_starred.lit g0 z w EG.out HZ.out w.heap.size gb gc A0 c0 t A1 c1 r A2 c2 l n_ b_ W_ (aE HB5.out hW_) (aD BZ5.out hW_) (aD BK5.out hW_) (aD BL5.out hW_) (bF N0.out hW_) q0 (bF N1.out hW_) q1 (bF N2.out hW_) hb_); rintro e w6 ⟨rfl, hb⟩; have HB6 := aM (aE HB5.out hb); clear hb))
   go_ret2
   exact ⟨rfl, HB6.out⟩
  ·rename_i m0
   obtain ⟨l, hl, h⟩ := Option.bind_eq_some_iff.mp h
   have HS := aM hsm; have HM := aM hm; have HL := aM hl; have H := aM h
   clear hsm hm hl h
   go_enter Try.func62, Try.ntmps62
   go_wp2_with (first | (go_at_call 66; refine (impl_small.calls k a0 t r true _ HS.out).mono ?_; rintro e w1 ⟨v0, v1, rfl, ho0, ho1, hb⟩; obtain ⟨A0, c0, rfl, q0, k0⟩ := Kd.R_reads ho0; obtain ⟨A1, c1, rfl, q1, k1⟩ := Kd.R_reads ho1; have HB1 := aM (aE HB0.out hb); have BZ1 := aM (aD BZ.out hb); have K0 := aM k0; have K1 := aM k1; clear ho0 ho1 k0 k1 hb) | ((with_reducible refine aZ (N := 6) rfl ?_); refine bB ?hg (N := 6) ?hd (cs := #[.slice none 0 0, .slice none 0 0]) (t := 56) ?hr ?_; (case hd => rfl); (case hg => rfl); (case hr => first | (go_simp; done)); intro gb hg w2 hbox hb; have c0_ := aA hbox 0; have c1_ := aA hbox 1; have f0_ := aC hbox 0; have f1_ := aC hbox 1; have hbs := (hb.setCell (p := ⟨gb, 0, none⟩) (by rw [hg]; exact cD _) (.slice A0 t.length c0)).setCell (p := ⟨gb, 1, none⟩) (by rw [hg]; exact cD _) (.slice A1 r.length c1); have BK2 := aM (impl_starred.set2 (u' := .slice A0 t.length c0) (v' := .slice A1 r.length c1) hbox); have BZ2 := aM (aD BZ1.out hbs); have HB2 := aM (aE HB1.out hbs); have KK0 := aM (bF K0.out hbs); have KK1 := aM (bF K1.out hbs); clear hg hb hbox hbs) | (go_at_call 83; refine (impl_set_least.calls k A0 c0 t A1 c1 r m _ KK0.out q0 KK1.out q1 HM.out).mono ?_; rintro e w3 ⟨rfl, hb⟩; clear c0_ c1_ f0_ f1_; have BK3 := aM (aD BK2.out hb); have BZ3 := aM (aD BZ2.out hb); have HB3 := aM (aE HB2.out hb); have L0 := aM (bF KK0.out hb); have L1 := aM (bF KK1.out hb); have d0_ : w3.cell? ⟨gb, 0, none⟩ = some (.slice A0 t.length c0) := aA BK3.out 0; have d1_ : w3.cell? ⟨gb, 1, none⟩ = some (.slice A1 r.length c1) := aA BK3.out 1; clear hb) | (go_at_call 84; refine (impl_star.calls k A0 c0 t A1 c1 r (1001) l _ L0.out q0 L1.out q1 HL.out).mono ?_; rintro e w4 ⟨v2, rfl, ho2, hb⟩; obtain ⟨A2, c2, rfl, q2, k2⟩ := Kd.R_reads ho2; have BK4 := aM (aD BK3.out hb); have BZ4 := aM (aD BZ3.out hb); have HB4 := aM (aE HB3.out hb); have M0 := aM (bF L0.out hb); have M1 := aM (bF L1.out hb); have M2 := aM k2; clear d0_ d1_ ho2 k2 hb) | ((with_reducible refine aZ (N := 9) rfl ?_); refine bB ?hg (N := 9) ?hd (cs := #[.slice none 0 0]) (t := 52) ?hr ?_; (case hd => rfl); (case hg => rfl); (case hr => first | (go_simp; done)); intro gc hg w5 hbox hb; have e0_ := aA hbox 0; have e1_ := aC hbox 0; have hbs := hb.setCell (p := ⟨gc, 0, none⟩) (by rw [hg]; exact cD _) (.slice A2 l.length c2); have BL5 := aM (impl_starred.set1 (u' := .slice A2 l.length c2) hbox); have BK5 := aM (aD BK4.out hbs); have BZ5 := aM (aD BZ4.out hbs); have HB5 := aM (aE HB4.out hbs); have N0 := aM (bF M0.out hbs); have N1 := aM (bF M1.out hbs); have N2 := aM (bF M2.out hbs); clear hg hb hbox hbs) | (go_at_call 67; refine (impl_made.calls k 1000 (1) (impl_starred.p z t r l) 85 #[.pointer (some ⟨w.heap.size, 0, none⟩), .pointer (some ⟨gb, 0, none⟩), .pointer (some ⟨gc, 0, none⟩)] r1 r2 _ (fun args_ w_ => enters_ Try.func85 (by kernel_rfl) rfl args_ w_) ?hpx H.out).mono ?_; (case hpx => intro n_ b_ W_ hW_ hb_; exact impl_starred.lit g0 z w EG.out HZ.out w.heap.size gb gc A0 c0 t A1 c1 r A2 c2 l n_ b_ W_ (aE HB5.out hW_) (aD BZ5.out hW_) (aD BK5.out hW_) (aD BL5.out hW_) (bF N0.out hW_) q0 (bF N1.out hW_) q1 (bF N2.out hW_) hb_); rintro e w6 ⟨rfl, hb⟩; have HB6 := aM (aE HB5.out hb); clear hb))
   go_ret2
   exact ⟨rfl, HB6.out⟩
def impl_StarOf.f (k : Nat) (a0 : ByteArray) : Option (ByteArray × Bool) := impl_starred.f k a0 (fun _ _ => some true)
set_option maxHeartbeats 1000000 in
set_option maxRecDepth 100000 in
theorem impl_StarOf.zero (w : World) : impl_starred.Zero w 63 #[] (fun _ _ => some true) := by
 intro A0 c0 l0 A1 c1 l1 b W _ _ _ _ _ h
 obtain rfl := bU h
 clear h
 go_enter Try.func63, Try.ntmps63
 go_wp2
 go_ret
 exact ⟨rfl, (cE _ W).alloc (cD _) _⟩
set_option maxHeartbeats 1000000 in
set_option maxRecDepth 100000 in
theorem impl_StarOf.calls (k : Nat) (a0 : ByteArray) (r1 : ByteArray) (r2 : Bool) (w : World) (h : impl_StarOf.f k a0 = some (r1, r2)) :
  Calls Try.prog 46 #[.string a0] w fun e w' => e = .returned (.tuple #[.string r1, .bool r2]) ∧ Below w.heap.size w w' := by
 have C := impl_starred.calls k a0 63 _ r1 r2 w (fun args_ w_ => enters_ Try.func63 (by kernel_rfl) rfl args_ w_) (impl_StarOf.zero w) h
 clear h
 go_enter Try.func46, Try.ntmps46
 go_wp2_with (go_at_call 62; refine C.mono ?_; rintro e w' ⟨rfl, hb⟩)
 go_ret2
 exact ⟨rfl, hb⟩

def impl_gcd.l0 : Nat → Int → Int → Option (Int)
 | 0, _, _ => none
 | k + 1, x0, x1 => if x1 = 0 then (some x0) else (impl_gcd.l0 k x1 (Int.tmod x0 x1))
def impl_gcd.f (k : Nat) (a0 : Int) (a1 : Int) : Option (Int) := impl_gcd.l0 k a0 a1
set_option maxHeartbeats 8000000 in
set_option maxRecDepth 100000 in
theorem impl_gcd.calls (k : Nat) (a0 : Int) (a1 : Int) (r : Int) (w : World) (h : impl_gcd.f k a0 a1 = some r) :
  Calls Try.prog 88 #[.int .i64 a0, .int .i64 a1] w fun e w' => e = .returned (.int .i64 r) ∧ Drawn0 w w' := by
 have H : (impl_gcd.l0 k a0 a1) = some r := h
 clear h
 have H' := aM H
 clear H
 go_enter Try.func88, Try.ntmps88
 go_wp2
 repeat (go_quiet (fail); try go_wp2)
 go_loopg [0, 1] k (fun kq v0 v1 w' => ∃ (x0_1 : Int) (x1_1 : Int), v0 = .int .i64 x0_1 ∧ v1 = .int .i64 x1_1 ∧ Aside0 (impl_gcd.l0 kq x0_1 x1_1 = some r) ∧ Aside0 (kq ≤ k) ∧ Drawn0 w w')
 case atStart => exact ⟨(a0), (a1), (by rfl), (by rfl), H', ⟨cD _⟩, by repeat (exact Drawn0.refl _)⟩
 case round =>
  clear H'
  obtain ⟨x0_1, x1_1, rfl, rfl, HA, HK1, ⟨m1, rfl⟩⟩ := hrel
  cases gk with
  | zero => exact absurd HA.out (by simp [impl_gcd.l0])
  | succ k1 =>
   have H := HA.out
   clear HA
   simp only [impl_gcd.l0] at H
   by_cases c3 : x1_1 = 0
   ·rw [if_pos c3] at H
    have c3b1 : (x1_1 != 0) = false := bne_eq_false_iff_eq.mpr c3
    clear c3
    obtain rfl := bU H
    go_wp2
    repeat (go_quiet (fail); try go_wp2)
    go_ret
    exact ⟨by first | rfl | (simp [*]; done), by repeat (first | exact Drawn0.refl _ | apply Drawn0.step)⟩
   ·rw [if_neg c3] at H
    have c3b1 : (x1_1 != 0) = true := bne_iff_ne.mpr c3
    have H' := aM H
    clear H
    go_wp2
    repeat (go_quiet (fail); try go_wp2)
    go_roundg k1
    case measure => have := HK1.out; omega
    case rel => exact ⟨(x1_1), (Int.tmod x0_1 x1_1), (by rfl), (by rfl), H', ⟨by have := HK1.out; omega⟩, by repeat (first | exact Drawn0.refl _ | apply Drawn0.step)⟩


def impl_lcm.f (k : Nat) (a0 : Int) (a1 : Int) : Option (Int) := (impl_gcd.f k a0 a1).bind fun t334 => (if t334 = 0 then (none) else (some (wrap64 ((wrap64 (Int.tdiv a0 t334)) * a1))))
set_option maxHeartbeats 8000000 in
set_option maxRecDepth 100000 in
theorem impl_lcm.calls (k : Nat) (a0 : Int) (a1 : Int) (r : Int) (w : World) (h : impl_lcm.f k a0 a1 = some r) :
  Calls Try.prog 68 #[.int .i64 a0, .int .i64 a1] w fun e w' => e = .returned (.int .i64 r) ∧ Drawn0 w w' := by
 have H : ((impl_gcd.f k a0 a1).bind fun t334 => (if t334 = 0 then (none) else (some (wrap64 ((wrap64 (Int.tdiv a0 t334)) * a1))))) = some r := h
 clear h
 replace H := Option.bind_eq_some_iff.mp H
 obtain ⟨t334, A30, H⟩ := H
 replace H : (if t334 = 0 then (none) else (some (wrap64 ((wrap64 (Int.tdiv a0 t334)) * a1)))) = some r := H
 have A3 := aM A30
 clear A30
 by_cases c4 : t334 = 0
 ·rw [if_pos c4] at H
  exact absurd H (by simp)
 ·rw [if_neg c4] at H
  obtain rfl := bU H
  go_enter Try.func68, Try.ntmps68
  go_wp2_with (first | ((with_reducible refine aY (f := 88) rfl ?_); refine gL 8 Try.func88 #[.int .i64 a0, .int .i64 a1] ?_; (with_reducible refine (impl_gcd.calls k a0 a1 t334 _ A3.out).mono ?_); rintro e w' ⟨rfl, ⟨nd, rfl⟩⟩; refine ⟨_, rfl, ?_⟩))
  go_ret
  exact ⟨by first | rfl | (simp [*]; done), by repeat (first | exact Drawn0.refl _ | apply Drawn0.step)⟩


def impl_both.f (k : Nat) (l0_0 : List Bool) (l0_1 : List Bool) (l1_0 : List Bool) (l1_1 : List Bool) : Option (Int × Int) := (impl_lcm.f k (l0_1.length : Int) (l1_1.length : Int)).bind fun t337 => (some (mx (l0_0.length : Int) (l1_0.length : Int), t337))
set_option maxHeartbeats 8000000 in
set_option maxRecDepth 100000 in
theorem impl_both.calls (k : Nat) (A0_0 : Option Addr) (c0_0 : Nat) (l0_0 : List Bool) (A0_1 : Option Addr) (c0_1 : Nat) (l0_1 : List Bool) (A1_0 : Option Addr) (c1_0 : Nat) (l1_0 : List Bool) (A1_1 : Option Addr) (c1_1 : Nat) (l1_1 : List Bool) (r1 : Int) (r2 : Int) (w : World) (hr0_0 : Kd.C Kd.bool w A0_0 l0_0.length l0_0) (hc0_0 : l0_0.length ≤ c0_0) (hr0_1 : Kd.C Kd.bool w A0_1 l0_1.length l0_1) (hc0_1 : l0_1.length ≤ c0_1) (hr1_0 : Kd.C Kd.bool w A1_0 l1_0.length l1_0) (hc1_0 : l1_0.length ≤ c1_0) (hr1_1 : Kd.C Kd.bool w A1_1 l1_1.length l1_1) (hc1_1 : l1_1.length ≤ c1_1) (h : impl_both.f k l0_0 l0_1 l1_0 l1_1 = some (r1, r2)) :
  Calls Try.prog 86 #[.agg #[.slice A0_0 l0_0.length c0_0, .slice A0_1 l0_1.length c0_1], .agg #[.slice A1_0 l1_0.length c1_0, .slice A1_1 l1_1.length c1_1]] w fun e w' => e = .returned (.tuple #[.int .i64 r1, .int .i64 r2]) ∧ Below w.heap.size w w' := by
 clear hr0_0 hc0_0
 clear hr0_1 hc0_1
 clear hr1_0 hc1_0
 clear hr1_1 hc1_1
 have HB := aM (cE w.heap.size w)
 have H : ((impl_lcm.f k (l0_1.length : Int) (l1_1.length : Int)).bind fun t337 => (some (mx (l0_0.length : Int) (l1_0.length : Int), t337))) = some (r1, r2) := h
 clear h
 obtain ⟨ji3, hji3⟩ : ∃ j_ : Int, (mx (l0_0.length : Int) (l1_0.length : Int)) = j_ := ⟨_, rfl⟩
 replace H : ((impl_lcm.f k (l0_1.length : Int) (l1_1.length : Int)).bind fun t337 => (some (ji3, t337))) = some (r1, r2) := by first | (rw [hji3] at H; exact H) | (simp only [hji3] at H ⊢; exact H)
 (try (have hji3l : 0 ≤ ji3 := by (rw [← hji3]; unfold mx; (repeat' split) <;> omega)))
 (try (have hji3m : 0 ≤ ji3 := by omega))
 have hji3_ : (if (l0_0.length : Int) < (l1_0.length : Int) then (l1_0.length : Int) else (l0_0.length : Int)) = ji3 := hji3
 have hji3n : (if l0_0.length < l1_0.length then (l1_0.length : Int) else (l0_0.length : Int)) = ji3 := by rw [← hji3_]; split <;> split <;> omega
 replace H := Option.bind_eq_some_iff.mp H
 obtain ⟨t337, A40, H⟩ := H
 replace H : (some (ji3, t337)) = some (r1, r2) := H
 have A4 := aM A40
 clear A40
 simp only [aV, aW] at H
 obtain ⟨rfl, rfl⟩ := H
 go_enter Try.func86, Try.ntmps86
 go_wp2_with (first | ((with_reducible refine aZ (N := 2) rfl ?_); refine bB ?hg (N := 2) ?hd (cs := #[.slice A0_0 l0_0.length c0_0, .slice A0_1 l0_1.length c0_1]) (t := 56) ?hr ?_; (case hd => rfl); (case hg => rfl); (case hr => first | (go_simp; done) | (go_simp; rfl)); intro gb335 hg w5 hbox hb; have BK335 := aM hbox; replace HB := aM (aE (by repeat (first | (with_reducible first | exact HB.out | apply bA | apply bN | apply b1) | exact HB.out)) hb); clear hb hbox hg) | ((with_reducible refine aZ (N := 3) rfl ?_); refine bB ?hg (N := 3) ?hd (cs := #[.slice A1_0 l1_0.length c1_0, .slice A1_1 l1_1.length c1_1]) (t := 56) ?hr ?_; (case hd => rfl); (case hg => rfl); (case hr => first | (go_simp; done) | (go_simp; rfl)); intro gb336 hg w6 hbox hb; have BK336 := aM hbox; replace HB := aM (aE (by repeat (first | (with_reducible first | exact HB.out | apply bA | apply bN | apply b1 | refine bS ?_ GE335.out) | exact HB.out)) hb); replace BK335 := aM (aD (g := gb335) (o := .cells #[.slice A0_0 l0_0.length c0_0, .slice A0_1 l0_1.length c0_1] 56 (0, 0)) (by (with_reducible repeat (first | refine kN ?_ _ | refine kD ?_ | refine kA ?_ _)); exact BK335.out) hb); clear hb hbox hg; have hcz8_0 : w6.cell? ⟨gb335, 0, none⟩ = some (.slice A0_0 l0_0.length c0_0) := (aA BK335.out 0).trans rfl; have hcz8_1 : w6.cell? ⟨gb335, 1, none⟩ = some (.slice A0_1 l0_1.length c0_1) := (aA BK335.out 1).trans rfl; have hcz9_0 : w6.cell? ⟨gb336, 0, none⟩ = some (.slice A1_0 l1_0.length c1_0) := (aA BK336.out 0).trans rfl; have hcz9_1 : w6.cell? ⟨gb336, 1, none⟩ = some (.slice A1_1 l1_1.length c1_1) := (aA BK336.out 1).trans rfl) | (go_at_call 68; (with_reducible refine (impl_lcm.calls k (l0_1.length : Int) (l1_1.length : Int) t337 _ A4.out).mono ?_); rintro e w' ⟨rfl, ⟨nd, rfl⟩⟩; (try first | exact ⟨rfl, _, World.drewN_drewN _ _ _⟩ | exact ⟨rfl, _, Eq.trans (World.drewN_drewN _ _ _) (congrArg (World.drewN _) (Nat.add_assoc _ _ _))⟩)))
 repeat (go_quiet (first | ((with_reducible refine aZ (N := 2) rfl ?_); refine bB ?hg (N := 2) ?hd (cs := #[.slice A0_0 l0_0.length c0_0, .slice A0_1 l0_1.length c0_1]) (t := 56) ?hr ?_; (case hd => rfl); (case hg => rfl); (case hr => first | (go_simp; done) | (go_simp; rfl)); intro gb335 hg w5 hbox hb; have BK335 := aM hbox; have GW335 := aM ((by rw [hg]; exact (aG (by repeat (first | (with_reducible first | exact HB.out | apply bA | apply bN | apply b1) | exact HB.out))) : w.heap.size ≤ gb335)); have GE335 := aM ((by rw [hg]; exact (aG (by repeat (first | (with_reducible first | exact HB.out | apply bA | apply bN | apply b1) | exact HB.out))) : w.heap.size ≤ gb335)); replace HB := aM (aE (by repeat (first | (with_reducible first | exact HB.out | apply bA | apply bN | apply b1) | exact HB.out)) hb); clear hb hbox hg) | ((with_reducible refine aZ (N := 3) rfl ?_); refine bB ?hg (N := 3) ?hd (cs := #[.slice A1_0 l1_0.length c1_0, .slice A1_1 l1_1.length c1_1]) (t := 56) ?hr ?_; (case hd => rfl); (case hg => rfl); (case hr => first | (go_simp; done) | (go_simp; rfl)); intro gb336 hg w6 hbox hb; have BK336 := aM hbox; have GW336 := aM ((by rw [hg]; exact (aG (by repeat (first | (with_reducible first | exact HB.out | apply bA | apply bN | apply b1 | refine bS ?_ GE335.out) | exact HB.out))) : w.heap.size ≤ gb336)); have GE336 := aM ((by rw [hg]; exact (aG (by repeat (first | (with_reducible first | exact HB.out | apply bA | apply bN | apply b1 | refine bS ?_ GE335.out) | exact HB.out))) : w.heap.size ≤ gb336)); replace HB := aM (aE (by repeat (first | (with_reducible first | exact HB.out | apply bA | apply bN | apply b1 | refine bS ?_ GE335.out) | exact HB.out)) hb); have NB335_336 := aM ((by rw [hg]; exact Nat.ne_of_lt (blk_lt (g := gb335) (o := .cells #[.slice A0_0 l0_0.length c0_0, .slice A0_1 l0_1.length c0_1] 56 (0, 0)) (by (with_reducible repeat (first | refine kN ?_ _ | refine kD ?_ | refine kA ?_ _)); exact BK335.out)) : gb335 ≠ gb336)); have NB336_335 := aM ((by rw [hg]; exact Nat.ne_of_gt (blk_lt (g := gb335) (o := .cells #[.slice A0_0 l0_0.length c0_0, .slice A0_1 l0_1.length c0_1] 56 (0, 0)) (by (with_reducible repeat (first | refine kN ?_ _ | refine kD ?_ | refine kA ?_ _)); exact BK335.out)) : gb336 ≠ gb335)); replace BK335 := aM (aD (g := gb335) (o := .cells #[.slice A0_0 l0_0.length c0_0, .slice A0_1 l0_1.length c0_1] 56 (0, 0)) (by (with_reducible repeat (first | refine kN ?_ _ | refine kD ?_ | refine kA ?_ _)); exact BK335.out) hb); clear hb hbox hg; have hnb7 := NB335_336.out; have hnc7 := NB336_335.out; have hcz8_0 : w6.cell? ⟨gb335, 0, none⟩ = some (.slice A0_0 l0_0.length c0_0) := (aA BK335.out 0).trans rfl; have hcz8_1 : w6.cell? ⟨gb335, 1, none⟩ = some (.slice A0_1 l0_1.length c0_1) := (aA BK335.out 1).trans rfl; have hfz8_0 := aC BK335.out 0; have hfz8_1 := aC BK335.out 1; have hcz9_0 : w6.cell? ⟨gb336, 0, none⟩ = some (.slice A1_0 l1_0.length c1_0) := (aA BK336.out 0).trans rfl; have hcz9_1 : w6.cell? ⟨gb336, 1, none⟩ = some (.slice A1_1 l1_1.length c1_1) := (aA BK336.out 1).trans rfl; have hfz9_0 := aC BK336.out 0; have hfz9_1 := aC BK336.out 1) | (go_at_call 68; (with_reducible refine (impl_lcm.calls k (l0_1.length : Int) (l1_1.length : Int) t337 _ A4.out).mono ?_); rintro e w' ⟨rfl, ⟨nd, rfl⟩⟩; (try first | exact ⟨rfl, _, World.drewN_drewN _ _ _⟩ | exact ⟨rfl, _, Eq.trans (World.drewN_drewN _ _ _) (congrArg (World.drewN _) (Nat.add_assoc _ _ _))⟩))); try go_wp2_with (first | ((with_reducible refine aZ (N := 2) rfl ?_); refine bB ?hg (N := 2) ?hd (cs := #[.slice A0_0 l0_0.length c0_0, .slice A0_1 l0_1.length c0_1]) (t := 56) ?hr ?_; (case hd => rfl); (case hg => rfl); (case hr => first | (go_simp; done) | (go_simp; rfl)); intro gb335 hg w5 hbox hb; have BK335 := aM hbox; have GW335 := aM ((by rw [hg]; exact (aG (by repeat (first | (with_reducible first | exact HB.out | apply bA | apply bN | apply b1) | exact HB.out))) : w.heap.size ≤ gb335)); have GE335 := aM ((by rw [hg]; exact (aG (by repeat (first | (with_reducible first | exact HB.out | apply bA | apply bN | apply b1) | exact HB.out))) : w.heap.size ≤ gb335)); replace HB := aM (aE (by repeat (first | (with_reducible first | exact HB.out | apply bA | apply bN | apply b1) | exact HB.out)) hb); clear hb hbox hg) | ((with_reducible refine aZ (N := 3) rfl ?_); refine bB ?hg (N := 3) ?hd (cs := #[.slice A1_0 l1_0.length c1_0, .slice A1_1 l1_1.length c1_1]) (t := 56) ?hr ?_; (case hd => rfl); (case hg => rfl); (case hr => first | (go_simp; done) | (go_simp; rfl)); intro gb336 hg w6 hbox hb; have BK336 := aM hbox; have GW336 := aM ((by rw [hg]; exact (aG (by repeat (first | (with_reducible first | exact HB.out | apply bA | apply bN | apply b1 | refine bS ?_ GE335.out) | exact HB.out))) : w.heap.size ≤ gb336)); have GE336 := aM ((by rw [hg]; exact (aG (by repeat (first | (with_reducible first | exact HB.out | apply bA | apply bN | apply b1 | refine bS ?_ GE335.out) | exact HB.out))) : w.heap.size ≤ gb336)); replace HB := aM (aE (by repeat (first | (with_reducible first | exact HB.out | apply bA | apply bN | apply b1 | refine bS ?_ GE335.out) | exact HB.out)) hb); have NB335_336 := aM ((by rw [hg]; exact Nat.ne_of_lt (blk_lt (g := gb335) (o := .cells #[.slice A0_0 l0_0.length c0_0, .slice A0_1 l0_1.length c0_1] 56 (0, 0)) (by (with_reducible repeat (first | refine kN ?_ _ | refine kD ?_ | refine kA ?_ _)); exact BK335.out)) : gb335 ≠ gb336)); have NB336_335 := aM ((by rw [hg]; exact Nat.ne_of_gt (blk_lt (g := gb335) (o := .cells #[.slice A0_0 l0_0.length c0_0, .slice A0_1 l0_1.length c0_1] 56 (0, 0)) (by (with_reducible repeat (first | refine kN ?_ _ | refine kD ?_ | refine kA ?_ _)); exact BK335.out)) : gb336 ≠ gb335)); replace BK335 := aM (aD (g := gb335) (o := .cells #[.slice A0_0 l0_0.length c0_0, .slice A0_1 l0_1.length c0_1] 56 (0, 0)) (by (with_reducible repeat (first | refine kN ?_ _ | refine kD ?_ | refine kA ?_ _)); exact BK335.out) hb); clear hb hbox hg; have hnb7 := NB335_336.out; have hnc7 := NB336_335.out; have hcz8_0 : w6.cell? ⟨gb335, 0, none⟩ = some (.slice A0_0 l0_0.length c0_0) := (aA BK335.out 0).trans rfl; have hcz8_1 : w6.cell? ⟨gb335, 1, none⟩ = some (.slice A0_1 l0_1.length c0_1) := (aA BK335.out 1).trans rfl; have hfz8_0 := aC BK335.out 0; have hfz8_1 := aC BK335.out 1; have hcz9_0 : w6.cell? ⟨gb336, 0, none⟩ = some (.slice A1_0 l1_0.length c1_0) := (aA BK336.out 0).trans rfl; have hcz9_1 : w6.cell? ⟨gb336, 1, none⟩ = some (.slice A1_1 l1_1.length c1_1) := (aA BK336.out 1).trans rfl; have hfz9_0 := aC BK336.out 0; have hfz9_1 := aC BK336.out 1) | (go_at_call 68; (with_reducible refine (impl_lcm.calls k (l0_1.length : Int) (l1_1.length : Int) t337 _ A4.out).mono ?_); rintro e w' ⟨rfl, ⟨nd, rfl⟩⟩; (try first | exact ⟨rfl, _, World.drewN_drewN _ _ _⟩ | exact ⟨rfl, _, Eq.trans (World.drewN_drewN _ _ _) (congrArg (World.drewN _) (Nat.add_assoc _ _ _))⟩))))
 go_ret2
 exact ⟨by first | rfl | (simp [errW_none, errW_some] <;> rfl) | (simp [errW_none, errW_some]; exact ⟨rfl, rfl⟩) | (simp [errW_none, errW_some]; exact ⟨rfl, rfl, rfl⟩) | (simp only [← hji3]; first | rfl | (simp [errW_none, errW_some] <;> rfl) | (simp [errW_none, errW_some]; exact ⟨rfl, rfl⟩) | (simp [errW_none, errW_some]; exact ⟨rfl, rfl, rfl⟩)) | (simp [*, errW_none, errW_some] <;> rfl), by repeat (first | (with_reducible first | exact HB.out | apply bA | apply bN | apply b1 | refine bS ?_ GE335.out | refine bS ?_ GE336.out) | exact HB.out)⟩


def impl_pair.p (z : Bool → Bool → Bool) (l0 l1 l2 l3 : List Bool) (n : Int) : Option Bool := (impl_set_has.f l0 l1 n).bind fun a => (impl_set_has.f l2 l3 n).bind fun b => some (z a b)
def impl_pair.f (k : Nat) (a0 a1 : ByteArray) (z : Bool → Bool → Bool) : Option (ByteArray × Bool) :=
 (impl_setOf.f a0).bind fun x => (impl_setOf.f a1).bind fun y => if x.2.2 = true then (if y.2.2 = true then (impl_both.f k x.1 x.2.1 y.1 y.2.1).bind fun q => impl_made.f k q.1 q.2 (impl_pair.p z x.1 x.2.1 y.1 y.2.1) else some (⟨#[]⟩, false)) else some (⟨#[]⟩, false)
/-- What the function that is handed in answers. -/
def impl_pair.Two (w : World) (g0 : Nat) (z : Bool → Bool → Bool) : Prop := ∀ (a b : Bool) (W : World), Below w.heap.size w W → Calls Try.prog g0 #[.bool a, .bool b] W fun e W' => e = .returned (.bool (z a b)) ∧ Below W.heap.size W W'
def impl_pair.T1 : Bool × List (List Nat × List Nat) := (true, [([], []), ([], []), ([], []), ([1, 2], [1, 2]), ([], []), ([], []), ([4, 5, 3], [4, 5]), ([0, 3, 6, 6], [0, 3, 6]), ([7, 7, 0, 1, 2, 3, 4, 5, 6, 7], [7])])
def impl_pair.B1 : List Nat := [0, 0, 0, 6, 0, 0, 62, 127, 255]
theorem impl_pair.tab1 : rtab .any (opsOf Try.f87 1) = impl_pair.T1 := by kernel_rfl
theorem impl_pair.bits1 : waitsOk impl_pair.T1.2 impl_pair.B1 = true := by kernel_rfl
theorem impl_pair.goesV_ {P : Program} {ops : Array Oper} {Q : Exit → Act → World → Prop} {oi : Oper} {N : Option Tmp} {a : Act} {w : World} {K : Act → World → Prop} {c : Operand} {g : FuncId} {lb : Array Value} (eg : ∀ args w, (callFunc g args).run P w = .ok (.enter g args) w) {ars : Array Operand} {ts : Array TypeId} (args : Array Value)
  (hw : Region.wanted oi (yielded ops a.tmps) = true) (hN : oi.dst = N) (hop : oi.op = .call { callee := .value c, args := ars, argTypes := ts }) (hc : a.eval c = .func (.func g) #[] lb) (hargs : ars.map a.eval = args)
  (h : Calls P g (args ++ lb) w fun e w' => ∃ v, e = .returned v ∧ K (a.put N v) w') : if Region.wanted oi (yielded ops a.tmps) = true then Oper.wp P oi a w K Q else K (a.put N undef) w := by
 refine call_ g (args ++ lb) hw hN ?_ h
 have he := eg (args ++ lb) w
 unfold execOp
 simp [hop, hc, resolve, Deferred.ofValue, invoke, hargs, he]
set_option maxHeartbeats 2000000 in
set_option maxRecDepth 100000 in
theorem impl_pair.lit (g0 : Nat) (z : Bool → Bool → Bool) (w : World) (eg0 : ∀ args w, (callFunc g0 args).run Try.prog w = .ok (.enter g0 args) w) (hz : impl_pair.Two w g0 z)
  (B1 B2 B3 : Nat) (A0 : Option Addr) (c0 : Nat) (l0 : List Bool) (A1 : Option Addr) (c1 : Nat) (l1 : List Bool) (A2 : Option Addr) (c2 : Nat) (l2 : List Bool) (A3 : Option Addr) (c3 : Nat) (l3 : List Bool) (n : Int) (b : Bool) (W : World) (hw : Below w.heap.size w W)
  (h1 : W.heap[B1]? = some (.cells #[.func (.func g0) #[] #[]] 89 (0, 0))) (h2 : W.heap[B2]? = some (.cells #[.slice A0 l0.length c0, .slice A1 l1.length c1] 56 (0, 0))) (h3 : W.heap[B3]? = some (.cells #[.slice A2 l2.length c2, .slice A3 l3.length c3] 56 (0, 0)))
  (r0 : Kd.C Kd.bool W A0 l0.length l0) (q0 : l0.length ≤ c0) (r1 : Kd.C Kd.bool W A1 l1.length l1) (q1 : l1.length ≤ c1) (r2 : Kd.C Kd.bool W A2 l2.length l2) (q2 : l2.length ≤ c2) (r3 : Kd.C Kd.bool W A3 l3.length l3) (q3 : l3.length ≤ c3) (h : impl_pair.p z l0 l1 l2 l3 n = some b) :
  Calls Try.prog 87 #[.int .i64 n, .pointer (some ⟨B1, 0, none⟩), .pointer (some ⟨B2, 0, none⟩), .pointer (some ⟨B3, 0, none⟩)] W fun e W' => e = .returned (.bool b) ∧ Below W.heap.size W W' := by
 unfold impl_pair.p at h
 obtain ⟨x, hx, h⟩ := Option.bind_eq_some_iff.mp h
 obtain ⟨y, hy, h⟩ := Option.bind_eq_some_iff.mp h
 obtain rfl := bU h
 have BF := aM h1; have BA := aM h2; have BB := aM h3; have K0 := aM r0; have K1 := aM r1; have K2 := aM r2; have K3 := aM r3; have HX := aM hx; have HY := aM hy; have HZ := aM hz; have EG := aM eg0
 have HW := aM hw; have HB := aM (cE W.heap.size W)
 clear h1 h2 h3 r0 r1 r2 r3 hx hy hz eg0 hw h
 go_enter Try.func87, Try.ntmps87
 go_wp2
 have d0_ := aM (kD BF.out); have d1_ := aM (kD BA.out); have d2_ := aM (kD BB.out); have d3_ := aM (Kd.C_drew K0.out); have d4_ := aM (Kd.C_drew K1.out); have d5_ := aM (Kd.C_drew K2.out); have d6_ := aM (Kd.C_drew K3.out); have d7_ := aM (b1 HB.out); have d8_ := aM (b1 HW.out)
 clear BF BA BB K0 K1 K2 K3 HB HW
 have BF := d0_; have BA := d1_; have BB := d2_; have K0 := d3_; have K1 := d4_; have K2 := d5_; have K3 := d6_; have HB := d7_; have HW := d8_
 clear d0_ d1_ d2_ d3_ d4_ d5_ d6_ d7_ d8_
 refine start_ (n := 9) (S := fun w' => w'.cell? ⟨B1, 0, none⟩ = some (.func (.func g0) #[] #[]) ∧ w'.cell? ⟨B2, 0, none⟩ = some (.slice A0 l0.length c0) ∧ w'.cell? ⟨B2, 1, none⟩ = some (.slice A1 l1.length c1) ∧ w'.cell? ⟨B3, 0, none⟩ = some (.slice A2 l2.length c2) ∧ w'.cell? ⟨B3, 1, none⟩ = some (.slice A3 l3.length c3)) (ds := []) #[false, false, false, false, false, false, false, false, false] (by kernel_rfl) rfl rfl ⟨(aA BF.out 0).trans rfl, (aA BA.out 0).trans rfl, (aA BA.out 1).trans rfl, (aA BB.out 0).trans rfl, (aA BB.out 1).trans rfl⟩ (fun hHeld => ?_); refine with_tabW impl_pair.tab1 impl_pair.bits1 (fun HT_ HW_ => ?_)
 generalize W.drew = W1 at BF BA BB K0 K1 K2 K3 HB HW hHeld ⊢
 refine pQ 2 8 HT_ ?_
 refine pQ 5 11 HT_ ?_
 refine tQ 0 6 HT_ HW_ hHeld ?_
 refine tQ 1 7 HT_ HW_ hHeld ?_
 refine tQ 4 10 HT_ HW_ hHeld ?_
 refine oQ 3 9 HT_ (fun K hK => ?_)
 refine gO Try.func33 #[.agg #[.slice A0 l0.length c0, .slice A1 l1.length c1], .int .i64 n] ?_
 refine (impl_set_has.calls A0 c0 l0 A1 c1 l1 n x _ K0.out q0 K1.out q1 HX.out).mono ?_
 rintro e w1 ⟨rfl, hb⟩
 refine ⟨_, rfl, ?_⟩
 replace BF := aM (aD BF.out hb)
 replace BA := aM (aD BA.out hb)
 replace BB := aM (aD BB.out hb)
 replace K2 := aM (bF K2.out hb)
 replace K3 := aM (bF K3.out hb)
 replace HB := aM (aE HB.out hb)
 replace HW := aM (aE HW.out hb)
 clear hb
 refine hK.out _ _ ⟨(aA BF.out 0).trans rfl, (aA BA.out 0).trans rfl, (aA BA.out 1).trans rfl, (aA BB.out 0).trans rfl, (aA BB.out 1).trans rfl⟩ (fun hHeld => ?_)
 clear hK K
 refine nQ ?_
 refine oQ 6 12 HT_ (fun K hK => ?_)
 refine gO Try.func33 #[.agg #[.slice A2 l2.length c2, .slice A3 l3.length c3], .int .i64 n] ?_
 refine (impl_set_has.calls A2 c2 l2 A3 c3 l3 n y _ K2.out q2 K3.out q3 HY.out).mono ?_
 rintro e w1 ⟨rfl, hb⟩
 refine ⟨_, rfl, ?_⟩
 replace BF := aM (aD BF.out hb)
 replace BA := aM (aD BA.out hb)
 replace BB := aM (aD BB.out hb)
 replace HB := aM (aE HB.out hb)
 replace HW := aM (aE HW.out hb)
 clear hb
 refine hK.out _ _ ⟨(aA BF.out 0).trans rfl, (aA BA.out 0).trans rfl, (aA BA.out 1).trans rfl, (aA BB.out 0).trans rfl, (aA BB.out 1).trans rfl⟩ (fun hHeld => ?_)
 clear hK K
 refine nQ ?_
 refine oQ 7 13 HT_ (fun K hK => ?_)
 refine impl_pair.goesV_ EG.out #[.bool x, .bool y] (by rfl) rfl rfl (by rfl) (by (try simp only [aN, aQ, aT]); rfl) ?_
 refine (HZ.out x y _ HW.out).mono ?_
 rintro e w1 ⟨rfl, hb⟩
 refine ⟨_, rfl, ?_⟩
 replace BF := aM (aD BF.out hb)
 replace BA := aM (aD BA.out hb)
 replace BB := aM (aD BB.out hb)
 replace HB := aM (aE HB.out hb)
 clear hb
 refine hK.out _ _ ⟨(aA BF.out 0).trans rfl, (aA BA.out 0).trans rfl, (aA BA.out 1).trans rfl, (aA BB.out 0).trans rfl, (aA BB.out 1).trans rfl⟩ (fun hHeld => ?_)
 clear hK K
 refine nQ ?_
 refine pQ 8 5 HT_ ?_
 refine done_ (done_of HT_.out (by kernel_rfl)) ?_
 try go_wp2
 go_ret
 exact ⟨rfl, HB.out⟩
set_option maxHeartbeats 4000000 in
set_option maxRecDepth 100000 in
theorem impl_pair.calls (k : Nat) (a0 a1 : ByteArray) (g0 : Nat) (z : Bool → Bool → Bool) (r1' : ByteArray) (r2' : Bool) (w : World) (eg0 : ∀ args w, (callFunc g0 args).run Try.prog w = .ok (.enter g0 args) w) (hz : impl_pair.Two w g0 z) (h : impl_pair.f k a0 a1 z = some (r1', r2')) :
  Calls Try.prog 64 #[.string a0, .string a1, .func (.func g0) #[] #[]] w fun e w' => e = .returned (.tuple #[.string r1', .bool r2']) ∧ Below w.heap.size w w' := by
 unfold impl_pair.f at h
 obtain ⟨⟨t0, r0, o0⟩, hs, h⟩ := Option.bind_eq_some_iff.mp h
 obtain ⟨⟨t1, r1, o1⟩, hu, h⟩ := Option.bind_eq_some_iff.mp h
 have HZ := aM hz; have EG := aM eg0
 clear hz eg0
 have BZ := aM (blk_new w (.cells #[.func (.func g0) #[] #[]] 89))
 have HB : Aside0 (Below w.heap.size w (w.alloc (.cells #[.func (.func g0) #[] #[]] 89))) := ⟨(cE _ w).alloc (cD _) _⟩
 cases o0 with
 | false =>
  simp only [bX, if_false, aV, aW] at h
  obtain ⟨rfl, rfl⟩ := h
  have HS := aM hs
  cases o1 with
  | false =>
   have HU := aM hu
   clear hs hu
   go_enter Try.func64, Try.ntmps64
   go_wp2_with (first | ((with_reducible refine aY (f := 32) rfl ?_); refine gL 16 Try.func32 #[.string a0] ?_; refine (impl_setOf.calls a0 t0 r0 false _ HS.out).mono ?_; rintro e w0 ⟨v0, v1, rfl, ho0, ho1, hb⟩; refine ⟨_, rfl, ?_⟩; obtain ⟨A0, c0, rfl, q0, k0⟩ := Kd.R_reads ho0; obtain ⟨A1, c1, rfl, q1, k1⟩ := Kd.R_reads ho1; replace HB := aM (aE HB.out hb); (try clear hb)) | ((with_reducible refine aZ (N := 8) rfl ?_); refine bB ?hg (N := 8) ?hd (cs := #[.slice none 0 0, .slice none 0 0]) (t := 56) ?hr ?_; (case hd => rfl); (case hg => rfl); (case hr => first | (go_simp; done)); intro gb0 hg wb0 hbox hb; have cb00_ := aA hbox 0; have fb00_ := aC hbox 0; have cb01_ := aA hbox 1; have fb01_ := aC hbox 1; have hbs := ((hb).setCell (p := ⟨gb0, 0, none⟩) (by rw [hg]; exact cD _) (.slice A0 t0.length c0)).setCell (p := ⟨gb0, 1, none⟩) (by rw [hg]; exact cD _) (.slice A1 r0.length c1); replace HB := aM (aE HB.out hbs); clear hg hb hbox hbs) | ((with_reducible refine aY (f := 32) rfl ?_); refine gL 21 Try.func32 #[.string a1] ?_; refine (impl_setOf.calls a1 t1 r1 false _ HU.out).mono ?_; rintro e w1 ⟨v0, v1, rfl, ho0, ho1, hb⟩; refine ⟨_, rfl, ?_⟩; obtain ⟨A2, c2, rfl, q2, k0⟩ := Kd.R_reads ho0; obtain ⟨A3, c3, rfl, q3, k1⟩ := Kd.R_reads ho1; replace HB := aM (aE HB.out hb); (try clear hb)) | ((with_reducible refine aZ (N := 10) rfl ?_); refine bB ?hg (N := 10) ?hd (cs := #[.slice none 0 0, .slice none 0 0]) (t := 56) ?hr ?_; (case hd => rfl); (case hg => rfl); (case hr => first | (go_simp; done)); intro gb1 hg wb1 hbox hb; have cb10_ := aA hbox 0; have fb10_ := aC hbox 0; have cb11_ := aA hbox 1; have fb11_ := aC hbox 1; have hbs := ((hb).setCell (p := ⟨gb1, 0, none⟩) (by rw [hg]; exact cD _) (.slice A2 t1.length c2)).setCell (p := ⟨gb1, 1, none⟩) (by rw [hg]; exact cD _) (.slice A3 r1.length c3); replace HB := aM (aE HB.out hbs); clear hg hb hbox hbs))
   go_ret2
   exact ⟨rfl, HB.out⟩
  | true =>
   have HU := aM hu
   clear hs hu
   go_enter Try.func64, Try.ntmps64
   go_wp2_with (first | ((with_reducible refine aY (f := 32) rfl ?_); refine gL 16 Try.func32 #[.string a0] ?_; refine (impl_setOf.calls a0 t0 r0 false _ HS.out).mono ?_; rintro e w0 ⟨v0, v1, rfl, ho0, ho1, hb⟩; refine ⟨_, rfl, ?_⟩; obtain ⟨A0, c0, rfl, q0, k0⟩ := Kd.R_reads ho0; obtain ⟨A1, c1, rfl, q1, k1⟩ := Kd.R_reads ho1; replace HB := aM (aE HB.out hb); (try clear hb)) | ((with_reducible refine aZ (N := 8) rfl ?_); refine bB ?hg (N := 8) ?hd (cs := #[.slice none 0 0, .slice none 0 0]) (t := 56) ?hr ?_; (case hd => rfl); (case hg => rfl); (case hr => first | (go_simp; done)); intro gb0 hg wb0 hbox hb; have cb00_ := aA hbox 0; have fb00_ := aC hbox 0; have cb01_ := aA hbox 1; have fb01_ := aC hbox 1; have hbs := ((hb).setCell (p := ⟨gb0, 0, none⟩) (by rw [hg]; exact cD _) (.slice A0 t0.length c0)).setCell (p := ⟨gb0, 1, none⟩) (by rw [hg]; exact cD _) (.slice A1 r0.length c1); replace HB := aM (aE HB.out hbs); clear hg hb hbox hbs) | ((with_reducible refine aY (f := 32) rfl ?_); refine gL 21 Try.func32 #[.string a1] ?_; refine (impl_setOf.calls a1 t1 r1 true _ HU.out).mono ?_; rintro e w1 ⟨v0, v1, rfl, ho0, ho1, hb⟩; refine ⟨_, rfl, ?_⟩; obtain ⟨A2, c2, rfl, q2, k0⟩ := Kd.R_reads ho0; obtain ⟨A3, c3, rfl, q3, k1⟩ := Kd.R_reads ho1; replace HB := aM (aE HB.out hb); (try clear hb)) | ((with_reducible refine aZ (N := 10) rfl ?_); refine bB ?hg (N := 10) ?hd (cs := #[.slice none 0 0, .slice none 0 0]) (t := 56) ?hr ?_; (case hd => rfl); (case hg => rfl); (case hr => first | (go_simp; done)); intro gb1 hg wb1 hbox hb; have cb10_ := aA hbox 0; have fb10_ := aC hbox 0; have cb11_ := aA hbox 1; have fb11_ := aC hbox 1; have hbs := ((hb).setCell (p := ⟨gb1, 0, none⟩) (by rw [hg]; exact cD _) (.slice A2 t1.length c2)).setCell (p := ⟨gb1, 1, none⟩) (by rw [hg]; exact cD _) (.slice A3 r1.length c3); replace HB := aM (aE HB.out hbs); clear hg hb hbox hbs))
   go_ret2
   exact ⟨rfl, HB.out⟩
 | true =>
  have HS := aM hs
  cases o1 with
  | false =>
   simp only [bX, if_false, if_true, aV, aW] at h
   obtain ⟨rfl, rfl⟩ := h
   have HU := aM hu
   clear hs hu
   go_enter Try.func64, Try.ntmps64
   go_wp2_with (first | ((with_reducible refine aY (f := 32) rfl ?_); refine gL 16 Try.func32 #[.string a0] ?_; refine (impl_setOf.calls a0 t0 r0 true _ HS.out).mono ?_; rintro e w0 ⟨v0, v1, rfl, ho0, ho1, hb⟩; refine ⟨_, rfl, ?_⟩; obtain ⟨A0, c0, rfl, q0, k0⟩ := Kd.R_reads ho0; obtain ⟨A1, c1, rfl, q1, k1⟩ := Kd.R_reads ho1; replace HB := aM (aE HB.out hb); (try clear hb)) | ((with_reducible refine aZ (N := 8) rfl ?_); refine bB ?hg (N := 8) ?hd (cs := #[.slice none 0 0, .slice none 0 0]) (t := 56) ?hr ?_; (case hd => rfl); (case hg => rfl); (case hr => first | (go_simp; done)); intro gb0 hg wb0 hbox hb; have cb00_ := aA hbox 0; have fb00_ := aC hbox 0; have cb01_ := aA hbox 1; have fb01_ := aC hbox 1; have hbs := ((hb).setCell (p := ⟨gb0, 0, none⟩) (by rw [hg]; exact cD _) (.slice A0 t0.length c0)).setCell (p := ⟨gb0, 1, none⟩) (by rw [hg]; exact cD _) (.slice A1 r0.length c1); replace HB := aM (aE HB.out hbs); clear hg hb hbox hbs) | ((with_reducible refine aY (f := 32) rfl ?_); refine gL 21 Try.func32 #[.string a1] ?_; refine (impl_setOf.calls a1 t1 r1 false _ HU.out).mono ?_; rintro e w1 ⟨v0, v1, rfl, ho0, ho1, hb⟩; refine ⟨_, rfl, ?_⟩; obtain ⟨A2, c2, rfl, q2, k0⟩ := Kd.R_reads ho0; obtain ⟨A3, c3, rfl, q3, k1⟩ := Kd.R_reads ho1; replace HB := aM (aE HB.out hb); (try clear hb)) | ((with_reducible refine aZ (N := 10) rfl ?_); refine bB ?hg (N := 10) ?hd (cs := #[.slice none 0 0, .slice none 0 0]) (t := 56) ?hr ?_; (case hd => rfl); (case hg => rfl); (case hr => first | (go_simp; done)); intro gb1 hg wb1 hbox hb; have cb10_ := aA hbox 0; have fb10_ := aC hbox 0; have cb11_ := aA hbox 1; have fb11_ := aC hbox 1; have hbs := ((hb).setCell (p := ⟨gb1, 0, none⟩) (by rw [hg]; exact cD _) (.slice A2 t1.length c2)).setCell (p := ⟨gb1, 1, none⟩) (by rw [hg]; exact cD _) (.slice A3 r1.length c3); replace HB := aM (aE HB.out hbs); clear hg hb hbox hbs))
   go_ret2
   exact ⟨rfl, HB.out⟩
  | true =>
   simp only [if_true] at h
   obtain ⟨⟨qa, qb⟩, hq, h⟩ := Option.bind_eq_some_iff.mp h
   have HU := aM hu; have HQ := aM hq; have H := aM h
   clear hs hu hq h
   go_enter Try.func64, Try.ntmps64
   go_wp2_with (first | ((with_reducible refine aY (f := 32) rfl ?_); refine gL 16 Try.func32 #[.string a0] ?_; refine (impl_setOf.calls a0 t0 r0 true _ HS.out).mono ?_; rintro e w0 ⟨v0, v1, rfl, ho0, ho1, hb⟩; refine ⟨_, rfl, ?_⟩; obtain ⟨A0, c0, rfl, q0, k0⟩ := Kd.R_reads ho0; obtain ⟨A1, c1, rfl, q1, k1⟩ := Kd.R_reads ho1; replace BZ := aM (aD BZ.out hb); replace HB := aM (aE HB.out hb); have K0 := aM k0; have K1 := aM k1; (try clear hb)) | ((with_reducible refine aZ (N := 8) rfl ?_); refine bB ?hg (N := 8) ?hd (cs := #[.slice none 0 0, .slice none 0 0]) (t := 56) ?hr ?_; (case hd => rfl); (case hg => rfl); (case hr => first | (go_simp; done)); intro gb0 hg wb0 hbox hb; have cb00_ := aA hbox 0; have fb00_ := aC hbox 0; have cb01_ := aA hbox 1; have fb01_ := aC hbox 1; have hbs := ((hb).setCell (p := ⟨gb0, 0, none⟩) (by rw [hg]; exact cD _) (.slice A0 t0.length c0)).setCell (p := ⟨gb0, 1, none⟩) (by rw [hg]; exact cD _) (.slice A1 r0.length c1); replace BZ := aM (aD BZ.out hbs); replace HB := aM (aE HB.out hbs); replace K0 := aM (bF K0.out hbs); replace K1 := aM (bF K1.out hbs); have BA := aM (impl_starred.set2 (u' := .slice A0 t0.length c0) (v' := .slice A1 r0.length c1) hbox); clear hg hb hbox hbs) | ((with_reducible refine aY (f := 32) rfl ?_); refine gL 21 Try.func32 #[.string a1] ?_; refine (impl_setOf.calls a1 t1 r1 true _ HU.out).mono ?_; rintro e w1 ⟨v0, v1, rfl, ho0, ho1, hb⟩; refine ⟨_, rfl, ?_⟩; obtain ⟨A2, c2, rfl, q2, k0⟩ := Kd.R_reads ho0; obtain ⟨A3, c3, rfl, q3, k1⟩ := Kd.R_reads ho1; replace BZ := aM (aD BZ.out hb); replace HB := aM (aE HB.out hb); replace K0 := aM (bF K0.out hb); replace K1 := aM (bF K1.out hb); replace BA := aM (aD BA.out hb); have K2 := aM k0; have K3 := aM k1; (try clear hb)) | ((with_reducible refine aZ (N := 10) rfl ?_); refine bB ?hg (N := 10) ?hd (cs := #[.slice none 0 0, .slice none 0 0]) (t := 56) ?hr ?_; (case hd => rfl); (case hg => rfl); (case hr => first | (go_simp; done)); intro gb1 hg wb1 hbox hb; have cb10_ := aA hbox 0; have fb10_ := aC hbox 0; have cb11_ := aA hbox 1; have fb11_ := aC hbox 1; have x0_ : wb1.cell? ⟨gb0, 0, none⟩ = some (.slice A0 t0.length c0) := aA (aD BA.out hb) 0; have x1_ : wb1.cell? ⟨gb0, 1, none⟩ = some (.slice A1 r0.length c1) := aA (aD BA.out hb) 1; have xn_ : gb0 ≠ gb1 := (by have := blk_lt BA.out; omega); have xm_ : gb1 ≠ gb0 := (by omega); have hbs := ((hb).setCell (p := ⟨gb1, 0, none⟩) (by rw [hg]; exact cD _) (.slice A2 t1.length c2)).setCell (p := ⟨gb1, 1, none⟩) (by rw [hg]; exact cD _) (.slice A3 r1.length c3); replace BZ := aM (aD BZ.out hbs); replace HB := aM (aE HB.out hbs); replace K0 := aM (bF K0.out hbs); replace K1 := aM (bF K1.out hbs); replace BA := aM (aD BA.out hbs); replace K2 := aM (bF K2.out hbs); replace K3 := aM (bF K3.out hbs); have BB := aM (impl_starred.set2 (u' := .slice A2 t1.length c2) (v' := .slice A3 r1.length c3) hbox); clear hg hb hbox hbs) | ((with_reducible refine aY (f := 86) rfl ?_); refine gL 33 Try.func86 #[.agg #[.slice A0 t0.length c0, .slice A1 r0.length c1], .agg #[.slice A2 t1.length c2, .slice A3 r1.length c3]] ?_; refine (impl_both.calls k A0 c0 t0 A1 c1 r0 A2 c2 t1 A3 c3 r1 qa qb _ K0.out q0 K1.out q1 K2.out q2 K3.out q3 HQ.out).mono ?_; (try clear cb00_ cb01_ cb10_ cb11_ fb00_ fb01_ fb10_ fb11_ x0_ x1_); rintro e w5 ⟨rfl, hb⟩; refine ⟨_, rfl, ?_⟩; replace BZ := aM (aD BZ.out hb); replace HB := aM (aE HB.out hb); replace K0 := aM (bF K0.out hb); replace K1 := aM (bF K1.out hb); replace BA := aM (aD BA.out hb); replace K2 := aM (bF K2.out hb); replace K3 := aM (bF K3.out hb); replace BB := aM (aD BB.out hb); (try clear hb)) | ((with_reducible refine aY (f := 67) rfl ?_); refine gL 39 Try.func67 #[.int .i64 qa, .int .i64 qb, .func (.func 87) #[] #[.pointer (some ⟨w.heap.size, 0, none⟩), .pointer (some ⟨gb0, 0, none⟩), .pointer (some ⟨gb1, 0, none⟩)]] ?_; refine (impl_made.calls k qa qb (impl_pair.p z t0 r0 t1 r1) 87 #[.pointer (some ⟨w.heap.size, 0, none⟩), .pointer (some ⟨gb0, 0, none⟩), .pointer (some ⟨gb1, 0, none⟩)] r1' r2' _ (fun args_ w_ => enters_ Try.func87 (by kernel_rfl) rfl args_ w_) ?hpx H.out).mono ?_; (case hpx => intro n_ b_ W_ hW_ hb_; exact impl_pair.lit g0 z w EG.out HZ.out w.heap.size gb0 gb1 A0 c0 t0 A1 c1 r0 A2 c2 t1 A3 c3 r1 n_ b_ W_ (aE HB.out hW_) (aD BZ.out hW_) (aD BA.out hW_) (aD BB.out hW_) (bF K0.out hW_) q0 (bF K1.out hW_) q1 (bF K2.out hW_) q2 (bF K3.out hW_) q3 hb_); rintro e w6 ⟨rfl, hb⟩; refine ⟨_, rfl, ?_⟩; replace HB := aM (aE HB.out hb); (try clear hb)))
   go_ret2
   exact ⟨rfl, HB.out⟩
def impl_MakeEither.f (k : Nat) (a0 a1 : ByteArray) : Option (ByteArray × Bool) := impl_pair.f k a0 a1 (fun a b => a || b)
set_option maxHeartbeats 1000000 in
set_option maxRecDepth 100000 in
theorem impl_MakeEither.two (w : World) : impl_pair.Two w 65 (fun a b => a || b) := by
 intro a b W hw
 clear hw
 cases a with
 | false =>
  go_enter Try.func65, Try.ntmps65
  go_wp2
  go_ret
  exact ⟨rfl, cE _ _⟩
 | true =>
  go_enter Try.func65, Try.ntmps65
  go_wp2
  go_ret
  exact ⟨rfl, cE _ _⟩
set_option maxHeartbeats 1000000 in
set_option maxRecDepth 100000 in
theorem impl_MakeEither.calls (k : Nat) (a0 : ByteArray) (a1 : ByteArray) (r1 : ByteArray) (r2 : Bool) (w : World) (h : impl_MakeEither.f k a0 a1 = some (r1, r2)) :
  Calls Try.prog 47 #[.string a0, .string a1] w fun e w' => e = .returned (.tuple #[.string r1, .bool r2]) ∧ Below w.heap.size w w' := by
 have C := impl_pair.calls k a0 a1 65 _ r1 r2 w (fun args_ w_ => enters_ Try.func65 (by kernel_rfl) rfl args_ w_) (impl_MakeEither.two w) h
 clear h
 go_enter Try.func47, Try.ntmps47
 go_wp2_with (go_at_call 64; refine C.mono ?_; rintro e w' ⟨rfl, hb⟩)
 go_ret2
 exact ⟨rfl, hb⟩

def impl_sums.l0 : Nat → Int → Int → Int → List Bool → List Bool → List Bool → List Bool → Option (Bool)
 | 0, _, _, _, _, _, _, _ => none
 | k + 1, x2, x9, x10, x105000, x105001, x106000, x106001 => if x10 < x9 then ((impl_set_has.f x105000 x105001 x10).bind fun t106 => (if t106 = true then ((impl_set_has.f x106000 x106001 (wrap64 (x2 - x10))).bind fun t107 => (if t107 = true then (some true) else (impl_sums.l0 k x2 x9 (wrap64 (x10 + 1)) x105000 x105001 x106000 x106001))) else (impl_sums.l0 k x2 x9 (wrap64 (x10 + 1)) x105000 x105001 x106000 x106001))) else (some false)
def impl_sums.f (k : Nat) (l0_0 : List Bool) (l0_1 : List Bool) (l1_0 : List Bool) (l1_1 : List Bool) (a2 : Int) : Option (Bool) := impl_sums.l0 k a2 (wrap64 (a2 + 1)) 0 l0_0 l0_1 l1_0 l1_1
set_option maxHeartbeats 8000000 in
set_option maxRecDepth 100000 in
theorem impl_sums.calls (k : Nat) (A0_0 : Option Addr) (c0_0 : Nat) (l0_0 : List Bool) (A0_1 : Option Addr) (c0_1 : Nat) (l0_1 : List Bool) (A1_0 : Option Addr) (c1_0 : Nat) (l1_0 : List Bool) (A1_1 : Option Addr) (c1_1 : Nat) (l1_1 : List Bool) (a2 : Int) (r : Bool) (w : World) (hr0_0 : Kd.C Kd.bool w A0_0 l0_0.length l0_0) (hc0_0 : l0_0.length ≤ c0_0) (hr0_1 : Kd.C Kd.bool w A0_1 l0_1.length l0_1) (hc0_1 : l0_1.length ≤ c0_1) (hr1_0 : Kd.C Kd.bool w A1_0 l1_0.length l1_0) (hc1_0 : l1_0.length ≤ c1_0) (hr1_1 : Kd.C Kd.bool w A1_1 l1_1.length l1_1) (hc1_1 : l1_1.length ≤ c1_1) (h : impl_sums.f k l0_0 l0_1 l1_0 l1_1 a2 = some r) :
  Calls Try.prog 70 #[.agg #[.slice A0_0 l0_0.length c0_0, .slice A0_1 l0_1.length c0_1], .agg #[.slice A1_0 l1_0.length c1_0, .slice A1_1 l1_1.length c1_1], .int .i64 a2] w fun e w' => e = .returned (.bool r) ∧ Below w.heap.size w w' := by
 have HR0_0 := aM hr0_0
 have HC0_0 := aM hc0_0
 clear hr0_0 hc0_0
 have HR0_1 := aM hr0_1
 have HC0_1 := aM hc0_1
 clear hr0_1 hc0_1
 have HR1_0 := aM hr1_0
 have HC1_0 := aM hc1_0
 clear hr1_0 hc1_0
 have HR1_1 := aM hr1_1
 have HC1_1 := aM hc1_1
 clear hr1_1 hc1_1
 have HB := aM (cE w.heap.size w)
 have H : (impl_sums.l0 k a2 (wrap64 (a2 + 1)) 0 l0_0 l0_1 l1_0 l1_1) = some r := h
 clear h
 have H' := aM H
 clear H
 go_enter Try.func70, Try.ntmps70
 go_wp2_with (first | ((with_reducible refine aZ (N := 3) rfl ?_); refine bB ?hg (N := 3) ?hd (cs := #[.slice A0_0 l0_0.length c0_0, .slice A0_1 l0_1.length c0_1]) (t := 56) ?hr ?_; (case hd => rfl); (case hg => rfl); (case hr => first | (go_simp; done)); intro gb104 hg w4 hbox hb; have BK104 := aM hbox; replace HB := aM (aE HB.out hb); clear hb hbox hg) | ((with_reducible refine aZ (N := 4) rfl ?_); refine bB ?hg (N := 4) ?hd (cs := #[.slice A1_0 l1_0.length c1_0, .slice A1_1 l1_1.length c1_1]) (t := 56) ?hr ?_; (case hd => rfl); (case hg => rfl); (case hr => first | (go_simp; done)); intro gb105 hg w5 hbox hb; have BK105 := aM hbox; replace HB := aM (aE HB.out hb); replace BK104 := aM (aD (g := gb104) (o := .cells #[.slice A0_0 l0_0.length c0_0, .slice A0_1 l0_1.length c0_1] 56 (0, 0)) BK104.out hb); clear hb hbox hg))
 go_loopg [10] k (fun kq v10 w' => ∃ (x10_1 : Int), v10 = .int .i64 x10_1 ∧ Aside0 (impl_sums.l0 kq a2 (wrap64 (a2 + 1)) x10_1 l0_0 l0_1 l1_0 l1_1 = some r) ∧ Aside0 (kq ≤ k) ∧ Aside0 (w'.heap[gb104]? = some (.cells #[(.slice A0_0 l0_0.length c0_0), (.slice A0_1 l0_1.length c0_1)] 56 (0, 0))) ∧ Aside0 (w'.heap[gb105]? = some (.cells #[(.slice A1_0 l1_0.length c1_0), (.slice A1_1 l1_1.length c1_1)] 56 (0, 0))) ∧ Aside0 (Below w.heap.size w w'))
 case atStart => exact ⟨(0), (by rfl), H', ⟨cD _⟩, ⟨by exact BK104.out⟩, ⟨by exact BK105.out⟩, ⟨HB.out⟩⟩
 case round =>
  clear H'
  obtain ⟨x10_1, rfl, HA, HK1, BK104, BK105, HB⟩ := hrel
  cases gk with
  | zero => exact absurd HA.out (by simp [impl_sums.l0])
  | succ k1 =>
   have H := HA.out
   clear HA
   simp only [impl_sums.l0] at H
   by_cases c6 : x10_1 < (wrap64 (a2 + 1))
   ·rw [if_pos c6] at H
    have c6b0 : decide (x10_1 < (wrap64 (a2 + 1))) = true := aH c6
    clear c6
    replace H := Option.bind_eq_some_iff.mp H
    obtain ⟨t106, A70, H⟩ := H
    replace H : (if t106 = true then ((impl_set_has.f l1_0 l1_1 (wrap64 (a2 - x10_1))).bind fun t107 => (if t107 = true then (some true) else (impl_sums.l0 k1 a2 (wrap64 (a2 + 1)) (wrap64 (x10_1 + 1)) l0_0 l0_1 l1_0 l1_1))) else (impl_sums.l0 k1 a2 (wrap64 (a2 + 1)) (wrap64 (x10_1 + 1)) l0_0 l0_1 l1_0 l1_1)) = some r := H
    have A7 := aM A70
    clear A70
    by_cases c8 : t106 = true
    ·subst c8
     replace H : ((impl_set_has.f l1_0 l1_1 (wrap64 (a2 - x10_1))).bind fun t107 => (if t107 = true then (some true) else (impl_sums.l0 k1 a2 (wrap64 (a2 + 1)) (wrap64 (x10_1 + 1)) l0_0 l0_1 l1_0 l1_1))) = some r := by rw [if_pos rfl] at H; exact H
     replace H := Option.bind_eq_some_iff.mp H
     obtain ⟨t107, A90, H⟩ := H
     replace H : (if t107 = true then (some true) else (impl_sums.l0 k1 a2 (wrap64 (a2 + 1)) (wrap64 (x10_1 + 1)) l0_0 l0_1 l1_0 l1_1)) = some r := H
     have A9 := aM A90
     clear A90
     by_cases c10 : t107 = true
     all_goals
      first
      |replace c10 := Bool.eq_false_iff.mpr c10
      |skip
      subst c10
      first
      |have H1 : (some true) = some r := by rw [if_pos rfl] at H; exact H
      |have H1 : (impl_sums.l0 k1 a2 (wrap64 (a2 + 1)) (wrap64 (x10_1 + 1)) l0_0 l0_1 l1_0 l1_1) = some r := by rw [if_neg (show ¬ (false = true) by decide)] at H; exact H
      clear H
      have H := H1
      clear H1
      first
      |obtain rfl := bU H
      |have H' := aM H
       clear H
      have hcz12_0 : wr.cell? ⟨gb104, 0, none⟩ = some (.slice A0_0 l0_0.length c0_0) := (aA BK104.out 0).trans rfl
      have hcz12_1 : wr.cell? ⟨gb104, 1, none⟩ = some (.slice A0_1 l0_1.length c0_1) := (aA BK104.out 1).trans rfl
      go_wp2_with (first | ((with_reducible refine aY (f := 33) rfl ?_); refine gL 15 Try.func33 #[.agg #[.slice A0_0 l0_0.length c0_0, .slice A0_1 l0_1.length c0_1], .int .i64 x10_1] ?_; (with_reducible refine (impl_set_has.calls _ _ l0_0 _ _ l0_1 x10_1 true _ ?side1 ?side2 ?side3 ?side4 A7.out).mono ?_); (case side1 => repeat (exact (bF HR0_0.out HB.out))); (case side2 => exact HC0_0.out); (case side3 => repeat (exact (bF HR0_1.out HB.out))); (case side4 => exact HC0_1.out); rintro e w13 ⟨rfl, hb⟩; refine ⟨_, rfl, ?_⟩; replace BK104 := aM (aD (g := gb104) (o := .cells #[.slice A0_0 l0_0.length c0_0, .slice A0_1 l0_1.length c0_1] 56 (0, 0)) BK104.out hb); replace BK105 := aM (aD (g := gb105) (o := .cells #[.slice A1_0 l1_0.length c1_0, .slice A1_1 l1_1.length c1_1] 56 (0, 0)) BK105.out hb); replace HB := aM (aE HB.out hb); (try clear hb); have hcz14_0 : w13.cell? ⟨gb105, 0, none⟩ = some (.slice A1_0 l1_0.length c1_0) := (aA BK105.out 0).trans rfl; have hcz14_1 : w13.cell? ⟨gb105, 1, none⟩ = some (.slice A1_1 l1_1.length c1_1) := (aA BK105.out 1).trans rfl) | (go_at_call 33; (with_reducible refine (impl_set_has.calls _ _ l1_0 _ _ l1_1 (wrap64 (a2 - x10_1)) _ _ ?side1 ?side2 ?side3 ?side4 A9.out).mono ?_); (case side1 => repeat (exact (bF HR1_0.out HB.out))); (case side2 => exact HC1_0.out); (case side3 => repeat (exact (bF HR1_1.out HB.out))); (case side4 => exact HC1_1.out); rintro e w15 ⟨rfl, hb⟩; replace BK104 := aM (aD (g := gb104) (o := .cells #[.slice A0_0 l0_0.length c0_0, .slice A0_1 l0_1.length c0_1] 56 (0, 0)) BK104.out hb); replace BK105 := aM (aD (g := gb105) (o := .cells #[.slice A1_0 l1_0.length c1_0, .slice A1_1 l1_1.length c1_1] 56 (0, 0)) BK105.out hb); replace HB := aM (aE HB.out hb); (try clear hb)))
      first
      |go_ret
       exact ⟨by first | rfl | (simp [*, errW_none, errW_some] <;> rfl), HB.out⟩
      |go_roundg k1
       case measure => have := HK1.out; omega
       case rel => exact ⟨(wrap64 (x10_1 + 1)), (by rfl), H', ⟨by have := HK1.out; omega⟩, ⟨by exact BK104.out⟩, ⟨by exact BK105.out⟩, ⟨HB.out⟩⟩
    ·replace c8 := Bool.eq_false_iff.mpr c8
     subst c8
     replace H : (impl_sums.l0 k1 a2 (wrap64 (a2 + 1)) (wrap64 (x10_1 + 1)) l0_0 l0_1 l1_0 l1_1) = some r := by rw [if_neg (show ¬ (false = true) by decide)] at H; exact H
     have H' := aM H
     clear H
     have hcz22_0 : wr.cell? ⟨gb104, 0, none⟩ = some (.slice A0_0 l0_0.length c0_0) := (aA BK104.out 0).trans rfl
     have hcz22_1 : wr.cell? ⟨gb104, 1, none⟩ = some (.slice A0_1 l0_1.length c0_1) := (aA BK104.out 1).trans rfl
     go_wp2_with (first | ((with_reducible refine aY (f := 33) rfl ?_); refine gL 15 Try.func33 #[.agg #[.slice A0_0 l0_0.length c0_0, .slice A0_1 l0_1.length c0_1], .int .i64 x10_1] ?_; (with_reducible refine (impl_set_has.calls _ _ l0_0 _ _ l0_1 x10_1 false _ ?side1 ?side2 ?side3 ?side4 A7.out).mono ?_); (case side1 => repeat (exact (bF HR0_0.out HB.out))); (case side2 => exact HC0_0.out); (case side3 => repeat (exact (bF HR0_1.out HB.out))); (case side4 => exact HC0_1.out); rintro e w23 ⟨rfl, hb⟩; refine ⟨_, rfl, ?_⟩; replace BK104 := aM (aD (g := gb104) (o := .cells #[.slice A0_0 l0_0.length c0_0, .slice A0_1 l0_1.length c0_1] 56 (0, 0)) BK104.out hb); replace BK105 := aM (aD (g := gb105) (o := .cells #[.slice A1_0 l1_0.length c1_0, .slice A1_1 l1_1.length c1_1] 56 (0, 0)) BK105.out hb); replace HB := aM (aE HB.out hb); (try clear hb)))
     go_roundg k1
     case measure => have := HK1.out; omega
     case rel => exact ⟨(wrap64 (x10_1 + 1)), (by rfl), H', ⟨by have := HK1.out; omega⟩, ⟨by exact BK104.out⟩, ⟨by exact BK105.out⟩, ⟨HB.out⟩⟩
   ·rw [if_neg c6] at H
    have c6b0 : decide (x10_1 < (wrap64 (a2 + 1))) = false := aK c6
    clear c6
    obtain rfl := bU H
    go_wp2
    go_ret
    exact ⟨by first | rfl | (simp [*, errW_none, errW_some] <;> rfl), HB.out⟩

end Go.Proofs.Ytedhckahjinieaa.Q
