/- The program's TermSame returns what the reference's returns, for all arguments; no condition beyond the statement's own. -/
import Derived.Test.YtedhckahjinieaaCFnExactTermSame7
import Derived.Test.YtedhckahjinieaaCFnExactTermSame9
namespace Go.Proofs.Ytedhckahjinieaa.Q
open Go.RowKit Go.Proofs.YtedhckahjinieaaW.PrintWords Go.Proofs.YtedhckahjinieaaW.PrintLast Go.Proofs.YtedhckahjinieaaW.PrintMore
attribute [local go_sem] max2_int min2_int max_two min_two max_three min_three max_four min_four   -- for this text's walks alone
set_option linter.unusedVariables false
set_option linter.unusedSimpArgs false
mutual
def spec_l1Read.j1 : Nat → ByteArray → Int → List Bool → List Bool → Option (List Bool × List Bool × Bool)
 | 0, _, _, _, _ => none
 | k + 1, x0, x5, x399000, x399001 => if (wrap64 (x5 + 2)) ≥ (x0.size : Int) then (spec_l1Read.j2 k x0 x5 true x399000 x399001) else (if 0 ≤ (wrap64 ((x0.size : Int) - 1)) then (if (wrap64 ((x0.size : Int) - 1)) < (x0.size : Int) then (spec_l1Read.j2 k x0 x5 ((bt x0 (wrap64 ((x0.size : Int) - 1))) != 41) x399000 x399001) else (none)) else (none))
def spec_l1Read.j2 : Nat → ByteArray → Int → Bool → List Bool → List Bool → Option (List Bool × List Bool × Bool)
 | 0, _, _, _, _, _ => none
 | k + 1, x0, x5, x37, x399000, x399001 => if x37 = true then (some (x399000, x399001, false)) else (if 0 ≤ x5 then (if x5 ≤ (x0.size : Int) then ((spec_l1Signs.f k (x0.extract 0 (x5 : Int).toNat)).bind fun bt399 => (if 0 ≤ (wrap64 (x5 + 1)) then (if (wrap64 (x5 + 1)) ≤ (wrap64 ((x0.size : Int) - 1)) then (if (wrap64 ((x0.size : Int) - 1)) ≤ (x0.size : Int) then ((spec_l1Signs.f k (x0.extract ((wrap64 (x5 + 1)) : Int).toNat ((wrap64 ((x0.size : Int) - 1)) : Int).toNat)).bind fun bt403 => (if bt399.2 = true then (if bt403.2 = true then (if (bt399.1.length : Int) > 60 then (some (x399000, x399001, false)) else (if (bt403.1.length : Int) > 60 then (some (x399000, x399001, false)) else (some (bt399.1, bt403.1, true)))) else (some (x399000, x399001, false))) else (some (x399000, x399001, false)))) else (none)) else (none)) else (none))) else (none)) else (none))
def spec_l1Read.l0 : Nat → ByteArray → Int → List Bool → List Bool → Option (List Bool × List Bool × Bool)
 | 0, _, _, _, _ => none
 | k + 1, x0, x5, x399000, x399001 => if x5 < (x0.size : Int) then (if 0 ≤ x5 then (if (bt x0 x5) = 40 then (spec_l1Read.j1 k x0 x5 x399000 x399001) else (spec_l1Read.l0 k x0 (wrap64 (x5 + 1)) x399000 x399001)) else (none)) else (spec_l1Read.j1 k x0 x5 x399000 x399001)
end
def spec_l1Read.f (k : Nat) (a0 : ByteArray) : Option (List Bool × List Bool × Bool) := spec_l1Read.l0 k a0 0 (([] : List Bool)) (([false] : List Bool))
theorem spec_l1Read.mono_l : ∀ k, (∀ y0 y1 y2 y3, LeO (spec_l1Read.j1 k y0 y1 y2 y3) (spec_l1Read.j1 (k + 1) y0 y1 y2 y3)) ∧ (∀ y0 y1 y2 y3 y4, LeO (spec_l1Read.j2 k y0 y1 y2 y3 y4) (spec_l1Read.j2 (k + 1) y0 y1 y2 y3 y4)) ∧ (∀ y0 y1 y2 y3, LeO (spec_l1Read.l0 k y0 y1 y2 y3) (spec_l1Read.l0 (k + 1) y0 y1 y2 y3))
 | 0 => ⟨fun _ _ _ _ r h => by simp [spec_l1Read.j1] at h, fun _ _ _ _ _ r h => by simp [spec_l1Read.j2] at h, fun _ _ _ _ r h => by simp [spec_l1Read.l0] at h⟩
 | k + 1 => by
  obtain ⟨ih0, ih1, ih2⟩ := spec_l1Read.mono_l k
  refine ⟨?_, ?_, ?_⟩
  ·intro y0 y1 y2 y3
   unfold spec_l1Read.j1
   repeat' first | (with_reducible exact ih1 _ _ _ _ _) | (with_reducible exact LeO.refl _) | (with_reducible refine LeO.ite ?_ ?_)
  ·intro y0 y1 y2 y3 y4
   unfold spec_l1Read.j2
   repeat' first | (with_reducible exact spec_l1Signs.mono _ _) | (with_reducible exact LeO.refl _) | (with_reducible refine LeO.ite ?_ ?_) | (with_reducible refine LeO.bind ?_ (fun _ => ?_))
  ·intro y0 y1 y2 y3
   unfold spec_l1Read.l0
   repeat' first | (with_reducible exact ih0 _ _ _ _) | (with_reducible exact ih2 _ _ _ _) | (with_reducible exact LeO.refl _) | (with_reducible refine LeO.ite ?_ ?_)
theorem spec_l1Read.mono : ∀ a0 k, LeO (spec_l1Read.f k a0) (spec_l1Read.f (k + 1) a0) := by
 intro a0 k
 obtain ⟨ih0, ih1, ih2⟩ := spec_l1Read.mono_l k
 unfold spec_l1Read.f
 repeat' (with_reducible exact ih2 _ _ _ _)
set_option maxHeartbeats 8000000 in
set_option maxRecDepth 100000 in
theorem spec_l1Read.calls (k : Nat) (a0 : ByteArray) (r1 : List Bool) (r2 : List Bool) (r3 : Bool) (w : World) (h : spec_l1Read.f k a0 = some (r1, r2, r3)) :
  Calls Try.prog 91 #[.string a0] w fun e w' => ∃ v0_ v1_ : Value, e = .returned (.tuple #[.agg #[v0_, v1_], .bool r3]) ∧ Kd.R Kd.bool 4 w' w.heap.size (fun k_ => some k_ ≠ (v1_ : Value).ownBlock) v0_ r1 ∧ Kd.R Kd.bool 4 w' w.heap.size (fun k_ => some k_ ≠ (v0_ : Value).ownBlock) v1_ r2 ∧ Below w.heap.size w w' := by
 have hu94 := Try.underlying94
 have HB := aM (Below.refl w.heap.size w)
 have H : (spec_l1Read.l0 k a0 0 (([] : List Bool)) (([false] : List Bool))) = some (r1, r2, r3) := h
 clear h
 obtain ⟨y392, hy392⟩ : ∃ y_ : List Bool, y_ = (([] : List Bool)) := ⟨_, rfl⟩
 replace H : (spec_l1Read.l0 k a0 0 y392 (([false] : List Bool))) = some (r1, r2, r3) := by first | (rw [hy392]; with_reducible exact H)
 have Ny392 := aM hy392
 clear hy392
 obtain ⟨y395, hy395⟩ : ∃ y_ : List Bool, y_ = (([false] : List Bool)) := ⟨_, rfl⟩
 replace H : (spec_l1Read.l0 k a0 0 y392 y395) = some (r1, r2, r3) := by first | (rw [hy395]; with_reducible exact H)
 have Ny395 := aM hy395
 clear hy395
 have HC2 := aM H
 clear H
 go_enter Try.func91, Try.ntmps91
 go_upto_block 0 with (first | ((with_reducible refine gate_dst (N := 2) rfl ?_); (try (refine gate_guard (by rfl) ?_; dsimp only)); refine box_event ?hg (N := 2) ?hd (cs := #[.slice none 0 0, .slice none 0 0]) (t := 94) ?hr ?_; (case hd => rfl); (case hg => rfl); (case hr => first | (go_simp; done)); intro gb391 hg w3 hbox hb; have BK391 := aM hbox; have GW391 := aM ((by rw [hg]; exact (below_size HB.out) : w.heap.size ≤ gb391)); have GE391 := aM ((by rw [hg]; exact (below_size HB.out) : w.heap.size ≤ gb391)); replace HB := aM (below_step HB.out hb); clear hb hbox hg) | ((with_reducible refine gate_dst (N := 10) rfl ?_); (try (refine gate_guard (by rfl) ?_; dsimp only)); refine Kd.R_lit Kd.bool _ 4 ?hg (N := 10) ?hd (xs := ([] : List Bool)) (inner := []) (ok := fun _ => True) (okp := fun _ => True) ?hr ?hp (fun _ hk => hk) trivial (Below.refl _ _) (Nat.le_refl _) (by simp) ?_; (case hd => rfl); (case hg => rfl); (case hr => first | (go_simp; done)); (case hp => exact (Reps.none _ _)); intro v393 w4 ho5 hb hg_ hnew_; clear hg_ hnew_; (rw [← Ny392.out] at ho5); have HO394 := aM (Kd.R_lower ho5 (below_size HB.out)); replace BK391 := aM (blk_below (g := gb391) (o := .cells #[.slice none 0 0, .slice none 0 0] 94 (0, 0)) BK391.out hb); replace HB := aM (below_step HB.out hb); clear hb ho5) | ((with_reducible refine gate_dst (N := 11) rfl ?_); (try (refine gate_guard (by rfl) ?_; dsimp only)); refine Kd.R_lit Kd.bool _ 4 ?hg (N := 11) ?hd (xs := ([false] : List Bool)) (inner := [.bool false]) (ok := fun _ => True) (okp := fun _ => True) ?hr ?hp (fun _ hk => hk) trivial (Below.refl _ _) (Nat.le_refl _) (by simp) ?_; (case hd => rfl); (case hg => rfl); (case hr => first | (go_simp; done)); (case hp => exact (Reps.one (show Kd.M Kd.bool _ _ _ false [.bool false] from rfl) (Reps.none _ _))); intro v396 w6 ho7 hb hg_ hnew_; clear hg_ hnew_; (rw [← Ny395.out] at ho7); have HO397 := aM (Kd.R_lower (Kd.R_new' ho7 (Kd.R_lt HO394.out)) (below_size HB.out)); replace HO394 := aM (Kd.R_elder' HO394.out (Kd.R_base ho7) hb); replace BK391 := aM (blk_below (g := gb391) (o := .cells #[.slice none 0 0, .slice none 0 0] 94 (0, 0)) BK391.out hb); replace HB := aM (below_step HB.out hb); clear hb ho7; obtain ⟨Ao8, co8, eo8⟩ := Kd.R_slice HO397.out; subst eo8; obtain ⟨Ao9, co9, eo9⟩ := Kd.R_slice HO394.out; subst eo9) | ((with_reducible refine gate_dst (N := 4) rfl ?_); (try (refine gate_guard (by rfl) ?_; dsimp only)); refine box_event ?hg (N := 4) ?hd (cs := #[.slice none 0 0, .slice none 0 0]) (t := 94) ?hr ?_; (case hd => rfl); (case hg => rfl); (case hr => first | (go_simp; done)); intro gb398 hg w10 hbox hb; replace HO394 := aM (Kd.R_below HO394.out hb); replace HO397 := aM (Kd.R_below HO397.out hb); have BK398 := aM hbox; have GW398 := aM ((by rw [hg]; exact (below_size HB.out) : w.heap.size ≤ gb398)); have GE398 := aM ((by rw [hg]; exact (below_size HB.out) : w.heap.size ≤ gb398)); replace HB := aM (below_step HB.out hb); have NB391_398 := aM ((by rw [hg]; exact Nat.ne_of_lt (blk_lt (g := gb391) (o := .cells #[.slice none 0 0, .slice none 0 0] 94 (0, 0)) BK391.out) : gb391 ≠ gb398)); have NB398_391 := aM ((by rw [hg]; exact Nat.ne_of_gt (blk_lt (g := gb391) (o := .cells #[.slice none 0 0, .slice none 0 0] 94 (0, 0)) BK391.out) : gb398 ≠ gb391)); replace BK391 := aM (blk_below (g := gb391) (o := .cells #[.slice none 0 0, .slice none 0 0] 94 (0, 0)) BK391.out hb); clear hb hbox hg; have hnb11 := NB398_391.out; have hnc11 := NB391_398.out; have hcz12_0 : w10.cell? ⟨gb398, 0, none⟩ = some (.slice none 0 0) := (blk_cell BK398.out 0).trans rfl; have hcz12_1 : w10.cell? ⟨gb398, 1, none⟩ = some (.slice none 0 0) := (blk_cell BK398.out 1).trans rfl; have hfz12_0 := blk_frozen BK398.out 0; have hfz12_1 := blk_frozen BK398.out 1))
 go_cut [5] (fun v5 wc => ∃ (kq : Nat) (x5_1 : Int), v5 = .int .i64 x5_1 ∧ Aside0 (spec_l1Read.j1 kq a0 x5_1 y392 y395 = some (r1, r2, r3)) ∧ Aside0 (kq ≤ k) ∧ Aside0 (Kd.R Kd.bool 4 wc w.heap.size (fun k_ => some k_ ≠ ((.slice Ao8 y395.length co8) : Value).ownBlock) (.slice Ao9 y392.length co9) y392) ∧ Aside0 (Kd.R Kd.bool 4 wc w.heap.size (fun k_ => some k_ ≠ ((.slice Ao9 y392.length co9) : Value).ownBlock) (.slice Ao8 y395.length co8) y395) ∧ Aside0 (wc.heap[gb391]? = some (.cells #[(.slice none 0 0), (.slice none 0 0)] 94 (0, 0))) ∧ Aside0 (wc.heap[gb398]? = some (.cells #[(.slice Ao9 y392.length co9), (.slice Ao8 y395.length co8)] 94 (0, 0))) ∧ Aside0 (Below w.heap.size w wc))
 case first =>
  have H := HC2.out
  clear HC2
  have H' := aM H
  clear H
  go_wp2
  go_loopg [5] k (fun kq v5 w' => ∃ (x5_1 : Int), v5 = .int .i64 x5_1 ∧ Aside0 (spec_l1Read.l0 kq a0 x5_1 y392 y395 = some (r1, r2, r3)) ∧ Aside0 (kq ≤ k) ∧ Aside0 (Kd.R Kd.bool 4 w' w.heap.size (fun k_ => some k_ ≠ ((.slice Ao8 y395.length co8) : Value).ownBlock) (.slice Ao9 y392.length co9) y392) ∧ Aside0 (Kd.R Kd.bool 4 w' w.heap.size (fun k_ => some k_ ≠ ((.slice Ao9 y392.length co9) : Value).ownBlock) (.slice Ao8 y395.length co8) y395) ∧ Aside0 (w'.heap[gb391]? = some (.cells #[(.slice none 0 0), (.slice none 0 0)] 94 (0, 0))) ∧ Aside0 (w'.heap[gb398]? = some (.cells #[(.slice Ao9 y392.length co9), (.slice Ao8 y395.length co8)] 94 (0, 0))) ∧ Aside0 (Below w.heap.size w w'))
  case atStart => exact ⟨(0), (by rfl), H', ⟨Nat.le_refl _⟩, ⟨by exact Kd.R_mono (Kd.R_far (p := ⟨gb398, 1, none⟩) (Kd.R_far (p := ⟨gb398, 0, none⟩) (Kd.R_types HO394.out BK398.out (by decide)) (fun _ hk => hk.2) (.slice Ao9 y392.length co9)) (fun _ hk => hk.2) (.slice Ao8 y395.length co8)) (fun _ hk => hk.1.2)⟩, ⟨by exact Kd.R_mono (Kd.R_far (p := ⟨gb398, 1, none⟩) (Kd.R_far (p := ⟨gb398, 0, none⟩) (Kd.R_types HO397.out BK398.out (by decide)) (fun _ hk => hk.2) (.slice Ao9 y392.length co9)) (fun _ hk => hk.2) (.slice Ao8 y395.length co8)) (fun _ hk => hk.1.2)⟩, ⟨by refine blk_far ?_ NB391_398.out _; refine blk_far ?_ NB391_398.out _; exact BK391.out⟩, ⟨by refine blk_put (cs := #[.slice Ao9 y392.length co9, .slice none 0 0]) ?_ 1 _ rfl; refine blk_put (cs := #[.slice none 0 0, .slice none 0 0]) ?_ 0 _ rfl; exact BK398.out⟩, ⟨by repeat (first | (with_reducible first | exact HB.out | refine bS ?_ GE398.out))⟩⟩
  case round =>
   clear H'
   try clear hcz12_0
   try clear hcz12_1
   try clear hfz12_0
   try clear hfz12_1
   obtain ⟨x5_1, rfl, HA, HK1, HO_399000, HO_399001, BK391, BK398, HB⟩ := hrel
   cases gk with
   | zero => exact absurd HA.out (by simp [spec_l1Read.l0])
   | succ k1 =>
    have H := HA.out
    clear HA
    simp only [spec_l1Read.l0] at H
    by_cases c13 : x5_1 < (a0.size : Int)
    ·rw [if_pos c13] at H
     have c13b0 : decide (x5_1 < (a0.size : Int)) = true := decide_eq_true c13
     clear c13
     by_cases c14 : 0 ≤ x5_1
     ·rw [if_pos c14] at H
      have c14b0 : decide (0 ≤ x5_1) = true := decide_eq_true c14
      clear c14
      by_cases c16 : (bt a0 x5_1) = 40
      ·rw [if_pos c16] at H
       have c16b0 : ((bt a0 x5_1) == 40) = true := beq_iff_eq.mpr c16
       have c16b1 : ((bt a0 x5_1) != 40) = false := bne_eq_false_iff_eq.mpr c16
       clear c16
       have H' := aM H
       clear H
       have p15 : 0 ≤ (x5_1 : Int) := of_decide_eq_true (by (with_reducible assumption))
       have q15 : x5_1 < (a0.size : Int) := of_decide_eq_true (by (with_reducible assumption))
       have hx15 := bt_at a0 x5_1
       replace p15 := eq_true p15
       replace q15 := eq_true q15
       go_wp2
       go_meet
       case rel => exact ⟨_, (x5_1), (by rfl), H', ⟨by have := HK1.out; omega⟩, ⟨by exact HO_399000.out⟩, ⟨by exact HO_399001.out⟩, ⟨by exact BK391.out⟩, ⟨by exact BK398.out⟩, ⟨HB.out⟩⟩
      ·rw [if_neg c16] at H
       have c16b0 : ((bt a0 x5_1) == 40) = false := beq_eq_false_iff_ne.mpr c16
       have c16b1 : ((bt a0 x5_1) != 40) = true := bne_iff_ne.mpr c16
       have H' := aM H
       clear H
       have p15 : 0 ≤ (x5_1 : Int) := of_decide_eq_true (by (with_reducible assumption))
       have q15 : x5_1 < (a0.size : Int) := of_decide_eq_true (by (with_reducible assumption))
       have hx15 := bt_at a0 x5_1
       replace p15 := eq_true p15
       replace q15 := eq_true q15
       go_wp2
       go_roundg k1
       case measure => have := HK1.out; omega
       case rel => exact ⟨(wrap64 (x5_1 + 1)), (by rfl), H', ⟨by have := HK1.out; omega⟩, ⟨by exact HO_399000.out⟩, ⟨by exact HO_399001.out⟩, ⟨by exact BK391.out⟩, ⟨by exact BK398.out⟩, ⟨HB.out⟩⟩
     ·rw [if_neg c14] at H
      exact absurd H (by simp)
    ·rw [if_neg c13] at H
     have c13b0 : decide (x5_1 < (a0.size : Int)) = false := decide_eq_false c13
     clear c13
     have H' := aM H
     clear H
     go_wp2
     go_meet
     case rel => exact ⟨_, (x5_1), (by rfl), H', ⟨by have := HK1.out; omega⟩, ⟨by exact HO_399000.out⟩, ⟨by exact HO_399001.out⟩, ⟨by exact BK391.out⟩, ⟨by exact BK398.out⟩, ⟨HB.out⟩⟩
 case rest =>
  clear HC2
  try clear hcz12_0
  try clear hcz12_1
  try clear hfz12_0
  try clear hfz12_1
  obtain ⟨kq, x5_1, rfl, HA, HJ1, HO_399000, HO_399001, BK391, BK398, HB⟩ := hcut
  cases kq with
  | zero => exact absurd HA.out (by simp [spec_l1Read.j1])
  | succ kj1 =>
   have H := HA.out
   clear HA
   simp only [spec_l1Read.j1] at H
   have HC17 := aM H
   clear H
   go_upto_region 5 with (fail)
   go_cut [37] (fun v37 wc => ∃ (kq : Nat) (x37_16 : Bool), v37 = .bool x37_16 ∧ Aside0 (spec_l1Read.j2 kq a0 x5_1 x37_16 y392 y395 = some (r1, r2, r3)) ∧ Aside0 (kq ≤ kj1) ∧ Aside0 (Kd.R Kd.bool 4 wc w.heap.size (fun k_ => some k_ ≠ ((.slice Ao8 y395.length co8) : Value).ownBlock) (.slice Ao9 y392.length co9) y392) ∧ Aside0 (Kd.R Kd.bool 4 wc w.heap.size (fun k_ => some k_ ≠ ((.slice Ao9 y392.length co9) : Value).ownBlock) (.slice Ao8 y395.length co8) y395) ∧ Aside0 (wc.heap[gb391]? = some (.cells #[(.slice none 0 0), (.slice none 0 0)] 94 (0, 0))) ∧ Aside0 (wc.heap[gb398]? = some (.cells #[(.slice Ao9 y392.length co9), (.slice Ao8 y395.length co8)] 94 (0, 0))) ∧ Aside0 (Below w.heap.size w wc))
   case first =>
    have H := HC17.out
    clear HC17
    by_cases c18 : (wrap64 (x5_1 + 2)) ≥ (a0.size : Int)
    ·rw [if_pos c18] at H
     have c18b0 : decide ((a0.size : Int) ≤ (wrap64 (x5_1 + 2))) = true := decide_eq_true c18
     clear c18
     have H' := aM H
     clear H
     go_wp2
     go_meet
     case rel => exact ⟨_, (true), (by rfl), H', ⟨by have := HJ1.out; omega⟩, ⟨by exact HO_399000.out⟩, ⟨by exact HO_399001.out⟩, ⟨by exact BK391.out⟩, ⟨by exact BK398.out⟩, ⟨HB.out⟩⟩
    ·rw [if_neg c18] at H
     have c18b0 : decide ((a0.size : Int) ≤ (wrap64 (x5_1 + 2))) = false := decide_eq_false c18
     clear c18
     obtain ⟨ji19, hji19⟩ : ∃ j_ : Int, (wrap64 ((a0.size : Int) - 1)) = j_ := ⟨_, rfl⟩
     replace H : (if 0 ≤ (ji19) then (if (ji19) < (a0.size : Int) then (spec_l1Read.j2 kj1 a0 x5_1 ((bt a0 (ji19)) != 41) y392 y395) else (none)) else (none)) = some (r1, r2, r3) := by first | (rw [hji19] at H; exact H)
     have hji19w : (IntKind.i64.wrap ((a0.size : Int) - 1)) = ji19 := (i64_w _).trans hji19
     by_cases c20 : 0 ≤ (ji19)
     ·rw [if_pos c20] at H
      have c20b0 : decide (0 ≤ (ji19)) = true := decide_eq_true c20
      clear c20
      by_cases c21 : (ji19) < (a0.size : Int)
      ·rw [if_pos c21] at H
       have c21b0 : decide ((ji19) < (a0.size : Int)) = true := decide_eq_true c21
       clear c21
       have H' := aM H
       clear H
       have p22 : 0 ≤ ((ji19) : Int) := of_decide_eq_true (by (with_reducible assumption))
       have q22 : (ji19) < (a0.size : Int) := of_decide_eq_true (by (with_reducible assumption))
       have hx22 := bt_at a0 (ji19)
       replace p22 := eq_true p22
       replace q22 := eq_true q22
       go_wp2
       go_meet
       case rel => exact ⟨_, (((bt a0 (ji19)) != 41)), (by rfl), H', ⟨by have := HJ1.out; omega⟩, ⟨by exact HO_399000.out⟩, ⟨by exact HO_399001.out⟩, ⟨by exact BK391.out⟩, ⟨by exact BK398.out⟩, ⟨HB.out⟩⟩
      ·rw [if_neg c21] at H
       exact absurd H (by simp)
     ·rw [if_neg c20] at H
      exact absurd H (by simp)
   case rest =>
    clear HC17
    obtain ⟨kq, x37_16, rfl, HA, HJ16, HO_399000, HO_399001, BK391, BK398, HB⟩ := hcut
    cases kq with
    | zero => exact absurd HA.out (by simp [spec_l1Read.j2])
    | succ kj16 =>
     have H := HA.out
     clear HA
     simp only [spec_l1Read.j2] at H
     by_cases c23 : x37_16 = true
     ·subst c23
      replace H : (some (y392, y395, false)) = some (r1, r2, r3) := by rw [if_pos rfl] at H; exact H
      simp only [Option.some.injEq, Prod.mk.injEq] at H
      obtain ⟨rfl, rfl, rfl⟩ := H
      have hnb24 := NB398_391.out
      have hnc24 := NB391_398.out
      have hcz25_0 : wc.cell? ⟨gb398, 0, none⟩ = some (.slice Ao9 y392.length co9) := (blk_cell BK398.out 0).trans rfl
      have hcz25_1 : wc.cell? ⟨gb398, 1, none⟩ = some (.slice Ao8 y395.length co8) := (blk_cell BK398.out 1).trans rfl
      have hfz25_0 := blk_frozen BK398.out 0
      have hfz25_1 := blk_frozen BK398.out 1
      have hcz26_0 : wc.cell? ⟨gb391, 0, none⟩ = some (.slice none 0 0) := (blk_cell BK391.out 0).trans rfl
      have hcz26_1 : wc.cell? ⟨gb391, 1, none⟩ = some (.slice none 0 0) := (blk_cell BK391.out 1).trans rfl
      have hfz26_0 := blk_frozen BK391.out 0
      have hfz26_1 := blk_frozen BK391.out 1
      go_wp2
      refine bodyPost_ret (results_ct rfl _ _ gb391 94 #[.slice Ao9 y392.length co9, .slice Ao8 y395.length co8] (0, 0) _ rfl (by refine blk_put (cs := #[.slice Ao9 y392.length co9, .slice none 0 0]) ?_ 1 _ rfl; refine blk_put (cs := #[.slice none 0 0, .slice none 0 0]) ?_ 0 _ rfl; exact BK391.out) Try.underlying94 rfl (by kernel_rfl)) rfl ?_
      exact ⟨_, _, by first | rfl | (simp [*, errW_none, errW_some] <;> rfl), by exact Kd.R_mono (Kd.R_far (p := ⟨gb391, 1, none⟩) (Kd.R_far (p := ⟨gb391, 0, none⟩) (Kd.R_types HO_399000.out BK391.out (by decide)) (fun _ hk => hk.2) (.slice Ao9 y392.length co9)) (fun _ hk => hk.2) (.slice Ao8 y395.length co8)) (fun _ hk => hk.1), by exact Kd.R_mono (Kd.R_far (p := ⟨gb391, 1, none⟩) (Kd.R_far (p := ⟨gb391, 0, none⟩) (Kd.R_types HO_399001.out BK391.out (by decide)) (fun _ hk => hk.2) (.slice Ao9 y392.length co9)) (fun _ hk => hk.2) (.slice Ao8 y395.length co8)) (fun _ hk => hk.1), by repeat (first | (with_reducible first | exact HB.out | refine bS ?_ GE391.out))⟩
     ·replace c23 := Bool.eq_false_iff.mpr c23
      subst c23
      replace H : (if 0 ≤ x5_1 then (if x5_1 ≤ (a0.size : Int) then ((spec_l1Signs.f kj16 (a0.extract 0 (x5_1 : Int).toNat)).bind fun bt399 => (if 0 ≤ (wrap64 (x5_1 + 1)) then (if (wrap64 (x5_1 + 1)) ≤ (wrap64 ((a0.size : Int) - 1)) then (if (wrap64 ((a0.size : Int) - 1)) ≤ (a0.size : Int) then ((spec_l1Signs.f kj16 (a0.extract ((wrap64 (x5_1 + 1)) : Int).toNat ((wrap64 ((a0.size : Int) - 1)) : Int).toNat)).bind fun bt403 => (if bt399.2 = true then (if bt403.2 = true then (if (bt399.1.length : Int) > 60 then (some (y392, y395, false)) else (if (bt403.1.length : Int) > 60 then (some (y392, y395, false)) else (some (bt399.1, bt403.1, true)))) else (some (y392, y395, false))) else (some (y392, y395, false)))) else (none)) else (none)) else (none))) else (none)) else (none)) = some (r1, r2, r3) := by rw [if_neg (show ¬ (false = true) by decide)] at H; exact H
      by_cases c27 : 0 ≤ x5_1
      ·rw [if_pos c27] at H
       have c27b0 := eq_true c27
       have c27b1 : decide (0 ≤ x5_1) = true := decide_eq_true c27
       clear c27
       by_cases c28 : x5_1 ≤ (a0.size : Int)
       ·rw [if_pos c28] at H
        have c28b0 := eq_true c28
        have c28b1 : decide (x5_1 ≤ (a0.size : Int)) = true := decide_eq_true c28
        clear c28
        replace H := Option.bind_eq_some_iff.mp H
        obtain ⟨⟨t399, t400⟩, A290, H⟩ := H
        replace H : (if 0 ≤ (wrap64 (x5_1 + 1)) then (if (wrap64 (x5_1 + 1)) ≤ (wrap64 ((a0.size : Int) - 1)) then (if (wrap64 ((a0.size : Int) - 1)) ≤ (a0.size : Int) then ((spec_l1Signs.f kj16 (a0.extract ((wrap64 (x5_1 + 1)) : Int).toNat ((wrap64 ((a0.size : Int) - 1)) : Int).toNat)).bind fun bt403 => (if t400 = true then (if bt403.2 = true then (if (t399.length : Int) > 60 then (some (y392, y395, false)) else (if (bt403.1.length : Int) > 60 then (some (y392, y395, false)) else (some (t399, bt403.1, true)))) else (some (y392, y395, false))) else (some (y392, y395, false)))) else (none)) else (none)) else (none)) = some (r1, r2, r3) := H
        have A29 := aM A290
        clear A290
        obtain ⟨ji30, hji30⟩ : ∃ j_ : Int, (wrap64 (x5_1 + 1)) = j_ := ⟨_, rfl⟩
        replace H : (if 0 ≤ (ji30) then (if (ji30) ≤ (wrap64 ((a0.size : Int) - 1)) then (if (wrap64 ((a0.size : Int) - 1)) ≤ (a0.size : Int) then ((spec_l1Signs.f kj16 (a0.extract ((ji30) : Int).toNat ((wrap64 ((a0.size : Int) - 1)) : Int).toNat)).bind fun bt403 => (if t400 = true then (if bt403.2 = true then (if (t399.length : Int) > 60 then (some (y392, y395, false)) else (if (bt403.1.length : Int) > 60 then (some (y392, y395, false)) else (some (t399, bt403.1, true)))) else (some (y392, y395, false))) else (some (y392, y395, false)))) else (none)) else (none)) else (none)) = some (r1, r2, r3) := by first | (rw [hji30] at H; exact H)
        have hji30w : (IntKind.i64.wrap (x5_1 + 1)) = ji30 := (i64_w _).trans hji30
        by_cases c31 : 0 ≤ (ji30)
        ·rw [if_pos c31] at H
         have c31b0 := eq_true c31
         have c31b1 : decide (0 ≤ (ji30)) = true := decide_eq_true c31
         clear c31
         by_cases c32 : (ji30) ≤ (wrap64 ((a0.size : Int) - 1))
         ·rw [if_pos c32] at H
          have c32b0 := eq_true c32
          have c32b1 : decide ((ji30) ≤ (wrap64 ((a0.size : Int) - 1))) = true := decide_eq_true c32
          clear c32
          by_cases c33 : (wrap64 ((a0.size : Int) - 1)) ≤ (a0.size : Int)
          ·rw [if_pos c33] at H
           have c33b0 := eq_true c33
           have c33b1 : decide ((wrap64 ((a0.size : Int) - 1)) ≤ (a0.size : Int)) = true := decide_eq_true c33
           clear c33
           replace H := Option.bind_eq_some_iff.mp H
           obtain ⟨⟨t403, t404⟩, A340, H⟩ := H
           replace H : (if t400 = true then (if t404 = true then (if (t399.length : Int) > 60 then (some (y392, y395, false)) else (if (t403.length : Int) > 60 then (some (y392, y395, false)) else (some (t399, t403, true)))) else (some (y392, y395, false))) else (some (y392, y395, false))) = some (r1, r2, r3) := H
           have A34 := aM A340
           clear A340
           by_cases c35 : t400 = true
           ·subst c35
            replace H : (if t404 = true then (if (t399.length : Int) > 60 then (some (y392, y395, false)) else (if (t403.length : Int) > 60 then (some (y392, y395, false)) else (some (t399, t403, true)))) else (some (y392, y395, false))) = some (r1, r2, r3) := by rw [if_pos rfl] at H; exact H
            by_cases c36 : t404 = true
            ·subst c36
             replace H : (if (t399.length : Int) > 60 then (some (y392, y395, false)) else (if (t403.length : Int) > 60 then (some (y392, y395, false)) else (some (t399, t403, true)))) = some (r1, r2, r3) := by rw [if_pos rfl] at H; exact H
             by_cases c37 : (t399.length : Int) > 60
             ·rw [if_pos c37] at H
              have c37b0 : decide (60 < (t399.length : Int)) = true := decide_eq_true c37
              have c37b1 : decide (60 < t399.length) = true := decide_eq_true (by omega)
              clear c37
              simp only [Option.some.injEq, Prod.mk.injEq] at H
              obtain ⟨rfl, rfl, rfl⟩ := H
              go_wp2_with (first | ((with_reducible refine gate_callee (f := 104) rfl ?_); refine goesL_ (some 43) rfl rfl Try.func104 (by kernel_rfl) rfl #[.string (a0.extract 0 (x5_1 : Int).toNat)] rfl (by (try simp only [List.map_toArray, List.map_cons, List.map_nil]); rfl) ?_; (with_reducible refine (spec_l1Signs.calls kj16 (a0.extract 0 (x5_1 : Int).toNat) t399 true _ A29.out).mono ?_); rintro e w38 ⟨v401, rfl, ho0, hb⟩; refine ⟨_, rfl, ?_⟩; have HO402 := aM (Kd.R_lower (Kd.R_new' (Kd.R_new' ho0 (Kd.R_lt HO_399000.out)) (Kd.R_lt HO_399001.out)) (below_size HB.out)); replace HO_399000 := aM (Kd.R_elder' HO_399000.out (Kd.R_base ho0) hb); replace HO_399001 := aM (Kd.R_elder' HO_399001.out (Kd.R_base ho0) hb); replace BK391 := aM (blk_below (g := gb391) (o := .cells #[.slice none 0 0, .slice none 0 0] 94 (0, 0)) BK391.out hb); replace BK398 := aM (blk_below (g := gb398) (o := .cells #[.slice Ao9 y392.length co9, .slice Ao8 y395.length co8] 94 (0, 0)) BK398.out hb); replace HB := aM (below_step HB.out hb); (try clear hb); (try clear ho0)) | ((with_reducible refine gate_callee (f := 104) rfl ?_); refine goesL_ (some 54) rfl rfl Try.func104 (by kernel_rfl) rfl #[.string (a0.extract ((ji30) : Int).toNat ((wrap64 ((a0.size : Int) - 1)) : Int).toNat)] rfl (by (try simp only [List.map_toArray, List.map_cons, List.map_nil]); rfl) ?_; (with_reducible refine (spec_l1Signs.calls kj16 (a0.extract ((ji30) : Int).toNat ((wrap64 ((a0.size : Int) - 1)) : Int).toNat) t403 true _ A34.out).mono ?_); rintro e w39 ⟨v405, rfl, ho0, hb⟩; refine ⟨_, rfl, ?_⟩; have HO406 := aM (Kd.R_lower (Kd.R_new' (Kd.R_new' (Kd.R_new' ho0 (Kd.R_lt HO_399000.out)) (Kd.R_lt HO_399001.out)) (Kd.R_lt HO402.out)) (below_size HB.out)); replace HO_399000 := aM (Kd.R_elder' HO_399000.out (Kd.R_base ho0) hb); replace HO_399001 := aM (Kd.R_elder' HO_399001.out (Kd.R_base ho0) hb); replace HO402 := aM (Kd.R_elder' HO402.out (Kd.R_base ho0) hb); replace BK391 := aM (blk_below (g := gb391) (o := .cells #[.slice none 0 0, .slice none 0 0] 94 (0, 0)) BK391.out hb); replace BK398 := aM (blk_below (g := gb398) (o := .cells #[.slice Ao9 y392.length co9, .slice Ao8 y395.length co8] 94 (0, 0)) BK398.out hb); replace HB := aM (below_step HB.out hb); (try clear hb); (try clear ho0); obtain ⟨Ao40, co40, eo40⟩ := Kd.R_slice HO402.out; subst eo40; have hnb41 := NB398_391.out; have hnc41 := NB391_398.out; have hcz42_0 : w39.cell? ⟨gb398, 0, none⟩ = some (.slice Ao9 y392.length co9) := (blk_cell BK398.out 0).trans rfl; have hcz42_1 : w39.cell? ⟨gb398, 1, none⟩ = some (.slice Ao8 y395.length co8) := (blk_cell BK398.out 1).trans rfl; have hfz42_0 := blk_frozen BK398.out 0; have hfz42_1 := blk_frozen BK398.out 1; have hcz43_0 : w39.cell? ⟨gb391, 0, none⟩ = some (.slice none 0 0) := (blk_cell BK391.out 0).trans rfl; have hcz43_1 : w39.cell? ⟨gb391, 1, none⟩ = some (.slice none 0 0) := (blk_cell BK391.out 1).trans rfl; have hfz43_0 := blk_frozen BK391.out 0; have hfz43_1 := blk_frozen BK391.out 1))
              refine bodyPost_ret (results_ct rfl _ _ gb391 94 #[.slice Ao9 y392.length co9, .slice Ao8 y395.length co8] (0, 0) _ rfl (by refine blk_put (cs := #[.slice Ao9 y392.length co9, .slice none 0 0]) ?_ 1 _ rfl; refine blk_put (cs := #[.slice none 0 0, .slice none 0 0]) ?_ 0 _ rfl; exact BK391.out) Try.underlying94 rfl (by kernel_rfl)) rfl ?_
              exact ⟨_, _, by first | rfl | (simp [*, errW_none, errW_some] <;> rfl), by exact Kd.R_mono (Kd.R_far (p := ⟨gb391, 1, none⟩) (Kd.R_far (p := ⟨gb391, 0, none⟩) (Kd.R_types HO_399000.out BK391.out (by decide)) (fun _ hk => hk.2) (.slice Ao9 y392.length co9)) (fun _ hk => hk.2) (.slice Ao8 y395.length co8)) (fun _ hk => hk.1.1.1), by exact Kd.R_mono (Kd.R_far (p := ⟨gb391, 1, none⟩) (Kd.R_far (p := ⟨gb391, 0, none⟩) (Kd.R_types HO_399001.out BK391.out (by decide)) (fun _ hk => hk.2) (.slice Ao9 y392.length co9)) (fun _ hk => hk.2) (.slice Ao8 y395.length co8)) (fun _ hk => hk.1.1.1), by repeat (first | (with_reducible first | exact HB.out | refine bS ?_ GE391.out))⟩
             ·rw [if_neg c37] at H
              have c37b0 : decide (60 < (t399.length : Int)) = false := decide_eq_false c37
              have c37b1 : decide (60 < t399.length) = false := decide_eq_false (by omega)
              clear c37
              by_cases c44 : (t403.length : Int) > 60
              ·rw [if_pos c44] at H
               have c44b0 : decide (60 < (t403.length : Int)) = true := decide_eq_true c44
               have c44b1 : decide (60 < t403.length) = true := decide_eq_true (by omega)
               clear c44
               simp only [Option.some.injEq, Prod.mk.injEq] at H
               obtain ⟨rfl, rfl, rfl⟩ := H
               go_wp2_with (first | ((with_reducible refine gate_callee (f := 104) rfl ?_); refine goesL_ (some 43) rfl rfl Try.func104 (by kernel_rfl) rfl #[.string (a0.extract 0 (x5_1 : Int).toNat)] rfl (by (try simp only [List.map_toArray, List.map_cons, List.map_nil]); rfl) ?_; (with_reducible refine (spec_l1Signs.calls kj16 (a0.extract 0 (x5_1 : Int).toNat) t399 true _ A29.out).mono ?_); rintro e w45 ⟨v401, rfl, ho0, hb⟩; refine ⟨_, rfl, ?_⟩; have HO402 := aM (Kd.R_lower (Kd.R_new' (Kd.R_new' ho0 (Kd.R_lt HO_399000.out)) (Kd.R_lt HO_399001.out)) (below_size HB.out)); replace HO_399000 := aM (Kd.R_elder' HO_399000.out (Kd.R_base ho0) hb); replace HO_399001 := aM (Kd.R_elder' HO_399001.out (Kd.R_base ho0) hb); replace BK391 := aM (blk_below (g := gb391) (o := .cells #[.slice none 0 0, .slice none 0 0] 94 (0, 0)) BK391.out hb); replace BK398 := aM (blk_below (g := gb398) (o := .cells #[.slice Ao9 y392.length co9, .slice Ao8 y395.length co8] 94 (0, 0)) BK398.out hb); replace HB := aM (below_step HB.out hb); (try clear hb); (try clear ho0)) | ((with_reducible refine gate_callee (f := 104) rfl ?_); refine goesL_ (some 54) rfl rfl Try.func104 (by kernel_rfl) rfl #[.string (a0.extract ((ji30) : Int).toNat ((wrap64 ((a0.size : Int) - 1)) : Int).toNat)] rfl (by (try simp only [List.map_toArray, List.map_cons, List.map_nil]); rfl) ?_; (with_reducible refine (spec_l1Signs.calls kj16 (a0.extract ((ji30) : Int).toNat ((wrap64 ((a0.size : Int) - 1)) : Int).toNat) t403 true _ A34.out).mono ?_); rintro e w46 ⟨v405, rfl, ho0, hb⟩; refine ⟨_, rfl, ?_⟩; have HO406 := aM (Kd.R_lower (Kd.R_new' (Kd.R_new' (Kd.R_new' ho0 (Kd.R_lt HO_399000.out)) (Kd.R_lt HO_399001.out)) (Kd.R_lt HO402.out)) (below_size HB.out)); replace HO_399000 := aM (Kd.R_elder' HO_399000.out (Kd.R_base ho0) hb); replace HO_399001 := aM (Kd.R_elder' HO_399001.out (Kd.R_base ho0) hb); replace HO402 := aM (Kd.R_elder' HO402.out (Kd.R_base ho0) hb); replace BK391 := aM (blk_below (g := gb391) (o := .cells #[.slice none 0 0, .slice none 0 0] 94 (0, 0)) BK391.out hb); replace BK398 := aM (blk_below (g := gb398) (o := .cells #[.slice Ao9 y392.length co9, .slice Ao8 y395.length co8] 94 (0, 0)) BK398.out hb); replace HB := aM (below_step HB.out hb); (try clear hb); (try clear ho0); obtain ⟨Ao47, co47, eo47⟩ := Kd.R_slice HO402.out; subst eo47; obtain ⟨Ao48, co48, eo48⟩ := Kd.R_slice HO406.out; subst eo48; have hnb49 := NB398_391.out; have hnc49 := NB391_398.out; have hcz50_0 : w46.cell? ⟨gb398, 0, none⟩ = some (.slice Ao9 y392.length co9) := (blk_cell BK398.out 0).trans rfl; have hcz50_1 : w46.cell? ⟨gb398, 1, none⟩ = some (.slice Ao8 y395.length co8) := (blk_cell BK398.out 1).trans rfl; have hfz50_0 := blk_frozen BK398.out 0; have hfz50_1 := blk_frozen BK398.out 1; have hcz51_0 : w46.cell? ⟨gb391, 0, none⟩ = some (.slice none 0 0) := (blk_cell BK391.out 0).trans rfl; have hcz51_1 : w46.cell? ⟨gb391, 1, none⟩ = some (.slice none 0 0) := (blk_cell BK391.out 1).trans rfl; have hfz51_0 := blk_frozen BK391.out 0; have hfz51_1 := blk_frozen BK391.out 1))
               refine bodyPost_ret (results_ct rfl _ _ gb391 94 #[.slice Ao9 y392.length co9, .slice Ao8 y395.length co8] (0, 0) _ rfl (by refine blk_put (cs := #[.slice Ao9 y392.length co9, .slice none 0 0]) ?_ 1 _ rfl; refine blk_put (cs := #[.slice none 0 0, .slice none 0 0]) ?_ 0 _ rfl; exact BK391.out) Try.underlying94 rfl (by kernel_rfl)) rfl ?_
               exact ⟨_, _, by first | rfl | (simp [*, errW_none, errW_some] <;> rfl), by exact Kd.R_mono (Kd.R_far (p := ⟨gb391, 1, none⟩) (Kd.R_far (p := ⟨gb391, 0, none⟩) (Kd.R_types HO_399000.out BK391.out (by decide)) (fun _ hk => hk.2) (.slice Ao9 y392.length co9)) (fun _ hk => hk.2) (.slice Ao8 y395.length co8)) (fun _ hk => hk.1.1.1), by exact Kd.R_mono (Kd.R_far (p := ⟨gb391, 1, none⟩) (Kd.R_far (p := ⟨gb391, 0, none⟩) (Kd.R_types HO_399001.out BK391.out (by decide)) (fun _ hk => hk.2) (.slice Ao9 y392.length co9)) (fun _ hk => hk.2) (.slice Ao8 y395.length co8)) (fun _ hk => hk.1.1.1), by repeat (first | (with_reducible first | exact HB.out | refine bS ?_ GE391.out))⟩
              ·rw [if_neg c44] at H
               have c44b0 : decide (60 < (t403.length : Int)) = false := decide_eq_false c44
               have c44b1 : decide (60 < t403.length) = false := decide_eq_false (by omega)
               clear c44
               simp only [Option.some.injEq, Prod.mk.injEq] at H
               obtain ⟨rfl, rfl, rfl⟩ := H
               go_wp2_with (first | ((with_reducible refine gate_callee (f := 104) rfl ?_); refine goesL_ (some 43) rfl rfl Try.func104 (by kernel_rfl) rfl #[.string (a0.extract 0 (x5_1 : Int).toNat)] rfl (by (try simp only [List.map_toArray, List.map_cons, List.map_nil]); rfl) ?_; (with_reducible refine (spec_l1Signs.calls kj16 (a0.extract 0 (x5_1 : Int).toNat) t399 true _ A29.out).mono ?_); rintro e w52 ⟨v401, rfl, ho0, hb⟩; refine ⟨_, rfl, ?_⟩; have HO402 := aM (Kd.R_lower (Kd.R_new' (Kd.R_new' ho0 (Kd.R_lt HO_399000.out)) (Kd.R_lt HO_399001.out)) (below_size HB.out)); replace HO_399000 := aM (Kd.R_elder' HO_399000.out (Kd.R_base ho0) hb); replace HO_399001 := aM (Kd.R_elder' HO_399001.out (Kd.R_base ho0) hb); replace BK391 := aM (blk_below (g := gb391) (o := .cells #[.slice none 0 0, .slice none 0 0] 94 (0, 0)) BK391.out hb); replace BK398 := aM (blk_below (g := gb398) (o := .cells #[.slice Ao9 y392.length co9, .slice Ao8 y395.length co8] 94 (0, 0)) BK398.out hb); replace HB := aM (below_step HB.out hb); (try clear hb); (try clear ho0)) | ((with_reducible refine gate_callee (f := 104) rfl ?_); refine goesL_ (some 54) rfl rfl Try.func104 (by kernel_rfl) rfl #[.string (a0.extract ((ji30) : Int).toNat ((wrap64 ((a0.size : Int) - 1)) : Int).toNat)] rfl (by (try simp only [List.map_toArray, List.map_cons, List.map_nil]); rfl) ?_; (with_reducible refine (spec_l1Signs.calls kj16 (a0.extract ((ji30) : Int).toNat ((wrap64 ((a0.size : Int) - 1)) : Int).toNat) t403 true _ A34.out).mono ?_); rintro e w53 ⟨v405, rfl, ho0, hb⟩; refine ⟨_, rfl, ?_⟩; have HO406 := aM (Kd.R_lower (Kd.R_new' (Kd.R_new' (Kd.R_new' ho0 (Kd.R_lt HO_399000.out)) (Kd.R_lt HO_399001.out)) (Kd.R_lt HO402.out)) (below_size HB.out)); replace HO_399000 := aM (Kd.R_elder' HO_399000.out (Kd.R_base ho0) hb); replace HO_399001 := aM (Kd.R_elder' HO_399001.out (Kd.R_base ho0) hb); replace HO402 := aM (Kd.R_elder' HO402.out (Kd.R_base ho0) hb); replace BK391 := aM (blk_below (g := gb391) (o := .cells #[.slice none 0 0, .slice none 0 0] 94 (0, 0)) BK391.out hb); replace BK398 := aM (blk_below (g := gb398) (o := .cells #[.slice Ao9 y392.length co9, .slice Ao8 y395.length co8] 94 (0, 0)) BK398.out hb); replace HB := aM (below_step HB.out hb); (try clear hb); (try clear ho0); obtain ⟨Ao54, co54, eo54⟩ := Kd.R_slice HO402.out; subst eo54; obtain ⟨Ao55, co55, eo55⟩ := Kd.R_slice HO406.out; subst eo55; have hnb56 := NB391_398.out; have hnc56 := NB398_391.out; have hcz57_0 : w53.cell? ⟨gb391, 0, none⟩ = some (.slice none 0 0) := (blk_cell BK391.out 0).trans rfl; have hcz57_1 : w53.cell? ⟨gb391, 1, none⟩ = some (.slice none 0 0) := (blk_cell BK391.out 1).trans rfl; have hfz57_0 := blk_frozen BK391.out 0; have hfz57_1 := blk_frozen BK391.out 1))
               refine bodyPost_ret (results_ct rfl _ _ gb391 94 #[.slice Ao54 t399.length co54, .slice Ao55 t403.length co55] (0, 0) _ rfl (by refine blk_put (cs := #[.slice Ao54 t399.length co54, .slice none 0 0]) ?_ 1 _ rfl; refine blk_put (cs := #[.slice none 0 0, .slice none 0 0]) ?_ 0 _ rfl; exact BK391.out) Try.underlying94 rfl (by kernel_rfl)) rfl ?_
               exact ⟨_, _, by first | rfl | (simp [*, errW_none, errW_some] <;> rfl), by exact Kd.R_mono (Kd.R_far (p := ⟨gb391, 1, none⟩) (Kd.R_far (p := ⟨gb391, 0, none⟩) (Kd.R_types HO402.out BK391.out (by decide)) (fun _ hk => hk.2) (.slice Ao54 t399.length co54)) (fun _ hk => hk.2) (.slice Ao55 t403.length co55)) (fun _ hk => hk.1.2), by exact Kd.R_mono (Kd.R_far (p := ⟨gb391, 1, none⟩) (Kd.R_far (p := ⟨gb391, 0, none⟩) (Kd.R_types HO406.out BK391.out (by decide)) (fun _ hk => hk.2) (.slice Ao54 t399.length co54)) (fun _ hk => hk.2) (.slice Ao55 t403.length co55)) (fun _ hk => hk.1.2), by repeat (first | (with_reducible first | exact HB.out | refine bS ?_ GE391.out))⟩
            ·replace c36 := Bool.eq_false_iff.mpr c36
             subst c36
             replace H : (some (y392, y395, false)) = some (r1, r2, r3) := by rw [if_neg (show ¬ (false = true) by decide)] at H; exact H
             simp only [Option.some.injEq, Prod.mk.injEq] at H
             obtain ⟨rfl, rfl, rfl⟩ := H
             go_wp2_with (first | ((with_reducible refine gate_callee (f := 104) rfl ?_); refine goesL_ (some 43) rfl rfl Try.func104 (by kernel_rfl) rfl #[.string (a0.extract 0 (x5_1 : Int).toNat)] rfl (by (try simp only [List.map_toArray, List.map_cons, List.map_nil]); rfl) ?_; (with_reducible refine (spec_l1Signs.calls kj16 (a0.extract 0 (x5_1 : Int).toNat) t399 true _ A29.out).mono ?_); rintro e w58 ⟨v401, rfl, ho0, hb⟩; refine ⟨_, rfl, ?_⟩; have HO402 := aM (Kd.R_lower (Kd.R_new' (Kd.R_new' ho0 (Kd.R_lt HO_399000.out)) (Kd.R_lt HO_399001.out)) (below_size HB.out)); replace HO_399000 := aM (Kd.R_elder' HO_399000.out (Kd.R_base ho0) hb); replace HO_399001 := aM (Kd.R_elder' HO_399001.out (Kd.R_base ho0) hb); replace BK391 := aM (blk_below (g := gb391) (o := .cells #[.slice none 0 0, .slice none 0 0] 94 (0, 0)) BK391.out hb); replace BK398 := aM (blk_below (g := gb398) (o := .cells #[.slice Ao9 y392.length co9, .slice Ao8 y395.length co8] 94 (0, 0)) BK398.out hb); replace HB := aM (below_step HB.out hb); (try clear hb); (try clear ho0)) | ((with_reducible refine gate_callee (f := 104) rfl ?_); refine goesL_ (some 54) rfl rfl Try.func104 (by kernel_rfl) rfl #[.string (a0.extract ((ji30) : Int).toNat ((wrap64 ((a0.size : Int) - 1)) : Int).toNat)] rfl (by (try simp only [List.map_toArray, List.map_cons, List.map_nil]); rfl) ?_; (with_reducible refine (spec_l1Signs.calls kj16 (a0.extract ((ji30) : Int).toNat ((wrap64 ((a0.size : Int) - 1)) : Int).toNat) t403 false _ A34.out).mono ?_); rintro e w59 ⟨v405, rfl, ho0, hb⟩; refine ⟨_, rfl, ?_⟩; have HO406 := aM (Kd.R_lower (Kd.R_new' (Kd.R_new' (Kd.R_new' ho0 (Kd.R_lt HO_399000.out)) (Kd.R_lt HO_399001.out)) (Kd.R_lt HO402.out)) (below_size HB.out)); replace HO_399000 := aM (Kd.R_elder' HO_399000.out (Kd.R_base ho0) hb); replace HO_399001 := aM (Kd.R_elder' HO_399001.out (Kd.R_base ho0) hb); replace HO402 := aM (Kd.R_elder' HO402.out (Kd.R_base ho0) hb); replace BK391 := aM (blk_below (g := gb391) (o := .cells #[.slice none 0 0, .slice none 0 0] 94 (0, 0)) BK391.out hb); replace BK398 := aM (blk_below (g := gb398) (o := .cells #[.slice Ao9 y392.length co9, .slice Ao8 y395.length co8] 94 (0, 0)) BK398.out hb); replace HB := aM (below_step HB.out hb); (try clear hb); (try clear ho0); have hnb60 := NB398_391.out; have hnc60 := NB391_398.out; have hcz61_0 : w59.cell? ⟨gb398, 0, none⟩ = some (.slice Ao9 y392.length co9) := (blk_cell BK398.out 0).trans rfl; have hcz61_1 : w59.cell? ⟨gb398, 1, none⟩ = some (.slice Ao8 y395.length co8) := (blk_cell BK398.out 1).trans rfl; have hfz61_0 := blk_frozen BK398.out 0; have hfz61_1 := blk_frozen BK398.out 1; have hcz62_0 : w59.cell? ⟨gb391, 0, none⟩ = some (.slice none 0 0) := (blk_cell BK391.out 0).trans rfl; have hcz62_1 : w59.cell? ⟨gb391, 1, none⟩ = some (.slice none 0 0) := (blk_cell BK391.out 1).trans rfl; have hfz62_0 := blk_frozen BK391.out 0; have hfz62_1 := blk_frozen BK391.out 1))
             refine bodyPost_ret (results_ct rfl _ _ gb391 94 #[.slice Ao9 y392.length co9, .slice Ao8 y395.length co8] (0, 0) _ rfl (by refine blk_put (cs := #[.slice Ao9 y392.length co9, .slice none 0 0]) ?_ 1 _ rfl; refine blk_put (cs := #[.slice none 0 0, .slice none 0 0]) ?_ 0 _ rfl; exact BK391.out) Try.underlying94 rfl (by kernel_rfl)) rfl ?_
             exact ⟨_, _, by first | rfl | (simp [*, errW_none, errW_some] <;> rfl), by exact Kd.R_mono (Kd.R_far (p := ⟨gb391, 1, none⟩) (Kd.R_far (p := ⟨gb391, 0, none⟩) (Kd.R_types HO_399000.out BK391.out (by decide)) (fun _ hk => hk.2) (.slice Ao9 y392.length co9)) (fun _ hk => hk.2) (.slice Ao8 y395.length co8)) (fun _ hk => hk.1.1.1), by exact Kd.R_mono (Kd.R_far (p := ⟨gb391, 1, none⟩) (Kd.R_far (p := ⟨gb391, 0, none⟩) (Kd.R_types HO_399001.out BK391.out (by decide)) (fun _ hk => hk.2) (.slice Ao9 y392.length co9)) (fun _ hk => hk.2) (.slice Ao8 y395.length co8)) (fun _ hk => hk.1.1.1), by repeat (first | (with_reducible first | exact HB.out | refine bS ?_ GE391.out))⟩
           ·replace c35 := Bool.eq_false_iff.mpr c35
            subst c35
            replace H : (some (y392, y395, false)) = some (r1, r2, r3) := by rw [if_neg (show ¬ (false = true) by decide)] at H; exact H
            simp only [Option.some.injEq, Prod.mk.injEq] at H
            obtain ⟨rfl, rfl, rfl⟩ := H
            go_wp2_with (first | ((with_reducible refine gate_callee (f := 104) rfl ?_); refine goesL_ (some 43) rfl rfl Try.func104 (by kernel_rfl) rfl #[.string (a0.extract 0 (x5_1 : Int).toNat)] rfl (by (try simp only [List.map_toArray, List.map_cons, List.map_nil]); rfl) ?_; (with_reducible refine (spec_l1Signs.calls kj16 (a0.extract 0 (x5_1 : Int).toNat) t399 false _ A29.out).mono ?_); rintro e w63 ⟨v401, rfl, ho0, hb⟩; refine ⟨_, rfl, ?_⟩; have HO402 := aM (Kd.R_lower (Kd.R_new' (Kd.R_new' ho0 (Kd.R_lt HO_399000.out)) (Kd.R_lt HO_399001.out)) (below_size HB.out)); replace HO_399000 := aM (Kd.R_elder' HO_399000.out (Kd.R_base ho0) hb); replace HO_399001 := aM (Kd.R_elder' HO_399001.out (Kd.R_base ho0) hb); replace BK391 := aM (blk_below (g := gb391) (o := .cells #[.slice none 0 0, .slice none 0 0] 94 (0, 0)) BK391.out hb); replace BK398 := aM (blk_below (g := gb398) (o := .cells #[.slice Ao9 y392.length co9, .slice Ao8 y395.length co8] 94 (0, 0)) BK398.out hb); replace HB := aM (below_step HB.out hb); (try clear hb); (try clear ho0)) | ((with_reducible refine gate_callee (f := 104) rfl ?_); refine goesL_ (some 54) rfl rfl Try.func104 (by kernel_rfl) rfl #[.string (a0.extract ((ji30) : Int).toNat ((wrap64 ((a0.size : Int) - 1)) : Int).toNat)] rfl (by (try simp only [List.map_toArray, List.map_cons, List.map_nil]); rfl) ?_; (with_reducible refine (spec_l1Signs.calls kj16 (a0.extract ((ji30) : Int).toNat ((wrap64 ((a0.size : Int) - 1)) : Int).toNat) t403 t404 _ A34.out).mono ?_); rintro e w64 ⟨v405, rfl, ho0, hb⟩; refine ⟨_, rfl, ?_⟩; have HO406 := aM (Kd.R_lower (Kd.R_new' (Kd.R_new' (Kd.R_new' ho0 (Kd.R_lt HO_399000.out)) (Kd.R_lt HO_399001.out)) (Kd.R_lt HO402.out)) (below_size HB.out)); replace HO_399000 := aM (Kd.R_elder' HO_399000.out (Kd.R_base ho0) hb); replace HO_399001 := aM (Kd.R_elder' HO_399001.out (Kd.R_base ho0) hb); replace HO402 := aM (Kd.R_elder' HO402.out (Kd.R_base ho0) hb); replace BK391 := aM (blk_below (g := gb391) (o := .cells #[.slice none 0 0, .slice none 0 0] 94 (0, 0)) BK391.out hb); replace BK398 := aM (blk_below (g := gb398) (o := .cells #[.slice Ao9 y392.length co9, .slice Ao8 y395.length co8] 94 (0, 0)) BK398.out hb); replace HB := aM (below_step HB.out hb); (try clear hb); (try clear ho0); have hnb65 := NB398_391.out; have hnc65 := NB391_398.out; have hcz66_0 : w64.cell? ⟨gb398, 0, none⟩ = some (.slice Ao9 y392.length co9) := (blk_cell BK398.out 0).trans rfl; have hcz66_1 : w64.cell? ⟨gb398, 1, none⟩ = some (.slice Ao8 y395.length co8) := (blk_cell BK398.out 1).trans rfl; have hfz66_0 := blk_frozen BK398.out 0; have hfz66_1 := blk_frozen BK398.out 1; have hcz67_0 : w64.cell? ⟨gb391, 0, none⟩ = some (.slice none 0 0) := (blk_cell BK391.out 0).trans rfl; have hcz67_1 : w64.cell? ⟨gb391, 1, none⟩ = some (.slice none 0 0) := (blk_cell BK391.out 1).trans rfl; have hfz67_0 := blk_frozen BK391.out 0; have hfz67_1 := blk_frozen BK391.out 1))
            refine bodyPost_ret (results_ct rfl _ _ gb391 94 #[.slice Ao9 y392.length co9, .slice Ao8 y395.length co8] (0, 0) _ rfl (by refine blk_put (cs := #[.slice Ao9 y392.length co9, .slice none 0 0]) ?_ 1 _ rfl; refine blk_put (cs := #[.slice none 0 0, .slice none 0 0]) ?_ 0 _ rfl; exact BK391.out) Try.underlying94 rfl (by kernel_rfl)) rfl ?_
            exact ⟨_, _, by first | rfl | (simp [*, errW_none, errW_some] <;> rfl), by exact Kd.R_mono (Kd.R_far (p := ⟨gb391, 1, none⟩) (Kd.R_far (p := ⟨gb391, 0, none⟩) (Kd.R_types HO_399000.out BK391.out (by decide)) (fun _ hk => hk.2) (.slice Ao9 y392.length co9)) (fun _ hk => hk.2) (.slice Ao8 y395.length co8)) (fun _ hk => hk.1.1.1), by exact Kd.R_mono (Kd.R_far (p := ⟨gb391, 1, none⟩) (Kd.R_far (p := ⟨gb391, 0, none⟩) (Kd.R_types HO_399001.out BK391.out (by decide)) (fun _ hk => hk.2) (.slice Ao9 y392.length co9)) (fun _ hk => hk.2) (.slice Ao8 y395.length co8)) (fun _ hk => hk.1.1.1), by repeat (first | (with_reducible first | exact HB.out | refine bS ?_ GE391.out))⟩
          ·rw [if_neg c33] at H
           exact absurd H (by simp)
         ·rw [if_neg c32] at H
          exact absurd H (by simp)
        ·rw [if_neg c31] at H
         exact absurd H (by simp)
       ·rw [if_neg c28] at H
        exact absurd H (by simp)
      ·rw [if_neg c27] at H
       exact absurd H (by simp)


mutual
def spec_l1Less.l0 : Nat → Int → Int → List Bool → List Bool → Option (List Bool × List Bool)
 | 0, _, _, _, _ => none
 | k + 1, x3, x4, x408000, x408001 => if x4 < x3 then (if x4 = 0 then (none) else (spec_l1Less.l1 k x3 x4 ((Int.tmod x3 x4) == 0) x4 x408000 x408001)) else (if (x408000.length : Int) > 0 then (if 0 ≤ (wrap64 ((x408000.length : Int) - 1)) then (if (wrap64 ((x408000.length : Int) - 1)) < (x408000.length : Int) then (if 0 ≤ (wrap64 (x3 - 1)) then (if (wrap64 (x3 - 1)) < (x408001.length : Int) then (if ((rdOf false x408000 (wrap64 ((x408000.length : Int) - 1))) == (rdOf false x408001 (wrap64 (x3 - 1)))) = true then ((some (([rdOf false x408001 (wrap64 (x3 - 1))] : List Bool) : List Bool)).bind fun y412 => (if (wrap64 (x3 - 1)) ≤ (x408001.length : Int) then ((some (x408001.take ((wrap64 (x3 - 1)) : Int).toNat : List Bool)).bind fun y415 => (if y412.length + y415.length < 140737488355328 then (if (wrap64 ((x408000.length : Int) - 1)) ≤ (x408000.length : Int) then ((spec_l1Less.f k (x408000.take ((wrap64 ((x408000.length : Int) - 1)) : Int).toNat) (y412 ++ y415)).bind fun bt428 => (some (bt428.1, bt428.2))) else (none)) else (none))) else (none))) else (some (x408000, x408001))) else (none)) else (none)) else (none)) else (none)) else (some (x408000, x408001)))
def spec_l1Less.l1 : Nat → Int → Int → Bool → Int → List Bool → List Bool → Option (List Bool × List Bool)
 | 0, _, _, _, _, _, _ => none
 | k + 1, x3, x4, x5, x6, x408000, x408001 => if x6 < x3 then (if x5 = true then (if 0 ≤ x6 then (if x6 < (x408001.length : Int) then (if 0 ≤ (wrap64 (x6 - x4)) then (if (wrap64 (x6 - x4)) < (x408001.length : Int) then (spec_l1Less.l1 k x3 x4 ((rdOf false x408001 x6) == (rdOf false x408001 (wrap64 (x6 - x4)))) (wrap64 (x6 + 1)) x408000 x408001) else (none)) else (none)) else (none)) else (none)) else (spec_l1Less.l0 k x3 (wrap64 (x4 + 1)) x408000 x408001)) else (if x5 = true then (if 0 ≤ x4 then (if x4 ≤ (x408001.length : Int) then ((spec_l1Less.f k x408000 (x408001.take (x4 : Int).toNat)).bind fun bt441 => (some (bt441.1, bt441.2))) else (none)) else (none)) else (spec_l1Less.l0 k x3 (wrap64 (x4 + 1)) x408000 x408001))
def spec_l1Less.f : Nat → List Bool → List Bool → Option (List Bool × List Bool)
 | 0, _, _ => none
 | k + 1, l0_0, l0_1 => spec_l1Less.l0 k (l0_1.length : Int) 1 l0_0 l0_1
end
theorem spec_l1Less.mono_l : ∀ k, (∀ y0 y1, LeO (spec_l1Less.f k y0 y1) (spec_l1Less.f (k + 1) y0 y1)) ∧ (∀ y0 y1 y2 y3, LeO (spec_l1Less.l0 k y0 y1 y2 y3) (spec_l1Less.l0 (k + 1) y0 y1 y2 y3)) ∧ (∀ y0 y1 y2 y3 y4 y5, LeO (spec_l1Less.l1 k y0 y1 y2 y3 y4 y5) (spec_l1Less.l1 (k + 1) y0 y1 y2 y3 y4 y5))
 | 0 => ⟨fun _ _ r h => by simp [spec_l1Less.f] at h, fun _ _ _ _ r h => by simp [spec_l1Less.l0] at h, fun _ _ _ _ _ _ r h => by simp [spec_l1Less.l1] at h⟩
 | k + 1 => by
  obtain ⟨ih0, ih1, ih2⟩ := spec_l1Less.mono_l k
  refine ⟨?_, ?_, ?_⟩
  ·intro y0 y1
   unfold spec_l1Less.f
   repeat' (with_reducible exact ih1 _ _ _ _)
  ·intro y0 y1 y2 y3
   unfold spec_l1Less.l0
   repeat' first | (with_reducible exact ih0 _ _) | (with_reducible exact ih2 _ _ _ _ _ _) | (with_reducible exact LeO.refl _) | (with_reducible refine LeO.ite ?_ ?_) | (with_reducible refine LeO.bind ?_ (fun _ => ?_))
  ·intro y0 y1 y2 y3 y4 y5
   unfold spec_l1Less.l1
   repeat' first | (with_reducible exact ih0 _ _) | (with_reducible exact ih1 _ _ _ _) | (with_reducible exact ih2 _ _ _ _ _ _) | (with_reducible exact LeO.refl _) | (with_reducible refine LeO.ite ?_ ?_) | (with_reducible refine LeO.bind ?_ (fun _ => ?_))
theorem spec_l1Less.mono : ∀ a0 a1 k, LeO (spec_l1Less.f k a0 a1) (spec_l1Less.f (k + 1) a0 a1) := by
 intro a0 a1 k
 obtain ⟨ih0, ih1, ih2⟩ := spec_l1Less.mono_l k
 exact ih0 a0 a1
def spec_l1Less.T11 : Bool × List (List Nat × List Nat) := (true, [([], []), ([0], [0]), ([], []), ([2], [2]), ([], []), ([3, 4], [3, 4]), ([1, 5], [1, 5]), ([6], [6]), ([7, 7, 0, 1, 2, 3, 4, 5, 6, 7], [7])])
def spec_l1Less.B11 : List Nat := [0, 1, 0, 4, 0, 28, 63, 127, 255]
theorem spec_l1Less.tab11 : rtab .any (opsOf Try.f92 11) = spec_l1Less.T11 := by kernel_rfl
theorem spec_l1Less.bits11 : waitsOk spec_l1Less.T11.2 spec_l1Less.B11 = true := by kernel_rfl
def spec_l1Less.T14 : Bool × List (List Nat × List Nat) := (true, [([], []), ([0], [0]), ([], []), ([2], [2]), ([1, 3], [1, 3]), ([4], [4]), ([5], [5]), ([], []), ([7], [7]), ([], []), ([9], [9]), ([8, 10], [8, 10]), ([6, 11], [6, 11]), ([12, 12, 0, 1, 2, 3, 4, 5, 6, 7, 8, 9, 10, 11, 12], [12])])
def spec_l1Less.B14 : List Nat := [0, 1, 0, 4, 15, 31, 63, 0, 128, 0, 512, 1920, 4095, 8191]
theorem spec_l1Less.tab14 : rtab .any (opsOf Try.f92 14) = spec_l1Less.T14 := by kernel_rfl
theorem spec_l1Less.bits14 : waitsOk spec_l1Less.T14.2 spec_l1Less.B14 = true := by kernel_rfl
set_option maxHeartbeats 8000000 in
set_option maxRecDepth 100000 in
theorem spec_l1Less.calls (k : Nat) : ∀ (P0_0_ : Nat → Prop) (A0_0 : Option Addr) (c0_0 : Nat) (l0_0 : List Bool) (P0_1_ : Nat → Prop) (A0_1 : Option Addr) (c0_1 : Nat) (l0_1 : List Bool) (r1 : List Bool) (r2 : List Bool) (w : World) (hs0_0 : Kd.V Kd.bool 4 w w.heap.size (fun k_ => P0_0_ k_) (.slice A0_0 l0_0.length c0_0) l0_0) (hs0_1 : Kd.V Kd.bool 4 w w.heap.size (fun k_ => P0_1_ k_) (.slice A0_1 l0_1.length c0_1) l0_1) (h : spec_l1Less.f k l0_0 l0_1 = some (r1, r2)),
  Calls Try.prog 92 #[.agg #[.slice A0_0 l0_0.length c0_0, .slice A0_1 l0_1.length c0_1]] w fun e w' => ∃ v0_ v1_ : Value, e = .returned (.agg #[v0_, v1_]) ∧ Kd.V Kd.bool 4 w' w.heap.size (fun k_ => ((P0_0_ k_ ∨ P0_1_ k_) ∨ w.heap.size ≤ k_)) v0_ r1 ∧ Kd.V Kd.bool 4 w' w.heap.size (fun k_ => ((P0_0_ k_ ∨ P0_1_ k_) ∨ w.heap.size ≤ k_)) v1_ r2 ∧ Below w.heap.size w w' := by
 induction k using Nat.strongRecOn with
 | _ k ih =>
 intro P0_0_ A0_0 c0_0 l0_0 P0_1_ A0_1 c0_1 l0_1 r1 r2 w hs0_0 hs0_1 h
 cases k with
 | zero => exact absurd h (by simp [spec_l1Less.f])
 | succ k =>
 simp only [spec_l1Less.f] at h
 have hu94 := Try.underlying94
 have HO0_0 := aM (show Kd.V Kd.bool 4 w w.heap.size (fun k_ => ((P0_0_ k_ ∨ P0_1_ k_) ∨ w.heap.size ≤ k_)) (.slice A0_0 l0_0.length c0_0) l0_0 from Kd.V_mono hs0_0 (fun k_ hk => .inl (.inl hk)))
 have HO0_1 := aM (show Kd.V Kd.bool 4 w w.heap.size (fun k_ => ((P0_0_ k_ ∨ P0_1_ k_) ∨ w.heap.size ≤ k_)) (.slice A0_1 l0_1.length c0_1) l0_1 from Kd.V_mono hs0_1 (fun k_ hk => .inl (.inr hk)))
 have HB := aM (Below.refl w.heap.size w)
 have H : (spec_l1Less.l0 k (l0_1.length : Int) 1 l0_0 l0_1) = some (r1, r2) := h
 clear h
 have H' := aM H
 clear H
 go_enter Try.func92, Try.ntmps92
 go_wp2_with (first | ((with_reducible refine gate_dst (N := 1) rfl ?_); refine box_event ?hg (N := 1) ?hd (cs := #[.slice A0_0 l0_0.length c0_0, .slice A0_1 l0_1.length c0_1]) (t := 94) ?hr ?_; (case hd => rfl); (case hg => rfl); (case hr => first | (go_simp; done)); intro gb407 hg w2 hbox hb; replace HO0_0 := aM (Kd.V_below (Kd.V_elderB HO0_0.out gb407 (Nat.le_of_eq hg.symm)) hb); replace HO0_1 := aM (Kd.V_below (Kd.V_elderB HO0_1.out gb407 (Nat.le_of_eq hg.symm)) hb); have BK407 := aM hbox; have GW407 := aM ((by rw [hg]; exact (below_size HB.out) : w.heap.size ≤ gb407)); have GE407 := aM ((by rw [hg]; exact (below_size HB.out) : w.heap.size ≤ gb407)); replace HB := aM (below_step HB.out hb); clear hb hbox hg) | ((with_reducible refine gate_dst (N := 2) rfl ?_); refine box_event ?hg (N := 2) ?hd (cs := #[.slice none 0 0, .slice none 0 0]) (t := 94) ?hr ?_; (case hd => rfl); (case hg => rfl); (case hr => first | (go_simp; done)); intro gb408 hg w3 hbox hb; replace HO0_0 := aM (Kd.V_below (Kd.V_elderB HO0_0.out gb408 (Nat.le_of_eq hg.symm)) hb); replace HO0_1 := aM (Kd.V_below (Kd.V_elderB HO0_1.out gb408 (Nat.le_of_eq hg.symm)) hb); have BK408 := aM hbox; have GW408 := aM ((by rw [hg]; exact (below_size HB.out) : w.heap.size ≤ gb408)); have GE408 := aM ((by rw [hg]; exact (below_size HB.out) : w.heap.size ≤ gb408)); replace HB := aM (below_step HB.out hb); have NB407_408 := aM ((by rw [hg]; exact Nat.ne_of_lt (blk_lt (g := gb407) (o := .cells #[.slice A0_0 l0_0.length c0_0, .slice A0_1 l0_1.length c0_1] 94 (0, 0)) BK407.out) : gb407 ≠ gb408)); have NB408_407 := aM ((by rw [hg]; exact Nat.ne_of_gt (blk_lt (g := gb407) (o := .cells #[.slice A0_0 l0_0.length c0_0, .slice A0_1 l0_1.length c0_1] 94 (0, 0)) BK407.out) : gb408 ≠ gb407)); replace BK407 := aM (blk_below (g := gb407) (o := .cells #[.slice A0_0 l0_0.length c0_0, .slice A0_1 l0_1.length c0_1] 94 (0, 0)) BK407.out hb); clear hb hbox hg; have hnb4 := NB407_408.out; have hnc4 := NB408_407.out; have hcz5_0 : w3.cell? ⟨gb407, 0, none⟩ = some (.slice A0_0 l0_0.length c0_0) := (blk_cell BK407.out 0).trans rfl; have hcz5_1 : w3.cell? ⟨gb407, 1, none⟩ = some (.slice A0_1 l0_1.length c0_1) := (blk_cell BK407.out 1).trans rfl; have hfz5_0 := blk_frozen BK407.out 0; have hfz5_1 := blk_frozen BK407.out 1))
 go_loopg [4] k (fun kq v4 w' => ∃ (x4_1 : Int), v4 = .int .i64 x4_1 ∧ Aside0 (spec_l1Less.l0 kq (l0_1.length : Int) x4_1 l0_0 l0_1 = some (r1, r2)) ∧ Aside0 (kq ≤ k) ∧ Aside0 (Kd.V Kd.bool 4 w' w.heap.size (fun k_ => ((P0_0_ k_ ∨ P0_1_ k_) ∨ w.heap.size ≤ k_) ∧ k_ ≠ gb407 ∧ k_ ≠ gb408) (.slice A0_0 l0_0.length c0_0) l0_0) ∧ Aside0 (Kd.V Kd.bool 4 w' w.heap.size (fun k_ => ((P0_0_ k_ ∨ P0_1_ k_) ∨ w.heap.size ≤ k_) ∧ k_ ≠ gb407 ∧ k_ ≠ gb408) (.slice A0_1 l0_1.length c0_1) l0_1) ∧ Aside0 (w'.heap[gb407]? = some (.cells #[(.slice A0_0 l0_0.length c0_0), (.slice A0_1 l0_1.length c0_1)] 94 (0, 0))) ∧ Aside0 (w'.heap[gb408]? = some (.cells #[(.slice none 0 0), (.slice none 0 0)] 94 (0, 0))) ∧ Aside0 (Below w.heap.size w w'))
 case atStart => exact ⟨(1), (by rfl), H', ⟨Nat.le_refl _⟩, ⟨by exact Kd.V_mono HO0_0.out (fun _ hk => ⟨hk.1.1, ⟨hk.1.2, hk.2⟩⟩)⟩, ⟨by exact Kd.V_mono HO0_1.out (fun _ hk => ⟨hk.1.1, ⟨hk.1.2, hk.2⟩⟩)⟩, ⟨by exact BK407.out⟩, ⟨by exact BK408.out⟩, ⟨HB.out⟩⟩
 case round =>
  clear H'
  try clear hcz5_0
  try clear hcz5_1
  try clear hfz5_0
  try clear hfz5_1
  obtain ⟨x4_1, rfl, HA, HK1, HO_408000, HO_408001, BK407, BK408, HB⟩ := hrel
  cases gk with
  | zero => exact absurd HA.out (by simp [spec_l1Less.l0])
  | succ k1 =>
   have H := HA.out
   clear HA
   simp only [spec_l1Less.l0] at H
   by_cases c6 : x4_1 < (l0_1.length : Int)
   ·rw [if_pos c6] at H
    have c6b0 : decide (x4_1 < (l0_1.length : Int)) = true := decide_eq_true c6
    clear c6
    by_cases c7 : x4_1 = 0
    ·rw [if_pos c7] at H
     exact absurd H (by simp)
    ·rw [if_neg c7] at H
     have c7b0 : (x4_1 == 0) = false := beq_eq_false_iff_ne.mpr c7
     have c7b1 : (x4_1 != 0) = true := bne_iff_ne.mpr c7
     have H' := aM H
     clear H
     go_wp2
     go_loopg [5, 6] k1 (fun kq v5 v6 w' => ∃ (x5_2 : Bool) (x6_2 : Int), v5 = .bool x5_2 ∧ v6 = .int .i64 x6_2 ∧ Aside0 (spec_l1Less.l1 kq (l0_1.length : Int) x4_1 x5_2 x6_2 l0_0 l0_1 = some (r1, r2)) ∧ Aside0 (kq ≤ k1) ∧ Aside0 (Kd.V Kd.bool 4 w' w.heap.size (fun k_ => ((P0_0_ k_ ∨ P0_1_ k_) ∨ w.heap.size ≤ k_) ∧ k_ ≠ gb407 ∧ k_ ≠ gb408) (.slice A0_0 l0_0.length c0_0) l0_0) ∧ Aside0 (Kd.V Kd.bool 4 w' w.heap.size (fun k_ => ((P0_0_ k_ ∨ P0_1_ k_) ∨ w.heap.size ≤ k_) ∧ k_ ≠ gb407 ∧ k_ ≠ gb408) (.slice A0_1 l0_1.length c0_1) l0_1) ∧ Aside0 (w'.heap[gb407]? = some (.cells #[(.slice A0_0 l0_0.length c0_0), (.slice A0_1 l0_1.length c0_1)] 94 (0, 0))) ∧ Aside0 (w'.heap[gb408]? = some (.cells #[(.slice none 0 0), (.slice none 0 0)] 94 (0, 0))) ∧ Aside0 (Below w.heap.size w w'))
     case atStart => exact ⟨(((Int.tmod (l0_1.length : Int) x4_1) == 0)), (x4_1), (by first | (simp [Int.tmod_eq_emod_of_nonneg]; done)), (by rfl), H', ⟨Nat.le_refl _⟩, ⟨by exact HO_408000.out⟩, ⟨by exact HO_408001.out⟩, ⟨by exact BK407.out⟩, ⟨by exact BK408.out⟩, ⟨HB.out⟩⟩
     case round =>
      clear H'
      try clear c6b0
      try clear c7
      try clear c7b0
      try clear c7b1
      obtain ⟨x5_2, x6_2, rfl, rfl, HA, HK2, HO_408000, HO_408001, BK407, BK408, HB⟩ := hrel
      cases gk with
      | zero => exact absurd HA.out (by simp [spec_l1Less.l1])
      | succ k2 =>
       have H := HA.out
       clear HA
       simp only [spec_l1Less.l1] at H
       by_cases c8 : x6_2 < (l0_1.length : Int)
       ·rw [if_pos c8] at H
        have c8b0 : decide (x6_2 < (l0_1.length : Int)) = true := decide_eq_true c8
        clear c8
        by_cases c9 : x5_2 = true
        ·subst c9
         replace H : (if 0 ≤ x6_2 then (if x6_2 < (l0_1.length : Int) then (if 0 ≤ (wrap64 (x6_2 - x4_1)) then (if (wrap64 (x6_2 - x4_1)) < (l0_1.length : Int) then (spec_l1Less.l1 k2 (l0_1.length : Int) x4_1 ((rdOf false l0_1 x6_2) == (rdOf false l0_1 (wrap64 (x6_2 - x4_1)))) (wrap64 (x6_2 + 1)) l0_0 l0_1) else (none)) else (none)) else (none)) else (none)) = some (r1, r2) := by rw [if_pos rfl] at H; exact H
         by_cases c10 : 0 ≤ x6_2
         ·rw [if_pos c10] at H
          have c10b0 : decide (0 ≤ x6_2) = true := decide_eq_true c10
          clear c10
          by_cases c11 : x6_2 < (l0_1.length : Int)
          ·rw [if_pos c11] at H
           have c11b0 : decide (x6_2 < (l0_1.length : Int)) = true := decide_eq_true c11
           clear c11
           obtain ⟨ji12, hji12⟩ : ∃ j_ : Int, (wrap64 (x6_2 - x4_1)) = j_ := ⟨_, rfl⟩
           replace H : (if 0 ≤ (ji12) then (if (ji12) < (l0_1.length : Int) then (spec_l1Less.l1 k2 (l0_1.length : Int) x4_1 ((rdOf false l0_1 x6_2) == (rdOf false l0_1 (ji12))) (wrap64 (x6_2 + 1)) l0_0 l0_1) else (none)) else (none)) = some (r1, r2) := by first | (rw [hji12] at H; exact H)
           have hji12w : (IntKind.i64.wrap (x6_2 - x4_1)) = ji12 := (i64_w _).trans hji12
           by_cases c13 : 0 ≤ (ji12)
           ·rw [if_pos c13] at H
            have c13b0 : decide (0 ≤ (ji12)) = true := decide_eq_true c13
            clear c13
            by_cases c14 : (ji12) < (l0_1.length : Int)
            ·rw [if_pos c14] at H
             have c14b0 : decide ((ji12) < (l0_1.length : Int)) = true := decide_eq_true c14
             clear c14
             have H' := aM H
             clear H
             try go_wp2
             replace HO_408000 := aM (vD HO_408000.out)
             replace HO_408001 := aM (vD HO_408001.out)
             replace BK407 := aM (kD BK407.out)
             replace BK408 := aM (kD BK408.out)
             replace HB := aM (b1 HB.out)
             have p434 : 0 ≤ (x6_2 : Int) := of_decide_eq_true (by (with_reducible assumption))
             have q434 : x6_2 < (l0_1.length : Int) := of_decide_eq_true (by (with_reducible assumption))
             obtain ⟨ad434, e434, hx434_0⟩ := Kd.at_bool (Kd.V_reads' HO_408001.out).2.2 x6_2 p434 q434
             cases e434
             replace p434 := eq_true p434
             replace q434 := eq_true q434
             have p435 : 0 ≤ ((ji12) : Int) := of_decide_eq_true (by (with_reducible assumption))
             have q435 : (ji12) < (l0_1.length : Int) := of_decide_eq_true (by (with_reducible assumption))
             obtain ⟨ad435, e435, hx435_0⟩ := Kd.at_bool (Kd.V_reads' HO_408001.out).2.2 (ji12) p435 q435
             obtain rfl : ad434 = ad435 := (by injection e435)
             replace p435 := eq_true p435
             replace q435 := eq_true q435
             have s0_ : wr.cell? ⟨gb407, 0, none⟩ = some (.slice A0_0 l0_0.length c0_0) := (blk_cell BK407.out 0).trans rfl
             have s1_ : wr.cell? ⟨gb407, 1, none⟩ = some (.slice (some ad434) l0_1.length c0_1) := (blk_cell BK407.out 1).trans rfl
             have s2_ : wr.cell? (ad434.add (x6_2).toNat) = some (.bool (rdOf false l0_1 x6_2)) := hx434_0
             have s3_ : wr.cell? (ad434.add ((ji12)).toNat) = some (.bool (rdOf false l0_1 (ji12))) := hx435_0
             go_region
             generalize wr.drew = w15 at HO_408000 HO_408001 BK407 BK408 HB hx434_0 hx435_0 ⊢
             try go_wp2
             go_roundg k2
             case measure => have := HK1.out; have := HK2.out; omega
             case rel => exact ⟨(((rdOf false l0_1 x6_2) == (rdOf false l0_1 (ji12)))), (wrap64 (x6_2 + 1)), (by rfl), (by rfl), H', ⟨by have := HK1.out; have := HK2.out; omega⟩, ⟨by exact HO_408000.out⟩, ⟨by exact HO_408001.out⟩, ⟨by exact BK407.out⟩, ⟨by exact BK408.out⟩, ⟨HB.out⟩⟩
            ·rw [if_neg c14] at H
             exact absurd H (by simp)
           ·rw [if_neg c13] at H
            exact absurd H (by simp)
          ·rw [if_neg c11] at H
           exact absurd H (by simp)
         ·rw [if_neg c10] at H
          exact absurd H (by simp)
        ·replace c9 := Bool.eq_false_iff.mpr c9
         subst c9
         replace H : (spec_l1Less.l0 k2 (l0_1.length : Int) (wrap64 (x4_1 + 1)) l0_0 l0_1) = some (r1, r2) := by rw [if_neg (show ¬ (false = true) by decide)] at H; exact H
         have H' := aM H
         clear H
         go_wp2
         go_roundg k2
         case measure => have := HK1.out; have := HK2.out; omega
         case rel => exact ⟨(wrap64 (x4_1 + 1)), (by rfl), H', ⟨by have := HK1.out; have := HK2.out; omega⟩, ⟨by exact HO_408000.out⟩, ⟨by exact HO_408001.out⟩, ⟨by exact BK407.out⟩, ⟨by exact BK408.out⟩, ⟨HB.out⟩⟩
       ·rw [if_neg c8] at H
        have c8b0 : decide (x6_2 < (l0_1.length : Int)) = false := decide_eq_false c8
        clear c8
        by_cases c16 : x5_2 = true
        ·subst c16
         replace H : (if 0 ≤ x4_1 then (if x4_1 ≤ (l0_1.length : Int) then ((spec_l1Less.f k2 l0_0 (l0_1.take (x4_1 : Int).toNat)).bind fun bt441 => (some (bt441.1, bt441.2))) else (none)) else (none)) = some (r1, r2) := by rw [if_pos rfl] at H; exact H
         by_cases c17 : 0 ≤ x4_1
         ·rw [if_pos c17] at H
          have c17b0 := eq_true c17
          have c17b1 : decide (0 ≤ x4_1) = true := decide_eq_true c17
          clear c17
          by_cases c18 : x4_1 ≤ (l0_1.length : Int)
          ·rw [if_pos c18] at H
           have c18b0 := eq_true c18
           have c18b1 : decide (x4_1 ≤ (l0_1.length : Int)) = true := decide_eq_true c18
           clear c18
           obtain ⟨y436, hy436⟩ : ∃ y_ : List Bool, y_ = (l0_1.take (x4_1 : Int).toNat) := ⟨_, rfl⟩
           replace H : ((spec_l1Less.f k2 l0_0 y436).bind fun bt441 => (some (bt441.1, bt441.2))) = some (r1, r2) := by first | (rw [hy436]; with_reducible exact H)
           have Ny436 := aM hy436
           clear hy436
           replace H := Option.bind_eq_some_iff.mp H
           obtain ⟨⟨t441, t444⟩, A190, H⟩ := H
           replace H : (some (t441, t444)) = some (r1, r2) := H
           have A19 := aM A190
           clear A190
           simp only [Option.some.injEq, Prod.mk.injEq] at H
           obtain ⟨rfl, rfl⟩ := H
           try go_wp2
           replace HO_408000 := aM (vD HO_408000.out)
           replace HO_408001 := aM (vD HO_408001.out)
           replace BK407 := aM (kD BK407.out)
           replace BK408 := aM (kD BK408.out)
           replace HB := aM (b1 HB.out)
           have q21 : (x4_1 : Int) ≤ ((l0_1.length : Int) : Int) := of_decide_eq_true (by (with_reducible assumption))
           obtain ⟨i021, hi021, _, hsz21, _⟩ := info_parts info4
           have hroom21 : l0_1.length ≤ c0_1 := (Kd.V_reads' HO_408001.out).2.1
           have hC21 : Kd.F Kd.bool _ _ A0_1 l0_1.length l0_1 := (Kd.V_at (base := w.heap.size) HO_408001.out).2.2
           have hcut21 := cut_to (P := Try.prog) 52 4 .i64 Try.underlying52 hi021 A0_1 l0_1.length c0_1 x4_1 (of_decide_eq_true (by (with_reducible assumption))) q21 hroom21
           have hr21 := Kd.F_take (m := (x4_1 : Int).toNat) hC21 (by omega)
           have hy21 : y436.length = (x4_1 : Int).toNat := (by rw [Ny436.out, List.length_take]; omega)
           rw [← Ny436.out] at hr21
           rw [← hy21] at hcut21
           have HO440 := aM (show Kd.V Kd.bool 4 _ w.heap.size _ (.slice A0_1 y436.length c0_1) y436 from Kd.V_mk (by omega) hr21)
           have HC440 := aM (show y436.length ≤ c0_1 from by omega)
           clear hr21 hC21 hroom21 hi021 hsz21
           have KY21 := aM hy21
           clear hy21
           replace q21 := eq_true q21
           refine start_ (n := 9) (S := fun w' => w'.cell? ⟨gb407, 0, none⟩ = some (.slice A0_0 l0_0.length c0_0) ∧ w'.cell? ⟨gb407, 1, none⟩ = some (.slice A0_1 l0_1.length c0_1)) (ds := []) #[false, false, false, false, false, false, false, false, false] (by kernel_rfl) rfl rfl ⟨(blk_cell BK407.out 0).trans rfl, (blk_cell BK407.out 1).trans rfl⟩ (fun hHeld => ?_); refine with_tabW spec_l1Less.tab11 spec_l1Less.bits11 (fun HT_ HW_ => ?_)
           generalize wr.drew = w20 at HO_408000 HO_408001 BK407 BK408 HB HO440 hHeld ⊢
           refine pure_ (i := 0) (N := some 44) (v := ?_) (a' := ?_) #[true, false, false, false, false, false, false, false, false] rfl rfl (any_of HT_.out (by kernel_rfl)) (fun _ _ _ h => h) (Or.inl ⟨by rfl, ?_⟩) ?_ ?_
           rotate_left
           ·intro w'
            go_simp
            with_reducible rfl
           rotate_left
           ·simp only [Act.put, sA, sZ, sS, i64_w, i32_w]
            rfl
           refine pure_ (i := 2) (N := some 46) (v := ?_) (a' := ?_) #[true, false, true, false, false, false, false, false, false] rfl rfl (any_of HT_.out (by kernel_rfl)) (fun _ _ _ h => h) (Or.inl ⟨by rfl, ?_⟩) ?_ ?_
           rotate_left
           ·intro w'
            go_simp
            with_reducible rfl
           rotate_left
           ·simp only [Act.put, sA, sZ, sS, i64_w, i32_w]
            rfl
           refine pure_ (i := 4) (N := some 48) (v := ?_) (a' := ?_) #[true, false, true, false, true, false, false, false, false] rfl rfl (any_of HT_.out (by kernel_rfl)) (fun _ _ _ h => h) (Or.inl ⟨by rfl, ?_⟩) ?_ ?_
           rotate_left
           ·intro w'
            go_simp
            with_reducible rfl
           rotate_left
           ·simp only [Act.put, sA, sZ, sS, i64_w, i32_w]
            rfl
           refine take_ (i := 1) (N := some 45) (v := ?_) (a' := ?_) #[true, true, true, false, true, false, false, false, false] rfl rfl (take_ofW HT_.out HW_.out (by kernel_rfl)) (fun _ _ _ h => h) (Or.inl ⟨by rfl, ?_⟩) hHeld ?_ ?_
           rotate_left
           ·rintro w' ⟨s0, s1⟩
            go_simp
            with_reducible rfl
           rotate_left
           ·simp only [Act.put, sA, sZ, sS, i64_w, i32_w]
            rfl
           refine take_ (i := 3) (N := some 47) (v := ?_) (a' := ?_) #[true, true, true, true, true, false, false, false, false] rfl rfl (take_ofW HT_.out HW_.out (by kernel_rfl)) (fun _ _ _ h => h) (Or.inl ⟨by rfl, ?_⟩) hHeld ?_ ?_
           rotate_left
           ·rintro w' ⟨s0, s1⟩
            go_simp
            with_reducible rfl
           rotate_left
           ·simp only [Act.put, sA, sZ, sS, i64_w, i32_w]
            rfl
           refine pure_ (i := 5) (N := some 49) (v := ?_) (a' := ?_) #[true, true, true, true, true, true, false, false, false] rfl rfl (any_of HT_.out (by kernel_rfl)) (fun _ _ _ h => h) (Or.inl ⟨by rfl, ?_⟩) ?_ ?_
           rotate_left
           ·intro w'
            go_simp
            with_reducible rfl
           rotate_left
           ·simp only [Act.put, sA, sZ, sS, i64_w, i32_w]
            rfl
           refine pure_ (i := 6) (N := some 50) (v := ?_) (a' := ?_) #[true, true, true, true, true, true, true, false, false] rfl rfl (any_of HT_.out (by kernel_rfl)) (fun _ _ _ h => h) (Or.inl ⟨by rfl, ?_⟩) ?_ ?_
           rotate_left
           ·intro w'
            go_simp
            with_reducible rfl
           rotate_left
           ·simp only [Act.put, sA, sZ, sS, i64_w, i32_w]
            rfl
           refine one_ (i := 7) (N := some 51) #[true, true, true, true, true, true, true, true, false] rfl rfl (one_of HT_.out (by kernel_rfl)) (by decide) (fun K hK => ?_)
           refine goes_ Try.func92 (by kernel_rfl) rfl #[.agg #[.slice A0_0 l0_0.length c0_0, .slice A0_1 y436.length c0_1]] (by rfl) rfl rfl (by (try simp only [List.map_toArray, List.map_cons, List.map_nil]); rfl) ?_
           with_reducible refine (ih k2 (by have := HK1.out; have := HK2.out; omega) (fun k_ => (((P0_0_ k_ ∨ P0_1_ k_) ∨ w.heap.size ≤ k_) ∧ (k_ ≠ gb407 ∧ k_ ≠ gb408))) _ _ l0_0 (fun k_ => (((P0_0_ k_ ∨ P0_1_ k_) ∨ w.heap.size ≤ k_) ∧ (k_ ≠ gb407 ∧ k_ ≠ gb408))) _ _ y436 t441 t444 _ ?side1 ?side2 A19.out).mono ?_
           (case side1 => exact HO_408000.out)
           (case side2 => exact HO440.out)
           rintro e w22 ⟨v442, v445, rfl, ho0, ho1, hb⟩
           refine ⟨_, rfl, ?_⟩
           replace HO_408000 := aM (Kd.V_below HO_408000.out hb)
           replace HO_408001 := aM (Kd.V_below HO_408001.out hb)
           replace HO440 := aM (Kd.V_below HO440.out hb)
           have HO443 := aM (Kd.V_lower (Kd.V_mono (ok' := fun k_ => ((P0_0_ k_ ∨ P0_1_ k_) ∨ w.heap.size ≤ k_) ∧ k_ ≠ gb407 ∧ k_ ≠ gb408) ho0 (fun k_ hk_ => ⟨Or.elim hk_ (fun hs_ => Or.elim hs_ (fun hs_ => hs_.1) (fun hs_ => hs_.1)) (fun hn_ => (.inr (Nat.le_trans (below_size HB.out) hn_))), Or.elim hk_ (fun hs_ => Or.elim hs_ (fun hs_ => hs_.2.1) (fun hs_ => hs_.2.1)) (fun hn_ => (Kd.freshB (g := gb407) (o := .cells #[.slice A0_0 l0_0.length c0_0, .slice A0_1 l0_1.length c0_1] 94 (0, 0)) BK407.out k_ hn_)), Or.elim hk_ (fun hs_ => Or.elim hs_ (fun hs_ => hs_.2.2) (fun hs_ => hs_.2.2)) (fun hn_ => (Kd.freshB (g := gb408) (o := .cells #[.slice none 0 0, .slice none 0 0] 94 (0, 0)) BK408.out k_ hn_))⟩)) (below_size HB.out))
           have HO446 := aM (Kd.V_lower (Kd.V_mono (ok' := fun k_ => ((P0_0_ k_ ∨ P0_1_ k_) ∨ w.heap.size ≤ k_) ∧ k_ ≠ gb407 ∧ k_ ≠ gb408) ho1 (fun k_ hk_ => ⟨Or.elim hk_ (fun hs_ => Or.elim hs_ (fun hs_ => hs_.1) (fun hs_ => hs_.1)) (fun hn_ => (.inr (Nat.le_trans (below_size HB.out) hn_))), Or.elim hk_ (fun hs_ => Or.elim hs_ (fun hs_ => hs_.2.1) (fun hs_ => hs_.2.1)) (fun hn_ => (Kd.freshB (g := gb407) (o := .cells #[.slice A0_0 l0_0.length c0_0, .slice A0_1 l0_1.length c0_1] 94 (0, 0)) BK407.out k_ hn_)), Or.elim hk_ (fun hs_ => Or.elim hs_ (fun hs_ => hs_.2.2) (fun hs_ => hs_.2.2)) (fun hn_ => (Kd.freshB (g := gb408) (o := .cells #[.slice none 0 0, .slice none 0 0] 94 (0, 0)) BK408.out k_ hn_))⟩)) (below_size HB.out))
           replace BK407 := aM (blk_below (g := gb407) (o := .cells #[.slice A0_0 l0_0.length c0_0, .slice A0_1 l0_1.length c0_1] 94 (0, 0)) BK407.out hb)
           replace BK408 := aM (blk_below (g := gb408) (o := .cells #[.slice none 0 0, .slice none 0 0] 94 (0, 0)) BK408.out hb)
           replace HB := aM (below_step HB.out hb)
           (try clear hb)
           (try clear ho0)
           (try clear ho1)
           obtain ⟨Ao23, co23, eo23⟩ := Kd.V_slice HO443.out
           (subst eo23)
           obtain ⟨Ao25, co25, eo25⟩ := Kd.V_slice HO446.out
           (subst eo25)
           refine hK.out _ _ ⟨(blk_cell BK407.out 0).trans rfl, (blk_cell BK407.out 1).trans rfl⟩ (fun hHeld => ?_)
           clear hK K
           refine norm_ (a' := ?_) ?_ ?_
           rotate_left
           ·show Act.put _ (some 51) _ = _
            simp only [Act.put, sA, sZ, sS, i64_w, i32_w]
            rfl
           refine one_ (i := 8) (N := none) #[true, true, true, true, true, true, true, true, true] rfl rfl (one_of HT_.out (by kernel_rfl)) (by decide) (fun K hK => ?_)
           have hs24 : w22.cell? ⟨gb408, 0, none⟩ = some (.slice none 0 0) := (blk_cell BK408.out 0).trans rfl
           have hfs24 := blk_frozen BK408.out 0
           have hns24_0 := NB407_408.out
           have hms24_0 := NB408_407.out
           have hs26 : w22.cell? ⟨gb408, 1, none⟩ = some (.slice none 0 0) := (blk_cell BK408.out 1).trans rfl
           have hfs26 := blk_frozen BK408.out 1
           have hns26_0 := NB407_408.out
           have hms26_0 := NB408_407.out
           refine skip_ (w1 := ?_) (by rfl) rfl ?_ ?_
           rotate_left
           ·go_simp
            rfl
           refine hK.out _ _ ⟨((cell_far (p := ⟨gb408, _, none⟩) NB407_408.out _).trans (((cell_far (p := ⟨gb408, _, none⟩) NB407_408.out _).trans (hHeld.1)))), ((cell_far (p := ⟨gb408, _, none⟩) NB407_408.out _).trans (((cell_far (p := ⟨gb408, _, none⟩) NB407_408.out _).trans (hHeld.2))))⟩ (fun hHeld => ?_)
           clear hK K
           refine done_ (done_of HT_.out (by kernel_rfl)) ?_
           try go_wp2
           refine bodyPost_ret (results_cell_row rfl _ _ gb408 94 #[.slice Ao23 t441.length co23, .slice Ao25 t444.length co25] (0, 0) _ rfl (by refine blk_put (cs := #[.slice Ao23 t441.length co23, .slice none 0 0]) ?_ 1 _ rfl; refine blk_put (cs := #[.slice none 0 0, .slice none 0 0]) ?_ 0 _ rfl; exact BK408.out) Try.underlying94 rfl (by kernel_rfl)) rfl ?_
           exact ⟨_, _, by first | rfl | (simp [*, errW_none, errW_some] <;> rfl), by exact Kd.V_mono (Kd.V_far (p := ⟨gb408, 1, none⟩) (Kd.V_far (p := ⟨gb408, 0, none⟩) (Kd.V_mono HO443.out (fun k_ hk => (⟨hk, hk.2.2⟩ : _ ∧ k_ ≠ gb408))) (fun _ hk => hk.2) (.slice Ao23 t441.length co23)) (fun _ hk => hk.2) (.slice Ao25 t444.length co25)) (fun _ hk => hk.1.1), by exact Kd.V_mono (Kd.V_far (p := ⟨gb408, 1, none⟩) (Kd.V_far (p := ⟨gb408, 0, none⟩) (Kd.V_mono HO446.out (fun k_ hk => (⟨hk, hk.2.2⟩ : _ ∧ k_ ≠ gb408))) (fun _ hk => hk.2) (.slice Ao23 t441.length co23)) (fun _ hk => hk.2) (.slice Ao25 t444.length co25)) (fun _ hk => hk.1.1), by repeat (first | (with_reducible first | exact HB.out | refine bS ?_ GE408.out))⟩
          ·rw [if_neg c18] at H
           exact absurd H (by simp)
         ·rw [if_neg c17] at H
          exact absurd H (by simp)
        ·replace c16 := Bool.eq_false_iff.mpr c16
         subst c16
         replace H : (spec_l1Less.l0 k2 (l0_1.length : Int) (wrap64 (x4_1 + 1)) l0_0 l0_1) = some (r1, r2) := by rw [if_neg (show ¬ (false = true) by decide)] at H; exact H
         have H' := aM H
         clear H
         go_wp2
         go_roundg k2
         case measure => have := HK1.out; have := HK2.out; omega
         case rel => exact ⟨(wrap64 (x4_1 + 1)), (by rfl), H', ⟨by have := HK1.out; have := HK2.out; omega⟩, ⟨by exact HO_408000.out⟩, ⟨by exact HO_408001.out⟩, ⟨by exact BK407.out⟩, ⟨by exact BK408.out⟩, ⟨HB.out⟩⟩
   ·rw [if_neg c6] at H
    have c6b0 : decide (x4_1 < (l0_1.length : Int)) = false := decide_eq_false c6
    clear c6
    by_cases c27 : (l0_0.length : Int) > 0
    ·rw [if_pos c27] at H
     have c27b0 : decide (0 < (l0_0.length : Int)) = true := decide_eq_true c27
     have c27b1 : decide (0 < l0_0.length) = true := decide_eq_true (by omega)
     clear c27
     obtain ⟨ji28, hji28⟩ : ∃ j_ : Int, (wrap64 ((l0_0.length : Int) - 1)) = j_ := ⟨_, rfl⟩
     replace H : (if 0 ≤ (ji28) then (if (ji28) < (l0_0.length : Int) then (if 0 ≤ (wrap64 ((l0_1.length : Int) - 1)) then (if (wrap64 ((l0_1.length : Int) - 1)) < (l0_1.length : Int) then (if ((rdOf false l0_0 (ji28)) == (rdOf false l0_1 (wrap64 ((l0_1.length : Int) - 1)))) = true then ((some (([rdOf false l0_1 (wrap64 ((l0_1.length : Int) - 1))] : List Bool) : List Bool)).bind fun y412 => (if (wrap64 ((l0_1.length : Int) - 1)) ≤ (l0_1.length : Int) then ((some (l0_1.take ((wrap64 ((l0_1.length : Int) - 1)) : Int).toNat : List Bool)).bind fun y415 => (if y412.length + y415.length < 140737488355328 then (if (ji28) ≤ (l0_0.length : Int) then ((spec_l1Less.f k1 (l0_0.take ((ji28) : Int).toNat) (y412 ++ y415)).bind fun bt428 => (some (bt428.1, bt428.2))) else (none)) else (none))) else (none))) else (some (l0_0, l0_1))) else (none)) else (none)) else (none)) else (none)) = some (r1, r2) := by first | (rw [hji28] at H; exact H)
     have hji28w : (IntKind.i64.wrap ((l0_0.length : Int) - 1)) = ji28 := (i64_w _).trans hji28
     by_cases c29 : 0 ≤ (ji28)
     ·rw [if_pos c29] at H
      have c29b0 : decide (0 ≤ (ji28)) = true := decide_eq_true c29
      clear c29
      by_cases c30 : (ji28) < (l0_0.length : Int)
      ·rw [if_pos c30] at H
       have c30b0 : decide ((ji28) < (l0_0.length : Int)) = true := decide_eq_true c30
       clear c30
       obtain ⟨ji31, hji31⟩ : ∃ j_ : Int, (wrap64 ((l0_1.length : Int) - 1)) = j_ := ⟨_, rfl⟩
       replace H : (if 0 ≤ (ji31) then (if (ji31) < (l0_1.length : Int) then (if ((rdOf false l0_0 (ji28)) == (rdOf false l0_1 (ji31))) = true then ((some (([rdOf false l0_1 (ji31)] : List Bool) : List Bool)).bind fun y412 => (if (ji31) ≤ (l0_1.length : Int) then ((some (l0_1.take ((ji31) : Int).toNat : List Bool)).bind fun y415 => (if y412.length + y415.length < 140737488355328 then (if (ji28) ≤ (l0_0.length : Int) then ((spec_l1Less.f k1 (l0_0.take ((ji28) : Int).toNat) (y412 ++ y415)).bind fun bt428 => (some (bt428.1, bt428.2))) else (none)) else (none))) else (none))) else (some (l0_0, l0_1))) else (none)) else (none)) = some (r1, r2) := by first | (rw [hji31] at H; exact H)
       have hji31w : (IntKind.i64.wrap ((l0_1.length : Int) - 1)) = ji31 := (i64_w _).trans hji31
       by_cases c32 : 0 ≤ (ji31)
       ·rw [if_pos c32] at H
        have c32b0 : decide (0 ≤ (ji31)) = true := decide_eq_true c32
        clear c32
        by_cases c33 : (ji31) < (l0_1.length : Int)
        ·rw [if_pos c33] at H
         have c33b0 : decide ((ji31) < (l0_1.length : Int)) = true := decide_eq_true c33
         clear c33
         by_cases c34 : ((rdOf false l0_0 (ji28)) == (rdOf false l0_1 (ji31))) = true
         ·rw [if_pos c34] at H
          have c34b0 : ((rdOf false l0_0 (ji28)) == (rdOf false l0_1 (ji31))) = true := c34
          (try (have c34b1 : decide ((rdOf false l0_0 (ji28)) = (rdOf false l0_1 (ji31))) = true := by simpa using c34))
          (try (have c34b2 : ((rdOf false l0_0 (ji28)) == (rdOf false l0_1 (ji31))) = true := by simpa using c34))
          clear c34
          obtain ⟨y412, hy412⟩ : ∃ y_ : List Bool, y_ = (([rdOf false l0_1 (ji31)] : List Bool)) := ⟨_, rfl⟩
          replace H : (if (ji31) ≤ (l0_1.length : Int) then ((some (l0_1.take ((ji31) : Int).toNat : List Bool)).bind fun y415 => (if y412.length + y415.length < 140737488355328 then (if (ji28) ≤ (l0_0.length : Int) then ((spec_l1Less.f k1 (l0_0.take ((ji28) : Int).toNat) (y412 ++ y415)).bind fun bt428 => (some (bt428.1, bt428.2))) else (none)) else (none))) else (none)) = some (r1, r2) := by first | (have H2_ := (Option.bind_some _ _).symm.trans H; rw [hy412]; with_reducible exact H2_)
          have Ny412 := aM hy412
          clear hy412
          have c35b0 := eq_true (of_decide_eq_true (by (with_reducible assumption)) : 0 ≤ (ji31))
          by_cases c36 : (ji31) ≤ (l0_1.length : Int)
          ·rw [if_pos c36] at H
           have c36b0 := eq_true c36
           have c36b1 : decide ((ji31) ≤ (l0_1.length : Int)) = true := decide_eq_true c36
           clear c36
           obtain ⟨y415, hy415⟩ : ∃ y_ : List Bool, y_ = (l0_1.take ((ji31) : Int).toNat) := ⟨_, rfl⟩
           replace H : (if y412.length + y415.length < 140737488355328 then (if (ji28) ≤ (l0_0.length : Int) then ((spec_l1Less.f k1 (l0_0.take ((ji28) : Int).toNat) (y412 ++ y415)).bind fun bt428 => (some (bt428.1, bt428.2))) else (none)) else (none)) = some (r1, r2) := by first | (have H2_ := (Option.bind_some _ _).symm.trans H; rw [hy415]; with_reducible exact H2_)
           have Ny415 := aM hy415
           clear hy415
           by_cases c37 : y412.length + y415.length < 140737488355328
           ·rw [if_pos c37] at H
            have LMc37 := aM c37
            clear c37
            obtain ⟨y420, hy420⟩ : ∃ y_ : List Bool, y_ = (y412 ++ y415) := ⟨_, rfl⟩
            replace H : (if (ji28) ≤ (l0_0.length : Int) then ((spec_l1Less.f k1 (l0_0.take ((ji28) : Int).toNat) y420).bind fun bt428 => (some (bt428.1, bt428.2))) else (none)) = some (r1, r2) := by first | (rw [hy420]; with_reducible exact H)
            have Ny420 := aM hy420
            clear hy420
            have c38b0 := eq_true (of_decide_eq_true (by (with_reducible assumption)) : 0 ≤ (ji28))
            by_cases c39 : (ji28) ≤ (l0_0.length : Int)
            ·rw [if_pos c39] at H
             have c39b0 := eq_true c39
             have c39b1 : decide ((ji28) ≤ (l0_0.length : Int)) = true := decide_eq_true c39
             clear c39
             obtain ⟨y423, hy423⟩ : ∃ y_ : List Bool, y_ = (l0_0.take ((ji28) : Int).toNat) := ⟨_, rfl⟩
             replace H : ((spec_l1Less.f k1 y423 y420).bind fun bt428 => (some (bt428.1, bt428.2))) = some (r1, r2) := by first | (rw [hy423]; with_reducible exact H)
             have Ny423 := aM hy423
             clear hy423
             replace H := Option.bind_eq_some_iff.mp H
             obtain ⟨⟨t428, t431⟩, A400, H⟩ := H
             replace H : (some (t428, t431)) = some (r1, r2) := H
             have A40 := aM A400
             clear A400
             simp only [Option.some.injEq, Prod.mk.injEq] at H
             obtain ⟨rfl, rfl⟩ := H
             have hnb41 := NB407_408.out
             have hnc41 := NB408_407.out
             have hcz42_0 : wr.cell? ⟨gb407, 0, none⟩ = some (.slice A0_0 l0_0.length c0_0) := (blk_cell BK407.out 0).trans rfl
             have hcz42_1 : wr.cell? ⟨gb407, 1, none⟩ = some (.slice A0_1 l0_1.length c0_1) := (blk_cell BK407.out 1).trans rfl
             have hfz42_0 := blk_frozen BK407.out 0
             have hfz42_1 := blk_frozen BK407.out 1
             try go_wp2
             replace HO_408000 := aM (vD HO_408000.out)
             replace HO_408001 := aM (vD HO_408001.out)
             replace BK407 := aM (kD BK407.out)
             replace BK408 := aM (kD BK408.out)
             replace HB := aM (b1 HB.out)
             have p409 : 0 ≤ ((ji28) : Int) := of_decide_eq_true (by (with_reducible assumption))
             have q409 : (ji28) < (l0_0.length : Int) := of_decide_eq_true (by (with_reducible assumption))
             obtain ⟨ad409, e409, hx409_0⟩ := Kd.at_bool (Kd.V_reads' HO_408000.out).2.2 (ji28) p409 q409
             cases e409
             replace p409 := eq_true p409
             replace q409 := eq_true q409
             have p410 : 0 ≤ ((ji31) : Int) := of_decide_eq_true (by (with_reducible assumption))
             have q410 : (ji31) < (l0_1.length : Int) := of_decide_eq_true (by (with_reducible assumption))
             obtain ⟨ad410, e410, hx410_0⟩ := Kd.at_bool (Kd.V_reads' HO_408001.out).2.2 (ji31) p410 q410
             cases e410
             replace p410 := eq_true p410
             replace q410 := eq_true q410
             have s0_ : wr.cell? ⟨gb407, 0, none⟩ = some (.slice (some ad409) l0_0.length c0_0) := (blk_cell BK407.out 0).trans rfl
             have s1_ : wr.cell? ⟨gb407, 1, none⟩ = some (.slice (some ad410) l0_1.length c0_1) := (blk_cell BK407.out 1).trans rfl
             have s2_ : wr.cell? (ad409.add ((ji28)).toNat) = some (.bool (rdOf false l0_0 (ji28))) := hx409_0
             have s3_ : wr.cell? (ad410.add ((ji31)).toNat) = some (.bool (rdOf false l0_1 (ji31))) := hx410_0
             go_region
             generalize wr.drew = w43 at HO_408000 HO_408001 BK407 BK408 HB hx409_0 hx410_0 ⊢
             try go_wp2
             replace HO_408000 := aM (vD HO_408000.out)
             replace HO_408001 := aM (vD HO_408001.out)
             replace BK407 := aM (kD BK407.out)
             replace BK408 := aM (kD BK408.out)
             replace HB := aM (b1 HB.out)
             have p411 : 0 ≤ ((ji31) : Int) := of_decide_eq_true (by (with_reducible assumption))
             have q411 : (ji31) < (l0_1.length : Int) := of_decide_eq_true (by (with_reducible assumption))
             obtain ⟨ad411, e411, hx411_0⟩ := Kd.at_bool (Kd.V_reads' HO_408001.out).2.2 (ji31) p411 q411
             obtain rfl : ad410 = ad411 := (by injection e411)
             replace p411 := eq_true p411
             replace q411 := eq_true q411
             have q45 : ((ji31) : Int) ≤ ((l0_1.length : Int) : Int) := of_decide_eq_true (by (with_reducible assumption))
             obtain ⟨i045, hi045, _, hsz45, _⟩ := info_parts info4
             have hroom45 : l0_1.length ≤ c0_1 := (Kd.V_reads' HO_408001.out).2.1
             have hC45 : Kd.F Kd.bool _ _ (some ad410) l0_1.length l0_1 := (Kd.V_at (base := w.heap.size) HO_408001.out).2.2
             have hcut45 := cut_to (P := Try.prog) 52 4 .i64 Try.underlying52 hi045 (some ad410) l0_1.length c0_1 (ji31) (of_decide_eq_true (by (with_reducible assumption))) q45 hroom45
             have hr45 := Kd.F_take (m := ((ji31) : Int).toNat) hC45 (by omega)
             have hy45 : y415.length = ((ji31) : Int).toNat := (by rw [Ny415.out, List.length_take]; omega)
             rw [← Ny415.out] at hr45
             rw [← hy45] at hcut45
             have HO419 := aM (show Kd.V Kd.bool 4 _ w.heap.size _ (.slice (some ad410) y415.length c0_1) y415 from Kd.V_mk (by omega) hr45)
             have HC419 := aM (show y415.length ≤ c0_1 from by omega)
             clear hr45 hC45 hroom45 hi045 hsz45
             have KY45 := aM hy45
             clear hy45
             replace q45 := eq_true q45
             refine start_ (n := 14) (S := fun w' => w'.cell? ⟨gb407, 0, none⟩ = some (.slice (some ad409) l0_0.length c0_0) ∧ w'.cell? ⟨gb407, 1, none⟩ = some (.slice (some ad410) l0_1.length c0_1) ∧ w'.cell? (ad410.add ((ji31)).toNat) = some (.bool (rdOf false l0_1 (ji31)))) (ds := [12]) #[false, false, false, false, false, false, false, false, false, false, false, false, false, false] (by kernel_rfl) rfl rfl ⟨(blk_cell BK407.out 0).trans rfl, (blk_cell BK407.out 1).trans rfl, hx411_0⟩ (fun hHeld => ?_); refine with_tabW spec_l1Less.tab14 spec_l1Less.bits14 (fun HT_ HW_ => ?_)
             generalize w43.drew = w44 at HO_408000 HO_408001 BK407 BK408 HB HO419 hx411_0 hHeld ⊢
             refine pure_ (i := 0) (N := some 72) (v := ?_) (a' := ?_) #[true, false, false, false, false, false, false, false, false, false, false, false, false, false] rfl rfl (any_of HT_.out (by kernel_rfl)) (fun _ _ _ h => h) (Or.inl ⟨by rfl, ?_⟩) ?_ ?_
             rotate_left
             ·intro w'
              go_simp
              with_reducible rfl
             rotate_left
             ·simp only [Act.put, sA, sZ, sS, i64_w, i32_w]
              rfl
             refine pure_ (i := 2) (N := some 74) (v := ?_) (a' := ?_) #[true, false, true, false, false, false, false, false, false, false, false, false, false, false] rfl rfl (any_of HT_.out (by kernel_rfl)) (fun _ _ _ h => h) (Or.inl ⟨by rfl, ?_⟩) ?_ ?_
             rotate_left
             ·intro w'
              go_simp
              with_reducible rfl
             rotate_left
             ·simp only [Act.put, sA, sZ, sS, i64_w, i32_w]
              rfl
             refine pure_ (i := 3) (N := some 75) (v := ?_) (a' := ?_) #[true, false, true, true, false, false, false, false, false, false, false, false, false, false] rfl rfl (any_of HT_.out (by kernel_rfl)) (fun _ _ _ h => h) (Or.inl ⟨by rfl, ?_⟩) ?_ ?_
             rotate_left
             ·intro w'
              go_simp
              with_reducible rfl
             rotate_left
             ·simp only [Act.put, sA, sZ, sS, i64_w, i32_w]
              rfl
             refine pure_ (i := 7) (N := some 79) (v := ?_) (a' := ?_) #[true, false, true, true, false, false, false, true, false, false, false, false, false, false] rfl rfl (any_of HT_.out (by kernel_rfl)) (fun _ _ _ h => h) (Or.inl ⟨by rfl, ?_⟩) ?_ ?_
             rotate_left
             ·intro w'
              go_simp
              with_reducible rfl
             rotate_left
             ·simp only [Act.put, sA, sZ, sS, i64_w, i32_w]
              rfl
             refine pure_ (i := 9) (N := some 81) (v := ?_) (a' := ?_) #[true, false, true, true, false, false, false, true, false, true, false, false, false, false] rfl rfl (any_of HT_.out (by kernel_rfl)) (fun _ _ _ h => h) (Or.inl ⟨by rfl, ?_⟩) ?_ ?_
             rotate_left
             ·intro w'
              go_simp
              with_reducible rfl
             rotate_left
             ·simp only [Act.put, sA, sZ, sS, i64_w, i32_w]
              rfl
             refine pure_ (i := 10) (N := some 82) (v := ?_) (a' := ?_) #[true, false, true, true, false, false, false, true, false, true, true, false, false, false] rfl rfl (any_of HT_.out (by kernel_rfl)) (fun _ _ _ h => h) (Or.inl ⟨by rfl, ?_⟩) ?_ ?_
             rotate_left
             ·intro w'
              go_simp
              with_reducible rfl
             rotate_left
             ·simp only [Act.put, sA, sZ, sS, i64_w, i32_w]
              rfl
             refine take_ (i := 1) (N := some 73) (v := ?_) (a' := ?_) #[true, true, true, true, false, false, false, true, false, true, true, false, false, false] rfl rfl (take_ofW HT_.out HW_.out (by kernel_rfl)) (fun _ _ _ h => h) (Or.inl ⟨by rfl, ?_⟩) hHeld ?_ ?_
             rotate_left
             ·rintro w' ⟨s0, s1, s2⟩
              go_simp
              with_reducible rfl
             rotate_left
             ·simp only [Act.put, sA, sZ, sS, i64_w, i32_w]
              rfl
             refine pure_ (i := 4) (N := some 76) (v := ?_) (a' := ?_) #[true, true, true, true, true, false, false, true, false, true, true, false, false, false] rfl rfl (any_of HT_.out (by kernel_rfl)) (fun _ _ _ h => h) (Or.inl ⟨by rfl, ?_⟩) ?_ ?_
             rotate_left
             ·intro w'
              go_simp
              with_reducible rfl
             rotate_left
             ·simp only [Act.put, sA, sZ, sS, i64_w, i32_w]
              rfl
             refine take_ (i := 5) (N := some 77) (v := ?_) (a' := ?_) #[true, true, true, true, true, true, false, true, false, true, true, false, false, false] rfl rfl (take_ofW HT_.out HW_.out (by kernel_rfl)) (fun _ _ _ h => h) (Or.inl ⟨by rfl, ?_⟩) hHeld ?_ ?_
             rotate_left
             ·rintro w' ⟨s0, s1, s2⟩
              go_simp
              with_reducible rfl
             rotate_left
             ·simp only [Act.put, sA, sZ, sS, i64_w, i32_w]
              rfl
             refine take_ (i := 8) (N := some 80) (v := ?_) (a' := ?_) #[true, true, true, true, true, true, false, true, true, true, true, false, false, false] rfl rfl (take_ofW HT_.out HW_.out (by kernel_rfl)) (fun _ _ _ h => h) (Or.inl ⟨by rfl, ?_⟩) hHeld ?_ ?_
             rotate_left
             ·rintro w' ⟨s0, s1, s2⟩
              go_simp
              with_reducible rfl
             rotate_left
             ·simp only [Act.put, sA, sZ, sS, i64_w, i32_w]
              rfl
             refine pure_ (i := 11) (N := some 83) (v := ?_) (a' := ?_) #[true, true, true, true, true, true, false, true, true, true, true, true, false, false] rfl rfl (any_of HT_.out (by kernel_rfl)) (fun _ _ _ h => h) (Or.inl ⟨by rfl, ?_⟩) ?_ ?_
             rotate_left
             ·intro w'
              go_simp
              with_reducible rfl
             rotate_left
             ·simp only [Act.put, sA, sZ, sS, i64_w, i32_w]
              rfl
             refine one_ (i := 6) (N := some 78) #[true, true, true, true, true, true, true, true, true, true, true, true, false, false] rfl rfl (one_of HT_.out (by kernel_rfl)) (by decide) (fun K hK => ?_)
             refine Kd.R_lit_step Kd.bool _ 4 ?hg (N := 78) ?hd (xs := ([rdOf false l0_1 (ji31)] : List Bool)) (inner := [.bool (rdOf false l0_1 (ji31))]) (ok := fun _ => True) (okp := fun _ => True) ?hr ?hp (fun _ hk => hk) trivial (Below.refl _ _) (Nat.le_refl _) (by simp) ?_; (case hd => rfl); (case hg => rfl); (case hr => first | (go_simp; done)); (case hp => exact (Reps.one (show Kd.M Kd.bool _ _ _ (rdOf false l0_1 (ji31)) [.bool (rdOf false l0_1 (ji31))] from rfl) (Reps.none _ _)))
             intro v413 w46 ho47 hb hg_ hnew_
             have HS2_ := (hb.cell (World.block_lt_of_cell? _ _ (hHeld.2.2))).trans (hHeld.2.2)
             clear hg_ hnew_
             (rw [← Ny412.out] at ho47)
             replace HO_408000 := aM (Kd.V_elder' HO_408000.out (Kd.R_base ho47) hb)
             replace HO_408001 := aM (Kd.V_elder' HO_408001.out (Kd.R_base ho47) hb)
             replace HO419 := aM (Kd.V_elder' HO419.out (Kd.R_base ho47) hb)
             have HO414 := aM (Kd.R_lower (Kd.R_newM (M := fun k_ => (w.heap.size ≤ k_)) ho47 (below_size HB.out) (fun k_ h_ => h_)) (below_size HB.out))
             replace BK407 := aM (blk_below (g := gb407) (o := .cells #[.slice (some ad409) l0_0.length c0_0, .slice (some ad410) l0_1.length c0_1] 94 (0, 0)) BK407.out hb)
             replace BK408 := aM (blk_below (g := gb408) (o := .cells #[.slice none 0 0, .slice none 0 0] 94 (0, 0)) BK408.out hb)
             replace HB := aM (below_step HB.out hb)
             clear hb ho47
             refine hK.out _ _ ⟨(blk_cell BK407.out 0).trans rfl, (blk_cell BK407.out 1).trans rfl, HS2_⟩ (fun hHeld => ?_)
             clear hK K
             refine norm_ (a' := ?_) ?_ ?_
             rotate_left
             ·show Act.put _ (some 78) _ = _
              simp only [Act.put, sA, sZ, sS, i64_w, i32_w]
              rfl
             refine last_ (i := 12) (N := some 84) #[true, true, true, true, true, true, true, true, true, true, true, true, true, false] rfl rfl (one_of HT_.out (by kernel_rfl)) (by decide) (fun K hK => ?_)
             refine Kd.R_append_rows_step Kd.bool (w0 := w) w.heap.size (by rfl) (.tmp 78) (.tmp 83) 52 4 (.bool false) 1 rfl Try.underlying52 info4 rfl (by decide) (by omega) v413 y412 y415 _ _ _ (fun k_ => (w.heap.size ≤ k_)) (fun _ => False) rfl rfl ?aO ?aR (fun _ _ h => h) (fun _ h => h.elim) ?aF ?aB ?aS ?aL ?_
             (case aR => repeat (exact (Kd.V_reads' HO419.out).2.2))
             (case aB => exact HB.out)
             (case aF => exact (fun k_ hk => (Nat.le_trans (below_size HB.out) hk)))
             (case aO => exact (by exact Kd.R_mono HO414.out (fun _ hk => hk.1)))
             (case aS => exact (below_size HB.out))
             (case aL => have := LMc37.out; omega)
             intro v421 w48 ho hb hg hat
             rw [← Ny420.out] at ho
             replace HO_408000 := aM (Kd.V_afterv (ok := (fun k_ => ((P0_0_ k_ ∨ P0_1_ k_) ∨ w.heap.size ≤ k_) ∧ k_ ≠ gb407 ∧ k_ ≠ gb408)) HO_408000.out hg hat)
             replace HO_408001 := aM (Kd.V_afterv (ok := (fun k_ => ((P0_0_ k_ ∨ P0_1_ k_) ∨ w.heap.size ≤ k_) ∧ k_ ≠ gb407 ∧ k_ ≠ gb408)) HO_408001.out hg hat)
             replace BK407 := aM (blk_grown (g := gb407) (o := .cells #[.slice (some ad409) l0_0.length c0_0, .slice (some ad410) l0_1.length c0_1] 94 (0, 0)) BK407.out hg (Kd.R_ne HO414.out BK407.out (by decide)))
             replace BK408 := aM (blk_grown (g := gb408) (o := .cells #[.slice none 0 0, .slice none 0 0] 94 (0, 0)) BK408.out hg (Kd.R_ne HO414.out BK408.out (by decide)))
             replace HO419 := aM (Kd.V_afterv (ok := (fun k_ => ((P0_0_ k_ ∨ P0_1_ k_) ∨ w.heap.size ≤ k_) ∧ k_ ≠ gb407 ∧ k_ ≠ gb408)) HO419.out hg hat)
             replace HB := aM hb
             have HO422 := aM ho
             clear HO414
             clear ho hb hg hat
             refine hK.out _ _ ?_
             clear hK K
             refine norm_ (a' := ?_) ?_ ?_
             rotate_left
             ·show Act.put _ (some 84) _ = _
              simp only [Act.put, sA, sZ, sS, i64_w, i32_w]
              rfl
             refine pure_ (i := 13) (N := some 8) (v := ?_) (a' := ?_) #[true, true, true, true, true, true, true, true, true, true, true, true, true, true] rfl rfl (any_of HT_.out (by kernel_rfl)) (fun _ _ _ h => h) (Or.inl ⟨by rfl, ?_⟩) ?_ ?_
             rotate_left
             ·intro w'
              go_simp
              with_reducible rfl
             rotate_left
             ·simp only [Act.put, sA, sZ, sS, i64_w, i32_w]
              rfl
             refine done_ (done_of HT_.out (by kernel_rfl)) ?_
             have hcz49_0 : w48.cell? ⟨gb407, 0, none⟩ = some (.slice (some ad409) l0_0.length c0_0) := (blk_cell BK407.out 0).trans rfl
             have hcz49_1 : w48.cell? ⟨gb407, 1, none⟩ = some (.slice (some ad410) l0_1.length c0_1) := (blk_cell BK407.out 1).trans rfl
             have hfz49_0 := blk_frozen BK407.out 0
             have hfz49_1 := blk_frozen BK407.out 1
             have q50 : ((ji28) : Int) ≤ ((l0_0.length : Int) : Int) := of_decide_eq_true (by (with_reducible assumption))
             obtain ⟨i050, hi050, _, hsz50, _⟩ := info_parts info4
             have hroom50 : l0_0.length ≤ c0_0 := (Kd.V_reads' HO_408000.out).2.1
             have hC50 : Kd.F Kd.bool _ _ (some ad409) l0_0.length l0_0 := (Kd.V_at (base := w.heap.size) HO_408000.out).2.2
             have hcut50 := cut_to (P := Try.prog) 52 4 .i64 Try.underlying52 hi050 (some ad409) l0_0.length c0_0 (ji28) (of_decide_eq_true (by (with_reducible assumption))) q50 hroom50
             have hr50 := Kd.F_take (m := ((ji28) : Int).toNat) hC50 (by omega)
             have hy50 : y423.length = ((ji28) : Int).toNat := (by rw [Ny423.out, List.length_take]; omega)
             rw [← Ny423.out] at hr50
             rw [← hy50] at hcut50
             have HO427 := aM (show Kd.V Kd.bool 4 _ w.heap.size _ (.slice (some ad409) y423.length c0_0) y423 from Kd.V_mk (by omega) hr50)
             have HC427 := aM (show y423.length ≤ c0_0 from by omega)
             clear hr50 hC50 hroom50 hi050 hsz50
             have KY50 := aM hy50
             clear hy50
             replace q50 := eq_true q50
             obtain ⟨Ao51, co51, eo51⟩ := Kd.R_slice HO422.out
             subst eo51
             try go_wp2_with (first | ((with_reducible refine gate_callee (f := 92) rfl ?_); refine goesL_ (some 92) rfl rfl Try.func92 (by kernel_rfl) rfl #[.agg #[.slice (some ad409) y423.length c0_0, .slice Ao51 y420.length co51]] rfl (by (try simp only [List.map_toArray, List.map_cons, List.map_nil]); rfl) ?_; (with_reducible refine (ih k1 (by have := HK1.out; omega) (fun k_ => ((((P0_0_ k_ ∨ P0_1_ k_) ∨ w.heap.size ≤ k_) ∧ (k_ ≠ gb407 ∧ k_ ≠ gb408)) ∧ some k_ ≠ (.slice Ao51 y420.length co51 : Value).ownBlock)) _ _ y423 (fun k_ => some k_ = (.slice Ao51 y420.length co51 : Value).ownBlock) _ _ y420 t428 t431 _ ?side1 ?side2 A40.out).mono ?_); (case side1 => exact HO427.out); (case side2 => exact Kd.R_V (Kd.R_tight rfl (Kd.R_types (Kd.R_types (HO422.out) BK407.out (by decide)) BK408.out (by decide)))); rintro e w52 ⟨v429, v432, rfl, ho0, ho1, hb⟩; refine ⟨_, rfl, ?_⟩; replace HO_408000 := aM (Kd.V_below HO_408000.out hb); replace HO_408001 := aM (Kd.V_below HO_408001.out hb); replace HO419 := aM (Kd.V_below HO419.out hb); replace HO427 := aM (Kd.V_below HO427.out hb); have HO430 := aM (Kd.V_lower (Kd.V_mono (ok' := fun k_ => ((P0_0_ k_ ∨ P0_1_ k_) ∨ w.heap.size ≤ k_) ∧ k_ ≠ gb407 ∧ k_ ≠ gb408) ho0 (fun k_ hk_ => ⟨Or.elim hk_ (fun hs_ => Or.elim hs_ (fun hs_ => hs_.1.1) (fun hs_ => (.inr (((Kd.R_types (Kd.R_types (HO422.out) BK407.out (by decide)) BK408.out (by decide)).1 k_ hs_.symm).1.1)))) (fun hn_ => (.inr (Nat.le_trans (below_size HB.out) hn_))), Or.elim hk_ (fun hs_ => Or.elim hs_ (fun hs_ => hs_.1.2.1) (fun hs_ => ((Kd.R_types (Kd.R_types (HO422.out) BK407.out (by decide)) BK408.out (by decide)).1 k_ hs_.symm).1.2)) (fun hn_ => (Kd.freshB (g := gb407) (o := .cells #[.slice (some ad409) l0_0.length c0_0, .slice (some ad410) l0_1.length c0_1] 94 (0, 0)) BK407.out k_ hn_)), Or.elim hk_ (fun hs_ => Or.elim hs_ (fun hs_ => hs_.1.2.2) (fun hs_ => ((Kd.R_types (Kd.R_types (HO422.out) BK407.out (by decide)) BK408.out (by decide)).1 k_ hs_.symm).2)) (fun hn_ => (Kd.freshB (g := gb408) (o := .cells #[.slice none 0 0, .slice none 0 0] 94 (0, 0)) BK408.out k_ hn_))⟩)) (below_size HB.out)); have HO433 := aM (Kd.V_lower (Kd.V_mono (ok' := fun k_ => ((P0_0_ k_ ∨ P0_1_ k_) ∨ w.heap.size ≤ k_) ∧ k_ ≠ gb407 ∧ k_ ≠ gb408) ho1 (fun k_ hk_ => ⟨Or.elim hk_ (fun hs_ => Or.elim hs_ (fun hs_ => hs_.1.1) (fun hs_ => (.inr (((Kd.R_types (Kd.R_types (HO422.out) BK407.out (by decide)) BK408.out (by decide)).1 k_ hs_.symm).1.1)))) (fun hn_ => (.inr (Nat.le_trans (below_size HB.out) hn_))), Or.elim hk_ (fun hs_ => Or.elim hs_ (fun hs_ => hs_.1.2.1) (fun hs_ => ((Kd.R_types (Kd.R_types (HO422.out) BK407.out (by decide)) BK408.out (by decide)).1 k_ hs_.symm).1.2)) (fun hn_ => (Kd.freshB (g := gb407) (o := .cells #[.slice (some ad409) l0_0.length c0_0, .slice (some ad410) l0_1.length c0_1] 94 (0, 0)) BK407.out k_ hn_)), Or.elim hk_ (fun hs_ => Or.elim hs_ (fun hs_ => hs_.1.2.2) (fun hs_ => ((Kd.R_types (Kd.R_types (HO422.out) BK407.out (by decide)) BK408.out (by decide)).1 k_ hs_.symm).2)) (fun hn_ => (Kd.freshB (g := gb408) (o := .cells #[.slice none 0 0, .slice none 0 0] 94 (0, 0)) BK408.out k_ hn_))⟩)) (below_size HB.out)); replace HO422 := aM (Kd.R_below HO422.out hb); replace BK407 := aM (blk_below (g := gb407) (o := .cells #[.slice (some ad409) l0_0.length c0_0, .slice (some ad410) l0_1.length c0_1] 94 (0, 0)) BK407.out hb); replace BK408 := aM (blk_below (g := gb408) (o := .cells #[.slice none 0 0, .slice none 0 0] 94 (0, 0)) BK408.out hb); replace HB := aM (below_step HB.out hb); (try clear hb); (try clear ho0); (try clear ho1); obtain ⟨Ao53, co53, eo53⟩ := Kd.V_slice HO430.out; subst eo53; have hcz54_0 : w52.cell? ⟨gb408, 0, none⟩ = some (.slice none 0 0) := (blk_cell BK408.out 0).trans rfl; have hcz54_1 : w52.cell? ⟨gb408, 1, none⟩ = some (.slice none 0 0) := (blk_cell BK408.out 1).trans rfl; have hfz54_0 := blk_frozen BK408.out 0; have hfz54_1 := blk_frozen BK408.out 1; obtain ⟨Ao55, co55, eo55⟩ := Kd.V_slice HO433.out; subst eo55))
             refine bodyPost_ret (results_cell_row rfl _ _ gb408 94 #[.slice Ao53 t428.length co53, .slice Ao55 t431.length co55] (0, 0) _ rfl (by refine blk_put (cs := #[.slice Ao53 t428.length co53, .slice none 0 0]) ?_ 1 _ rfl; refine blk_put (cs := #[.slice none 0 0, .slice none 0 0]) ?_ 0 _ rfl; exact BK408.out) Try.underlying94 rfl (by kernel_rfl)) rfl ?_
             exact ⟨_, _, by first | rfl | (simp [*, errW_none, errW_some] <;> rfl), by exact Kd.V_mono (Kd.V_far (p := ⟨gb408, 1, none⟩) (Kd.V_far (p := ⟨gb408, 0, none⟩) (Kd.V_mono HO430.out (fun k_ hk => (⟨hk, hk.2.2⟩ : _ ∧ k_ ≠ gb408))) (fun _ hk => hk.2) (.slice Ao53 t428.length co53)) (fun _ hk => hk.2) (.slice Ao55 t431.length co55)) (fun _ hk => hk.1.1), by exact Kd.V_mono (Kd.V_far (p := ⟨gb408, 1, none⟩) (Kd.V_far (p := ⟨gb408, 0, none⟩) (Kd.V_mono HO433.out (fun k_ hk => (⟨hk, hk.2.2⟩ : _ ∧ k_ ≠ gb408))) (fun _ hk => hk.2) (.slice Ao53 t428.length co53)) (fun _ hk => hk.2) (.slice Ao55 t431.length co55)) (fun _ hk => hk.1.1), by repeat (first | (with_reducible first | exact HB.out | refine bS ?_ GE408.out))⟩
            ·rw [if_neg c39] at H
             exact absurd H (by simp)
           ·rw [if_neg c37] at H
            exact absurd H (by simp)
          ·rw [if_neg c36] at H
           exact absurd H (by simp)
         ·rw [if_neg c34] at H
          have c34b0 : ((rdOf false l0_0 (ji28)) == (rdOf false l0_1 (ji31))) = false := by simpa using c34
          (try (have c34b1 : decide ((rdOf false l0_0 (ji28)) = (rdOf false l0_1 (ji31))) = false := by simpa using c34))
          (try (have c34b2 : ((rdOf false l0_0 (ji28)) == (rdOf false l0_1 (ji31))) = false := by simpa using c34))
          (try (have c34b3 : ¬ ((rdOf false l0_0 (ji28)) = (rdOf false l0_1 (ji31))) := by simpa using c34))
          clear c34
          simp only [Option.some.injEq, Prod.mk.injEq] at H
          obtain ⟨rfl, rfl⟩ := H
          have hnb56 := NB407_408.out
          have hnc56 := NB408_407.out
          have hcz57_0 : wr.cell? ⟨gb407, 0, none⟩ = some (.slice A0_0 l0_0.length c0_0) := (blk_cell BK407.out 0).trans rfl
          have hcz57_1 : wr.cell? ⟨gb407, 1, none⟩ = some (.slice A0_1 l0_1.length c0_1) := (blk_cell BK407.out 1).trans rfl
          have hfz57_0 := blk_frozen BK407.out 0
          have hfz57_1 := blk_frozen BK407.out 1
          try go_wp2
          replace HO_408000 := aM (vD HO_408000.out)
          replace HO_408001 := aM (vD HO_408001.out)
          replace BK407 := aM (kD BK407.out)
          replace BK408 := aM (kD BK408.out)
          replace HB := aM (b1 HB.out)
          have p409 : 0 ≤ ((ji28) : Int) := of_decide_eq_true (by (with_reducible assumption))
          have q409 : (ji28) < (l0_0.length : Int) := of_decide_eq_true (by (with_reducible assumption))
          obtain ⟨ad409, e409, hx409_0⟩ := Kd.at_bool (Kd.V_reads' HO_408000.out).2.2 (ji28) p409 q409
          cases e409
          replace p409 := eq_true p409
          replace q409 := eq_true q409
          have p410 : 0 ≤ ((ji31) : Int) := of_decide_eq_true (by (with_reducible assumption))
          have q410 : (ji31) < (l0_1.length : Int) := of_decide_eq_true (by (with_reducible assumption))
          obtain ⟨ad410, e410, hx410_0⟩ := Kd.at_bool (Kd.V_reads' HO_408001.out).2.2 (ji31) p410 q410
          cases e410
          replace p410 := eq_true p410
          replace q410 := eq_true q410
          have s0_ : wr.cell? ⟨gb407, 0, none⟩ = some (.slice (some ad409) l0_0.length c0_0) := (blk_cell BK407.out 0).trans rfl
          have s1_ : wr.cell? ⟨gb407, 1, none⟩ = some (.slice (some ad410) l0_1.length c0_1) := (blk_cell BK407.out 1).trans rfl
          have s2_ : wr.cell? (ad409.add ((ji28)).toNat) = some (.bool (rdOf false l0_0 (ji28))) := hx409_0
          have s3_ : wr.cell? (ad410.add ((ji31)).toNat) = some (.bool (rdOf false l0_1 (ji31))) := hx410_0
          go_region
          generalize wr.drew = w58 at HO_408000 HO_408001 BK407 BK408 HB hx409_0 hx410_0 ⊢
          have hcz59_0 : w58.cell? ⟨gb407, 0, none⟩ = some (.slice (some ad409) l0_0.length c0_0) := (blk_cell BK407.out 0).trans rfl
          have hcz59_1 : w58.cell? ⟨gb407, 1, none⟩ = some (.slice (some ad410) l0_1.length c0_1) := (blk_cell BK407.out 1).trans rfl
          have hfz59_0 := blk_frozen BK407.out 0
          have hfz59_1 := blk_frozen BK407.out 1
          have hcz60_0 : w58.cell? ⟨gb408, 0, none⟩ = some (.slice none 0 0) := (blk_cell BK408.out 0).trans rfl
          have hcz60_1 : w58.cell? ⟨gb408, 1, none⟩ = some (.slice none 0 0) := (blk_cell BK408.out 1).trans rfl
          have hfz60_0 := blk_frozen BK408.out 0
          have hfz60_1 := blk_frozen BK408.out 1
          try go_wp2
          refine bodyPost_ret (results_cell_row rfl _ _ gb408 94 #[.slice (some ad409) l0_0.length c0_0, .slice (some ad410) l0_1.length c0_1] (0, 0) _ rfl (by refine blk_put (cs := #[.slice (some ad409) l0_0.length c0_0, .slice none 0 0]) ?_ 1 _ rfl; refine blk_put (cs := #[.slice none 0 0, .slice none 0 0]) ?_ 0 _ rfl; exact BK408.out) Try.underlying94 rfl (by kernel_rfl)) rfl ?_
          exact ⟨_, _, by first | rfl | (simp [*, errW_none, errW_some] <;> rfl), by exact Kd.V_mono (Kd.V_far (p := ⟨gb408, 1, none⟩) (Kd.V_far (p := ⟨gb408, 0, none⟩) (Kd.V_mono HO_408000.out (fun k_ hk => (⟨hk, hk.2.2⟩ : _ ∧ k_ ≠ gb408))) (fun _ hk => hk.2) (.slice (some ad409) l0_0.length c0_0)) (fun _ hk => hk.2) (.slice (some ad410) l0_1.length c0_1)) (fun _ hk => hk.1.1), by exact Kd.V_mono (Kd.V_far (p := ⟨gb408, 1, none⟩) (Kd.V_far (p := ⟨gb408, 0, none⟩) (Kd.V_mono HO_408001.out (fun k_ hk => (⟨hk, hk.2.2⟩ : _ ∧ k_ ≠ gb408))) (fun _ hk => hk.2) (.slice (some ad409) l0_0.length c0_0)) (fun _ hk => hk.2) (.slice (some ad410) l0_1.length c0_1)) (fun _ hk => hk.1.1), by repeat (first | (with_reducible first | exact HB.out | refine bS ?_ GE408.out))⟩
        ·rw [if_neg c33] at H
         exact absurd H (by simp)
       ·rw [if_neg c32] at H
        exact absurd H (by simp)
      ·rw [if_neg c30] at H
       exact absurd H (by simp)
     ·rw [if_neg c29] at H
      exact absurd H (by simp)
    ·rw [if_neg c27] at H
     have c27b0 : decide (0 < (l0_0.length : Int)) = false := decide_eq_false c27
     have c27b1 : decide (0 < l0_0.length) = false := decide_eq_false (by omega)
     clear c27
     simp only [Option.some.injEq, Prod.mk.injEq] at H
     obtain ⟨rfl, rfl⟩ := H
     have hnb61 := NB407_408.out
     have hnc61 := NB408_407.out
     have hcz62_0 : wr.cell? ⟨gb407, 0, none⟩ = some (.slice A0_0 l0_0.length c0_0) := (blk_cell BK407.out 0).trans rfl
     have hcz62_1 : wr.cell? ⟨gb407, 1, none⟩ = some (.slice A0_1 l0_1.length c0_1) := (blk_cell BK407.out 1).trans rfl
     have hfz62_0 := blk_frozen BK407.out 0
     have hfz62_1 := blk_frozen BK407.out 1
     try go_wp2
     replace HO_408000 := aM (vD HO_408000.out)
     replace HO_408001 := aM (vD HO_408001.out)
     replace BK407 := aM (kD BK407.out)
     replace BK408 := aM (kD BK408.out)
     replace HB := aM (b1 HB.out)
     go_region
     generalize wr.drew = w63 at HO_408000 HO_408001 BK407 BK408 HB ⊢
     have hcz64_0 : w63.cell? ⟨gb407, 0, none⟩ = some (.slice A0_0 l0_0.length c0_0) := (blk_cell BK407.out 0).trans rfl
     have hcz64_1 : w63.cell? ⟨gb407, 1, none⟩ = some (.slice A0_1 l0_1.length c0_1) := (blk_cell BK407.out 1).trans rfl
     have hfz64_0 := blk_frozen BK407.out 0
     have hfz64_1 := blk_frozen BK407.out 1
     have hcz65_0 : w63.cell? ⟨gb408, 0, none⟩ = some (.slice none 0 0) := (blk_cell BK408.out 0).trans rfl
     have hcz65_1 : w63.cell? ⟨gb408, 1, none⟩ = some (.slice none 0 0) := (blk_cell BK408.out 1).trans rfl
     have hfz65_0 := blk_frozen BK408.out 0
     have hfz65_1 := blk_frozen BK408.out 1
     try go_wp2
     refine bodyPost_ret (results_cell_row rfl _ _ gb408 94 #[.slice A0_0 l0_0.length c0_0, .slice A0_1 l0_1.length c0_1] (0, 0) _ rfl (by refine blk_put (cs := #[.slice A0_0 l0_0.length c0_0, .slice none 0 0]) ?_ 1 _ rfl; refine blk_put (cs := #[.slice none 0 0, .slice none 0 0]) ?_ 0 _ rfl; exact BK408.out) Try.underlying94 rfl (by kernel_rfl)) rfl ?_
     exact ⟨_, _, by first | rfl | (simp [*, errW_none, errW_some] <;> rfl), by exact Kd.V_mono (Kd.V_far (p := ⟨gb408, 1, none⟩) (Kd.V_far (p := ⟨gb408, 0, none⟩) (Kd.V_mono HO_408000.out (fun k_ hk => (⟨hk, hk.2.2⟩ : _ ∧ k_ ≠ gb408))) (fun _ hk => hk.2) (.slice A0_0 l0_0.length c0_0)) (fun _ hk => hk.2) (.slice A0_1 l0_1.length c0_1)) (fun _ hk => hk.1.1), by exact Kd.V_mono (Kd.V_far (p := ⟨gb408, 1, none⟩) (Kd.V_far (p := ⟨gb408, 0, none⟩) (Kd.V_mono HO_408001.out (fun k_ hk => (⟨hk, hk.2.2⟩ : _ ∧ k_ ≠ gb408))) (fun _ hk => hk.2) (.slice A0_0 l0_0.length c0_0)) (fun _ hk => hk.2) (.slice A0_1 l0_1.length c0_1)) (fun _ hk => hk.1.1), by repeat (first | (with_reducible first | exact HB.out | refine bS ?_ GE408.out))⟩


def spec_l4Small.f (k : Nat) (a0 : ByteArray) : Option (List Bool × List Bool × Bool) := (spec_l1Read.f k a0).bind fun bt448 => (if bt448.2.2 = true then ((spec_l1Less.f k bt448.1 bt448.2.1).bind fun bt456 => (if (bt456.1.length : Int) ≤ 8 then (some (bt456.1, bt456.2, decide ((bt456.2.length : Int) ≤ 8))) else (some (bt456.1, bt456.2, false)))) else (some (bt448.1, bt448.2.1, false)))
theorem spec_l4Small.mono : ∀ a0 k, LeO (spec_l4Small.f k a0) (spec_l4Small.f (k + 1) a0) := by
 intro a0 k
 unfold spec_l4Small.f
 repeat' first | (with_reducible exact spec_l1Less.mono _ _ _) | (with_reducible exact spec_l1Read.mono _ _) | (with_reducible exact LeO.refl _) | (with_reducible refine LeO.ite ?_ ?_) | (with_reducible refine LeO.bind ?_ (fun _ => ?_))
def spec_l4Small.T5 : Bool × List (List Nat × List Nat) := (true, [([], []), ([], []), ([1], [1]), ([2], [2]), ([3], [3]), ([4], [4]), ([5], [5]), ([6, 5], [5, 6]), ([7, 5], [5, 7]), ([8, 5], [5, 8]), ([5, 9], [5, 9]), ([0, 5, 0], [0]), ([10, 11, 0, 1, 2, 3, 4, 5, 6, 7, 8, 9, 10, 11], [10])])
def spec_l4Small.B5 : List Nat := [0, 0, 2, 6, 14, 30, 62, 126, 254, 510, 1022, 63, 4095]
theorem spec_l4Small.tab5 : rtab .any (opsOf Try.f74 5) = spec_l4Small.T5 := by kernel_rfl
theorem spec_l4Small.bits5 : waitsOk spec_l4Small.T5.2 spec_l4Small.B5 = true := by kernel_rfl
set_option maxHeartbeats 8000000 in
set_option maxRecDepth 100000 in
theorem spec_l4Small.calls (k : Nat) (a0 : ByteArray) (r1 : List Bool) (r2 : List Bool) (r3 : Bool) (w : World) (h : spec_l4Small.f k a0 = some (r1, r2, r3)) :
  Calls Try.prog 74 #[.string a0] w fun e w' => ∃ v0_ v1_ : Value, e = .returned (.tuple #[.agg #[v0_, v1_], .bool r3]) ∧ Kd.V Kd.bool 4 w' w.heap.size (fun k_ => (w.heap.size ≤ k_)) v0_ r1 ∧ Kd.V Kd.bool 4 w' w.heap.size (fun k_ => (w.heap.size ≤ k_)) v1_ r2 ∧ Below w.heap.size w w' := by
 have hu94 := Try.underlying94
 have HB := aM (Below.refl w.heap.size w)
 have H : ((spec_l1Read.f k a0).bind fun bt448 => (if bt448.2.2 = true then ((spec_l1Less.f k bt448.1 bt448.2.1).bind fun bt456 => (if (bt456.1.length : Int) ≤ 8 then (some (bt456.1, bt456.2, decide ((bt456.2.length : Int) ≤ 8))) else (some (bt456.1, bt456.2, false)))) else (some (bt448.1, bt448.2.1, false)))) = some (r1, r2, r3) := h
 clear h
 replace H := Option.bind_eq_some_iff.mp H
 obtain ⟨⟨t448, t451, t454⟩, A20, H⟩ := H
 replace H : (if t454 = true then ((spec_l1Less.f k t448 t451).bind fun bt456 => (if (bt456.1.length : Int) ≤ 8 then (some (bt456.1, bt456.2, decide ((bt456.2.length : Int) ≤ 8))) else (some (bt456.1, bt456.2, false)))) else (some (t448, t451, false))) = some (r1, r2, r3) := H
 have A2 := aM A20
 clear A20
 by_cases c3 : t454 = true
 ·subst c3
  replace H : ((spec_l1Less.f k t448 t451).bind fun bt456 => (if (bt456.1.length : Int) ≤ 8 then (some (bt456.1, bt456.2, decide ((bt456.2.length : Int) ≤ 8))) else (some (bt456.1, bt456.2, false)))) = some (r1, r2, r3) := by rw [if_pos rfl] at H; exact H
  replace H := Option.bind_eq_some_iff.mp H
  obtain ⟨⟨t456, t459⟩, A40, H⟩ := H
  replace H : (if (t456.length : Int) ≤ 8 then (some (t456, t459, decide ((t459.length : Int) ≤ 8))) else (some (t456, t459, false))) = some (r1, r2, r3) := H
  have A4 := aM A40
  clear A40
  by_cases c5 : (t456.length : Int) ≤ 8
  all_goals
   first
   |rw [if_pos c5] at H
    have c5b0 : decide ((t456.length : Int) ≤ 8) = true := decide_eq_true c5
    have c5b1 : decide (t456.length ≤ 8) = true := decide_eq_true (by omega)
   |rw [if_neg c5] at H
    have c5b0 : decide ((t456.length : Int) ≤ 8) = false := decide_eq_false c5
    have c5b1 : decide (t456.length ≤ 8) = false := decide_eq_false (by omega)
   clear c5
   simp only [Option.some.injEq, Prod.mk.injEq] at H
   obtain ⟨rfl, rfl, rfl⟩ := H
   go_enter Try.func74, Try.ntmps74
   try go_wp2_with (first | ((with_reducible refine gate_dst (N := 2) rfl ?_); (try (refine gate_guard (by rfl) ?_; dsimp only)); refine box_event ?hg (N := 2) ?hd (cs := #[.slice none 0 0, .slice none 0 0]) (t := 94) ?hr ?_; (case hd => rfl); (case hg => rfl); (case hr => first | (go_simp; done)); intro gb447 hg w6 hbox hb; have BK447 := aM hbox; have GW447 := aM ((by rw [hg]; exact (below_size HB.out) : w.heap.size ≤ gb447)); have GE447 := aM ((by rw [hg]; exact (below_size HB.out) : w.heap.size ≤ gb447)); replace HB := aM (below_step HB.out hb); clear hb hbox hg) | ((with_reducible refine gate_callee (f := 91) rfl ?_); refine goesL_ (some 9) rfl rfl Try.func91 (by kernel_rfl) rfl #[.string a0] rfl (by (try simp only [List.map_toArray, List.map_cons, List.map_nil]); rfl) ?_; (with_reducible refine (spec_l1Read.calls k a0 t448 t451 true _ A2.out).mono ?_); rintro e w7 ⟨v449, v452, rfl, ho0, ho1, hb⟩; refine ⟨_, rfl, ?_⟩; have HO450 := aM (Kd.R_lower (Kd.R_newM (M := fun k_ => (w.heap.size ≤ k_)) ho0 (below_size HB.out) (fun k_ h_ => h_)) (below_size HB.out)); have HO453 := aM (Kd.R_lower (Kd.R_newM (M := fun k_ => (w.heap.size ≤ k_)) ho1 (below_size HB.out) (fun k_ h_ => h_)) (below_size HB.out)); replace BK447 := aM (blk_below (g := gb447) (o := .cells #[.slice none 0 0, .slice none 0 0] 94 (0, 0)) BK447.out hb); replace HB := aM (below_step HB.out hb); (try clear hb); (try clear ho0); (try clear ho1)) | ((with_reducible refine gate_dst (N := 4) rfl ?_); (try (refine gate_guard (by rfl) ?_; dsimp only)); refine box_event ?hg (N := 4) ?hd (cs := #[.slice none 0 0, .slice none 0 0]) (t := 94) ?hr ?_; (case hd => rfl); (case hg => rfl); (case hr => first | (go_simp; done)); intro gb455 hg w8 hbox hb; replace HO450 := aM (Kd.R_below HO450.out hb); replace HO453 := aM (Kd.R_below HO453.out hb); have BK455 := aM hbox; have GW455 := aM ((by rw [hg]; exact (below_size HB.out) : w.heap.size ≤ gb455)); have GE455 := aM ((by rw [hg]; exact (below_size HB.out) : w.heap.size ≤ gb455)); replace HB := aM (below_step HB.out hb); have NB447_455 := aM ((by rw [hg]; exact Nat.ne_of_lt (blk_lt (g := gb447) (o := .cells #[.slice none 0 0, .slice none 0 0] 94 (0, 0)) BK447.out) : gb447 ≠ gb455)); have NB455_447 := aM ((by rw [hg]; exact Nat.ne_of_gt (blk_lt (g := gb447) (o := .cells #[.slice none 0 0, .slice none 0 0] 94 (0, 0)) BK447.out) : gb455 ≠ gb447)); replace BK447 := aM (blk_below (g := gb447) (o := .cells #[.slice none 0 0, .slice none 0 0] 94 (0, 0)) BK447.out hb); clear hb hbox hg; obtain ⟨Ao9, co9, eo9⟩ := Kd.R_slice HO450.out; subst eo9; have hnb10 := NB455_447.out; have hnc10 := NB447_455.out; have hcz11_0 : w8.cell? ⟨gb455, 0, none⟩ = some (.slice none 0 0) := (blk_cell BK455.out 0).trans rfl; have hcz11_1 : w8.cell? ⟨gb455, 1, none⟩ = some (.slice none 0 0) := (blk_cell BK455.out 1).trans rfl; have hfz11_0 := blk_frozen BK455.out 0; have hfz11_1 := blk_frozen BK455.out 1; obtain ⟨Ao12, co12, eo12⟩ := Kd.R_slice HO453.out; subst eo12) | ((with_reducible refine gate_store (t := 94) (p := 4) rfl ?_); refine store_event (t := 94) (p := 4) (v := ?vo_w13) (w1 := ((w8.setCell ⟨gb455, 0, none⟩ (.slice Ao9 t448.length co9)).setCell ⟨gb455, 1, none⟩ (.slice Ao12 t451.length co12))) ?hg ?ho ?hn ?hr ?_; (case ho => rfl); (case hg => rfl); (case hn => rfl); (case hr => first | (go_simp; done)); intro w13 hw; have n0_ : Aside0 (Kd.R Kd.bool 4 w13 w.heap.size (fun k_ => (w.heap.size ≤ k_) ∧ some k_ ≠ (.slice Ao12 t451.length co12 : Value).ownBlock) (.slice Ao9 t448.length co9) t448) := ⟨(by rw [hw]; exact (by exact Kd.R_mono (Kd.R_far (p := ⟨gb455, 1, none⟩) (Kd.R_far (p := ⟨gb455, 0, none⟩) (Kd.R_types HO450.out BK455.out (by decide)) (fun _ hk => hk.2) (.slice Ao9 t448.length co9)) (fun _ hk => hk.2) (.slice Ao12 t451.length co12)) (fun _ hk => ⟨hk.1.1, hk.1.2⟩)))⟩; have n1_ : Aside0 (Kd.R Kd.bool 4 w13 w.heap.size (fun k_ => (w.heap.size ≤ k_) ∧ some k_ ≠ (.slice Ao9 t448.length co9 : Value).ownBlock) (.slice Ao12 t451.length co12) t451) := ⟨(by rw [hw]; exact (by exact Kd.R_mono (Kd.R_far (p := ⟨gb455, 1, none⟩) (Kd.R_far (p := ⟨gb455, 0, none⟩) (Kd.R_types HO453.out BK455.out (by decide)) (fun _ hk => hk.2) (.slice Ao9 t448.length co9)) (fun _ hk => hk.2) (.slice Ao12 t451.length co12)) (fun _ hk => ⟨hk.1.1, hk.1.2⟩)))⟩; have n2_ : Aside0 (w13.heap[gb447]? = some (.cells #[.slice none 0 0, .slice none 0 0] 94 (0, 0))) := ⟨(by rw [hw]; exact (by refine blk_far ?_ NB447_455.out _; refine blk_far ?_ NB447_455.out _; exact BK447.out))⟩; have n3_ : Aside0 (w13.heap[gb455]? = some (.cells #[.slice Ao9 t448.length co9, .slice Ao12 t451.length co12] 94 (0, 0))) := ⟨(by rw [hw]; exact (by refine blk_put (cs := #[.slice Ao9 t448.length co9, .slice none 0 0]) ?_ 1 _ rfl; refine blk_put (cs := #[.slice none 0 0, .slice none 0 0]) ?_ 0 _ rfl; exact BK455.out))⟩; have n4_ : Aside0 (Below w.heap.size w w13) := ⟨(by rw [hw]; exact (by repeat (first | (with_reducible first | exact HB.out | refine bS ?_ GE455.out))))⟩; clear hw; clear HO450; clear HO453; clear BK447; clear BK455; clear HB; have HO450 := n0_; have HO453 := n1_; have BK447 := n2_; have BK455 := n3_; have HB := n4_; clear n0_ n1_ n2_ n3_ n4_; have hcz14_0 : w13.cell? ⟨gb455, 0, none⟩ = some (.slice Ao9 t448.length co9) := (blk_cell BK455.out 0).trans rfl; have hcz14_1 : w13.cell? ⟨gb455, 1, none⟩ = some (.slice Ao12 t451.length co12) := (blk_cell BK455.out 1).trans rfl; have hfz14_0 := blk_frozen BK455.out 0; have hfz14_1 := blk_frozen BK455.out 1) | ((with_reducible refine gate_callee (f := 92) rfl ?_); refine goesL_ (some 16) rfl rfl Try.func92 (by kernel_rfl) rfl #[.agg #[.slice Ao9 t448.length co9, .slice Ao12 t451.length co12]] rfl (by (try simp only [List.map_toArray, List.map_cons, List.map_nil]); rfl) ?_; (with_reducible refine (spec_l1Less.calls k (fun k_ => some k_ = (.slice Ao9 t448.length co9 : Value).ownBlock) _ _ t448 (fun k_ => some k_ = (.slice Ao12 t451.length co12 : Value).ownBlock) _ _ t451 t456 t459 _ ?side1 ?side2 A4.out).mono ?_); (case side1 => exact Kd.R_V (Kd.R_tight rfl (Kd.R_types (Kd.R_types (HO450.out) BK447.out (by decide)) BK455.out (by decide)))); (case side2 => exact Kd.R_V (Kd.R_tight rfl (Kd.R_types (Kd.R_types (HO453.out) BK447.out (by decide)) BK455.out (by decide)))); rintro e w15 ⟨v457, v460, rfl, ho0, ho1, hb⟩; refine ⟨_, rfl, ?_⟩; have HO458 := aM (Kd.V_lower (Kd.V_mono (ok' := fun k_ => (w.heap.size ≤ k_) ∧ k_ ≠ gb447 ∧ k_ ≠ gb455) ho0 (fun k_ hk_ => ⟨Or.elim hk_ (fun hs_ => Or.elim hs_ (fun hs_ => ((Kd.R_types (Kd.R_types (HO450.out) BK447.out (by decide)) BK455.out (by decide)).1 k_ hs_.symm).1.1.1) (fun hs_ => ((Kd.R_types (Kd.R_types (HO453.out) BK447.out (by decide)) BK455.out (by decide)).1 k_ hs_.symm).1.1.1)) (fun hn_ => (Nat.le_trans (below_size HB.out) hn_)), Or.elim hk_ (fun hs_ => Or.elim hs_ (fun hs_ => ((Kd.R_types (Kd.R_types (HO450.out) BK447.out (by decide)) BK455.out (by decide)).1 k_ hs_.symm).1.2) (fun hs_ => ((Kd.R_types (Kd.R_types (HO453.out) BK447.out (by decide)) BK455.out (by decide)).1 k_ hs_.symm).1.2)) (fun hn_ => (Kd.freshB (g := gb447) (o := .cells #[.slice none 0 0, .slice none 0 0] 94 (0, 0)) BK447.out k_ hn_)), Or.elim hk_ (fun hs_ => Or.elim hs_ (fun hs_ => ((Kd.R_types (Kd.R_types (HO450.out) BK447.out (by decide)) BK455.out (by decide)).1 k_ hs_.symm).2) (fun hs_ => ((Kd.R_types (Kd.R_types (HO453.out) BK447.out (by decide)) BK455.out (by decide)).1 k_ hs_.symm).2)) (fun hn_ => (Kd.freshB (g := gb455) (o := .cells #[.slice Ao9 t448.length co9, .slice Ao12 t451.length co12] 94 (0, 0)) BK455.out k_ hn_))⟩)) (below_size HB.out)); have HO461 := aM (Kd.V_lower (Kd.V_mono (ok' := fun k_ => (w.heap.size ≤ k_) ∧ k_ ≠ gb447 ∧ k_ ≠ gb455) ho1 (fun k_ hk_ => ⟨Or.elim hk_ (fun hs_ => Or.elim hs_ (fun hs_ => ((Kd.R_types (Kd.R_types (HO450.out) BK447.out (by decide)) BK455.out (by decide)).1 k_ hs_.symm).1.1.1) (fun hs_ => ((Kd.R_types (Kd.R_types (HO453.out) BK447.out (by decide)) BK455.out (by decide)).1 k_ hs_.symm).1.1.1)) (fun hn_ => (Nat.le_trans (below_size HB.out) hn_)), Or.elim hk_ (fun hs_ => Or.elim hs_ (fun hs_ => ((Kd.R_types (Kd.R_types (HO450.out) BK447.out (by decide)) BK455.out (by decide)).1 k_ hs_.symm).1.2) (fun hs_ => ((Kd.R_types (Kd.R_types (HO453.out) BK447.out (by decide)) BK455.out (by decide)).1 k_ hs_.symm).1.2)) (fun hn_ => (Kd.freshB (g := gb447) (o := .cells #[.slice none 0 0, .slice none 0 0] 94 (0, 0)) BK447.out k_ hn_)), Or.elim hk_ (fun hs_ => Or.elim hs_ (fun hs_ => ((Kd.R_types (Kd.R_types (HO450.out) BK447.out (by decide)) BK455.out (by decide)).1 k_ hs_.symm).2) (fun hs_ => ((Kd.R_types (Kd.R_types (HO453.out) BK447.out (by decide)) BK455.out (by decide)).1 k_ hs_.symm).2)) (fun hn_ => (Kd.freshB (g := gb455) (o := .cells #[.slice Ao9 t448.length co9, .slice Ao12 t451.length co12] 94 (0, 0)) BK455.out k_ hn_))⟩)) (below_size HB.out)); replace HO450 := aM (Kd.R_below HO450.out hb); replace HO453 := aM (Kd.R_below HO453.out hb); replace BK447 := aM (blk_below (g := gb447) (o := .cells #[.slice none 0 0, .slice none 0 0] 94 (0, 0)) BK447.out hb); replace BK455 := aM (blk_below (g := gb455) (o := .cells #[.slice Ao9 t448.length co9, .slice Ao12 t451.length co12] 94 (0, 0)) BK455.out hb); replace HB := aM (below_step HB.out hb); (try clear hb); (try clear ho0); (try clear ho1)) | ((with_reducible refine gate_dst (N := 6) rfl ?_); (try (refine gate_guard (by rfl) ?_; dsimp only)); refine box_event ?hg (N := 6) ?hd (cs := #[.slice none 0 0, .slice none 0 0]) (t := 94) ?hr ?_; (case hd => rfl); (case hg => rfl); (case hr => first | (go_simp; done)); intro gb462 hg w16 hbox hb; replace HO450 := aM (Kd.R_below HO450.out hb); replace HO453 := aM (Kd.R_below HO453.out hb); replace HO458 := aM (Kd.V_below (Kd.V_elderB HO458.out gb462 (Nat.le_of_eq hg.symm)) hb); replace HO461 := aM (Kd.V_below (Kd.V_elderB HO461.out gb462 (Nat.le_of_eq hg.symm)) hb); have BK462 := aM hbox; have GW462 := aM ((by rw [hg]; exact (below_size HB.out) : w.heap.size ≤ gb462)); have GE462 := aM ((by rw [hg]; exact (below_size HB.out) : w.heap.size ≤ gb462)); replace HB := aM (below_step HB.out hb); have NB447_462 := aM ((by rw [hg]; exact Nat.ne_of_lt (blk_lt (g := gb447) (o := .cells #[.slice none 0 0, .slice none 0 0] 94 (0, 0)) BK447.out) : gb447 ≠ gb462)); have NB462_447 := aM ((by rw [hg]; exact Nat.ne_of_gt (blk_lt (g := gb447) (o := .cells #[.slice none 0 0, .slice none 0 0] 94 (0, 0)) BK447.out) : gb462 ≠ gb447)); replace BK447 := aM (blk_below (g := gb447) (o := .cells #[.slice none 0 0, .slice none 0 0] 94 (0, 0)) BK447.out hb); have NB455_462 := aM ((by rw [hg]; exact Nat.ne_of_lt (blk_lt (g := gb455) (o := .cells #[.slice Ao9 t448.length co9, .slice Ao12 t451.length co12] 94 (0, 0)) BK455.out) : gb455 ≠ gb462)); have NB462_455 := aM ((by rw [hg]; exact Nat.ne_of_gt (blk_lt (g := gb455) (o := .cells #[.slice Ao9 t448.length co9, .slice Ao12 t451.length co12] 94 (0, 0)) BK455.out) : gb462 ≠ gb455)); replace BK455 := aM (blk_below (g := gb455) (o := .cells #[.slice Ao9 t448.length co9, .slice Ao12 t451.length co12] 94 (0, 0)) BK455.out hb); clear hb hbox hg; obtain ⟨Ao17, co17, eo17⟩ := Kd.V_slice HO458.out; subst eo17; have hnb18 := NB462_447.out; have hnc18 := NB447_462.out; have hnb19 := NB462_455.out; have hnc19 := NB455_462.out; have hcz20_0 : w16.cell? ⟨gb462, 0, none⟩ = some (.slice none 0 0) := (blk_cell BK462.out 0).trans rfl; have hcz20_1 : w16.cell? ⟨gb462, 1, none⟩ = some (.slice none 0 0) := (blk_cell BK462.out 1).trans rfl; have hfz20_0 := blk_frozen BK462.out 0; have hfz20_1 := blk_frozen BK462.out 1; obtain ⟨Ao21, co21, eo21⟩ := Kd.V_slice HO461.out; subst eo21))
   have n0_ : Aside0 (Kd.R Kd.bool 4 ((w16.setCell ⟨gb462, 0, none⟩ (.slice Ao17 t456.length co17)).setCell ⟨gb462, 1, none⟩ (.slice Ao21 t459.length co21)) w.heap.size (fun k_ => (w.heap.size ≤ k_) ∧ some k_ ≠ (.slice Ao12 t451.length co12 : Value).ownBlock) (.slice Ao9 t448.length co9) t448) := ⟨by exact Kd.R_mono (Kd.R_far (p := ⟨gb462, 1, none⟩) (Kd.R_far (p := ⟨gb462, 0, none⟩) (Kd.R_types HO450.out BK462.out (by decide)) (fun _ hk => hk.2) (.slice Ao17 t456.length co17)) (fun _ hk => hk.2) (.slice Ao21 t459.length co21)) (fun _ hk => ⟨hk.1.1, hk.1.2⟩)⟩
   have n1_ : Aside0 (Kd.R Kd.bool 4 ((w16.setCell ⟨gb462, 0, none⟩ (.slice Ao17 t456.length co17)).setCell ⟨gb462, 1, none⟩ (.slice Ao21 t459.length co21)) w.heap.size (fun k_ => (w.heap.size ≤ k_) ∧ some k_ ≠ (.slice Ao9 t448.length co9 : Value).ownBlock) (.slice Ao12 t451.length co12) t451) := ⟨by exact Kd.R_mono (Kd.R_far (p := ⟨gb462, 1, none⟩) (Kd.R_far (p := ⟨gb462, 0, none⟩) (Kd.R_types HO453.out BK462.out (by decide)) (fun _ hk => hk.2) (.slice Ao17 t456.length co17)) (fun _ hk => hk.2) (.slice Ao21 t459.length co21)) (fun _ hk => ⟨hk.1.1, hk.1.2⟩)⟩
   have n2_ : Aside0 (Kd.V Kd.bool 4 ((w16.setCell ⟨gb462, 0, none⟩ (.slice Ao17 t456.length co17)).setCell ⟨gb462, 1, none⟩ (.slice Ao21 t459.length co21)) w.heap.size (fun k_ => (w.heap.size ≤ k_) ∧ k_ ≠ gb447 ∧ k_ ≠ gb455 ∧ k_ ≠ gb462) (.slice Ao17 t456.length co17) t456) := ⟨by exact Kd.V_mono (Kd.V_far (p := ⟨gb462, 1, none⟩) (Kd.V_far (p := ⟨gb462, 0, none⟩) (Kd.V_mono HO458.out (fun k_ hk => (⟨hk, hk.2⟩ : _ ∧ k_ ≠ gb462))) (fun _ hk => hk.2) (.slice Ao17 t456.length co17)) (fun _ hk => hk.2) (.slice Ao21 t459.length co21)) (fun _ hk => ⟨hk.1.1.1, ⟨hk.1.1.2.1, ⟨hk.1.1.2.2, hk.1.2⟩⟩⟩)⟩
   have n3_ : Aside0 (Kd.V Kd.bool 4 ((w16.setCell ⟨gb462, 0, none⟩ (.slice Ao17 t456.length co17)).setCell ⟨gb462, 1, none⟩ (.slice Ao21 t459.length co21)) w.heap.size (fun k_ => (w.heap.size ≤ k_) ∧ k_ ≠ gb447 ∧ k_ ≠ gb455 ∧ k_ ≠ gb462) (.slice Ao21 t459.length co21) t459) := ⟨by exact Kd.V_mono (Kd.V_far (p := ⟨gb462, 1, none⟩) (Kd.V_far (p := ⟨gb462, 0, none⟩) (Kd.V_mono HO461.out (fun k_ hk => (⟨hk, hk.2⟩ : _ ∧ k_ ≠ gb462))) (fun _ hk => hk.2) (.slice Ao17 t456.length co17)) (fun _ hk => hk.2) (.slice Ao21 t459.length co21)) (fun _ hk => ⟨hk.1.1.1, ⟨hk.1.1.2.1, ⟨hk.1.1.2.2, hk.1.2⟩⟩⟩)⟩
   have n4_ : Aside0 (((w16.setCell ⟨gb462, 0, none⟩ (.slice Ao17 t456.length co17)).setCell ⟨gb462, 1, none⟩ (.slice Ao21 t459.length co21)).heap[gb447]? = some (.cells #[.slice none 0 0, .slice none 0 0] 94 (0, 0))) := ⟨by refine blk_far ?_ NB447_462.out _; refine blk_far ?_ NB447_462.out _; exact BK447.out⟩
   have n5_ : Aside0 (((w16.setCell ⟨gb462, 0, none⟩ (.slice Ao17 t456.length co17)).setCell ⟨gb462, 1, none⟩ (.slice Ao21 t459.length co21)).heap[gb455]? = some (.cells #[.slice Ao9 t448.length co9, .slice Ao12 t451.length co12] 94 (0, 0))) := ⟨by refine blk_far ?_ NB455_462.out _; refine blk_far ?_ NB455_462.out _; exact BK455.out⟩
   have n6_ : Aside0 (((w16.setCell ⟨gb462, 0, none⟩ (.slice Ao17 t456.length co17)).setCell ⟨gb462, 1, none⟩ (.slice Ao21 t459.length co21)).heap[gb462]? = some (.cells #[.slice Ao17 t456.length co17, .slice Ao21 t459.length co21] 94 (0, 0))) := ⟨by refine blk_put (cs := #[.slice Ao17 t456.length co17, .slice none 0 0]) ?_ 1 _ rfl; refine blk_put (cs := #[.slice none 0 0, .slice none 0 0]) ?_ 0 _ rfl; exact BK462.out⟩
   have n7_ : Aside0 (Below w.heap.size w ((w16.setCell ⟨gb462, 0, none⟩ (.slice Ao17 t456.length co17)).setCell ⟨gb462, 1, none⟩ (.slice Ao21 t459.length co21))) := ⟨by repeat (first | (with_reducible first | exact HB.out | refine bS ?_ GE462.out))⟩
   (try clear HO450)
   (try clear HO453)
   (try clear HO458)
   (try clear HO461)
   (try clear BK447)
   (try clear BK455)
   (try clear BK462)
   (try clear HB)
   generalize ((w16.setCell ⟨gb462, 0, none⟩ (.slice Ao17 t456.length co17)).setCell ⟨gb462, 1, none⟩ (.slice Ao21 t459.length co21)) = w22 at n0_ n1_ n2_ n3_ n4_ n5_ n6_ n7_ ⊢
   have HO450 := n0_
   have HO453 := n1_
   have HO458 := n2_
   have HO461 := n3_
   have BK447 := n4_
   have BK455 := n5_
   have BK462 := n6_
   have HB := n7_
   clear n0_ n1_ n2_ n3_ n4_ n5_ n6_ n7_
   replace HO450 := aM (rD HO450.out)
   replace HO453 := aM (rD HO453.out)
   replace HO458 := aM (vD HO458.out)
   replace HO461 := aM (vD HO461.out)
   replace BK447 := aM (kD BK447.out)
   replace BK455 := aM (kD BK455.out)
   replace BK462 := aM (kD BK462.out)
   replace HB := aM (b1 HB.out)
   refine start_ (n := 13) (S := fun w' => w'.cell? ⟨gb462, 0, none⟩ = some (.slice Ao17 t456.length co17) ∧ w'.cell? ⟨gb462, 1, none⟩ = some (.slice Ao21 t459.length co21)) (ds := []) #[false, false, false, false, false, false, false, false, false, false, false, false, false] (by kernel_rfl) rfl rfl ⟨(blk_cell BK462.out 0).trans rfl, (blk_cell BK462.out 1).trans rfl⟩ (fun hHeld => ?_); refine with_tabW spec_l4Small.tab5 spec_l4Small.bits5 (fun HT_ HW_ => ?_)
   generalize w22.drew = w23 at HO450 HO453 HO458 HO461 BK447 BK455 BK462 HB hHeld ⊢
   refine pure_ (i := 1) (N := some 18) (v := ?_) (a' := ?_) #[false, true, false, false, false, false, false, false, false, false, false, false, false] rfl rfl (any_of HT_.out (by kernel_rfl)) (fun _ _ _ h => h) (Or.inl ⟨by rfl, ?_⟩) ?_ ?_
   rotate_left
   ·intro w'
    go_simp
    with_reducible rfl
   rotate_left
   ·simp only [Act.put, sA, sZ, sS, i64_w, i32_w]
    rfl
   refine take_ (i := 0) (N := some 17) (v := ?_) (a' := ?_) #[true, true, false, false, false, false, false, false, false, false, false, false, false] rfl rfl (take_ofW HT_.out HW_.out (by kernel_rfl)) (fun _ _ _ h => h) (Or.inl ⟨by rfl, ?_⟩) hHeld ?_ ?_
   rotate_left
   ·rintro w' ⟨s0, s1⟩
    go_simp
    with_reducible rfl
   rotate_left
   ·simp only [Act.put, sA, sZ, sS, i64_w, i32_w]
    rfl
   refine take_ (i := 2) (N := some 19) (v := ?_) (a' := ?_) #[true, true, true, false, false, false, false, false, false, false, false, false, false] rfl rfl (take_ofW HT_.out HW_.out (by kernel_rfl)) (fun _ _ _ h => h) (Or.inl ⟨by rfl, ?_⟩) hHeld ?_ ?_
   rotate_left
   ·rintro w' ⟨s0, s1⟩
    go_simp
    with_reducible rfl
   rotate_left
   ·simp only [Act.put, sA, sZ, sS, i64_w, i32_w]
    rfl
   refine pure_ (i := 3) (N := some 20) (v := ?_) (a' := ?_) #[true, true, true, true, false, false, false, false, false, false, false, false, false] rfl rfl (any_of HT_.out (by kernel_rfl)) (fun _ _ _ h => h) (Or.inl ⟨by rfl, ?_⟩) ?_ ?_
   rotate_left
   ·intro w'
    go_simp
    with_reducible rfl
   rotate_left
   ·simp only [Act.put, sA, sZ, sS, i64_w, i32_w]
    rfl
   refine pure_ (i := 4) (N := some 21) (v := ?_) (a' := ?_) #[true, true, true, true, true, false, false, false, false, false, false, false, false] rfl rfl (any_of HT_.out (by kernel_rfl)) (fun _ _ _ h => h) (Or.inl ⟨by rfl, ?_⟩) ?_ ?_
   rotate_left
   ·intro w'
    go_simp
    with_reducible rfl
   rotate_left
   ·simp only [Act.put, sA, sZ, sS, i64_w, i32_w]
    rfl
   refine pure_ (i := 5) (N := some 22) (v := ?_) (a' := ?_) #[true, true, true, true, true, true, false, false, false, false, false, false, false] rfl rfl (any_of HT_.out (by kernel_rfl)) (fun _ _ _ h => h) (Or.inl ⟨by rfl, ?_⟩) ?_ ?_
   rotate_left
   ·intro w'
    go_simp
    with_reducible rfl
   rotate_left
   ·simp only [Act.put, sA, sZ, sS, i64_w, i32_w]
    rfl
   first
   |refine pure_ (i := 6) (N := some 23) (v := ?_) (a' := ?_) #[true, true, true, true, true, true, true, false, false, false, false, false, false] rfl rfl (any_of HT_.out (by kernel_rfl)) (fun _ _ _ h => h) (Or.inl ⟨by rfl, ?_⟩) ?_ ?_
    rotate_left
    ·intro w'
     go_simp
     with_reducible rfl
   |refine pure_ (i := 6) (N := some 23) (v := undef) (a' := ?_) #[true, true, true, true, true, true, true, false, false, false, false, false, false] rfl rfl (any_of HT_.out (by kernel_rfl)) (fun _ _ _ h => h) (Or.inr ⟨by rfl, rfl⟩) ?_ ?_
   rotate_left
   ·simp only [Act.put, sA, sZ, sS, i64_w, i32_w]
    rfl
   first
   |refine take_ (i := 7) (N := some 24) (v := ?_) (a' := ?_) #[true, true, true, true, true, true, true, true, false, false, false, false, false] rfl rfl (take_ofW HT_.out HW_.out (by kernel_rfl)) (fun _ _ _ h => h) (Or.inl ⟨by rfl, ?_⟩) hHeld ?_ ?_
    rotate_left
    ·rintro w' ⟨s0, s1⟩
     go_simp
     with_reducible rfl
   |refine pure_ (i := 7) (N := some 24) (v := undef) (a' := ?_) #[true, true, true, true, true, true, true, true, false, false, false, false, false] rfl rfl (any_of HT_.out (by kernel_rfl)) (fun _ _ _ h => h) (Or.inr ⟨by rfl, rfl⟩) ?_ ?_
   rotate_left
   ·simp only [Act.put, sA, sZ, sS, i64_w, i32_w]
    rfl
   first
   |refine pure_ (i := 8) (N := some 25) (v := ?_) (a' := ?_) #[true, true, true, true, true, true, true, true, true, false, false, false, false] rfl rfl (any_of HT_.out (by kernel_rfl)) (fun _ _ _ h => h) (Or.inl ⟨by rfl, ?_⟩) ?_ ?_
    rotate_left
    ·intro w'
     go_simp
     with_reducible rfl
   |refine pure_ (i := 8) (N := some 25) (v := undef) (a' := ?_) #[true, true, true, true, true, true, true, true, true, false, false, false, false] rfl rfl (any_of HT_.out (by kernel_rfl)) (fun _ _ _ h => h) (Or.inr ⟨by rfl, rfl⟩) ?_ ?_
   rotate_left
   ·simp only [Act.put, sA, sZ, sS, i64_w, i32_w]
    rfl
   first
   |refine pure_ (i := 9) (N := some 26) (v := ?_) (a' := ?_) #[true, true, true, true, true, true, true, true, true, true, false, false, false] rfl rfl (any_of HT_.out (by kernel_rfl)) (fun _ _ _ h => h) (Or.inl ⟨by rfl, ?_⟩) ?_ ?_
    rotate_left
    ·intro w'
     go_simp
     with_reducible rfl
   |refine pure_ (i := 9) (N := some 26) (v := undef) (a' := ?_) #[true, true, true, true, true, true, true, true, true, true, false, false, false] rfl rfl (any_of HT_.out (by kernel_rfl)) (fun _ _ _ h => h) (Or.inr ⟨by rfl, rfl⟩) ?_ ?_
   rotate_left
   ·simp only [Act.put, sA, sZ, sS, i64_w, i32_w]
    rfl
   refine pure_ (i := 10) (N := some 27) (v := ?_) (a' := ?_) #[true, true, true, true, true, true, true, true, true, true, true, false, false] rfl rfl (any_of HT_.out (by kernel_rfl)) (fun _ _ _ h => h) (Or.inl ⟨by rfl, ?_⟩) ?_ ?_
   rotate_left
   ·intro w'
    go_simp
    with_reducible rfl
   rotate_left
   ·simp only [Act.put, sA, sZ, sS, i64_w, i32_w]
    rfl
   refine one_ (i := 11) (N := none) #[true, true, true, true, true, true, true, true, true, true, true, true, false] rfl rfl (one_of HT_.out (by kernel_rfl)) (by decide) (fun K hK => ?_)
   have hs24 : w23.cell? ⟨gb447, 0, none⟩ = some (.slice none 0 0) := (blk_cell BK447.out 0).trans rfl
   have hfs24 := blk_frozen BK447.out 0
   have hns24_1 := NB455_447.out
   have hns24_2 := NB462_447.out
   have hms24_1 := NB447_455.out
   have hms24_2 := NB447_462.out
   have hs25 : w23.cell? ⟨gb447, 1, none⟩ = some (.slice none 0 0) := (blk_cell BK447.out 1).trans rfl
   have hfs25 := blk_frozen BK447.out 1
   have hns25_1 := NB455_447.out
   have hns25_2 := NB462_447.out
   have hms25_1 := NB447_455.out
   have hms25_2 := NB447_462.out
   refine skip_ (w1 := ?_) (by rfl) rfl ?_ ?_
   rotate_left
   ·go_simp
    rfl
   refine hK.out _ _ ⟨((cell_far (p := ⟨gb447, _, none⟩) NB462_447.out _).trans (((cell_far (p := ⟨gb447, _, none⟩) NB462_447.out _).trans (hHeld.1)))), ((cell_far (p := ⟨gb447, _, none⟩) NB462_447.out _).trans (((cell_far (p := ⟨gb447, _, none⟩) NB462_447.out _).trans (hHeld.2))))⟩ (fun hHeld => ?_)
   clear hK K
   refine pure_ (i := 12) (N := some 3) (v := ?_) (a' := ?_) #[true, true, true, true, true, true, true, true, true, true, true, true, true] rfl rfl (any_of HT_.out (by kernel_rfl)) (fun _ _ _ h => h) (Or.inl ⟨by rfl, ?_⟩) ?_ ?_
   rotate_left
   ·intro w'
    go_simp
    with_reducible rfl
   rotate_left
   ·simp only [Act.put, sA, sZ, sS, i64_w, i32_w]
    rfl
   refine done_ (done_of HT_.out (by kernel_rfl)) ?_
   try go_wp2
   refine bodyPost_ret (results_ct rfl _ _ gb447 94 #[.slice Ao17 t456.length co17, .slice Ao21 t459.length co21] (0, 0) _ rfl (by refine blk_put (cs := #[.slice Ao17 t456.length co17, .slice none 0 0]) ?_ 1 _ rfl; refine blk_put (cs := #[.slice none 0 0, .slice none 0 0]) ?_ 0 _ rfl; exact BK447.out) Try.underlying94 rfl (by kernel_rfl)) rfl ?_
   exact ⟨_, _, by first | rfl | (simp [*, errW_none, errW_some] <;> rfl), by exact Kd.V_mono (Kd.V_far (p := ⟨gb447, 1, none⟩) (Kd.V_far (p := ⟨gb447, 0, none⟩) (Kd.V_mono HO458.out (fun k_ hk => (⟨hk, hk.2.1⟩ : _ ∧ k_ ≠ gb447))) (fun _ hk => hk.2) (.slice Ao17 t456.length co17)) (fun _ hk => hk.2) (.slice Ao21 t459.length co21)) (fun _ hk => hk.1.1), by exact Kd.V_mono (Kd.V_far (p := ⟨gb447, 1, none⟩) (Kd.V_far (p := ⟨gb447, 0, none⟩) (Kd.V_mono HO461.out (fun k_ hk => (⟨hk, hk.2.1⟩ : _ ∧ k_ ≠ gb447))) (fun _ hk => hk.2) (.slice Ao17 t456.length co17)) (fun _ hk => hk.2) (.slice Ao21 t459.length co21)) (fun _ hk => hk.1.1), by repeat (first | (with_reducible first | exact HB.out | refine bS ?_ GE447.out))⟩
 ·replace c3 := Bool.eq_false_iff.mpr c3
  subst c3
  replace H : (some (t448, t451, false)) = some (r1, r2, r3) := by rw [if_neg (show ¬ (false = true) by decide)] at H; exact H
  simp only [Option.some.injEq, Prod.mk.injEq] at H
  obtain ⟨rfl, rfl, rfl⟩ := H
  go_enter Try.func74, Try.ntmps74
  go_wp2_with (first | ((with_reducible refine gate_dst (N := 2) rfl ?_); (try (refine gate_guard (by rfl) ?_; dsimp only)); refine box_event ?hg (N := 2) ?hd (cs := #[.slice none 0 0, .slice none 0 0]) (t := 94) ?hr ?_; (case hd => rfl); (case hg => rfl); (case hr => first | (go_simp; done)); intro gb447 hg w46 hbox hb; have BK447 := aM hbox; have GW447 := aM ((by rw [hg]; exact (below_size HB.out) : w.heap.size ≤ gb447)); have GE447 := aM ((by rw [hg]; exact (below_size HB.out) : w.heap.size ≤ gb447)); replace HB := aM (below_step HB.out hb); clear hb hbox hg) | ((with_reducible refine gate_callee (f := 91) rfl ?_); refine goesL_ (some 9) rfl rfl Try.func91 (by kernel_rfl) rfl #[.string a0] rfl (by (try simp only [List.map_toArray, List.map_cons, List.map_nil]); rfl) ?_; (with_reducible refine (spec_l1Read.calls k a0 t448 t451 false _ A2.out).mono ?_); rintro e w47 ⟨v449, v452, rfl, ho0, ho1, hb⟩; refine ⟨_, rfl, ?_⟩; have HO450 := aM (Kd.R_lower (Kd.R_newM (M := fun k_ => (w.heap.size ≤ k_)) ho0 (below_size HB.out) (fun k_ h_ => h_)) (below_size HB.out)); have HO453 := aM (Kd.R_lower (Kd.R_newM (M := fun k_ => (w.heap.size ≤ k_)) ho1 (below_size HB.out) (fun k_ h_ => h_)) (below_size HB.out)); replace BK447 := aM (blk_below (g := gb447) (o := .cells #[.slice none 0 0, .slice none 0 0] 94 (0, 0)) BK447.out hb); replace HB := aM (below_step HB.out hb); (try clear hb); (try clear ho0); (try clear ho1)) | ((with_reducible refine gate_dst (N := 4) rfl ?_); (try (refine gate_guard (by rfl) ?_; dsimp only)); refine box_event ?hg (N := 4) ?hd (cs := #[.slice none 0 0, .slice none 0 0]) (t := 94) ?hr ?_; (case hd => rfl); (case hg => rfl); (case hr => first | (go_simp; done)); intro gb455 hg w48 hbox hb; replace HO450 := aM (Kd.R_below HO450.out hb); replace HO453 := aM (Kd.R_below HO453.out hb); have BK455 := aM hbox; have GW455 := aM ((by rw [hg]; exact (below_size HB.out) : w.heap.size ≤ gb455)); have GE455 := aM ((by rw [hg]; exact (below_size HB.out) : w.heap.size ≤ gb455)); replace HB := aM (below_step HB.out hb); have NB447_455 := aM ((by rw [hg]; exact Nat.ne_of_lt (blk_lt (g := gb447) (o := .cells #[.slice none 0 0, .slice none 0 0] 94 (0, 0)) BK447.out) : gb447 ≠ gb455)); have NB455_447 := aM ((by rw [hg]; exact Nat.ne_of_gt (blk_lt (g := gb447) (o := .cells #[.slice none 0 0, .slice none 0 0] 94 (0, 0)) BK447.out) : gb455 ≠ gb447)); replace BK447 := aM (blk_below (g := gb447) (o := .cells #[.slice none 0 0, .slice none 0 0] 94 (0, 0)) BK447.out hb); clear hb hbox hg; obtain ⟨Ao49, co49, eo49⟩ := Kd.R_slice HO450.out; subst eo49; have hnb50 := NB455_447.out; have hnc50 := NB447_455.out; have hcz51_0 : w48.cell? ⟨gb455, 0, none⟩ = some (.slice none 0 0) := (blk_cell BK455.out 0).trans rfl; have hcz51_1 : w48.cell? ⟨gb455, 1, none⟩ = some (.slice none 0 0) := (blk_cell BK455.out 1).trans rfl; have hfz51_0 := blk_frozen BK455.out 0; have hfz51_1 := blk_frozen BK455.out 1; obtain ⟨Ao52, co52, eo52⟩ := Kd.R_slice HO453.out; subst eo52; have hcz53_0 : w48.cell? ⟨gb447, 0, none⟩ = some (.slice none 0 0) := (blk_cell BK447.out 0).trans rfl; have hcz53_1 : w48.cell? ⟨gb447, 1, none⟩ = some (.slice none 0 0) := (blk_cell BK447.out 1).trans rfl; have hfz53_0 := blk_frozen BK447.out 0; have hfz53_1 := blk_frozen BK447.out 1))
  refine bodyPost_ret (results_ct rfl _ _ gb447 94 #[.slice Ao49 t448.length co49, .slice Ao52 t451.length co52] (0, 0) _ rfl (by refine blk_put (cs := #[.slice Ao49 t448.length co49, .slice none 0 0]) ?_ 1 _ rfl; refine blk_put (cs := #[.slice none 0 0, .slice none 0 0]) ?_ 0 _ rfl; refine blk_far ?_ NB447_455.out _; refine blk_far ?_ NB447_455.out _; exact BK447.out) Try.underlying94 rfl (by kernel_rfl)) rfl ?_
  exact ⟨_, _, by first | rfl | (simp [*, errW_none, errW_some] <;> rfl), Kd.R_V (by exact Kd.R_mono (Kd.R_far (p := ⟨gb447, 1, none⟩) (Kd.R_far (p := ⟨gb447, 0, none⟩) (Kd.R_far (p := ⟨gb455, 1, none⟩) (Kd.R_far (p := ⟨gb455, 0, none⟩) (Kd.R_types (Kd.R_types HO450.out BK455.out (by decide)) BK447.out (by decide)) (fun _ hk => hk.1.2) (.slice Ao49 t448.length co49)) (fun _ hk => hk.1.2) (.slice Ao52 t451.length co52)) (fun _ hk => hk.2) (.slice Ao49 t448.length co49)) (fun _ hk => hk.2) (.slice Ao52 t451.length co52)) (fun _ hk => hk.1.1.1)), Kd.R_V (by exact Kd.R_mono (Kd.R_far (p := ⟨gb447, 1, none⟩) (Kd.R_far (p := ⟨gb447, 0, none⟩) (Kd.R_far (p := ⟨gb455, 1, none⟩) (Kd.R_far (p := ⟨gb455, 0, none⟩) (Kd.R_types (Kd.R_types HO453.out BK455.out (by decide)) BK447.out (by decide)) (fun _ hk => hk.1.2) (.slice Ao49 t448.length co49)) (fun _ hk => hk.1.2) (.slice Ao52 t451.length co52)) (fun _ hk => hk.2) (.slice Ao49 t448.length co49)) (fun _ hk => hk.2) (.slice Ao52 t451.length co52)) (fun _ hk => hk.1.1.1)), by repeat (first | (with_reducible first | exact HB.out | refine bS ?_ GE447.out | refine bS ?_ GE455.out))⟩


def spec_l1Has.f (l0_0 : List Bool) (l0_1 : List Bool) (a1 : Int) : Option (Bool) := if a1 < (l0_0.length : Int) then (if 0 ≤ a1 then (some (rdOf false l0_0 a1)) else (none)) else (if (l0_1.length : Int) = 0 then (none) else (if 0 ≤ (Int.tmod (wrap64 (a1 - (l0_0.length : Int))) (l0_1.length : Int)) then (if (Int.tmod (wrap64 (a1 - (l0_0.length : Int))) (l0_1.length : Int)) < (l0_1.length : Int) then (some (rdOf false l0_1 (Int.tmod (wrap64 (a1 - (l0_0.length : Int))) (l0_1.length : Int)))) else (none)) else (none)))
set_option maxHeartbeats 8000000 in
set_option maxRecDepth 100000 in
theorem spec_l1Has.calls (A0_0 : Option Addr) (c0_0 : Nat) (l0_0 : List Bool) (A0_1 : Option Addr) (c0_1 : Nat) (l0_1 : List Bool) (a1 : Int) (r : Bool) (w : World) (hr0_0 : Kd.C Kd.bool w A0_0 l0_0.length l0_0) (hc0_0 : l0_0.length ≤ c0_0) (hr0_1 : Kd.C Kd.bool w A0_1 l0_1.length l0_1) (hc0_1 : l0_1.length ≤ c0_1) (h : spec_l1Has.f l0_0 l0_1 a1 = some r) :
  Calls Try.prog 97 #[.agg #[.slice A0_0 l0_0.length c0_0, .slice A0_1 l0_1.length c0_1], .int .i64 a1] w fun e w' => e = .returned (.bool r) ∧ Below w.heap.size w w' := by
 have hu94 := Try.underlying94
 have HR0_0 := aM hr0_0
 have HC0_0 := aM hc0_0
 clear hr0_0 hc0_0
 have HR0_1 := aM hr0_1
 have HC0_1 := aM hc0_1
 clear hr0_1 hc0_1
 have HB := aM (Below.refl w.heap.size w)
 have H : (if a1 < (l0_0.length : Int) then (if 0 ≤ a1 then (some (rdOf false l0_0 a1)) else (none)) else (if (l0_1.length : Int) = 0 then (none) else (if 0 ≤ (Int.tmod (wrap64 (a1 - (l0_0.length : Int))) (l0_1.length : Int)) then (if (Int.tmod (wrap64 (a1 - (l0_0.length : Int))) (l0_1.length : Int)) < (l0_1.length : Int) then (some (rdOf false l0_1 (Int.tmod (wrap64 (a1 - (l0_0.length : Int))) (l0_1.length : Int)))) else (none)) else (none)))) = some r := h
 clear h
 by_cases c3 : a1 < (l0_0.length : Int)
 ·rw [if_pos c3] at H
  have c3b0 : decide (a1 < (l0_0.length : Int)) = true := decide_eq_true c3
  clear c3
  by_cases c4 : 0 ≤ a1
  ·rw [if_pos c4] at H
   have c4b0 : decide (0 ≤ a1) = true := decide_eq_true c4
   clear c4
   obtain rfl := Option.some.inj H
   go_enter Try.func97, Try.ntmps97
   go_wp2_with (first | ((with_reducible refine gate_dst (N := 2) rfl ?_); refine box_event ?hg (N := 2) ?hd (cs := #[.slice A0_0 l0_0.length c0_0, .slice A0_1 l0_1.length c0_1]) (t := 94) ?hr ?_; (case hd => rfl); (case hg => rfl); (case hr => first | (go_simp; done)); intro gb463 hg w5 hbox hb; have BK463 := aM hbox; have GW463 := aM ((by rw [hg]; exact (below_size HB.out) : w.heap.size ≤ gb463)); have GE463 := aM ((by rw [hg]; exact (below_size HB.out) : w.heap.size ≤ gb463)); replace HB := aM (below_step HB.out hb); clear hb hbox hg; have hcz6_0 : w5.cell? ⟨gb463, 0, none⟩ = some (.slice A0_0 l0_0.length c0_0) := (blk_cell BK463.out 0).trans rfl; have hcz6_1 : w5.cell? ⟨gb463, 1, none⟩ = some (.slice A0_1 l0_1.length c0_1) := (blk_cell BK463.out 1).trans rfl; have hfz6_0 := blk_frozen BK463.out 0; have hfz6_1 := blk_frozen BK463.out 1; have p464 : 0 ≤ (a1 : Int) := of_decide_eq_true (by (with_reducible assumption)); have q464 : a1 < (l0_0.length : Int) := of_decide_eq_true (by (with_reducible assumption)); obtain ⟨ad464, e464, hx464_0⟩ := Kd.at_bool HR0_0.out a1 p464 q464; cases e464; replace hx464_0 := (HB.out.cell (World.block_lt_of_cell? w _ hx464_0)).trans hx464_0; replace p464 := eq_true p464; replace q464 := eq_true q464))
   repeat (go_quiet (fail); try go_wp2_with (fail))
   go_ret
   exact ⟨by first | rfl | (simp [*, errW_none, errW_some] <;> rfl), HB.out⟩
  ·rw [if_neg c4] at H
   exact absurd H (by simp)
 ·rw [if_neg c3] at H
  have c3b0 : decide (a1 < (l0_0.length : Int)) = false := decide_eq_false c3
  clear c3
  by_cases c7 : (l0_1.length : Int) = 0
  ·rw [if_pos c7] at H
   exact absurd H (by simp)
  ·rw [if_neg c7] at H
   have c7b0 : ((l0_1.length : Int) == 0) = false := beq_eq_false_iff_ne.mpr c7
   have c7b1 : ((l0_1.length : Int) != 0) = true := bne_iff_ne.mpr c7
   have c7b2 : ¬ (l0_1 = []) := fun h_ => c7 (by rw [h_]; rfl)
   obtain ⟨ji8, hji8⟩ : ∃ j_ : Int, (Int.tmod (wrap64 (a1 - (l0_0.length : Int))) (l0_1.length : Int)) = j_ := ⟨_, rfl⟩
   replace H : (if 0 ≤ (ji8) then (if (ji8) < (l0_1.length : Int) then (some (rdOf false l0_1 (ji8))) else (none)) else (none)) = some r := by first | (rw [hji8] at H; exact H)
   by_cases c9 : 0 ≤ (ji8)
   ·rw [if_pos c9] at H
    have c9b0 : decide (0 ≤ (ji8)) = true := decide_eq_true c9
    clear c9
    by_cases c10 : (ji8) < (l0_1.length : Int)
    ·rw [if_pos c10] at H
     have c10b0 : decide ((ji8) < (l0_1.length : Int)) = true := decide_eq_true c10
     clear c10
     obtain rfl := Option.some.inj H
     go_enter Try.func97, Try.ntmps97
     go_wp2_with (first | ((with_reducible refine gate_dst (N := 2) rfl ?_); refine box_event ?hg (N := 2) ?hd (cs := #[.slice A0_0 l0_0.length c0_0, .slice A0_1 l0_1.length c0_1]) (t := 94) ?hr ?_; (case hd => rfl); (case hg => rfl); (case hr => first | (go_simp; done)); intro gb463 hg w11 hbox hb; have BK463 := aM hbox; have GW463 := aM ((by rw [hg]; exact (below_size HB.out) : w.heap.size ≤ gb463)); have GE463 := aM ((by rw [hg]; exact (below_size HB.out) : w.heap.size ≤ gb463)); replace HB := aM (below_step HB.out hb); clear hb hbox hg; have hcz12_0 : w11.cell? ⟨gb463, 0, none⟩ = some (.slice A0_0 l0_0.length c0_0) := (blk_cell BK463.out 0).trans rfl; have hcz12_1 : w11.cell? ⟨gb463, 1, none⟩ = some (.slice A0_1 l0_1.length c0_1) := (blk_cell BK463.out 1).trans rfl; have hfz12_0 := blk_frozen BK463.out 0; have hfz12_1 := blk_frozen BK463.out 1; have p465 : 0 ≤ ((ji8) : Int) := of_decide_eq_true (by (with_reducible assumption)); have q465 : (ji8) < (l0_1.length : Int) := of_decide_eq_true (by (with_reducible assumption)); obtain ⟨ad465, e465, hx465_0⟩ := Kd.at_bool HR0_1.out (ji8) p465 q465; cases e465; replace hx465_0 := (HB.out.cell (World.block_lt_of_cell? w _ hx465_0)).trans hx465_0; replace p465 := eq_true p465; replace q465 := eq_true q465))
     repeat (go_quiet (fail); try go_wp2_with (fail))
     go_ret
     exact ⟨by first | rfl | (simp [*, errW_none, errW_some] <;> rfl), by repeat (first | (with_reducible first | exact HB.out | apply bN))⟩
    ·rw [if_neg c10] at H
     exact absurd H (by simp)
   ·rw [if_neg c9] at H
    exact absurd H (by simp)


def spec_l4Least.l0 : Nat → Int → List Bool → List Bool → Option (Int)
 | 0, _, _, _ => none
 | k + 1, x3, x467000, x467001 => if x3 ≤ 20 then ((spec_l1Has.f x467000 x467001 x3).bind fun t467 => (if t467 = true then (some x3) else (spec_l4Least.l0 k (wrap64 (x3 + 1)) x467000 x467001))) else (some 0)
def spec_l4Least.f (k : Nat) (l0_0 : List Bool) (l0_1 : List Bool) : Option (Int) := spec_l4Least.l0 k 1 l0_0 l0_1
theorem spec_l4Least.mono_l : ∀ k, (∀ y0 y1 y2, LeO (spec_l4Least.l0 k y0 y1 y2) (spec_l4Least.l0 (k + 1) y0 y1 y2))
 | 0 => fun _ _ _ r h => by simp [spec_l4Least.l0] at h
 | k + 1 => by
  have ih0 := spec_l4Least.mono_l k
  ·intro y0 y1 y2
   unfold spec_l4Least.l0
   repeat' first | (with_reducible exact ih0 _ _ _) | (with_reducible exact LeO.refl _) | (with_reducible refine LeO.ite ?_ ?_) | (with_reducible refine LeO.bind ?_ (fun _ => ?_))
theorem spec_l4Least.mono : ∀ a0 a1 k, LeO (spec_l4Least.f k a0 a1) (spec_l4Least.f (k + 1) a0 a1) := by
 intro a0 a1 k
 have ih0 := spec_l4Least.mono_l k
 unfold spec_l4Least.f
 repeat' (with_reducible exact ih0 _ _ _)
set_option maxHeartbeats 8000000 in
set_option maxRecDepth 100000 in
theorem spec_l4Least.calls (k : Nat) (A0_0 : Option Addr) (c0_0 : Nat) (l0_0 : List Bool) (A0_1 : Option Addr) (c0_1 : Nat) (l0_1 : List Bool) (r : Int) (w : World) (hr0_0 : Kd.C Kd.bool w A0_0 l0_0.length l0_0) (hc0_0 : l0_0.length ≤ c0_0) (hr0_1 : Kd.C Kd.bool w A0_1 l0_1.length l0_1) (hc0_1 : l0_1.length ≤ c0_1) (h : spec_l4Least.f k l0_0 l0_1 = some r) :
  Calls Try.prog 93 #[.agg #[.slice A0_0 l0_0.length c0_0, .slice A0_1 l0_1.length c0_1]] w fun e w' => e = .returned (.int .i64 r) ∧ Below w.heap.size w w' := by
 have hu94 := Try.underlying94
 have HR0_0 := aM hr0_0
 have HC0_0 := aM hc0_0
 clear hr0_0 hc0_0
 have HR0_1 := aM hr0_1
 have HC0_1 := aM hc0_1
 clear hr0_1 hc0_1
 have HB := aM (Below.refl w.heap.size w)
 have H : (spec_l4Least.l0 k 1 l0_0 l0_1) = some r := h
 clear h
 have H' := aM H
 clear H
 go_enter Try.func93, Try.ntmps93
 go_wp2_with (first | ((with_reducible refine gate_dst (N := 1) rfl ?_); refine box_event ?hg (N := 1) ?hd (cs := #[.slice A0_0 l0_0.length c0_0, .slice A0_1 l0_1.length c0_1]) (t := 94) ?hr ?_; (case hd => rfl); (case hg => rfl); (case hr => first | (go_simp; done)); intro gb466 hg w2 hbox hb; have BK466 := aM hbox; have GW466 := aM ((by rw [hg]; exact (below_size HB.out) : w.heap.size ≤ gb466)); have GE466 := aM ((by rw [hg]; exact (below_size HB.out) : w.heap.size ≤ gb466)); replace HB := aM (below_step HB.out hb); clear hb hbox hg))
 go_loopg [3] k (fun kq v3 w' => ∃ (x3_1 : Int), v3 = .int .i64 x3_1 ∧ Aside0 (spec_l4Least.l0 kq x3_1 l0_0 l0_1 = some r) ∧ Aside0 (kq ≤ k) ∧ Aside0 (w'.heap[gb466]? = some (.cells #[(.slice A0_0 l0_0.length c0_0), (.slice A0_1 l0_1.length c0_1)] 94 (0, 0))) ∧ Aside0 (Below w.heap.size w w'))
 case atStart => exact ⟨(1), (by rfl), H', ⟨Nat.le_refl _⟩, ⟨by exact BK466.out⟩, ⟨HB.out⟩⟩
 case round =>
  clear H'
  obtain ⟨x3_1, rfl, HA, HK1, BK466, HB⟩ := hrel
  cases gk with
  | zero => exact absurd HA.out (by simp [spec_l4Least.l0])
  | succ k1 =>
   have H := HA.out
   clear HA
   simp only [spec_l4Least.l0] at H
   by_cases c3 : x3_1 ≤ 20
   ·rw [if_pos c3] at H
    have c3b0 : decide (x3_1 ≤ 20) = true := decide_eq_true c3
    clear c3
    replace H := Option.bind_eq_some_iff.mp H
    obtain ⟨t467, A40, H⟩ := H
    replace H : (if t467 = true then (some x3_1) else (spec_l4Least.l0 k1 (wrap64 (x3_1 + 1)) l0_0 l0_1)) = some r := H
    have A4 := aM A40
    clear A40
    by_cases c5 : t467 = true
    all_goals
     first
     |replace c5 := Bool.eq_false_iff.mpr c5
     |skip
     subst c5
     first
     |have H1 : (some x3_1) = some r := by rw [if_pos rfl] at H; exact H
     |have H1 : (spec_l4Least.l0 k1 (wrap64 (x3_1 + 1)) l0_0 l0_1) = some r := by rw [if_neg (show ¬ (false = true) by decide)] at H; exact H
     clear H
     have H := H1
     clear H1
     first
     |obtain rfl := Option.some.inj H
     |have H' := aM H
      clear H
     have hcz6_0 : wr.cell? ⟨gb466, 0, none⟩ = some (.slice A0_0 l0_0.length c0_0) := (blk_cell BK466.out 0).trans rfl
     have hcz6_1 : wr.cell? ⟨gb466, 1, none⟩ = some (.slice A0_1 l0_1.length c0_1) := (blk_cell BK466.out 1).trans rfl
     have hfz6_0 := blk_frozen BK466.out 0
     have hfz6_1 := blk_frozen BK466.out 1
     go_wp2_with (first | ((with_reducible refine gate_callee (f := 97) rfl ?_); refine goesL_ (some 10) rfl rfl Try.func97 (by kernel_rfl) rfl #[.agg #[.slice A0_0 l0_0.length c0_0, .slice A0_1 l0_1.length c0_1], .int .i64 x3_1] rfl (by (try simp only [List.map_toArray, List.map_cons, List.map_nil]); rfl) ?_; (with_reducible refine (spec_l1Has.calls _ _ l0_0 _ _ l0_1 x3_1 _ _ ?side1 ?side2 ?side3 ?side4 A4.out).mono ?_); (case side1 => repeat (exact (Kd.C_below HR0_0.out HB.out))); (case side2 => exact HC0_0.out); (case side3 => repeat (exact (Kd.C_below HR0_1.out HB.out))); (case side4 => exact HC0_1.out); rintro e w7 ⟨rfl, hb⟩; refine ⟨_, rfl, ?_⟩; replace BK466 := aM (blk_below (g := gb466) (o := .cells #[.slice A0_0 l0_0.length c0_0, .slice A0_1 l0_1.length c0_1] 94 (0, 0)) BK466.out hb); replace HB := aM (below_step HB.out hb); (try clear hb)))
     first
     |go_ret
      exact ⟨by first | rfl | (simp [*, errW_none, errW_some] <;> rfl), HB.out⟩
     |go_roundg k1
      case measure => have := HK1.out; omega
      case rel => exact ⟨(wrap64 (x3_1 + 1)), (by rfl), H', ⟨by have := HK1.out; omega⟩, ⟨by exact BK466.out⟩, ⟨HB.out⟩⟩
   ·rw [if_neg c3] at H
    have c3b0 : decide (x3_1 ≤ 20) = false := decide_eq_false c3
    clear c3
    obtain rfl := Option.some.inj H
    go_wp2
    go_ret
    exact ⟨by first | rfl | (simp [*, errW_none, errW_some] <;> rfl), HB.out⟩


def spec_l1Bit.f (a0 : Bool) : Option (Int) := if a0 = true then (some 1) else (some 0)
set_option maxHeartbeats 8000000 in
set_option maxRecDepth 100000 in
theorem spec_l1Bit.calls (a0 : Bool) (r : Int) (w : World) (h : spec_l1Bit.f a0 = some r) :
  Calls Try.prog 44 #[.bool a0] w fun e w' => e = .returned (.int .i64 r) ∧ Drawn0 w w' := by
 have H : (if a0 = true then (some 1) else (some 0)) = some r := h
 clear h
 by_cases c2 : a0 = true
 ·subst c2
  have H1 : (some 1) = some r := by rw [if_pos rfl] at H; exact H
  clear H
  have H := H1
  clear H1
  obtain rfl := Option.some.inj H
  go_enter Try.func44, Try.ntmps44
  go_wp2
  go_ret
  exact ⟨by first | rfl | (simp; done) | (simp [*]; done), by repeat (first | exact Drawn0.refl _ | apply Drawn0.step)⟩
 ·replace c2 := Bool.eq_false_iff.mpr c2
  subst c2
  have H1 : (some 0) = some r := by rw [if_neg (show ¬ (false = true) by decide)] at H; exact H
  clear H
  have H := H1
  clear H1
  obtain rfl := Option.some.inj H
  go_enter Try.func44, Try.ntmps44
  go_wp2
  go_ret
  exact ⟨by first | rfl | (simp; done) | (simp [*]; done), by repeat (first | exact Drawn0.refl _ | apply Drawn0.step)⟩


mutual
def spec_l1Write.l0 : Nat → List Int → Int → List Bool → List Bool → Option (ByteArray)
 | 0, _, _, _, _ => none
 | k + 1, x3, x4, x469000, x469001 => if x4 < (x469000.length : Int) then (if 0 ≤ x4 then ((spec_l1Bit.f (rdOf false x469000 x4)).bind fun t473 => (if 0 ≤ t473 then (if t473 < 2 then (if x3.length < 140737488355328 then (spec_l1Write.l0 k (x3 ++ [bt (⟨#[48, 49]⟩ : ByteArray) t473]) (wrap64 (x4 + 1)) x469000 x469001) else (none)) else (none)) else (none))) else (none)) else (if x3.length < 140737488355328 then (spec_l1Write.l1 k (x3 ++ [40]) 0 x469000 x469001) else (none))
def spec_l1Write.l1 : Nat → List Int → Int → List Bool → List Bool → Option (ByteArray)
 | 0, _, _, _, _ => none
 | k + 1, x3, x5, x469000, x469001 => if x5 < (x469001.length : Int) then (if 0 ≤ x5 then ((spec_l1Bit.f (rdOf false x469001 x5)).bind fun t481 => (if 0 ≤ t481 then (if t481 < 2 then (if x3.length < 140737488355328 then (spec_l1Write.l1 k (x3 ++ [bt (⟨#[48, 49]⟩ : ByteArray) t481]) (wrap64 (x5 + 1)) x469000 x469001) else (none)) else (none)) else (none))) else (none)) else (if x3.length < 140737488355328 then (some (strOfNums (x3 ++ [41]))) else (none))
end
def spec_l1Write.f (k : Nat) (l0_0 : List Bool) (l0_1 : List Bool) : Option (ByteArray) := spec_l1Write.l0 k (([] : List Int)) 0 l0_0 l0_1
theorem spec_l1Write.mono_l : ∀ k, (∀ y0 y1 y2 y3, LeO (spec_l1Write.l0 k y0 y1 y2 y3) (spec_l1Write.l0 (k + 1) y0 y1 y2 y3)) ∧ (∀ y0 y1 y2 y3, LeO (spec_l1Write.l1 k y0 y1 y2 y3) (spec_l1Write.l1 (k + 1) y0 y1 y2 y3))
 | 0 => ⟨fun _ _ _ _ r h => by simp [spec_l1Write.l0] at h, fun _ _ _ _ r h => by simp [spec_l1Write.l1] at h⟩
 | k + 1 => by
  obtain ⟨ih0, ih1⟩ := spec_l1Write.mono_l k
  refine ⟨?_, ?_⟩
  ·intro y0 y1 y2 y3
   unfold spec_l1Write.l0
   repeat' first | (with_reducible exact ih0 _ _ _ _) | (with_reducible exact ih1 _ _ _ _) | (with_reducible exact LeO.refl _) | (with_reducible refine LeO.ite ?_ ?_) | (with_reducible refine LeO.bind ?_ (fun _ => ?_))
  ·intro y0 y1 y2 y3
   unfold spec_l1Write.l1
   repeat' first | (with_reducible exact ih1 _ _ _ _) | (with_reducible exact LeO.refl _) | (with_reducible refine LeO.ite ?_ ?_) | (with_reducible refine LeO.bind ?_ (fun _ => ?_))
theorem spec_l1Write.mono : ∀ a0 a1 k, LeO (spec_l1Write.f k a0 a1) (spec_l1Write.f (k + 1) a0 a1) := by
 intro a0 a1 k
 obtain ⟨ih0, ih1⟩ := spec_l1Write.mono_l k
 unfold spec_l1Write.f
 repeat' (with_reducible exact ih0 _ _ _ _)
set_option maxHeartbeats 8000000 in
set_option maxRecDepth 100000 in
theorem spec_l1Write.calls (k : Nat) (A0_0 : Option Addr) (c0_0 : Nat) (l0_0 : List Bool) (A0_1 : Option Addr) (c0_1 : Nat) (l0_1 : List Bool) (r : ByteArray) (w : World) (hr0_0 : Kd.C Kd.bool w A0_0 l0_0.length l0_0) (hc0_0 : l0_0.length ≤ c0_0) (hr0_1 : Kd.C Kd.bool w A0_1 l0_1.length l0_1) (hc0_1 : l0_1.length ≤ c0_1) (h : spec_l1Write.f k l0_0 l0_1 = some r) :
  Calls Try.prog 106 #[.agg #[.slice A0_0 l0_0.length c0_0, .slice A0_1 l0_1.length c0_1]] w fun e w' => e = .returned (.string r) ∧ Below w.heap.size w w' := by
 have hu94 := Try.underlying94
 have HR0_0 := aM hr0_0
 have HC0_0 := aM hc0_0
 clear hr0_0 hc0_0
 have HR0_1 := aM hr0_1
 have HC0_1 := aM hc0_1
 clear hr0_1 hc0_1
 have HB := aM (Below.refl w.heap.size w)
 have H : (spec_l1Write.l0 k (([] : List Int)) 0 l0_0 l0_1) = some r := h
 clear h
 obtain ⟨y469, hy469⟩ : ∃ y_ : List Int, y_ = (([] : List Int)) := ⟨_, rfl⟩
 replace H : (spec_l1Write.l0 k y469 0 l0_0 l0_1) = some r := by first | (rw [hy469]; with_reducible exact H)
 have Ny469 := aM hy469
 clear hy469
 have H' := aM H
 clear H
 go_enter Try.func106, Try.ntmps106
 go_wp2_with (first | ((with_reducible refine gate_dst (N := 1) rfl ?_); refine box_event ?hg (N := 1) ?hd (cs := #[.slice A0_0 l0_0.length c0_0, .slice A0_1 l0_1.length c0_1]) (t := 94) ?hr ?_; (case hd => rfl); (case hg => rfl); (case hr => first | (go_simp; done)); intro gb468 hg w2 hbox hb; have BK468 := aM hbox; have GW468 := aM ((by rw [hg]; exact (below_size HB.out) : w.heap.size ≤ gb468)); have GE468 := aM ((by rw [hg]; exact (below_size HB.out) : w.heap.size ≤ gb468)); replace HB := aM (below_step HB.out hb); clear hb hbox hg) | ((with_reducible refine gate_dst (N := 6) rfl ?_); refine Kd.R_lit (Kd.int .u8) _ 5 ?hg (N := 6) ?hd (xs := ([] : List Int)) (inner := []) (ok := fun _ => True) (okp := fun _ => True) ?hr ?hp (fun _ hk => hk) trivial (Below.refl _ _) (Nat.le_refl _) (by simp) ?_; (case hd => rfl); (case hg => rfl); (case hr => first | (go_simp; done)); (case hp => exact (Reps.none _ _)); intro v470 w3 ho4 hb hg_ hnew_; clear hg_ hnew_; (rw [← Ny469.out] at ho4); have HO471 := aM (Kd.R_lower ho4 (below_size HB.out)); replace BK468 := aM (blk_below (g := gb468) (o := .cells #[.slice A0_0 l0_0.length c0_0, .slice A0_1 l0_1.length c0_1] 94 (0, 0)) BK468.out hb); replace HB := aM (below_step HB.out hb); clear hb ho4))
 go_loopg [3, 4] k (fun kq v3 v4 w' => ∃ (x3_1 : List Int) (x4_1 : Int), v4 = .int .i64 x4_1 ∧ Aside0 (spec_l1Write.l0 kq x3_1 x4_1 l0_0 l0_1 = some r) ∧ Aside0 (kq ≤ k) ∧ Aside0 (Kd.R (Kd.int .u8) 5 w' w.heap.size (fun _ => True) v3 x3_1) ∧ Aside0 (w'.heap[gb468]? = some (.cells #[(.slice A0_0 l0_0.length c0_0), (.slice A0_1 l0_1.length c0_1)] 94 (0, 0))) ∧ Aside0 (Below w.heap.size w w'))
 case atStart => exact ⟨(y469), (0), (by rfl), H', ⟨Nat.le_refl _⟩, ⟨by exact HO471.out⟩, ⟨by exact BK468.out⟩, ⟨HB.out⟩⟩
 case round =>
  clear H'
  obtain ⟨x3_1, x4_1, rfl, HA, HK1, HO_3, BK468, HB⟩ := hrel
  cases gk with
  | zero => exact absurd HA.out (by simp [spec_l1Write.l0])
  | succ k1 =>
   have H := HA.out
   clear HA
   simp only [spec_l1Write.l0] at H
   by_cases c5 : x4_1 < (l0_0.length : Int)
   ·rw [if_pos c5] at H
    have c5b0 : decide (x4_1 < (l0_0.length : Int)) = true := decide_eq_true c5
    clear c5
    by_cases c6 : 0 ≤ x4_1
    ·rw [if_pos c6] at H
     have c6b0 : decide (0 ≤ x4_1) = true := decide_eq_true c6
     clear c6
     replace H := Option.bind_eq_some_iff.mp H
     obtain ⟨t473, A70, H⟩ := H
     replace H : (if 0 ≤ t473 then (if t473 < 2 then (if x3_1.length < 140737488355328 then (spec_l1Write.l0 k1 (x3_1 ++ [bt (⟨#[48, 49]⟩ : ByteArray) t473]) (wrap64 (x4_1 + 1)) l0_0 l0_1) else (none)) else (none)) else (none)) = some r := H
     have A7 := aM A70
     clear A70
     by_cases c8 : 0 ≤ t473
     ·rw [if_pos c8] at H
      have c8b0 : decide (0 ≤ t473) = true := decide_eq_true c8
      clear c8
      by_cases c9 : t473 < 2
      ·rw [if_pos c9] at H
       have c9b0 : decide (t473 < 2) = true := decide_eq_true c9
       clear c9
       by_cases c11 : x3_1.length < 140737488355328
       ·rw [if_pos c11] at H
        have LMc11 := aM c11
        clear c11
        obtain ⟨y474, hy474⟩ : ∃ y_ : List Int, y_ = (x3_1 ++ [bt (⟨#[48, 49]⟩ : ByteArray) t473]) := ⟨_, rfl⟩
        replace H : (spec_l1Write.l0 k1 y474 (wrap64 (x4_1 + 1)) l0_0 l0_1) = some r := by first | (rw [hy474]; with_reducible exact H)
        have Ny474 := aM hy474
        clear hy474
        have H' := aM H
        clear H
        have hcz12_0 : wr.cell? ⟨gb468, 0, none⟩ = some (.slice A0_0 l0_0.length c0_0) := (blk_cell BK468.out 0).trans rfl
        have hcz12_1 : wr.cell? ⟨gb468, 1, none⟩ = some (.slice A0_1 l0_1.length c0_1) := (blk_cell BK468.out 1).trans rfl
        have hfz12_0 := blk_frozen BK468.out 0
        have hfz12_1 := blk_frozen BK468.out 1
        have p472 : 0 ≤ (x4_1 : Int) := of_decide_eq_true (by (with_reducible assumption))
        have q472 : x4_1 < (l0_0.length : Int) := of_decide_eq_true (by (with_reducible assumption))
        obtain ⟨ad472, e472, hx472_0⟩ := Kd.at_bool HR0_0.out x4_1 p472 q472
        cases e472
        replace hx472_0 := (HB.out.cell (World.block_lt_of_cell? w _ hx472_0)).trans hx472_0
        replace p472 := eq_true p472
        replace q472 := eq_true q472
        go_wp2_with (first | ((with_reducible refine gate_callee (f := 44) rfl ?_); refine goesL_ (some 20) rfl rfl Try.func44 (by kernel_rfl) rfl #[.bool (rdOf false l0_0 x4_1)] rfl (by (try simp only [List.map_toArray, List.map_cons, List.map_nil]); rfl) ?_; (with_reducible refine (spec_l1Bit.calls (rdOf false l0_0 x4_1) t473 _ A7.out).mono ?_); rintro e w' ⟨rfl, ⟨nd, rfl⟩⟩; refine ⟨_, rfl, ?_⟩; have p10 : 0 ≤ (t473 : Int) := of_decide_eq_true (by (with_reducible assumption)); have q10 : t473 < (2 : Int) := of_decide_eq_true (by (with_reducible assumption)); have hx10 := bt_at (⟨#[48, 49]⟩ : ByteArray) t473; replace p10 := eq_true p10; replace q10 := eq_true q10) | ((with_reducible refine gate_builtin (b := .append) (xs := #[.tmp 14, .tmp 22]) rfl ?_); at_builtin; refine Kd.R_append (Kd.int .u8) (w0 := w) w.heap.size rfl (.tmp 14) (.tmp 22) 22 5 (.int .u8 0) 1 rfl Try.underlying22 info5 rfl (by decide) (by omega) u3 x3_1 (bt (⟨#[48, 49]⟩ : ByteArray) t473) [.int .u8 (bt (⟨#[48, 49]⟩ : ByteArray) t473)] (fun _ => True) (fun _ => False) rfl rfl ?aP (fun _ hk => hk.elim) ?aF ?aO ?aB ?aS ?aL ?_; (case aP => exact rfl); (case aB => exact (by repeat (first | (with_reducible first | exact HB.out | apply bN)))); (case aF => exact (fun _ _ => trivial)); (case aO => exact (by (with_reducible repeat (apply rN)); exact HO_3.out)); (case aS => exact (below_size (by repeat (first | (with_reducible first | exact HB.out | apply bN))))); (case aL => have := LMc11.out; omega); intro v475 w13 ho hb hg hat; rw [← Ny474.out] at ho; replace BK468 := aM (blk_grown (g := gb468) (o := .cells #[.slice (some ad472) l0_0.length c0_0, .slice A0_1 l0_1.length c0_1] 94 (0, 0)) (by (with_reducible repeat (refine kN ?_ _)); exact BK468.out) hg (Kd.R_ne HO_3.out BK468.out (by decide))); replace HB := aM hb; have HO476 := aM ho; clear HO_3; clear ho hb hg hat))
        go_roundg k1
        case measure => have := HK1.out; omega
        case rel => exact ⟨(y474), (wrap64 (x4_1 + 1)), (by rfl), H', ⟨by have := HK1.out; omega⟩, ⟨by exact HO476.out⟩, ⟨by exact BK468.out⟩, ⟨HB.out⟩⟩
       ·rw [if_neg c11] at H
        exact absurd H (by simp)
      ·rw [if_neg c9] at H
       exact absurd H (by simp)
     ·rw [if_neg c8] at H
      exact absurd H (by simp)
    ·rw [if_neg c6] at H
     exact absurd H (by simp)
   ·rw [if_neg c5] at H
    have c5b0 : decide (x4_1 < (l0_0.length : Int)) = false := decide_eq_false c5
    clear c5
    by_cases c14 : x3_1.length < 140737488355328
    ·rw [if_pos c14] at H
     have LMc14 := aM c14
     clear c14
     obtain ⟨y477, hy477⟩ : ∃ y_ : List Int, y_ = (x3_1 ++ [40]) := ⟨_, rfl⟩
     replace H : (spec_l1Write.l1 k1 y477 0 l0_0 l0_1) = some r := by first | (rw [hy477]; with_reducible exact H)
     have Ny477 := aM hy477
     clear hy477
     have H' := aM H
     clear H
     have hcz15_0 : wr.cell? ⟨gb468, 0, none⟩ = some (.slice A0_0 l0_0.length c0_0) := (blk_cell BK468.out 0).trans rfl
     have hcz15_1 : wr.cell? ⟨gb468, 1, none⟩ = some (.slice A0_1 l0_1.length c0_1) := (blk_cell BK468.out 1).trans rfl
     have hfz15_0 := blk_frozen BK468.out 0
     have hfz15_1 := blk_frozen BK468.out 1
     go_wp2_with (first | ((with_reducible refine gate_builtin (b := .append) (xs := #[.tmp 24, .tmp 25]) rfl ?_); at_builtin; refine Kd.R_append (Kd.int .u8) (w0 := w) w.heap.size rfl (.tmp 24) (.tmp 25) 22 5 (.int .u8 0) 1 rfl Try.underlying22 info5 rfl (by decide) (by omega) u3 x3_1 40 [.int .u8 40] (fun _ => True) (fun _ => False) rfl rfl ?aP (fun _ hk => hk.elim) ?aF ?aO ?aB ?aS ?aL ?_; (case aP => exact rfl); (case aB => exact HB.out); (case aF => exact (fun _ _ => trivial)); (case aO => exact HO_3.out); (case aS => exact (below_size HB.out)); (case aL => have := LMc14.out; omega); intro v478 w16 ho hb hg hat; rw [← Ny477.out] at ho; replace BK468 := aM (blk_grown (g := gb468) (o := .cells #[.slice A0_0 l0_0.length c0_0, .slice A0_1 l0_1.length c0_1] 94 (0, 0)) BK468.out hg (Kd.R_ne HO_3.out BK468.out (by decide))); replace HB := aM hb; have HO479 := aM ho; clear HO_3; clear ho hb hg hat))
     go_loopg [3, 5] k1 (fun kq v3 v5 w' => ∃ (x3_2 : List Int) (x5_2 : Int), v5 = .int .i64 x5_2 ∧ Aside0 (spec_l1Write.l1 kq x3_2 x5_2 l0_0 l0_1 = some r) ∧ Aside0 (kq ≤ k1) ∧ Aside0 (Kd.R (Kd.int .u8) 5 w' w.heap.size (fun _ => True) v3 x3_2) ∧ Aside0 (w'.heap[gb468]? = some (.cells #[(.slice A0_0 l0_0.length c0_0), (.slice A0_1 l0_1.length c0_1)] 94 (0, 0))) ∧ Aside0 (Below w.heap.size w w'))
     case atStart => exact ⟨(y477), (0), (by rfl), H', ⟨Nat.le_refl _⟩, ⟨by exact HO479.out⟩, ⟨by exact BK468.out⟩, ⟨HB.out⟩⟩
     case round =>
      clear H'
      try clear c5b0
      try clear hcz15_0
      try clear hcz15_1
      try clear hfz15_0
      try clear hfz15_1
      obtain ⟨x3_2, x5_2, rfl, HA, HK2, HO_3, BK468, HB⟩ := hrel
      cases gk with
      | zero => exact absurd HA.out (by simp [spec_l1Write.l1])
      | succ k2 =>
       have H := HA.out
       clear HA
       simp only [spec_l1Write.l1] at H
       by_cases c17 : x5_2 < (l0_1.length : Int)
       ·rw [if_pos c17] at H
        have c17b0 : decide (x5_2 < (l0_1.length : Int)) = true := decide_eq_true c17
        clear c17
        by_cases c18 : 0 ≤ x5_2
        ·rw [if_pos c18] at H
         have c18b0 : decide (0 ≤ x5_2) = true := decide_eq_true c18
         clear c18
         replace H := Option.bind_eq_some_iff.mp H
         obtain ⟨t481, A190, H⟩ := H
         replace H : (if 0 ≤ t481 then (if t481 < 2 then (if x3_2.length < 140737488355328 then (spec_l1Write.l1 k2 (x3_2 ++ [bt (⟨#[48, 49]⟩ : ByteArray) t481]) (wrap64 (x5_2 + 1)) l0_0 l0_1) else (none)) else (none)) else (none)) = some r := H
         have A19 := aM A190
         clear A190
         by_cases c20 : 0 ≤ t481
         ·rw [if_pos c20] at H
          have c20b0 : decide (0 ≤ t481) = true := decide_eq_true c20
          clear c20
          by_cases c21 : t481 < 2
          ·rw [if_pos c21] at H
           have c21b0 : decide (t481 < 2) = true := decide_eq_true c21
           clear c21
           by_cases c23 : x3_2.length < 140737488355328
           ·rw [if_pos c23] at H
            have LMc23 := aM c23
            clear c23
            obtain ⟨y482, hy482⟩ : ∃ y_ : List Int, y_ = (x3_2 ++ [bt (⟨#[48, 49]⟩ : ByteArray) t481]) := ⟨_, rfl⟩
            replace H : (spec_l1Write.l1 k2 y482 (wrap64 (x5_2 + 1)) l0_0 l0_1) = some r := by first | (rw [hy482]; with_reducible exact H)
            have Ny482 := aM hy482
            clear hy482
            have H' := aM H
            clear H
            have hcz24_0 : wr.cell? ⟨gb468, 0, none⟩ = some (.slice A0_0 l0_0.length c0_0) := (blk_cell BK468.out 0).trans rfl
            have hcz24_1 : wr.cell? ⟨gb468, 1, none⟩ = some (.slice A0_1 l0_1.length c0_1) := (blk_cell BK468.out 1).trans rfl
            have hfz24_0 := blk_frozen BK468.out 0
            have hfz24_1 := blk_frozen BK468.out 1
            have p480 : 0 ≤ (x5_2 : Int) := of_decide_eq_true (by (with_reducible assumption))
            have q480 : x5_2 < (l0_1.length : Int) := of_decide_eq_true (by (with_reducible assumption))
            obtain ⟨ad480, e480, hx480_0⟩ := Kd.at_bool HR0_1.out x5_2 p480 q480
            cases e480
            replace hx480_0 := (HB.out.cell (World.block_lt_of_cell? w _ hx480_0)).trans hx480_0
            replace p480 := eq_true p480
            replace q480 := eq_true q480
            go_wp2_with (first | ((with_reducible refine gate_callee (f := 44) rfl ?_); refine goesL_ (some 40) rfl rfl Try.func44 (by kernel_rfl) rfl #[.bool (rdOf false l0_1 x5_2)] rfl (by (try simp only [List.map_toArray, List.map_cons, List.map_nil]); rfl) ?_; (with_reducible refine (spec_l1Bit.calls (rdOf false l0_1 x5_2) t481 _ A19.out).mono ?_); rintro e w' ⟨rfl, ⟨nd, rfl⟩⟩; refine ⟨_, rfl, ?_⟩; have p22 : 0 ≤ (t481 : Int) := of_decide_eq_true (by (with_reducible assumption)); have q22 : t481 < (2 : Int) := of_decide_eq_true (by (with_reducible assumption)); have hx22 := bt_at (⟨#[48, 49]⟩ : ByteArray) t481; replace p22 := eq_true p22; replace q22 := eq_true q22) | ((with_reducible refine gate_builtin (b := .append) (xs := #[.tmp 34, .tmp 42]) rfl ?_); at_builtin; refine Kd.R_append (Kd.int .u8) (w0 := w) w.heap.size rfl (.tmp 34) (.tmp 42) 22 5 (.int .u8 0) 1 rfl Try.underlying22 info5 rfl (by decide) (by omega) u3 x3_2 (bt (⟨#[48, 49]⟩ : ByteArray) t481) [.int .u8 (bt (⟨#[48, 49]⟩ : ByteArray) t481)] (fun _ => True) (fun _ => False) rfl rfl ?aP (fun _ hk => hk.elim) ?aF ?aO ?aB ?aS ?aL ?_; (case aP => exact rfl); (case aB => exact (by repeat (first | (with_reducible first | exact HB.out | apply bN)))); (case aF => exact (fun _ _ => trivial)); (case aO => exact (by (with_reducible repeat (apply rN)); exact HO_3.out)); (case aS => exact (below_size (by repeat (first | (with_reducible first | exact HB.out | apply bN))))); (case aL => have := LMc23.out; omega); intro v483 w25 ho hb hg hat; rw [← Ny482.out] at ho; replace BK468 := aM (blk_grown (g := gb468) (o := .cells #[.slice A0_0 l0_0.length c0_0, .slice (some ad480) l0_1.length c0_1] 94 (0, 0)) (by (with_reducible repeat (refine kN ?_ _)); exact BK468.out) hg (Kd.R_ne HO_3.out BK468.out (by decide))); replace HB := aM hb; have HO484 := aM ho; clear HO_3; clear ho hb hg hat))
            go_roundg k2
            case measure => have := HK1.out; have := HK2.out; omega
            case rel => exact ⟨(y482), (wrap64 (x5_2 + 1)), (by rfl), H', ⟨by have := HK1.out; have := HK2.out; omega⟩, ⟨by exact HO484.out⟩, ⟨by exact BK468.out⟩, ⟨HB.out⟩⟩
           ·rw [if_neg c23] at H
            exact absurd H (by simp)
          ·rw [if_neg c21] at H
           exact absurd H (by simp)
         ·rw [if_neg c20] at H
          exact absurd H (by simp)
        ·rw [if_neg c18] at H
         exact absurd H (by simp)
       ·rw [if_neg c17] at H
        have c17b0 : decide (x5_2 < (l0_1.length : Int)) = false := decide_eq_false c17
        clear c17
        by_cases c26 : x3_2.length < 140737488355328
        ·rw [if_pos c26] at H
         have LMc26 := aM c26
         clear c26
         obtain ⟨y485, hy485⟩ : ∃ y_ : List Int, y_ = (x3_2 ++ [41]) := ⟨_, rfl⟩
         replace H : (some (strOfNums y485)) = some r := by first | (rw [hy485]; with_reducible exact H)
         have Ny485 := aM hy485
         clear hy485
         obtain rfl := Option.some.inj H
         have hcz27_0 : wr.cell? ⟨gb468, 0, none⟩ = some (.slice A0_0 l0_0.length c0_0) := (blk_cell BK468.out 0).trans rfl
         have hcz27_1 : wr.cell? ⟨gb468, 1, none⟩ = some (.slice A0_1 l0_1.length c0_1) := (blk_cell BK468.out 1).trans rfl
         have hfz27_0 := blk_frozen BK468.out 0
         have hfz27_1 := blk_frozen BK468.out 1
         go_wp2_with (first | ((with_reducible refine gate_builtin (b := .append) (xs := #[.tmp 44, .tmp 45]) rfl ?_); at_builtin; refine Kd.R_append (Kd.int .u8) (w0 := w) w.heap.size rfl (.tmp 44) (.tmp 45) 22 5 (.int .u8 0) 1 rfl Try.underlying22 info5 rfl (by decide) (by omega) u3 x3_2 41 [.int .u8 41] (fun _ => True) (fun _ => False) rfl rfl ?aP (fun _ hk => hk.elim) ?aF ?aO ?aB ?aS ?aL ?_; (case aP => exact rfl); (case aB => exact HB.out); (case aF => exact (fun _ _ => trivial)); (case aO => exact HO_3.out); (case aS => exact (below_size HB.out)); (case aL => have := LMc26.out; omega); intro v486 w28 ho hb hg hat; rw [← Ny485.out] at ho; replace BK468 := aM (blk_grown (g := gb468) (o := .cells #[.slice A0_0 l0_0.length c0_0, .slice A0_1 l0_1.length c0_1] 94 (0, 0)) BK468.out hg (Kd.R_ne HO_3.out BK468.out (by decide))); replace HB := aM hb; have HO487 := aM ho; clear HO_3; clear ho hb hg hat; have hcv29 := own_string (P := Try.prog) Try.underlying22 Try.underlying5 Try.underlying9 (Kd.own_of_R HO487.out)))
         go_ret
         exact ⟨by first | rfl | (simp [*, errW_none, errW_some] <;> rfl), HB.out⟩
        ·rw [if_neg c26] at H
         exact absurd H (by simp)
    ·rw [if_neg c14] at H
     exact absurd H (by simp)


def spec_l1Done.f (k : Nat) (l0_0 : List Bool) (l0_1 : List Bool) : Option (ByteArray × Bool) := (spec_l1Less.f k l0_0 l0_1).bind fun bt489 => (if (bt489.1.length : Int) > 60 then (some ((⟨#[]⟩ : ByteArray), false)) else (if (bt489.2.length : Int) > 60 then (some ((⟨#[]⟩ : ByteArray), false)) else ((spec_l1Write.f k bt489.1 bt489.2).bind fun t496 => (some (t496, true)))))
theorem spec_l1Done.mono : ∀ a0 a1 k, LeO (spec_l1Done.f k a0 a1) (spec_l1Done.f (k + 1) a0 a1) := by
 intro a0 a1 k
 unfold spec_l1Done.f
 repeat' first | (with_reducible exact spec_l1Less.mono _ _ _) | (with_reducible exact spec_l1Write.mono _ _ _) | (with_reducible exact LeO.refl _) | (with_reducible refine LeO.ite ?_ ?_) | (with_reducible refine LeO.bind ?_ (fun _ => ?_))
set_option maxHeartbeats 8000000 in
set_option maxRecDepth 100000 in
theorem spec_l1Done.calls (k : Nat) (A0_0 : Option Addr) (c0_0 : Nat) (l0_0 : List Bool) (A0_1 : Option Addr) (c0_1 : Nat) (l0_1 : List Bool) (r1 : ByteArray) (r2 : Bool) (w : World) (hr0_0 : Kd.C Kd.bool w A0_0 l0_0.length l0_0) (hc0_0 : l0_0.length ≤ c0_0) (hr0_1 : Kd.C Kd.bool w A0_1 l0_1.length l0_1) (hc0_1 : l0_1.length ≤ c0_1) (h : spec_l1Done.f k l0_0 l0_1 = some (r1, r2)) :
  Calls Try.prog 98 #[.agg #[.slice A0_0 l0_0.length c0_0, .slice A0_1 l0_1.length c0_1]] w fun e w' => e = .returned (.tuple #[.string r1, .bool r2]) ∧ Below w.heap.size w w' := by
 have hu94 := Try.underlying94
 have HR0_0 := aM hr0_0
 have HC0_0 := aM hc0_0
 clear hr0_0 hc0_0
 have HR0_1 := aM hr0_1
 have HC0_1 := aM hc0_1
 clear hr0_1 hc0_1
 have HB := aM (Below.refl w.heap.size w)
 have H : ((spec_l1Less.f k l0_0 l0_1).bind fun bt489 => (if (bt489.1.length : Int) > 60 then (some ((⟨#[]⟩ : ByteArray), false)) else (if (bt489.2.length : Int) > 60 then (some ((⟨#[]⟩ : ByteArray), false)) else ((spec_l1Write.f k bt489.1 bt489.2).bind fun t496 => (some (t496, true)))))) = some (r1, r2) := h
 clear h
 replace H := Option.bind_eq_some_iff.mp H
 obtain ⟨⟨t489, t492⟩, A20, H⟩ := H
 replace H : (if (t489.length : Int) > 60 then (some ((⟨#[]⟩ : ByteArray), false)) else (if (t492.length : Int) > 60 then (some ((⟨#[]⟩ : ByteArray), false)) else ((spec_l1Write.f k t489 t492).bind fun t496 => (some (t496, true))))) = some (r1, r2) := H
 have A2 := aM A20
 clear A20
 by_cases c3 : (t489.length : Int) > 60
 ·rw [if_pos c3] at H
  have c3b0 : decide (60 < (t489.length : Int)) = true := decide_eq_true c3
  have c3b1 : decide (60 < t489.length) = true := decide_eq_true (by omega)
  clear c3
  simp only [Option.some.injEq, Prod.mk.injEq] at H
  obtain ⟨rfl, rfl⟩ := H
  go_enter Try.func98, Try.ntmps98
  go_wp2_with (first | ((with_reducible refine gate_dst (N := 1) rfl ?_); (try (refine gate_guard (by rfl) ?_; dsimp only)); refine box_event ?hg (N := 1) ?hd (cs := #[.slice A0_0 l0_0.length c0_0, .slice A0_1 l0_1.length c0_1]) (t := 94) ?hr ?_; (case hd => rfl); (case hg => rfl); (case hr => first | (go_simp; done)); intro gb488 hg w4 hbox hb; have BK488 := aM hbox; have GW488 := aM ((by rw [hg]; exact (below_size HB.out) : w.heap.size ≤ gb488)); have GE488 := aM ((by rw [hg]; exact (below_size HB.out) : w.heap.size ≤ gb488)); replace HB := aM (below_step HB.out hb); clear hb hbox hg; have hcz5_0 : w4.cell? ⟨gb488, 0, none⟩ = some (.slice A0_0 l0_0.length c0_0) := (blk_cell BK488.out 0).trans rfl; have hcz5_1 : w4.cell? ⟨gb488, 1, none⟩ = some (.slice A0_1 l0_1.length c0_1) := (blk_cell BK488.out 1).trans rfl; have hfz5_0 := blk_frozen BK488.out 0; have hfz5_1 := blk_frozen BK488.out 1) | ((with_reducible refine gate_callee (f := 92) rfl ?_); refine goesL_ (some 6) rfl rfl Try.func92 (by kernel_rfl) rfl #[.agg #[.slice A0_0 l0_0.length c0_0, .slice A0_1 l0_1.length c0_1]] rfl (by (try simp only [List.map_toArray, List.map_cons, List.map_nil]); rfl) ?_; (with_reducible refine (spec_l1Less.calls k (fun k_ => k_ < w.heap.size) _ _ l0_0 (fun k_ => k_ < w.heap.size) _ _ l0_1 t489 t492 _ ?side1 ?side2 A2.out).mono ?_); (case side1 => exact Kd.V_mk HC0_0.out (Kd.F_below (Kd.C_F Kd.heap_bool HR0_0.out) HB.out)); (case side2 => exact Kd.V_mk HC0_1.out (Kd.F_below (Kd.C_F Kd.heap_bool HR0_1.out) HB.out)); rintro e w6 ⟨v490, v493, rfl, ho0, ho1, hb⟩; refine ⟨_, rfl, ?_⟩; have HO491 := aM (Kd.V_lower (Kd.V_mono (ok' := fun k_ => k_ ≠ gb488) ho0 (fun k_ hk_ => Or.elim hk_ (fun hs_ => Or.elim hs_ (fun hs_ => fun e_ => Nat.not_le.2 hs_ (by rw [e_]; exact GW488.out)) (fun hs_ => fun e_ => Nat.not_le.2 hs_ (by rw [e_]; exact GW488.out))) (fun hn_ => (Kd.freshB (g := gb488) (o := .cells #[.slice A0_0 l0_0.length c0_0, .slice A0_1 l0_1.length c0_1] 94 (0, 0)) BK488.out k_ hn_)))) (below_size HB.out)); have HO494 := aM (Kd.V_lower (Kd.V_mono (ok' := fun k_ => k_ ≠ gb488) ho1 (fun k_ hk_ => Or.elim hk_ (fun hs_ => Or.elim hs_ (fun hs_ => fun e_ => Nat.not_le.2 hs_ (by rw [e_]; exact GW488.out)) (fun hs_ => fun e_ => Nat.not_le.2 hs_ (by rw [e_]; exact GW488.out))) (fun hn_ => (Kd.freshB (g := gb488) (o := .cells #[.slice A0_0 l0_0.length c0_0, .slice A0_1 l0_1.length c0_1] 94 (0, 0)) BK488.out k_ hn_)))) (below_size HB.out)); replace BK488 := aM (blk_below (g := gb488) (o := .cells #[.slice A0_0 l0_0.length c0_0, .slice A0_1 l0_1.length c0_1] 94 (0, 0)) BK488.out hb); replace HB := aM (below_step HB.out hb); (try clear hb); (try clear ho0); (try clear ho1)) | ((with_reducible refine gate_dst (N := 4) rfl ?_); (try (refine gate_guard (by rfl) ?_; dsimp only)); refine box_event ?hg (N := 4) ?hd (cs := #[.slice none 0 0, .slice none 0 0]) (t := 94) ?hr ?_; (case hd => rfl); (case hg => rfl); (case hr => first | (go_simp; done)); intro gb495 hg w7 hbox hb; replace HO491 := aM (Kd.V_below (Kd.V_elderB HO491.out gb495 (Nat.le_of_eq hg.symm)) hb); replace HO494 := aM (Kd.V_below (Kd.V_elderB HO494.out gb495 (Nat.le_of_eq hg.symm)) hb); have BK495 := aM hbox; have GW495 := aM ((by rw [hg]; exact (below_size HB.out) : w.heap.size ≤ gb495)); have GE495 := aM ((by rw [hg]; exact (below_size HB.out) : w.heap.size ≤ gb495)); replace HB := aM (below_step HB.out hb); have NB488_495 := aM ((by rw [hg]; exact Nat.ne_of_lt (blk_lt (g := gb488) (o := .cells #[.slice A0_0 l0_0.length c0_0, .slice A0_1 l0_1.length c0_1] 94 (0, 0)) BK488.out) : gb488 ≠ gb495)); have NB495_488 := aM ((by rw [hg]; exact Nat.ne_of_gt (blk_lt (g := gb488) (o := .cells #[.slice A0_0 l0_0.length c0_0, .slice A0_1 l0_1.length c0_1] 94 (0, 0)) BK488.out) : gb495 ≠ gb488)); replace BK488 := aM (blk_below (g := gb488) (o := .cells #[.slice A0_0 l0_0.length c0_0, .slice A0_1 l0_1.length c0_1] 94 (0, 0)) BK488.out hb); clear hb hbox hg; obtain ⟨Ao8, co8, eo8⟩ := Kd.V_slice HO491.out; subst eo8; have hnb9 := NB495_488.out; have hnc9 := NB488_495.out; have hcz10_0 : w7.cell? ⟨gb495, 0, none⟩ = some (.slice none 0 0) := (blk_cell BK495.out 0).trans rfl; have hcz10_1 : w7.cell? ⟨gb495, 1, none⟩ = some (.slice none 0 0) := (blk_cell BK495.out 1).trans rfl; have hfz10_0 := blk_frozen BK495.out 0; have hfz10_1 := blk_frozen BK495.out 1; obtain ⟨Ao11, co11, eo11⟩ := Kd.V_slice HO494.out; subst eo11))
  go_ret2
  exact ⟨by first | rfl | (simp [*, errW_none, errW_some] <;> rfl), by repeat (first | (with_reducible first | exact HB.out | refine bS ?_ GE495.out))⟩
 ·rw [if_neg c3] at H
  have c3b0 : decide (60 < (t489.length : Int)) = false := decide_eq_false c3
  have c3b1 : decide (60 < t489.length) = false := decide_eq_false (by omega)
  clear c3
  by_cases c12 : (t492.length : Int) > 60
  ·rw [if_pos c12] at H
   have c12b0 : decide (60 < (t492.length : Int)) = true := decide_eq_true c12
   have c12b1 : decide (60 < t492.length) = true := decide_eq_true (by omega)
   clear c12
   simp only [Option.some.injEq, Prod.mk.injEq] at H
   obtain ⟨rfl, rfl⟩ := H
   go_enter Try.func98, Try.ntmps98
   go_wp2_with (first | ((with_reducible refine gate_dst (N := 1) rfl ?_); (try (refine gate_guard (by rfl) ?_; dsimp only)); refine box_event ?hg (N := 1) ?hd (cs := #[.slice A0_0 l0_0.length c0_0, .slice A0_1 l0_1.length c0_1]) (t := 94) ?hr ?_; (case hd => rfl); (case hg => rfl); (case hr => first | (go_simp; done)); intro gb488 hg w13 hbox hb; have BK488 := aM hbox; have GW488 := aM ((by rw [hg]; exact (below_size HB.out) : w.heap.size ≤ gb488)); have GE488 := aM ((by rw [hg]; exact (below_size HB.out) : w.heap.size ≤ gb488)); replace HB := aM (below_step HB.out hb); clear hb hbox hg; have hcz14_0 : w13.cell? ⟨gb488, 0, none⟩ = some (.slice A0_0 l0_0.length c0_0) := (blk_cell BK488.out 0).trans rfl; have hcz14_1 : w13.cell? ⟨gb488, 1, none⟩ = some (.slice A0_1 l0_1.length c0_1) := (blk_cell BK488.out 1).trans rfl; have hfz14_0 := blk_frozen BK488.out 0; have hfz14_1 := blk_frozen BK488.out 1) | ((with_reducible refine gate_callee (f := 92) rfl ?_); refine goesL_ (some 6) rfl rfl Try.func92 (by kernel_rfl) rfl #[.agg #[.slice A0_0 l0_0.length c0_0, .slice A0_1 l0_1.length c0_1]] rfl (by (try simp only [List.map_toArray, List.map_cons, List.map_nil]); rfl) ?_; (with_reducible refine (spec_l1Less.calls k (fun k_ => k_ < w.heap.size) _ _ l0_0 (fun k_ => k_ < w.heap.size) _ _ l0_1 t489 t492 _ ?side1 ?side2 A2.out).mono ?_); (case side1 => exact Kd.V_mk HC0_0.out (Kd.F_below (Kd.C_F Kd.heap_bool HR0_0.out) HB.out)); (case side2 => exact Kd.V_mk HC0_1.out (Kd.F_below (Kd.C_F Kd.heap_bool HR0_1.out) HB.out)); rintro e w15 ⟨v490, v493, rfl, ho0, ho1, hb⟩; refine ⟨_, rfl, ?_⟩; have HO491 := aM (Kd.V_lower (Kd.V_mono (ok' := fun k_ => k_ ≠ gb488) ho0 (fun k_ hk_ => Or.elim hk_ (fun hs_ => Or.elim hs_ (fun hs_ => fun e_ => Nat.not_le.2 hs_ (by rw [e_]; exact GW488.out)) (fun hs_ => fun e_ => Nat.not_le.2 hs_ (by rw [e_]; exact GW488.out))) (fun hn_ => (Kd.freshB (g := gb488) (o := .cells #[.slice A0_0 l0_0.length c0_0, .slice A0_1 l0_1.length c0_1] 94 (0, 0)) BK488.out k_ hn_)))) (below_size HB.out)); have HO494 := aM (Kd.V_lower (Kd.V_mono (ok' := fun k_ => k_ ≠ gb488) ho1 (fun k_ hk_ => Or.elim hk_ (fun hs_ => Or.elim hs_ (fun hs_ => fun e_ => Nat.not_le.2 hs_ (by rw [e_]; exact GW488.out)) (fun hs_ => fun e_ => Nat.not_le.2 hs_ (by rw [e_]; exact GW488.out))) (fun hn_ => (Kd.freshB (g := gb488) (o := .cells #[.slice A0_0 l0_0.length c0_0, .slice A0_1 l0_1.length c0_1] 94 (0, 0)) BK488.out k_ hn_)))) (below_size HB.out)); replace BK488 := aM (blk_below (g := gb488) (o := .cells #[.slice A0_0 l0_0.length c0_0, .slice A0_1 l0_1.length c0_1] 94 (0, 0)) BK488.out hb); replace HB := aM (below_step HB.out hb); (try clear hb); (try clear ho0); (try clear ho1)) | ((with_reducible refine gate_dst (N := 4) rfl ?_); (try (refine gate_guard (by rfl) ?_; dsimp only)); refine box_event ?hg (N := 4) ?hd (cs := #[.slice none 0 0, .slice none 0 0]) (t := 94) ?hr ?_; (case hd => rfl); (case hg => rfl); (case hr => first | (go_simp; done)); intro gb495 hg w16 hbox hb; replace HO491 := aM (Kd.V_below (Kd.V_elderB HO491.out gb495 (Nat.le_of_eq hg.symm)) hb); replace HO494 := aM (Kd.V_below (Kd.V_elderB HO494.out gb495 (Nat.le_of_eq hg.symm)) hb); have BK495 := aM hbox; have GW495 := aM ((by rw [hg]; exact (below_size HB.out) : w.heap.size ≤ gb495)); have GE495 := aM ((by rw [hg]; exact (below_size HB.out) : w.heap.size ≤ gb495)); replace HB := aM (below_step HB.out hb); have NB488_495 := aM ((by rw [hg]; exact Nat.ne_of_lt (blk_lt (g := gb488) (o := .cells #[.slice A0_0 l0_0.length c0_0, .slice A0_1 l0_1.length c0_1] 94 (0, 0)) BK488.out) : gb488 ≠ gb495)); have NB495_488 := aM ((by rw [hg]; exact Nat.ne_of_gt (blk_lt (g := gb488) (o := .cells #[.slice A0_0 l0_0.length c0_0, .slice A0_1 l0_1.length c0_1] 94 (0, 0)) BK488.out) : gb495 ≠ gb488)); replace BK488 := aM (blk_below (g := gb488) (o := .cells #[.slice A0_0 l0_0.length c0_0, .slice A0_1 l0_1.length c0_1] 94 (0, 0)) BK488.out hb); clear hb hbox hg; obtain ⟨Ao17, co17, eo17⟩ := Kd.V_slice HO491.out; subst eo17; have hnb18 := NB495_488.out; have hnc18 := NB488_495.out; have hcz19_0 : w16.cell? ⟨gb495, 0, none⟩ = some (.slice none 0 0) := (blk_cell BK495.out 0).trans rfl; have hcz19_1 : w16.cell? ⟨gb495, 1, none⟩ = some (.slice none 0 0) := (blk_cell BK495.out 1).trans rfl; have hfz19_0 := blk_frozen BK495.out 0; have hfz19_1 := blk_frozen BK495.out 1; obtain ⟨Ao20, co20, eo20⟩ := Kd.V_slice HO494.out; subst eo20))
   go_ret2
   exact ⟨by first | rfl | (simp [*, errW_none, errW_some] <;> rfl), by repeat (first | (with_reducible first | exact HB.out | refine bS ?_ GE495.out))⟩
  ·rw [if_neg c12] at H
   have c12b0 : decide (60 < (t492.length : Int)) = false := decide_eq_false c12
   have c12b1 : decide (60 < t492.length) = false := decide_eq_false (by omega)
   clear c12
   replace H := Option.bind_eq_some_iff.mp H
   obtain ⟨t496, A210, H⟩ := H
   replace H : (some (t496, true)) = some (r1, r2) := H
   have A21 := aM A210
   clear A210
   simp only [Option.some.injEq, Prod.mk.injEq] at H
   obtain ⟨rfl, rfl⟩ := H
   go_enter Try.func98, Try.ntmps98
   go_wp2_with (first | ((with_reducible refine gate_dst (N := 1) rfl ?_); (try (refine gate_guard (by rfl) ?_; dsimp only)); refine box_event ?hg (N := 1) ?hd (cs := #[.slice A0_0 l0_0.length c0_0, .slice A0_1 l0_1.length c0_1]) (t := 94) ?hr ?_; (case hd => rfl); (case hg => rfl); (case hr => first | (go_simp; done)); intro gb488 hg w22 hbox hb; have BK488 := aM hbox; have GW488 := aM ((by rw [hg]; exact (below_size HB.out) : w.heap.size ≤ gb488)); have GE488 := aM ((by rw [hg]; exact (below_size HB.out) : w.heap.size ≤ gb488)); replace HB := aM (below_step HB.out hb); clear hb hbox hg; have hcz23_0 : w22.cell? ⟨gb488, 0, none⟩ = some (.slice A0_0 l0_0.length c0_0) := (blk_cell BK488.out 0).trans rfl; have hcz23_1 : w22.cell? ⟨gb488, 1, none⟩ = some (.slice A0_1 l0_1.length c0_1) := (blk_cell BK488.out 1).trans rfl; have hfz23_0 := blk_frozen BK488.out 0; have hfz23_1 := blk_frozen BK488.out 1) | ((with_reducible refine gate_callee (f := 92) rfl ?_); refine goesL_ (some 6) rfl rfl Try.func92 (by kernel_rfl) rfl #[.agg #[.slice A0_0 l0_0.length c0_0, .slice A0_1 l0_1.length c0_1]] rfl (by (try simp only [List.map_toArray, List.map_cons, List.map_nil]); rfl) ?_; (with_reducible refine (spec_l1Less.calls k (fun k_ => k_ < w.heap.size) _ _ l0_0 (fun k_ => k_ < w.heap.size) _ _ l0_1 t489 t492 _ ?side1 ?side2 A2.out).mono ?_); (case side1 => exact Kd.V_mk HC0_0.out (Kd.F_below (Kd.C_F Kd.heap_bool HR0_0.out) HB.out)); (case side2 => exact Kd.V_mk HC0_1.out (Kd.F_below (Kd.C_F Kd.heap_bool HR0_1.out) HB.out)); rintro e w24 ⟨v490, v493, rfl, ho0, ho1, hb⟩; refine ⟨_, rfl, ?_⟩; have HO491 := aM (Kd.V_lower (Kd.V_mono (ok' := fun k_ => k_ ≠ gb488) ho0 (fun k_ hk_ => Or.elim hk_ (fun hs_ => Or.elim hs_ (fun hs_ => fun e_ => Nat.not_le.2 hs_ (by rw [e_]; exact GW488.out)) (fun hs_ => fun e_ => Nat.not_le.2 hs_ (by rw [e_]; exact GW488.out))) (fun hn_ => (Kd.freshB (g := gb488) (o := .cells #[.slice A0_0 l0_0.length c0_0, .slice A0_1 l0_1.length c0_1] 94 (0, 0)) BK488.out k_ hn_)))) (below_size HB.out)); have HO494 := aM (Kd.V_lower (Kd.V_mono (ok' := fun k_ => k_ ≠ gb488) ho1 (fun k_ hk_ => Or.elim hk_ (fun hs_ => Or.elim hs_ (fun hs_ => fun e_ => Nat.not_le.2 hs_ (by rw [e_]; exact GW488.out)) (fun hs_ => fun e_ => Nat.not_le.2 hs_ (by rw [e_]; exact GW488.out))) (fun hn_ => (Kd.freshB (g := gb488) (o := .cells #[.slice A0_0 l0_0.length c0_0, .slice A0_1 l0_1.length c0_1] 94 (0, 0)) BK488.out k_ hn_)))) (below_size HB.out)); replace BK488 := aM (blk_below (g := gb488) (o := .cells #[.slice A0_0 l0_0.length c0_0, .slice A0_1 l0_1.length c0_1] 94 (0, 0)) BK488.out hb); replace HB := aM (below_step HB.out hb); (try clear hb); (try clear ho0); (try clear ho1)) | ((with_reducible refine gate_dst (N := 4) rfl ?_); (try (refine gate_guard (by rfl) ?_; dsimp only)); refine box_event ?hg (N := 4) ?hd (cs := #[.slice none 0 0, .slice none 0 0]) (t := 94) ?hr ?_; (case hd => rfl); (case hg => rfl); (case hr => first | (go_simp; done)); intro gb495 hg w25 hbox hb; replace HO491 := aM (Kd.V_below (Kd.V_elderB HO491.out gb495 (Nat.le_of_eq hg.symm)) hb); replace HO494 := aM (Kd.V_below (Kd.V_elderB HO494.out gb495 (Nat.le_of_eq hg.symm)) hb); have BK495 := aM hbox; have GW495 := aM ((by rw [hg]; exact (below_size HB.out) : w.heap.size ≤ gb495)); have GE495 := aM ((by rw [hg]; exact (below_size HB.out) : w.heap.size ≤ gb495)); replace HB := aM (below_step HB.out hb); have NB488_495 := aM ((by rw [hg]; exact Nat.ne_of_lt (blk_lt (g := gb488) (o := .cells #[.slice A0_0 l0_0.length c0_0, .slice A0_1 l0_1.length c0_1] 94 (0, 0)) BK488.out) : gb488 ≠ gb495)); have NB495_488 := aM ((by rw [hg]; exact Nat.ne_of_gt (blk_lt (g := gb488) (o := .cells #[.slice A0_0 l0_0.length c0_0, .slice A0_1 l0_1.length c0_1] 94 (0, 0)) BK488.out) : gb495 ≠ gb488)); replace BK488 := aM (blk_below (g := gb488) (o := .cells #[.slice A0_0 l0_0.length c0_0, .slice A0_1 l0_1.length c0_1] 94 (0, 0)) BK488.out hb); clear hb hbox hg; obtain ⟨Ao26, co26, eo26⟩ := Kd.V_slice HO491.out; subst eo26; have hnb27 := NB495_488.out; have hnc27 := NB488_495.out; have hcz28_0 : w25.cell? ⟨gb495, 0, none⟩ = some (.slice none 0 0) := (blk_cell BK495.out 0).trans rfl; have hcz28_1 : w25.cell? ⟨gb495, 1, none⟩ = some (.slice none 0 0) := (blk_cell BK495.out 1).trans rfl; have hfz28_0 := blk_frozen BK495.out 0; have hfz28_1 := blk_frozen BK495.out 1; obtain ⟨Ao29, co29, eo29⟩ := Kd.V_slice HO494.out; subst eo29) | ((with_reducible refine gate_callee (f := 106) rfl ?_); refine goesL_ (some 18) rfl rfl Try.func106 (by kernel_rfl) rfl #[.agg #[.slice Ao26 t489.length co26, .slice Ao29 t492.length co29]] rfl (by (try simp only [List.map_toArray, List.map_cons, List.map_nil]); rfl) ?_; (with_reducible refine (spec_l1Write.calls k _ _ t489 _ _ t492 t496 _ ?side1 ?side2 ?side3 ?side4 A21.out).mono ?_); (case side1 => refine (Kd.V_reads' (e := 4) (base := w.heap.size) (ok := fun k_ => (k_ ≠ gb488 ∧ k_ ≠ gb495)) (n := t489.length) (c := co26) ?_).2.2; exact (by exact (Kd.V_mono (Kd.V_far (p := ⟨gb495, 1, none⟩) (Kd.V_far (p := ⟨gb495, 0, none⟩) (Kd.V_mono HO491.out (fun k_ hk => (⟨hk, hk.2⟩ : _ ∧ k_ ≠ gb495))) (fun _ hk => hk.2) (.slice Ao26 t489.length co26)) (fun _ hk => hk.2) (.slice Ao29 t492.length co29)) (fun _ h_ => h_.1)))); (case side2 => exact (Kd.V_reads' HO491.out).2.1); (case side3 => refine (Kd.V_reads' (e := 4) (base := w.heap.size) (ok := fun k_ => (k_ ≠ gb488 ∧ k_ ≠ gb495)) (n := t492.length) (c := co29) ?_).2.2; exact (by exact (Kd.V_mono (Kd.V_far (p := ⟨gb495, 1, none⟩) (Kd.V_far (p := ⟨gb495, 0, none⟩) (Kd.V_mono HO494.out (fun k_ hk => (⟨hk, hk.2⟩ : _ ∧ k_ ≠ gb495))) (fun _ hk => hk.2) (.slice Ao26 t489.length co26)) (fun _ hk => hk.2) (.slice Ao29 t492.length co29)) (fun _ h_ => h_.1)))); (case side4 => exact (Kd.V_reads' HO494.out).2.1); rintro e w30 ⟨rfl, hb⟩; refine ⟨_, rfl, ?_⟩; replace HO491 := aM (Kd.V_below (by exact (Kd.V_mono (Kd.V_far (p := ⟨gb495, 1, none⟩) (Kd.V_far (p := ⟨gb495, 0, none⟩) (Kd.V_mono HO491.out (fun k_ hk => (⟨hk, hk.2⟩ : _ ∧ k_ ≠ gb495))) (fun _ hk => hk.2) (.slice Ao26 t489.length co26)) (fun _ hk => hk.2) (.slice Ao29 t492.length co29)) (fun _ h_ => h_.1))) hb); replace HO494 := aM (Kd.V_below (by exact (Kd.V_mono (Kd.V_far (p := ⟨gb495, 1, none⟩) (Kd.V_far (p := ⟨gb495, 0, none⟩) (Kd.V_mono HO494.out (fun k_ hk => (⟨hk, hk.2⟩ : _ ∧ k_ ≠ gb495))) (fun _ hk => hk.2) (.slice Ao26 t489.length co26)) (fun _ hk => hk.2) (.slice Ao29 t492.length co29)) (fun _ h_ => h_.1))) hb); replace BK488 := aM (blk_below (g := gb488) (o := .cells #[.slice A0_0 l0_0.length c0_0, .slice A0_1 l0_1.length c0_1] 94 (0, 0)) (by refine blk_far ?_ NB488_495.out _; refine blk_far ?_ NB488_495.out _; exact BK488.out) hb); replace BK495 := aM (blk_below (g := gb495) (o := .cells #[.slice Ao26 t489.length co26, .slice Ao29 t492.length co29] 94 (0, 0)) (by refine blk_put (cs := #[.slice Ao26 t489.length co26, .slice none 0 0]) ?_ 1 _ rfl; refine blk_put (cs := #[.slice none 0 0, .slice none 0 0]) ?_ 0 _ rfl; exact BK495.out) hb); replace HB := aM (below_step (by repeat (first | (with_reducible first | exact HB.out | refine bS ?_ GE495.out))) hb); (try clear hb)))
   go_ret2
   exact ⟨by first | rfl | (simp [*, errW_none, errW_some] <;> rfl), HB.out⟩


def spec_l2Fill.f (k : Nat) (l0 : List Bool) (a1 : Int) : Option (ByteArray × Bool) := if 0 ≤ a1 then (if a1 ≤ (l0.length : Int) then ((spec_l1Done.f k (l0.take (a1 : Int).toNat) (l0.drop (a1 : Int).toNat)).bind fun bt499 => (some (bt499.1, bt499.2))) else (none)) else (none)
theorem spec_l2Fill.mono : ∀ a0 a1 k, LeO (spec_l2Fill.f k a0 a1) (spec_l2Fill.f (k + 1) a0 a1) := by
 intro a0 a1 k
 unfold spec_l2Fill.f
 repeat' first | (with_reducible exact spec_l1Done.mono _ _ _) | (with_reducible exact LeO.refl _) | (with_reducible refine LeO.ite ?_ ?_) | (with_reducible refine LeO.bind ?_ (fun _ => ?_))
def spec_l2Fill.T1 : Bool × List (List Nat × List Nat) := (true, [([], []), ([], []), ([0, 1], [0, 1]), ([], []), ([], []), ([3, 4], [3, 4]), ([2, 5], [2, 5]), ([6], [6]), ([7], [7]), ([7], [7]), ([8, 7, 0, 1, 2, 3, 4, 5, 6, 7, 8, 9], [8]), ([9, 10, 0, 1, 2, 3, 4, 5, 6, 7, 8, 9, 10], [9])])
def spec_l2Fill.B1 : List Nat := [0, 0, 3, 0, 0, 24, 63, 127, 255, 255, 1023, 2047]
theorem spec_l2Fill.tab1 : rtab .any (opsOf Try.f94 1) = spec_l2Fill.T1 := by kernel_rfl
theorem spec_l2Fill.bits1 : waitsOk spec_l2Fill.T1.2 spec_l2Fill.B1 = true := by kernel_rfl
set_option maxHeartbeats 8000000 in
set_option maxRecDepth 100000 in
theorem spec_l2Fill.calls (k : Nat) (A0 : Option Addr) (c0 : Nat) (l0 : List Bool) (a1 : Int) (r1 : ByteArray) (r2 : Bool) (w : World) (hr0 : Kd.C Kd.bool w A0 l0.length l0) (hc0 : l0.length ≤ c0) (h : spec_l2Fill.f k l0 a1 = some (r1, r2)) :
  Calls Try.prog 94 #[.slice A0 l0.length c0, .int .i64 a1] w fun e w' => e = .returned (.tuple #[.string r1, .bool r2]) ∧ Below w.heap.size w w' := by
 have hu94 := Try.underlying94
 have HR0 := aM hr0
 have HC0 := aM hc0
 clear hr0 hc0
 have HB := aM (Below.refl w.heap.size w)
 have H : (if 0 ≤ a1 then (if a1 ≤ (l0.length : Int) then ((spec_l1Done.f k (l0.take (a1 : Int).toNat) (l0.drop (a1 : Int).toNat)).bind fun bt499 => (some (bt499.1, bt499.2))) else (none)) else (none)) = some (r1, r2) := h
 clear h
 by_cases c3 : 0 ≤ a1
 ·rw [if_pos c3] at H
  have c3b0 := eq_true c3
  have c3b1 : decide (0 ≤ a1) = true := decide_eq_true c3
  clear c3
  by_cases c4 : a1 ≤ (l0.length : Int)
  ·rw [if_pos c4] at H
   have c4b0 := eq_true c4
   have c4b1 : decide (a1 ≤ (l0.length : Int)) = true := decide_eq_true c4
   clear c4
   have c5b0 := eq_true (of_decide_eq_true (by (with_reducible assumption)) : 0 ≤ a1)
   have c6b0 := eq_true (of_decide_eq_true (by (with_reducible assumption)) : a1 ≤ (l0.length : Int))
   replace H := Option.bind_eq_some_iff.mp H
   obtain ⟨⟨t499, t500⟩, A70, H⟩ := H
   replace H : (some (t499, t500)) = some (r1, r2) := H
   have A7 := aM A70
   clear A70
   simp only [Option.some.injEq, Prod.mk.injEq] at H
   obtain ⟨rfl, rfl⟩ := H
   go_enter Try.func94, Try.ntmps94
   try go_wp2
   replace HB := aM (b1 HB.out)
   obtain ⟨i09, hi09, _, hsz9, _⟩ := info_parts info4
   obtain ⟨hcut9, hA9, hC9⟩ := print_take_of (P := Try.prog) Value.bool false 52 4 .i64 Try.underlying52 hi09 hsz9 A0 c0 l0 a1 (of_decide_eq_true (by (with_reducible assumption))) (of_decide_eq_true (by (with_reducible assumption))) HC0.out
   have HR497 := aM (Kd.C_of_reads (h1 := fun _ => rfl) (hA9 _ (Kd.reads_of_C HR0.out)))
   have HC497 := aM hC9
   clear hA9 hC9 hi09 hsz9
   obtain ⟨i010, hi010, _, hsz10, _⟩ := info_parts info4
   obtain ⟨A10, hcut10, hA10, hC10⟩ := print_drop_of (P := Try.prog) Value.bool false 52 4 .i64 Try.underlying52 hi010 hsz10 A0 c0 l0 a1 (of_decide_eq_true (by (with_reducible assumption))) (of_decide_eq_true (by (with_reducible assumption))) HC0.out
   have HR498 := aM (Kd.C_of_reads (h1 := fun _ => rfl) (hA10 _ (Kd.reads_of_C HR0.out)))
   have HC498 := aM hC10
   clear hA10 hC10 hi010 hsz10
   refine start_ (n := 12) (S := fun w' => True) (ds := []) #[false, false, false, false, false, false, false, false, false, false, false, false] (by kernel_rfl) rfl rfl trivial (fun hHeld => ?_); refine with_tabW spec_l2Fill.tab1 spec_l2Fill.bits1 (fun HT_ HW_ => ?_)
   generalize w.drew = w8 at HB HR497 HR498 hHeld ⊢
   refine pure_ (i := 0) (N := some 6) (v := ?_) (a' := ?_) #[true, false, false, false, false, false, false, false, false, false, false, false] rfl rfl (any_of HT_.out (by kernel_rfl)) (fun _ _ _ h => h) (Or.inl ⟨by rfl, ?_⟩) ?_ ?_
   rotate_left
   ·intro w'
    go_simp
    with_reducible rfl
   rotate_left
   ·simp only [Act.put, sA, sZ, sS, i64_w, i32_w]
    rfl
   refine pure_ (i := 1) (N := some 7) (v := ?_) (a' := ?_) #[true, true, false, false, false, false, false, false, false, false, false, false] rfl rfl (any_of HT_.out (by kernel_rfl)) (fun _ _ _ h => h) (Or.inl ⟨by rfl, ?_⟩) ?_ ?_
   rotate_left
   ·intro w'
    go_simp
    with_reducible rfl
   rotate_left
   ·simp only [Act.put, sA, sZ, sS, i64_w, i32_w]
    rfl
   refine pure_ (i := 2) (N := some 8) (v := ?_) (a' := ?_) #[true, true, true, false, false, false, false, false, false, false, false, false] rfl rfl (any_of HT_.out (by kernel_rfl)) (fun _ _ _ h => h) (Or.inl ⟨by rfl, ?_⟩) ?_ ?_
   rotate_left
   ·intro w'
    go_simp
    with_reducible rfl
   rotate_left
   ·simp only [Act.put, sA, sZ, sS, i64_w, i32_w]
    rfl
   refine pure_ (i := 3) (N := some 9) (v := ?_) (a' := ?_) #[true, true, true, true, false, false, false, false, false, false, false, false] rfl rfl (any_of HT_.out (by kernel_rfl)) (fun _ _ _ h => h) (Or.inl ⟨by rfl, ?_⟩) ?_ ?_
   rotate_left
   ·intro w'
    go_simp
    with_reducible rfl
   rotate_left
   ·simp only [Act.put, sA, sZ, sS, i64_w, i32_w]
    rfl
   refine pure_ (i := 4) (N := some 10) (v := ?_) (a' := ?_) #[true, true, true, true, true, false, false, false, false, false, false, false] rfl rfl (any_of HT_.out (by kernel_rfl)) (fun _ _ _ h => h) (Or.inl ⟨by rfl, ?_⟩) ?_ ?_
   rotate_left
   ·intro w'
    go_simp
    with_reducible rfl
   rotate_left
   ·simp only [Act.put, sA, sZ, sS, i64_w, i32_w]
    rfl
   refine pure_ (i := 5) (N := some 11) (v := ?_) (a' := ?_) #[true, true, true, true, true, true, false, false, false, false, false, false] rfl rfl (any_of HT_.out (by kernel_rfl)) (fun _ _ _ h => h) (Or.inl ⟨by rfl, ?_⟩) ?_ ?_
   rotate_left
   ·intro w'
    go_simp
    with_reducible rfl
   rotate_left
   ·simp only [Act.put, sA, sZ, sS, i64_w, i32_w]
    rfl
   refine pure_ (i := 6) (N := some 12) (v := ?_) (a' := ?_) #[true, true, true, true, true, true, true, false, false, false, false, false] rfl rfl (any_of HT_.out (by kernel_rfl)) (fun _ _ _ h => h) (Or.inl ⟨by rfl, ?_⟩) ?_ ?_
   rotate_left
   ·intro w'
    go_simp
    with_reducible rfl
   rotate_left
   ·simp only [Act.put, sA, sZ, sS, i64_w, i32_w]
    rfl
   refine one_ (i := 7) (N := some 13) #[true, true, true, true, true, true, true, true, false, false, false, false] rfl rfl (one_of HT_.out (by kernel_rfl)) (by decide) (fun K hK => ?_)
   refine goes_ Try.func98 (by kernel_rfl) rfl #[.agg #[.slice A0 (l0.take (a1 : Int).toNat).length c0, .slice A10 (l0.drop (a1 : Int).toNat).length (c0 - a1.toNat)]] (by rfl) rfl rfl (by (try simp only [List.map_toArray, List.map_cons, List.map_nil]); first | (rw [show (l0.take (a1 : Int).toNat).length = a1.toNat from (by rw [List.length_take]; have h_ : (a1 : Int) ≤ (l0.length : Int) := of_decide_eq_true (by (with_reducible assumption)); omega), show (l0.drop (a1 : Int).toNat).length = (l0.length - a1.toNat) from List.length_drop] <;> rfl)) ?_
   with_reducible refine (spec_l1Done.calls k _ _ (l0.take (a1 : Int).toNat) _ _ (l0.drop (a1 : Int).toNat) t499 t500 _ ?side1 ?side2 ?side3 ?side4 A7.out).mono ?_
   (case side1 => repeat (exact (Kd.C_below HR497.out HB.out)))
   (case side2 => exact HC497.out)
   (case side3 => repeat (exact (Kd.C_below HR498.out HB.out)))
   (case side4 => exact HC498.out)
   rintro e w11 ⟨rfl, hb⟩
   refine ⟨_, rfl, ?_⟩
   replace HB := aM (below_step HB.out hb)
   (try clear hb)
   refine hK.out _ _ trivial (fun hHeld => ?_)
   clear hK K
   refine norm_ (a' := ?_) ?_ ?_
   rotate_left
   ·show Act.put _ (some 13) _ = _
    simp only [Act.put, sA, sZ, sS, i64_w, i32_w]
    rfl
   refine pure_ (i := 8) (N := some 14) (v := ?_) (a' := ?_) #[true, true, true, true, true, true, true, true, true, false, false, false] rfl rfl (any_of HT_.out (by kernel_rfl)) (fun _ _ _ h => h) (Or.inl ⟨by rfl, ?_⟩) ?_ ?_
   rotate_left
   ·intro w'
    go_simp
    with_reducible rfl
   rotate_left
   ·simp only [Act.put, sA, sZ, sS, i64_w, i32_w]
    rfl
   refine pure_ (i := 9) (N := some 15) (v := ?_) (a' := ?_) #[true, true, true, true, true, true, true, true, true, true, false, false] rfl rfl (any_of HT_.out (by kernel_rfl)) (fun _ _ _ h => h) (Or.inl ⟨by rfl, ?_⟩) ?_ ?_
   rotate_left
   ·intro w'
    go_simp
    with_reducible rfl
   rotate_left
   ·simp only [Act.put, sA, sZ, sS, i64_w, i32_w]
    rfl
   refine pure_ (i := 10) (N := some 4) (v := ?_) (a' := ?_) #[true, true, true, true, true, true, true, true, true, true, true, false] rfl rfl (any_of HT_.out (by kernel_rfl)) (fun _ _ _ h => h) (Or.inl ⟨by rfl, ?_⟩) ?_ ?_
   rotate_left
   ·intro w'
    go_simp
    with_reducible rfl
   rotate_left
   ·simp only [Act.put, sA, sZ, sS, i64_w, i32_w]
    rfl
   refine pure_ (i := 11) (N := some 5) (v := ?_) (a' := ?_) #[true, true, true, true, true, true, true, true, true, true, true, true] rfl rfl (any_of HT_.out (by kernel_rfl)) (fun _ _ _ h => h) (Or.inl ⟨by rfl, ?_⟩) ?_ ?_
   rotate_left
   ·intro w'
    go_simp
    with_reducible rfl
   rotate_left
   ·simp only [Act.put, sA, sZ, sS, i64_w, i32_w]
    rfl
   refine done_ (done_of HT_.out (by kernel_rfl)) ?_
   try go_wp2
   go_ret2
   exact ⟨by first | rfl | (simp [*, errW_none, errW_some] <;> rfl), HB.out⟩
  ·rw [if_neg c4] at H
   exact absurd H (by simp)
 ·rw [if_neg c3] at H
  exact absurd H (by simp)

end Go.Proofs.Ytedhckahjinieaa.Q
