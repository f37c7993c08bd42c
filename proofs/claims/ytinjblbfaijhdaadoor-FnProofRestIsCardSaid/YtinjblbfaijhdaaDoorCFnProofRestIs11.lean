/- The law FnProofRestIs holds for all that it draws. -/
import Derived.Test.YtinjblbfaijhdaaDoorCFnProofRestIs9
import Derived.Test.YtinjblbfaijhdaaDoorCFnProofRestIs10
namespace Go.Proofs.YtinjblbfaijhdaaDoor.Q
open Go.RowKit Go.Proofs.YtinjblbfaijhdaaDoorW.PrintWords Go.Proofs.YtinjblbfaijhdaaDoorW.PrintLast Go.Proofs.YtinjblbfaijhdaaDoorW.PrintMore
attribute [local go_sem] max2_int min2_int max_two min_two max_three min_three max_four min_four   -- for this text's walks alone
set_option linter.unusedVariables false
set_option linter.unusedSimpArgs false
mutual
def spec_l1Read.j1 : Nat → ByteArray → Int → List Bool → List Bool → Option (List Bool × List Bool × Bool)
 | 0, _, _, _, _ => none
 | k + 1, x0, x5, x288000, x288001 => if (wrap64 (x5 + 2)) ≥ (x0.size : Int) then (spec_l1Read.j2 k x0 x5 true x288000 x288001) else (if 0 ≤ (wrap64 ((x0.size : Int) - 1)) then (if (wrap64 ((x0.size : Int) - 1)) < (x0.size : Int) then (spec_l1Read.j2 k x0 x5 ((bt x0 (wrap64 ((x0.size : Int) - 1))) != 41) x288000 x288001) else (none)) else (none))
def spec_l1Read.j2 : Nat → ByteArray → Int → Bool → List Bool → List Bool → Option (List Bool × List Bool × Bool)
 | 0, _, _, _, _, _ => none
 | k + 1, x0, x5, x37, x288000, x288001 => if x37 = true then (some (x288000, x288001, false)) else (if 0 ≤ x5 then (if x5 ≤ (x0.size : Int) then ((spec_l1Signs.f k (x0.extract 0 (x5 : Int).toNat)).bind fun bt288 => (if 0 ≤ (wrap64 (x5 + 1)) then (if (wrap64 (x5 + 1)) ≤ (wrap64 ((x0.size : Int) - 1)) then (if (wrap64 ((x0.size : Int) - 1)) ≤ (x0.size : Int) then ((spec_l1Signs.f k (x0.extract ((wrap64 (x5 + 1)) : Int).toNat ((wrap64 ((x0.size : Int) - 1)) : Int).toNat)).bind fun bt292 => (if bt288.2 = true then (if bt292.2 = true then (if (bt288.1.length : Int) > 60 then (some (x288000, x288001, false)) else (if (bt292.1.length : Int) > 60 then (some (x288000, x288001, false)) else (some (bt288.1, bt292.1, true)))) else (some (x288000, x288001, false))) else (some (x288000, x288001, false)))) else (none)) else (none)) else (none))) else (none)) else (none))
def spec_l1Read.l0 : Nat → ByteArray → Int → List Bool → List Bool → Option (List Bool × List Bool × Bool)
 | 0, _, _, _, _ => none
 | k + 1, x0, x5, x288000, x288001 => if x5 < (x0.size : Int) then (if 0 ≤ x5 then (if (bt x0 x5) = 40 then (spec_l1Read.j1 k x0 x5 x288000 x288001) else (spec_l1Read.l0 k x0 (wrap64 (x5 + 1)) x288000 x288001)) else (none)) else (spec_l1Read.j1 k x0 x5 x288000 x288001)
end
def spec_l1Read.f (k : Nat) (a0 : ByteArray) : Option (List Bool × List Bool × Bool) := spec_l1Read.l0 k a0 0 (([] : List Bool)) (([false] : List Bool))
theorem spec_l1Read.mono_l : ∀ k, (∀ y0 y1 y2 y3, LeO (spec_l1Read.j1 k y0 y1 y2 y3) (spec_l1Read.j1 (k + 1) y0 y1 y2 y3)) ∧ (∀ y0 y1 y2 y3 y4, LeO (spec_l1Read.j2 k y0 y1 y2 y3 y4) (spec_l1Read.j2 (k + 1) y0 y1 y2 y3 y4)) ∧ (∀ y0 y1 y2 y3, LeO (spec_l1Read.l0 k y0 y1 y2 y3) (spec_l1Read.l0 (k + 1) y0 y1 y2 y3))
 | 0 => ⟨fun _ _ _ _ r h => by simp [spec_l1Read.j1] at h, fun _ _ _ _ _ r h => by simp [spec_l1Read.j2] at h, fun _ _ _ _ r h => by simp [spec_l1Read.l0] at h⟩
 | k + 1 => by
  obtain ⟨ih0, ih1, ih2⟩ := spec_l1Read.mono_l k
  refine ⟨?_, ?_, ?_⟩
  ·intro y0 y1 y2 y3
   unfold spec_l1Read.j1
   repeat' first | (with_reducible exact ih1 _ _ _ _ _) | (with_reducible exact LeO.refl _) | (with_reducible refine LeO.ite ?_ ?_)
  ·intro y0 y1 y2 y3 y4
   unfold spec_l1Read.j2
   repeat' first | (with_reducible exact spec_l1Signs.mono _ _) | (with_reducible exact LeO.refl _) | (with_reducible refine LeO.ite ?_ ?_) | (with_reducible refine LeO.bind ?_ (fun _ => ?_))
  ·intro y0 y1 y2 y3
   unfold spec_l1Read.l0
   repeat' first | (with_reducible exact ih0 _ _ _ _) | (with_reducible exact ih2 _ _ _ _) | (with_reducible exact LeO.refl _) | (with_reducible refine LeO.ite ?_ ?_)
theorem spec_l1Read.mono : ∀ a0 k, LeO (spec_l1Read.f k a0) (spec_l1Read.f (k + 1) a0) := by
 intro a0 k
 obtain ⟨ih0, ih1, ih2⟩ := spec_l1Read.mono_l k
 unfold spec_l1Read.f
 repeat' (with_reducible exact ih2 _ _ _ _)
set_option maxHeartbeats 8000000 in
set_option maxRecDepth 100000 in
theorem spec_l1Read.calls (k : Nat) (a0 : ByteArray) (r1 : List Bool) (r2 : List Bool) (r3 : Bool) (w : World) (h : spec_l1Read.f k a0 = some (r1, r2, r3)) :
  Calls Tryd.prog 59 #[.string a0] w fun e w' => ∃ v0_ v1_ : Value, e = .returned (.tuple #[.agg #[v0_, v1_], .bool r3]) ∧ Kd.R Kd.bool 4 w' w.heap.size (fun k_ => some k_ ≠ (v1_ : Value).ownBlock) v0_ r1 ∧ Kd.R Kd.bool 4 w' w.heap.size (fun k_ => some k_ ≠ (v0_ : Value).ownBlock) v1_ r2 ∧ Below w.heap.size w w' := by
 have hu56 := Tryd.underlying56
 have HB := Aside0.mk (Below.refl w.heap.size w)
 have H : (spec_l1Read.l0 k a0 0 (([] : List Bool)) (([false] : List Bool))) = some (r1, r2, r3) := h
 clear h
 obtain ⟨y281, hy281⟩ : ∃ y_ : List Bool, y_ = (([] : List Bool)) := ⟨_, rfl⟩
 replace H : (spec_l1Read.l0 k a0 0 y281 (([false] : List Bool))) = some (r1, r2, r3) := by first | (rw [hy281]; with_reducible exact H)
 have Ny281 := Aside0.mk hy281
 clear hy281
 obtain ⟨y284, hy284⟩ : ∃ y_ : List Bool, y_ = (([false] : List Bool)) := ⟨_, rfl⟩
 replace H : (spec_l1Read.l0 k a0 0 y281 y284) = some (r1, r2, r3) := by first | (rw [hy284]; with_reducible exact H)
 have Ny284 := Aside0.mk hy284
 clear hy284
 have HC2 := Aside0.mk H
 clear H
 go_enter Tryd.func59, Tryd.ntmps59
 go_upto_block 0 with (first | ((with_reducible refine gate_dst (N := 2) rfl ?_); (try (refine gate_guard (by rfl) ?_; dsimp only)); refine box_event ?hg (N := 2) ?hd (cs := #[.slice none 0 0, .slice none 0 0]) (t := 56) ?hr ?_; (case hd => rfl); (case hg => rfl); (case hr => first | (go_simp; done)); intro gb280 hg w3 hbox hb; have BK280 := Aside0.mk hbox; have GW280 := Aside0.mk ((by rw [hg]; exact (below_size HB.out) : w.heap.size ≤ gb280)); have GE280 := Aside0.mk ((by rw [hg]; exact (below_size HB.out) : w.heap.size ≤ gb280)); replace HB := Aside0.mk (below_step HB.out hb); clear hb hbox hg) | ((with_reducible refine gate_dst (N := 10) rfl ?_); (try (refine gate_guard (by rfl) ?_; dsimp only)); refine Kd.R_lit Kd.bool _ 4 ?hg (N := 10) ?hd (xs := ([] : List Bool)) (inner := []) (ok := fun _ => True) (okp := fun _ => True) ?hr ?hp (fun _ hk => hk) trivial (Below.refl _ _) (Nat.le_refl _) (by simp) ?_; (case hd => rfl); (case hg => rfl); (case hr => first | (go_simp; done)); (case hp => exact (Reps.none _ _)); intro v282 w4 ho5 hb hg_ hnew_; clear hg_ hnew_; (rw [← Ny281.out] at ho5); have HO283 := Aside0.mk (Kd.R_lower ho5 (below_size HB.out)); replace BK280 := Aside0.mk (blk_below (g := gb280) (o := .cells #[.slice none 0 0, .slice none 0 0] 56 (0, 0)) BK280.out hb); replace HB := Aside0.mk (below_step HB.out hb); clear hb ho5) | ((with_reducible refine gate_dst (N := 11) rfl ?_); (try (refine gate_guard (by rfl) ?_; dsimp only)); refine Kd.R_lit Kd.bool _ 4 ?hg (N := 11) ?hd (xs := ([false] : List Bool)) (inner := [.bool false]) (ok := fun _ => True) (okp := fun _ => True) ?hr ?hp (fun _ hk => hk) trivial (Below.refl _ _) (Nat.le_refl _) (by simp) ?_; (case hd => rfl); (case hg => rfl); (case hr => first | (go_simp; done)); (case hp => exact (Reps.one (show Kd.M Kd.bool _ _ _ false [.bool false] from rfl) (Reps.none _ _))); intro v285 w6 ho7 hb hg_ hnew_; clear hg_ hnew_; (rw [← Ny284.out] at ho7); have HO286 := Aside0.mk (Kd.R_lower (Kd.R_new' ho7 (Kd.R_lt HO283.out)) (below_size HB.out)); replace HO283 := Aside0.mk (Kd.R_elder' HO283.out (Kd.R_base ho7) hb); replace BK280 := Aside0.mk (blk_below (g := gb280) (o := .cells #[.slice none 0 0, .slice none 0 0] 56 (0, 0)) BK280.out hb); replace HB := Aside0.mk (below_step HB.out hb); clear hb ho7; obtain ⟨Ao8, co8, eo8⟩ := Kd.R_slice HO286.out; subst eo8; obtain ⟨Ao9, co9, eo9⟩ := Kd.R_slice HO283.out; subst eo9) | ((with_reducible refine gate_dst (N := 4) rfl ?_); (try (refine gate_guard (by rfl) ?_; dsimp only)); refine box_event ?hg (N := 4) ?hd (cs := #[.slice none 0 0, .slice none 0 0]) (t := 56) ?hr ?_; (case hd => rfl); (case hg => rfl); (case hr => first | (go_simp; done)); intro gb287 hg w10 hbox hb; replace HO283 := Aside0.mk (Kd.R_below HO283.out hb); replace HO286 := Aside0.mk (Kd.R_below HO286.out hb); have BK287 := Aside0.mk hbox; have GW287 := Aside0.mk ((by rw [hg]; exact (below_size HB.out) : w.heap.size ≤ gb287)); have GE287 := Aside0.mk ((by rw [hg]; exact (below_size HB.out) : w.heap.size ≤ gb287)); replace HB := Aside0.mk (below_step HB.out hb); have NB280_287 := Aside0.mk ((by rw [hg]; exact Nat.ne_of_lt (blk_lt (g := gb280) (o := .cells #[.slice none 0 0, .slice none 0 0] 56 (0, 0)) BK280.out) : gb280 ≠ gb287)); have NB287_280 := Aside0.mk ((by rw [hg]; exact Nat.ne_of_gt (blk_lt (g := gb280) (o := .cells #[.slice none 0 0, .slice none 0 0] 56 (0, 0)) BK280.out) : gb287 ≠ gb280)); replace BK280 := Aside0.mk (blk_below (g := gb280) (o := .cells #[.slice none 0 0, .slice none 0 0] 56 (0, 0)) BK280.out hb); clear hb hbox hg; have hnb11 := NB287_280.out; have hnc11 := NB280_287.out; have hcz12_0 : w10.cell? ⟨gb287, 0, none⟩ = some (.slice none 0 0) := (blk_cell BK287.out 0).trans rfl; have hcz12_1 : w10.cell? ⟨gb287, 1, none⟩ = some (.slice none 0 0) := (blk_cell BK287.out 1).trans rfl; have hfz12_0 := blk_frozen BK287.out 0; have hfz12_1 := blk_frozen BK287.out 1))
 go_cut [5] (fun v5 wc => ∃ (kq : Nat) (x5_1 : Int), v5 = .int .i64 x5_1 ∧ Aside0 (spec_l1Read.j1 kq a0 x5_1 y281 y284 = some (r1, r2, r3)) ∧ Aside0 (kq ≤ k) ∧ Aside0 (Kd.R Kd.bool 4 wc w.heap.size (fun k_ => some k_ ≠ ((.slice Ao8 y284.length co8) : Value).ownBlock) (.slice Ao9 y281.length co9) y281) ∧ Aside0 (Kd.R Kd.bool 4 wc w.heap.size (fun k_ => some k_ ≠ ((.slice Ao9 y281.length co9) : Value).ownBlock) (.slice Ao8 y284.length co8) y284) ∧ Aside0 (wc.heap[gb280]? = some (.cells #[(.slice none 0 0), (.slice none 0 0)] 56 (0, 0))) ∧ Aside0 (wc.heap[gb287]? = some (.cells #[(.slice Ao9 y281.length co9), (.slice Ao8 y284.length co8)] 56 (0, 0))) ∧ Aside0 (Below w.heap.size w wc))
 case first =>
  have H := HC2.out
  clear HC2
  have H' := Aside0.mk H
  clear H
  go_wp2
  go_loopg [5] k (fun kq v5 w' => ∃ (x5_1 : Int), v5 = .int .i64 x5_1 ∧ Aside0 (spec_l1Read.l0 kq a0 x5_1 y281 y284 = some (r1, r2, r3)) ∧ Aside0 (kq ≤ k) ∧ Aside0 (Kd.R Kd.bool 4 w' w.heap.size (fun k_ => some k_ ≠ ((.slice Ao8 y284.length co8) : Value).ownBlock) (.slice Ao9 y281.length co9) y281) ∧ Aside0 (Kd.R Kd.bool 4 w' w.heap.size (fun k_ => some k_ ≠ ((.slice Ao9 y281.length co9) : Value).ownBlock) (.slice Ao8 y284.length co8) y284) ∧ Aside0 (w'.heap[gb280]? = some (.cells #[(.slice none 0 0), (.slice none 0 0)] 56 (0, 0))) ∧ Aside0 (w'.heap[gb287]? = some (.cells #[(.slice Ao9 y281.length co9), (.slice Ao8 y284.length co8)] 56 (0, 0))) ∧ Aside0 (Below w.heap.size w w'))
  case atStart => exact ⟨(0), (by rfl), H', ⟨Nat.le_refl _⟩, ⟨by exact Kd.R_mono (Kd.R_far (p := ⟨gb287, 1, none⟩) (Kd.R_far (p := ⟨gb287, 0, none⟩) (Kd.R_types HO283.out BK287.out (by decide)) (fun _ hk => hk.2) (.slice Ao9 y281.length co9)) (fun _ hk => hk.2) (.slice Ao8 y284.length co8)) (fun _ hk => hk.1.2)⟩, ⟨by exact Kd.R_mono (Kd.R_far (p := ⟨gb287, 1, none⟩) (Kd.R_far (p := ⟨gb287, 0, none⟩) (Kd.R_types HO286.out BK287.out (by decide)) (fun _ hk => hk.2) (.slice Ao9 y281.length co9)) (fun _ hk => hk.2) (.slice Ao8 y284.length co8)) (fun _ hk => hk.1.2)⟩, ⟨by refine blk_far ?_ NB280_287.out _; refine blk_far ?_ NB280_287.out _; exact BK280.out⟩, ⟨by refine blk_put (cs := #[.slice Ao9 y281.length co9, .slice none 0 0]) ?_ 1 _ rfl; refine blk_put (cs := #[.slice none 0 0, .slice none 0 0]) ?_ 0 _ rfl; exact BK287.out⟩, ⟨by repeat (first | (with_reducible first | exact HB.out | refine below_set ?_ GE287.out))⟩⟩
  case round =>
   clear H'
   try clear hcz12_0
   try clear hcz12_1
   try clear hfz12_0
   try clear hfz12_1
   obtain ⟨x5_1, rfl, HA, HK1, HO_288000, HO_288001, BK280, BK287, HB⟩ := hrel
   cases gk with
   | zero => exact absurd HA.out (by simp [spec_l1Read.l0])
   | succ k1 =>
    have H := HA.out
    clear HA
    simp only [spec_l1Read.l0] at H
    by_cases c13 : x5_1 < (a0.size : Int)
    ·rw [if_pos c13] at H
     have c13b0 : decide (x5_1 < (a0.size : Int)) = true := decide_eq_true c13
     clear c13
     by_cases c14 : 0 ≤ x5_1
     ·rw [if_pos c14] at H
      have c14b0 : decide (0 ≤ x5_1) = true := decide_eq_true c14
      clear c14
      by_cases c16 : (bt a0 x5_1) = 40
      ·rw [if_pos c16] at H
       have c16b0 : ((bt a0 x5_1) == 40) = true := beq_iff_eq.mpr c16
       have c16b1 : ((bt a0 x5_1) != 40) = false := bne_eq_false_iff_eq.mpr c16
       clear c16
       have H' := Aside0.mk H
       clear H
       have p15 : 0 ≤ (x5_1 : Int) := of_decide_eq_true (by (with_reducible assumption))
       have q15 : x5_1 < (a0.size : Int) := of_decide_eq_true (by (with_reducible assumption))
       have hx15 := bt_at a0 x5_1
       replace p15 := eq_true p15
       replace q15 := eq_true q15
       go_wp2
       go_meet
       case rel => exact ⟨_, (x5_1), (by rfl), H', ⟨by have := HK1.out; omega⟩, ⟨by exact HO_288000.out⟩, ⟨by exact HO_288001.out⟩, ⟨by exact BK280.out⟩, ⟨by exact BK287.out⟩, ⟨HB.out⟩⟩
      ·rw [if_neg c16] at H
       have c16b0 : ((bt a0 x5_1) == 40) = false := beq_eq_false_iff_ne.mpr c16
       have c16b1 : ((bt a0 x5_1) != 40) = true := bne_iff_ne.mpr c16
       have H' := Aside0.mk H
       clear H
       have p15 : 0 ≤ (x5_1 : Int) := of_decide_eq_true (by (with_reducible assumption))
       have q15 : x5_1 < (a0.size : Int) := of_decide_eq_true (by (with_reducible assumption))
       have hx15 := bt_at a0 x5_1
       replace p15 := eq_true p15
       replace q15 := eq_true q15
       go_wp2
       go_roundg k1
       case measure => have := HK1.out; omega
       case rel => exact ⟨(wrap64 (x5_1 + 1)), (by rfl), H', ⟨by have := HK1.out; omega⟩, ⟨by exact HO_288000.out⟩, ⟨by exact HO_288001.out⟩, ⟨by exact BK280.out⟩, ⟨by exact BK287.out⟩, ⟨HB.out⟩⟩
     ·rw [if_neg c14] at H
      exact absurd H (by simp)
    ·rw [if_neg c13] at H
     have c13b0 : decide (x5_1 < (a0.size : Int)) = false := decide_eq_false c13
     clear c13
     have H' := Aside0.mk H
     clear H
     go_wp2
     go_meet
     case rel => exact ⟨_, (x5_1), (by rfl), H', ⟨by have := HK1.out; omega⟩, ⟨by exact HO_288000.out⟩, ⟨by exact HO_288001.out⟩, ⟨by exact BK280.out⟩, ⟨by exact BK287.out⟩, ⟨HB.out⟩⟩
 case rest =>
  clear HC2
  try clear hcz12_0
  try clear hcz12_1
  try clear hfz12_0
  try clear hfz12_1
  obtain ⟨kq, x5_1, rfl, HA, HJ1, HO_288000, HO_288001, BK280, BK287, HB⟩ := hcut
  cases kq with
  | zero => exact absurd HA.out (by simp [spec_l1Read.j1])
  | succ kj1 =>
   have H := HA.out
   clear HA
   simp only [spec_l1Read.j1] at H
   have HC17 := Aside0.mk H
   clear H
   go_upto_region 5 with (fail)
   go_cut [37] (fun v37 wc => ∃ (kq : Nat) (x37_16 : Bool), v37 = .bool x37_16 ∧ Aside0 (spec_l1Read.j2 kq a0 x5_1 x37_16 y281 y284 = some (r1, r2, r3)) ∧ Aside0 (kq ≤ kj1) ∧ Aside0 (Kd.R Kd.bool 4 wc w.heap.size (fun k_ => some k_ ≠ ((.slice Ao8 y284.length co8) : Value).ownBlock) (.slice Ao9 y281.length co9) y281) ∧ Aside0 (Kd.R Kd.bool 4 wc w.heap.size (fun k_ => some k_ ≠ ((.slice Ao9 y281.length co9) : Value).ownBlock) (.slice Ao8 y284.length co8) y284) ∧ Aside0 (wc.heap[gb280]? = some (.cells #[(.slice none 0 0), (.slice none 0 0)] 56 (0, 0))) ∧ Aside0 (wc.heap[gb287]? = some (.cells #[(.slice Ao9 y281.length co9), (.slice Ao8 y284.length co8)] 56 (0, 0))) ∧ Aside0 (Below w.heap.size w wc))
   case first =>
    have H := HC17.out
    clear HC17
    by_cases c18 : (wrap64 (x5_1 + 2)) ≥ (a0.size : Int)
    ·rw [if_pos c18] at H
     have c18b0 : decide ((a0.size : Int) ≤ (wrap64 (x5_1 + 2))) = true := decide_eq_true c18
     clear c18
     have H' := Aside0.mk H
     clear H
     go_wp2
     go_meet
     case rel => exact ⟨_, (true), (by rfl), H', ⟨by have := HJ1.out; omega⟩, ⟨by exact HO_288000.out⟩, ⟨by exact HO_288001.out⟩, ⟨by exact BK280.out⟩, ⟨by exact BK287.out⟩, ⟨HB.out⟩⟩
    ·rw [if_neg c18] at H
     have c18b0 : decide ((a0.size : Int) ≤ (wrap64 (x5_1 + 2))) = false := decide_eq_false c18
     clear c18
     obtain ⟨ji19, hji19⟩ : ∃ j_ : Int, (wrap64 ((a0.size : Int) - 1)) = j_ := ⟨_, rfl⟩
     replace H : (if 0 ≤ (ji19) then (if (ji19) < (a0.size : Int) then (spec_l1Read.j2 kj1 a0 x5_1 ((bt a0 (ji19)) != 41) y281 y284) else (none)) else (none)) = some (r1, r2, r3) := by first | (rw [hji19] at H; exact H)
     have hji19w : (IntKind.i64.wrap ((a0.size : Int) - 1)) = ji19 := (i64_w _).trans hji19
     by_cases c20 : 0 ≤ (ji19)
     ·rw [if_pos c20] at H
      have c20b0 : decide (0 ≤ (ji19)) = true := decide_eq_true c20
      clear c20
      by_cases c21 : (ji19) < (a0.size : Int)
      ·rw [if_pos c21] at H
       have c21b0 : decide ((ji19) < (a0.size : Int)) = true := decide_eq_true c21
       clear c21
       have H' := Aside0.mk H
       clear H
       have p22 : 0 ≤ ((ji19) : Int) := of_decide_eq_true (by (with_reducible assumption))
       have q22 : (ji19) < (a0.size : Int) := of_decide_eq_true (by (with_reducible assumption))
       have hx22 := bt_at a0 (ji19)
       replace p22 := eq_true p22
       replace q22 := eq_true q22
       go_wp2
       go_meet
       case rel => exact ⟨_, (((bt a0 (ji19)) != 41)), (by rfl), H', ⟨by have := HJ1.out; omega⟩, ⟨by exact HO_288000.out⟩, ⟨by exact HO_288001.out⟩, ⟨by exact BK280.out⟩, ⟨by exact BK287.out⟩, ⟨HB.out⟩⟩
      ·rw [if_neg c21] at H
       exact absurd H (by simp)
     ·rw [if_neg c20] at H
      exact absurd H (by simp)
   case rest =>
    clear HC17
    obtain ⟨kq, x37_16, rfl, HA, HJ16, HO_288000, HO_288001, BK280, BK287, HB⟩ := hcut
    cases kq with
    | zero => exact absurd HA.out (by simp [spec_l1Read.j2])
    | succ kj16 =>
     have H := HA.out
     clear HA
     simp only [spec_l1Read.j2] at H
     by_cases c23 : x37_16 = true
     ·subst c23
      replace H : (some (y281, y284, false)) = some (r1, r2, r3) := by rw [if_pos rfl] at H; exact H
      simp only [Option.some.injEq, Prod.mk.injEq] at H
      obtain ⟨rfl, rfl, rfl⟩ := H
      have hnb24 := NB287_280.out
      have hnc24 := NB280_287.out
      have hcz25_0 : wc.cell? ⟨gb287, 0, none⟩ = some (.slice Ao9 y281.length co9) := (blk_cell BK287.out 0).trans rfl
      have hcz25_1 : wc.cell? ⟨gb287, 1, none⟩ = some (.slice Ao8 y284.length co8) := (blk_cell BK287.out 1).trans rfl
      have hfz25_0 := blk_frozen BK287.out 0
      have hfz25_1 := blk_frozen BK287.out 1
      have hcz26_0 : wc.cell? ⟨gb280, 0, none⟩ = some (.slice none 0 0) := (blk_cell BK280.out 0).trans rfl
      have hcz26_1 : wc.cell? ⟨gb280, 1, none⟩ = some (.slice none 0 0) := (blk_cell BK280.out 1).trans rfl
      have hfz26_0 := blk_frozen BK280.out 0
      have hfz26_1 := blk_frozen BK280.out 1
      go_wp2
      refine bodyPost_ret (results_ct rfl _ _ gb280 56 #[.slice Ao9 y281.length co9, .slice Ao8 y284.length co8] (0, 0) _ rfl (by refine blk_put (cs := #[.slice Ao9 y281.length co9, .slice none 0 0]) ?_ 1 _ rfl; refine blk_put (cs := #[.slice none 0 0, .slice none 0 0]) ?_ 0 _ rfl; exact BK280.out) Tryd.underlying56 rfl (by kernel_rfl)) rfl ?_
      exact ⟨_, _, by first | rfl | (simp [*, errW_none, errW_some] <;> rfl), by exact Kd.R_mono (Kd.R_far (p := ⟨gb280, 1, none⟩) (Kd.R_far (p := ⟨gb280, 0, none⟩) (Kd.R_types HO_288000.out BK280.out (by decide)) (fun _ hk => hk.2) (.slice Ao9 y281.length co9)) (fun _ hk => hk.2) (.slice Ao8 y284.length co8)) (fun _ hk => hk.1), by exact Kd.R_mono (Kd.R_far (p := ⟨gb280, 1, none⟩) (Kd.R_far (p := ⟨gb280, 0, none⟩) (Kd.R_types HO_288001.out BK280.out (by decide)) (fun _ hk => hk.2) (.slice Ao9 y281.length co9)) (fun _ hk => hk.2) (.slice Ao8 y284.length co8)) (fun _ hk => hk.1), by repeat (first | (with_reducible first | exact HB.out | refine below_set ?_ GE280.out))⟩
     ·replace c23 := Bool.eq_false_iff.mpr c23
      subst c23
      replace H : (if 0 ≤ x5_1 then (if x5_1 ≤ (a0.size : Int) then ((spec_l1Signs.f kj16 (a0.extract 0 (x5_1 : Int).toNat)).bind fun bt288 => (if 0 ≤ (wrap64 (x5_1 + 1)) then (if (wrap64 (x5_1 + 1)) ≤ (wrap64 ((a0.size : Int) - 1)) then (if (wrap64 ((a0.size : Int) - 1)) ≤ (a0.size : Int) then ((spec_l1Signs.f kj16 (a0.extract ((wrap64 (x5_1 + 1)) : Int).toNat ((wrap64 ((a0.size : Int) - 1)) : Int).toNat)).bind fun bt292 => (if bt288.2 = true then (if bt292.2 = true then (if (bt288.1.length : Int) > 60 then (some (y281, y284, false)) else (if (bt292.1.length : Int) > 60 then (some (y281, y284, false)) else (some (bt288.1, bt292.1, true)))) else (some (y281, y284, false))) else (some (y281, y284, false)))) else (none)) else (none)) else (none))) else (none)) else (none)) = some (r1, r2, r3) := by rw [if_neg (show ¬ (false = true) by decide)] at H; exact H
      by_cases c27 : 0 ≤ x5_1
      ·rw [if_pos c27] at H
       have c27b0 := eq_true c27
       have c27b1 : decide (0 ≤ x5_1) = true := decide_eq_true c27
       clear c27
       by_cases c28 : x5_1 ≤ (a0.size : Int)
       ·rw [if_pos c28] at H
        have c28b0 := eq_true c28
        have c28b1 : decide (x5_1 ≤ (a0.size : Int)) = true := decide_eq_true c28
        clear c28
        replace H := Option.bind_eq_some_iff.mp H
        obtain ⟨⟨t288, t289⟩, A290, H⟩ := H
        replace H : (if 0 ≤ (wrap64 (x5_1 + 1)) then (if (wrap64 (x5_1 + 1)) ≤ (wrap64 ((a0.size : Int) - 1)) then (if (wrap64 ((a0.size : Int) - 1)) ≤ (a0.size : Int) then ((spec_l1Signs.f kj16 (a0.extract ((wrap64 (x5_1 + 1)) : Int).toNat ((wrap64 ((a0.size : Int) - 1)) : Int).toNat)).bind fun bt292 => (if t289 = true then (if bt292.2 = true then (if (t288.length : Int) > 60 then (some (y281, y284, false)) else (if (bt292.1.length : Int) > 60 then (some (y281, y284, false)) else (some (t288, bt292.1, true)))) else (some (y281, y284, false))) else (some (y281, y284, false)))) else (none)) else (none)) else (none)) = some (r1, r2, r3) := H
        have A29 := Aside0.mk A290
        clear A290
        obtain ⟨ji30, hji30⟩ : ∃ j_ : Int, (wrap64 (x5_1 + 1)) = j_ := ⟨_, rfl⟩
        replace H : (if 0 ≤ (ji30) then (if (ji30) ≤ (wrap64 ((a0.size : Int) - 1)) then (if (wrap64 ((a0.size : Int) - 1)) ≤ (a0.size : Int) then ((spec_l1Signs.f kj16 (a0.extract ((ji30) : Int).toNat ((wrap64 ((a0.size : Int) - 1)) : Int).toNat)).bind fun bt292 => (if t289 = true then (if bt292.2 = true then (if (t288.length : Int) > 60 then (some (y281, y284, false)) else (if (bt292.1.length : Int) > 60 then (some (y281, y284, false)) else (some (t288, bt292.1, true)))) else (some (y281, y284, false))) else (some (y281, y284, false)))) else (none)) else (none)) else (none)) = some (r1, r2, r3) := by first | (rw [hji30] at H; exact H)
        have hji30w : (IntKind.i64.wrap (x5_1 + 1)) = ji30 := (i64_w _).trans hji30
        by_cases c31 : 0 ≤ (ji30)
        ·rw [if_pos c31] at H
         have c31b0 := eq_true c31
         have c31b1 : decide (0 ≤ (ji30)) = true := decide_eq_true c31
         clear c31
         by_cases c32 : (ji30) ≤ (wrap64 ((a0.size : Int) - 1))
         ·rw [if_pos c32] at H
          have c32b0 := eq_true c32
          have c32b1 : decide ((ji30) ≤ (wrap64 ((a0.size : Int) - 1))) = true := decide_eq_true c32
          clear c32
          by_cases c33 : (wrap64 ((a0.size : Int) - 1)) ≤ (a0.size : Int)
          ·rw [if_pos c33] at H
           have c33b0 := eq_true c33
           have c33b1 : decide ((wrap64 ((a0.size : Int) - 1)) ≤ (a0.size : Int)) = true := decide_eq_true c33
           clear c33
           replace H := Option.bind_eq_some_iff.mp H
           obtain ⟨⟨t292, t293⟩, A340, H⟩ := H
           replace H : (if t289 = true then (if t293 = true then (if (t288.length : Int) > 60 then (some (y281, y284, false)) else (if (t292.length : Int) > 60 then (some (y281, y284, false)) else (some (t288, t292, true)))) else (some (y281, y284, false))) else (some (y281, y284, false))) = some (r1, r2, r3) := H
           have A34 := Aside0.mk A340
           clear A340
           by_cases c35 : t289 = true
           ·subst c35
            replace H : (if t293 = true then (if (t288.length : Int) > 60 then (some (y281, y284, false)) else (if (t292.length : Int) > 60 then (some (y281, y284, false)) else (some (t288, t292, true)))) else (some (y281, y284, false))) = some (r1, r2, r3) := by rw [if_pos rfl] at H; exact H
            by_cases c36 : t293 = true
            ·subst c36
             replace H : (if (t288.length : Int) > 60 then (some (y281, y284, false)) else (if (t292.length : Int) > 60 then (some (y281, y284, false)) else (some (t288, t292, true)))) = some (r1, r2, r3) := by rw [if_pos rfl] at H; exact H
             by_cases c37 : (t288.length : Int) > 60
             ·rw [if_pos c37] at H
              have c37b0 : decide (60 < (t288.length : Int)) = true := decide_eq_true c37
              have c37b1 : decide (60 < t288.length) = true := decide_eq_true (by omega)
              clear c37
              simp only [Option.some.injEq, Prod.mk.injEq] at H
              obtain ⟨rfl, rfl, rfl⟩ := H
              go_wp2_with (first | ((with_reducible refine gate_callee (f := 77) rfl ?_); refine goesL_ (some 43) rfl rfl Tryd.func77 (by kernel_rfl) rfl #[.string (a0.extract 0 (x5_1 : Int).toNat)] rfl (by (try simp only [List.map_toArray, List.map_cons, List.map_nil]); rfl) ?_; (with_reducible refine (spec_l1Signs.calls kj16 (a0.extract 0 (x5_1 : Int).toNat) t288 true _ A29.out).mono ?_); rintro e w38 ⟨v290, rfl, ho0, hb⟩; refine ⟨_, rfl, ?_⟩; have HO291 := Aside0.mk (Kd.R_lower (Kd.R_new' (Kd.R_new' ho0 (Kd.R_lt HO_288000.out)) (Kd.R_lt HO_288001.out)) (below_size HB.out)); replace HO_288000 := Aside0.mk (Kd.R_elder' HO_288000.out (Kd.R_base ho0) hb); replace HO_288001 := Aside0.mk (Kd.R_elder' HO_288001.out (Kd.R_base ho0) hb); replace BK280 := Aside0.mk (blk_below (g := gb280) (o := .cells #[.slice none 0 0, .slice none 0 0] 56 (0, 0)) BK280.out hb); replace BK287 := Aside0.mk (blk_below (g := gb287) (o := .cells #[.slice Ao9 y281.length co9, .slice Ao8 y284.length co8] 56 (0, 0)) BK287.out hb); replace HB := Aside0.mk (below_step HB.out hb); (try clear hb); (try clear ho0)) | ((with_reducible refine gate_callee (f := 77) rfl ?_); refine goesL_ (some 54) rfl rfl Tryd.func77 (by kernel_rfl) rfl #[.string (a0.extract ((ji30) : Int).toNat ((wrap64 ((a0.size : Int) - 1)) : Int).toNat)] rfl (by (try simp only [List.map_toArray, List.map_cons, List.map_nil]); rfl) ?_; (with_reducible refine (spec_l1Signs.calls kj16 (a0.extract ((ji30) : Int).toNat ((wrap64 ((a0.size : Int) - 1)) : Int).toNat) t292 true _ A34.out).mono ?_); rintro e w39 ⟨v294, rfl, ho0, hb⟩; refine ⟨_, rfl, ?_⟩; have HO295 := Aside0.mk (Kd.R_lower (Kd.R_new' (Kd.R_new' (Kd.R_new' ho0 (Kd.R_lt HO_288000.out)) (Kd.R_lt HO_288001.out)) (Kd.R_lt HO291.out)) (below_size HB.out)); replace HO_288000 := Aside0.mk (Kd.R_elder' HO_288000.out (Kd.R_base ho0) hb); replace HO_288001 := Aside0.mk (Kd.R_elder' HO_288001.out (Kd.R_base ho0) hb); replace HO291 := Aside0.mk (Kd.R_elder' HO291.out (Kd.R_base ho0) hb); replace BK280 := Aside0.mk (blk_below (g := gb280) (o := .cells #[.slice none 0 0, .slice none 0 0] 56 (0, 0)) BK280.out hb); replace BK287 := Aside0.mk (blk_below (g := gb287) (o := .cells #[.slice Ao9 y281.length co9, .slice Ao8 y284.length co8] 56 (0, 0)) BK287.out hb); replace HB := Aside0.mk (below_step HB.out hb); (try clear hb); (try clear ho0); obtain ⟨Ao40, co40, eo40⟩ := Kd.R_slice HO291.out; subst eo40; have hnb41 := NB287_280.out; have hnc41 := NB280_287.out; have hcz42_0 : w39.cell? ⟨gb287, 0, none⟩ = some (.slice Ao9 y281.length co9) := (blk_cell BK287.out 0).trans rfl; have hcz42_1 : w39.cell? ⟨gb287, 1, none⟩ = some (.slice Ao8 y284.length co8) := (blk_cell BK287.out 1).trans rfl; have hfz42_0 := blk_frozen BK287.out 0; have hfz42_1 := blk_frozen BK287.out 1; have hcz43_0 : w39.cell? ⟨gb280, 0, none⟩ = some (.slice none 0 0) := (blk_cell BK280.out 0).trans rfl; have hcz43_1 : w39.cell? ⟨gb280, 1, none⟩ = some (.slice none 0 0) := (blk_cell BK280.out 1).trans rfl; have hfz43_0 := blk_frozen BK280.out 0; have hfz43_1 := blk_frozen BK280.out 1))
              refine bodyPost_ret (results_ct rfl _ _ gb280 56 #[.slice Ao9 y281.length co9, .slice Ao8 y284.length co8] (0, 0) _ rfl (by refine blk_put (cs := #[.slice Ao9 y281.length co9, .slice none 0 0]) ?_ 1 _ rfl; refine blk_put (cs := #[.slice none 0 0, .slice none 0 0]) ?_ 0 _ rfl; exact BK280.out) Tryd.underlying56 rfl (by kernel_rfl)) rfl ?_
              exact ⟨_, _, by first | rfl | (simp [*, errW_none, errW_some] <;> rfl), by exact Kd.R_mono (Kd.R_far (p := ⟨gb280, 1, none⟩) (Kd.R_far (p := ⟨gb280, 0, none⟩) (Kd.R_types HO_288000.out BK280.out (by decide)) (fun _ hk => hk.2) (.slice Ao9 y281.length co9)) (fun _ hk => hk.2) (.slice Ao8 y284.length co8)) (fun _ hk => hk.1.1.1), by exact Kd.R_mono (Kd.R_far (p := ⟨gb280, 1, none⟩) (Kd.R_far (p := ⟨gb280, 0, none⟩) (Kd.R_types HO_288001.out BK280.out (by decide)) (fun _ hk => hk.2) (.slice Ao9 y281.length co9)) (fun _ hk => hk.2) (.slice Ao8 y284.length co8)) (fun _ hk => hk.1.1.1), by repeat (first | (with_reducible first | exact HB.out | refine below_set ?_ GE280.out))⟩
             ·rw [if_neg c37] at H
              have c37b0 : decide (60 < (t288.length : Int)) = false := decide_eq_false c37
              have c37b1 : decide (60 < t288.length) = false := decide_eq_false (by omega)
              clear c37
              by_cases c44 : (t292.length : Int) > 60
              ·rw [if_pos c44] at H
               have c44b0 : decide (60 < (t292.length : Int)) = true := decide_eq_true c44
               have c44b1 : decide (60 < t292.length) = true := decide_eq_true (by omega)
               clear c44
               simp only [Option.some.injEq, Prod.mk.injEq] at H
               obtain ⟨rfl, rfl, rfl⟩ := H
               go_wp2_with (first | ((with_reducible refine gate_callee (f := 77) rfl ?_); refine goesL_ (some 43) rfl rfl Tryd.func77 (by kernel_rfl) rfl #[.string (a0.extract 0 (x5_1 : Int).toNat)] rfl (by (try simp only [List.map_toArray, List.map_cons, List.map_nil]); rfl) ?_; (with_reducible refine (spec_l1Signs.calls kj16 (a0.extract 0 (x5_1 : Int).toNat) t288 true _ A29.out).mono ?_); rintro e w45 ⟨v290, rfl, ho0, hb⟩; refine ⟨_, rfl, ?_⟩; have HO291 := Aside0.mk (Kd.R_lower (Kd.R_new' (Kd.R_new' ho0 (Kd.R_lt HO_288000.out)) (Kd.R_lt HO_288001.out)) (below_size HB.out)); replace HO_288000 := Aside0.mk (Kd.R_elder' HO_288000.out (Kd.R_base ho0) hb); replace HO_288001 := Aside0.mk (Kd.R_elder' HO_288001.out (Kd.R_base ho0) hb); replace BK280 := Aside0.mk (blk_below (g := gb280) (o := .cells #[.slice none 0 0, .slice none 0 0] 56 (0, 0)) BK280.out hb); replace BK287 := Aside0.mk (blk_below (g := gb287) (o := .cells #[.slice Ao9 y281.length co9, .slice Ao8 y284.length co8] 56 (0, 0)) BK287.out hb); replace HB := Aside0.mk (below_step HB.out hb); (try clear hb); (try clear ho0)) | ((with_reducible refine gate_callee (f := 77) rfl ?_); refine goesL_ (some 54) rfl rfl Tryd.func77 (by kernel_rfl) rfl #[.string (a0.extract ((ji30) : Int).toNat ((wrap64 ((a0.size : Int) - 1)) : Int).toNat)] rfl (by (try simp only [List.map_toArray, List.map_cons, List.map_nil]); rfl) ?_; (with_reducible refine (spec_l1Signs.calls kj16 (a0.extract ((ji30) : Int).toNat ((wrap64 ((a0.size : Int) - 1)) : Int).toNat) t292 true _ A34.out).mono ?_); rintro e w46 ⟨v294, rfl, ho0, hb⟩; refine ⟨_, rfl, ?_⟩; have HO295 := Aside0.mk (Kd.R_lower (Kd.R_new' (Kd.R_new' (Kd.R_new' ho0 (Kd.R_lt HO_288000.out)) (Kd.R_lt HO_288001.out)) (Kd.R_lt HO291.out)) (below_size HB.out)); replace HO_288000 := Aside0.mk (Kd.R_elder' HO_288000.out (Kd.R_base ho0) hb); replace HO_288001 := Aside0.mk (Kd.R_elder' HO_288001.out (Kd.R_base ho0) hb); replace HO291 := Aside0.mk (Kd.R_elder' HO291.out (Kd.R_base ho0) hb); replace BK280 := Aside0.mk (blk_below (g := gb280) (o := .cells #[.slice none 0 0, .slice none 0 0] 56 (0, 0)) BK280.out hb); replace BK287 := Aside0.mk (blk_below (g := gb287) (o := .cells #[.slice Ao9 y281.length co9, .slice Ao8 y284.length co8] 56 (0, 0)) BK287.out hb); replace HB := Aside0.mk (below_step HB.out hb); (try clear hb); (try clear ho0); obtain ⟨Ao47, co47, eo47⟩ := Kd.R_slice HO291.out; subst eo47; obtain ⟨Ao48, co48, eo48⟩ := Kd.R_slice HO295.out; subst eo48; have hnb49 := NB287_280.out; have hnc49 := NB280_287.out; have hcz50_0 : w46.cell? ⟨gb287, 0, none⟩ = some (.slice Ao9 y281.length co9) := (blk_cell BK287.out 0).trans rfl; have hcz50_1 : w46.cell? ⟨gb287, 1, none⟩ = some (.slice Ao8 y284.length co8) := (blk_cell BK287.out 1).trans rfl; have hfz50_0 := blk_frozen BK287.out 0; have hfz50_1 := blk_frozen BK287.out 1; have hcz51_0 : w46.cell? ⟨gb280, 0, none⟩ = some (.slice none 0 0) := (blk_cell BK280.out 0).trans rfl; have hcz51_1 : w46.cell? ⟨gb280, 1, none⟩ = some (.slice none 0 0) := (blk_cell BK280.out 1).trans rfl; have hfz51_0 := blk_frozen BK280.out 0; have hfz51_1 := blk_frozen BK280.out 1))
               refine bodyPost_ret (results_ct rfl _ _ gb280 56 #[.slice Ao9 y281.length co9, .slice Ao8 y284.length co8] (0, 0) _ rfl (by refine blk_put (cs := #[.slice Ao9 y281.length co9, .slice none 0 0]) ?_ 1 _ rfl; refine blk_put (cs := #[.slice none 0 0, .slice none 0 0]) ?_ 0 _ rfl; exact BK280.out) Tryd.underlying56 rfl (by kernel_rfl)) rfl ?_
               exact ⟨_, _, by first | rfl | (simp [*, errW_none, errW_some] <;> rfl), by exact Kd.R_mono (Kd.R_far (p := ⟨gb280, 1, none⟩) (Kd.R_far (p := ⟨gb280, 0, none⟩) (Kd.R_types HO_288000.out BK280.out (by decide)) (fun _ hk => hk.2) (.slice Ao9 y281.length co9)) (fun _ hk => hk.2) (.slice Ao8 y284.length co8)) (fun _ hk => hk.1.1.1), by exact Kd.R_mono (Kd.R_far (p := ⟨gb280, 1, none⟩) (Kd.R_far (p := ⟨gb280, 0, none⟩) (Kd.R_types HO_288001.out BK280.out (by decide)) (fun _ hk => hk.2) (.slice Ao9 y281.length co9)) (fun _ hk => hk.2) (.slice Ao8 y284.length co8)) (fun _ hk => hk.1.1.1), by repeat (first | (with_reducible first | exact HB.out | refine below_set ?_ GE280.out))⟩
              ·rw [if_neg c44] at H
               have c44b0 : decide (60 < (t292.length : Int)) = false := decide_eq_false c44
               have c44b1 : decide (60 < t292.length) = false := decide_eq_false (by omega)
               clear c44
               simp only [Option.some.injEq, Prod.mk.injEq] at H
               obtain ⟨rfl, rfl, rfl⟩ := H
               go_wp2_with (first | ((with_reducible refine gate_callee (f := 77) rfl ?_); refine goesL_ (some 43) rfl rfl Tryd.func77 (by kernel_rfl) rfl #[.string (a0.extract 0 (x5_1 : Int).toNat)] rfl (by (try simp only [List.map_toArray, List.map_cons, List.map_nil]); rfl) ?_; (with_reducible refine (spec_l1Signs.calls kj16 (a0.extract 0 (x5_1 : Int).toNat) t288 true _ A29.out).mono ?_); rintro e w52 ⟨v290, rfl, ho0, hb⟩; refine ⟨_, rfl, ?_⟩; have HO291 := Aside0.mk (Kd.R_lower (Kd.R_new' (Kd.R_new' ho0 (Kd.R_lt HO_288000.out)) (Kd.R_lt HO_288001.out)) (below_size HB.out)); replace HO_288000 := Aside0.mk (Kd.R_elder' HO_288000.out (Kd.R_base ho0) hb); replace HO_288001 := Aside0.mk (Kd.R_elder' HO_288001.out (Kd.R_base ho0) hb); replace BK280 := Aside0.mk (blk_below (g := gb280) (o := .cells #[.slice none 0 0, .slice none 0 0] 56 (0, 0)) BK280.out hb); replace BK287 := Aside0.mk (blk_below (g := gb287) (o := .cells #[.slice Ao9 y281.length co9, .slice Ao8 y284.length co8] 56 (0, 0)) BK287.out hb); replace HB := Aside0.mk (below_step HB.out hb); (try clear hb); (try clear ho0)) | ((with_reducible refine gate_callee (f := 77) rfl ?_); refine goesL_ (some 54) rfl rfl Tryd.func77 (by kernel_rfl) rfl #[.string (a0.extract ((ji30) : Int).toNat ((wrap64 ((a0.size : Int) - 1)) : Int).toNat)] rfl (by (try simp only [List.map_toArray, List.map_cons, List.map_nil]); rfl) ?_; (with_reducible refine (spec_l1Signs.calls kj16 (a0.extract ((ji30) : Int).toNat ((wrap64 ((a0.size : Int) - 1)) : Int).toNat) t292 true _ A34.out).mono ?_); rintro e w53 ⟨v294, rfl, ho0, hb⟩; refine ⟨_, rfl, ?_⟩; have HO295 := Aside0.mk (Kd.R_lower (Kd.R_new' (Kd.R_new' (Kd.R_new' ho0 (Kd.R_lt HO_288000.out)) (Kd.R_lt HO_288001.out)) (Kd.R_lt HO291.out)) (below_size HB.out)); replace HO_288000 := Aside0.mk (Kd.R_elder' HO_288000.out (Kd.R_base ho0) hb); replace HO_288001 := Aside0.mk (Kd.R_elder' HO_288001.out (Kd.R_base ho0) hb); replace HO291 := Aside0.mk (Kd.R_elder' HO291.out (Kd.R_base ho0) hb); replace BK280 := Aside0.mk (blk_below (g := gb280) (o := .cells #[.slice none 0 0, .slice none 0 0] 56 (0, 0)) BK280.out hb); replace BK287 := Aside0.mk (blk_below (g := gb287) (o := .cells #[.slice Ao9 y281.length co9, .slice Ao8 y284.length co8] 56 (0, 0)) BK287.out hb); replace HB := Aside0.mk (below_step HB.out hb); (try clear hb); (try clear ho0); obtain ⟨Ao54, co54, eo54⟩ := Kd.R_slice HO291.out; subst eo54; obtain ⟨Ao55, co55, eo55⟩ := Kd.R_slice HO295.out; subst eo55; have hnb56 := NB280_287.out; have hnc56 := NB287_280.out; have hcz57_0 : w53.cell? ⟨gb280, 0, none⟩ = some (.slice none 0 0) := (blk_cell BK280.out 0).trans rfl; have hcz57_1 : w53.cell? ⟨gb280, 1, none⟩ = some (.slice none 0 0) := (blk_cell BK280.out 1).trans rfl; have hfz57_0 := blk_frozen BK280.out 0; have hfz57_1 := blk_frozen BK280.out 1))
               refine bodyPost_ret (results_ct rfl _ _ gb280 56 #[.slice Ao54 t288.length co54, .slice Ao55 t292.length co55] (0, 0) _ rfl (by refine blk_put (cs := #[.slice Ao54 t288.length co54, .slice none 0 0]) ?_ 1 _ rfl; refine blk_put (cs := #[.slice none 0 0, .slice none 0 0]) ?_ 0 _ rfl; exact BK280.out) Tryd.underlying56 rfl (by kernel_rfl)) rfl ?_
               exact ⟨_, _, by first | rfl | (simp [*, errW_none, errW_some] <;> rfl), by exact Kd.R_mono (Kd.R_far (p := ⟨gb280, 1, none⟩) (Kd.R_far (p := ⟨gb280, 0, none⟩) (Kd.R_types HO291.out BK280.out (by decide)) (fun _ hk => hk.2) (.slice Ao54 t288.length co54)) (fun _ hk => hk.2) (.slice Ao55 t292.length co55)) (fun _ hk => hk.1.2), by exact Kd.R_mono (Kd.R_far (p := ⟨gb280, 1, none⟩) (Kd.R_far (p := ⟨gb280, 0, none⟩) (Kd.R_types HO295.out BK280.out (by decide)) (fun _ hk => hk.2) (.slice Ao54 t288.length co54)) (fun _ hk => hk.2) (.slice Ao55 t292.length co55)) (fun _ hk => hk.1.2), by repeat (first | (with_reducible first | exact HB.out | refine below_set ?_ GE280.out))⟩
            ·replace c36 := Bool.eq_false_iff.mpr c36
             subst c36
             replace H : (some (y281, y284, false)) = some (r1, r2, r3) := by rw [if_neg (show ¬ (false = true) by decide)] at H; exact H
             simp only [Option.some.injEq, Prod.mk.injEq] at H
             obtain ⟨rfl, rfl, rfl⟩ := H
             go_wp2_with (first | ((with_reducible refine gate_callee (f := 77) rfl ?_); refine goesL_ (some 43) rfl rfl Tryd.func77 (by kernel_rfl) rfl #[.string (a0.extract 0 (x5_1 : Int).toNat)] rfl (by (try simp only [List.map_toArray, List.map_cons, List.map_nil]); rfl) ?_; (with_reducible refine (spec_l1Signs.calls kj16 (a0.extract 0 (x5_1 : Int).toNat) t288 true _ A29.out).mono ?_); rintro e w58 ⟨v290, rfl, ho0, hb⟩; refine ⟨_, rfl, ?_⟩; have HO291 := Aside0.mk (Kd.R_lower (Kd.R_new' (Kd.R_new' ho0 (Kd.R_lt HO_288000.out)) (Kd.R_lt HO_288001.out)) (below_size HB.out)); replace HO_288000 := Aside0.mk (Kd.R_elder' HO_288000.out (Kd.R_base ho0) hb); replace HO_288001 := Aside0.mk (Kd.R_elder' HO_288001.out (Kd.R_base ho0) hb); replace BK280 := Aside0.mk (blk_below (g := gb280) (o := .cells #[.slice none 0 0, .slice none 0 0] 56 (0, 0)) BK280.out hb); replace BK287 := Aside0.mk (blk_below (g := gb287) (o := .cells #[.slice Ao9 y281.length co9, .slice Ao8 y284.length co8] 56 (0, 0)) BK287.out hb); replace HB := Aside0.mk (below_step HB.out hb); (try clear hb); (try clear ho0)) | ((with_reducible refine gate_callee (f := 77) rfl ?_); refine goesL_ (some 54) rfl rfl Tryd.func77 (by kernel_rfl) rfl #[.string (a0.extract ((ji30) : Int).toNat ((wrap64 ((a0.size : Int) - 1)) : Int).toNat)] rfl (by (try simp only [List.map_toArray, List.map_cons, List.map_nil]); rfl) ?_; (with_reducible refine (spec_l1Signs.calls kj16 (a0.extract ((ji30) : Int).toNat ((wrap64 ((a0.size : Int) - 1)) : Int).toNat) t292 false _ A34.out).mono ?_); rintro e w59 ⟨v294, rfl, ho0, hb⟩; refine ⟨_, rfl, ?_⟩; have HO295 := Aside0.mk (Kd.R_lower (Kd.R_new' (Kd.R_new' (Kd.R_new' ho0 (Kd.R_lt HO_288000.out)) (Kd.R_lt HO_288001.out)) (Kd.R_lt HO291.out)) (below_size HB.out)); replace HO_288000 := Aside0.mk (Kd.R_elder' HO_288000.out (Kd.R_base ho0) hb); replace HO_288001 := Aside0.mk (Kd.R_elder' HO_288001.out (Kd.R_base ho0) hb); replace HO291 := Aside0.mk (Kd.R_elder' HO291.out (Kd.R_base ho0) hb); replace BK280 := Aside0.mk (blk_below (g := gb280) (o := .cells #[.slice none 0 0, .slice none 0 0] 56 (0, 0)) BK280.out hb); replace BK287 := Aside0.mk (blk_below (g := gb287) (o := .cells #[.slice Ao9 y281.length co9, .slice Ao8 y284.length co8] 56 (0, 0)) BK287.out hb); replace HB := Aside0.mk (below_step HB.out hb); (try clear hb); (try clear ho0); have hnb60 := NB287_280.out; have hnc60 := NB280_287.out; have hcz61_0 : w59.cell? ⟨gb287, 0, none⟩ = some (.slice Ao9 y281.length co9) := (blk_cell BK287.out 0).trans rfl; have hcz61_1 : w59.cell? ⟨gb287, 1, none⟩ = some (.slice Ao8 y284.length co8) := (blk_cell BK287.out 1).trans rfl; have hfz61_0 := blk_frozen BK287.out 0; have hfz61_1 := blk_frozen BK287.out 1; have hcz62_0 : w59.cell? ⟨gb280, 0, none⟩ = some (.slice none 0 0) := (blk_cell BK280.out 0).trans rfl; have hcz62_1 : w59.cell? ⟨gb280, 1, none⟩ = some (.slice none 0 0) := (blk_cell BK280.out 1).trans rfl; have hfz62_0 := blk_frozen BK280.out 0; have hfz62_1 := blk_frozen BK280.out 1))
             refine bodyPost_ret (results_ct rfl _ _ gb280 56 #[.slice Ao9 y281.length co9, .slice Ao8 y284.length co8] (0, 0) _ rfl (by refine blk_put (cs := #[.slice Ao9 y281.length co9, .slice none 0 0]) ?_ 1 _ rfl; refine blk_put (cs := #[.slice none 0 0, .slice none 0 0]) ?_ 0 _ rfl; exact BK280.out) Tryd.underlying56 rfl (by kernel_rfl)) rfl ?_
             exact ⟨_, _, by first | rfl | (simp [*, errW_none, errW_some] <;> rfl), by exact Kd.R_mono (Kd.R_far (p := ⟨gb280, 1, none⟩) (Kd.R_far (p := ⟨gb280, 0, none⟩) (Kd.R_types HO_288000.out BK280.out (by decide)) (fun _ hk => hk.2) (.slice Ao9 y281.length co9)) (fun _ hk => hk.2) (.slice Ao8 y284.length co8)) (fun _ hk => hk.1.1.1), by exact Kd.R_mono (Kd.R_far (p := ⟨gb280, 1, none⟩) (Kd.R_far (p := ⟨gb280, 0, none⟩) (Kd.R_types HO_288001.out BK280.out (by decide)) (fun _ hk => hk.2) (.slice Ao9 y281.length co9)) (fun _ hk => hk.2) (.slice Ao8 y284.length co8)) (fun _ hk => hk.1.1.1), by repeat (first | (with_reducible first | exact HB.out | refine below_set ?_ GE280.out))⟩
           ·replace c35 := Bool.eq_false_iff.mpr c35
            subst c35
            replace H : (some (y281, y284, false)) = some (r1, r2, r3) := by rw [if_neg (show ¬ (false = true) by decide)] at H; exact H
            simp only [Option.some.injEq, Prod.mk.injEq] at H
            obtain ⟨rfl, rfl, rfl⟩ := H
            go_wp2_with (first | ((with_reducible refine gate_callee (f := 77) rfl ?_); refine goesL_ (some 43) rfl rfl Tryd.func77 (by kernel_rfl) rfl #[.string (a0.extract 0 (x5_1 : Int).toNat)] rfl (by (try simp only [List.map_toArray, List.map_cons, List.map_nil]); rfl) ?_; (with_reducible refine (spec_l1Signs.calls kj16 (a0.extract 0 (x5_1 : Int).toNat) t288 false _ A29.out).mono ?_); rintro e w63 ⟨v290, rfl, ho0, hb⟩; refine ⟨_, rfl, ?_⟩; have HO291 := Aside0.mk (Kd.R_lower (Kd.R_new' (Kd.R_new' ho0 (Kd.R_lt HO_288000.out)) (Kd.R_lt HO_288001.out)) (below_size HB.out)); replace HO_288000 := Aside0.mk (Kd.R_elder' HO_288000.out (Kd.R_base ho0) hb); replace HO_288001 := Aside0.mk (Kd.R_elder' HO_288001.out (Kd.R_base ho0) hb); replace BK280 := Aside0.mk (blk_below (g := gb280) (o := .cells #[.slice none 0 0, .slice none 0 0] 56 (0, 0)) BK280.out hb); replace BK287 := Aside0.mk (blk_below (g := gb287) (o := .cells #[.slice Ao9 y281.length co9, .slice Ao8 y284.length co8] 56 (0, 0)) BK287.out hb); replace HB := Aside0.mk (below_step HB.out hb); (try clear hb); (try clear ho0)) | ((with_reducible refine gate_callee (f := 77) rfl ?_); refine goesL_ (some 54) rfl rfl Tryd.func77 (by kernel_rfl) rfl #[.string (a0.extract ((ji30) : Int).toNat ((wrap64 ((a0.size : Int) - 1)) : Int).toNat)] rfl (by (try simp only [List.map_toArray, List.map_cons, List.map_nil]); rfl) ?_; (with_reducible refine (spec_l1Signs.calls kj16 (a0.extract ((ji30) : Int).toNat ((wrap64 ((a0.size : Int) - 1)) : Int).toNat) t292 t293 _ A34.out).mono ?_); rintro e w64 ⟨v294, rfl, ho0, hb⟩; refine ⟨_, rfl, ?_⟩; have HO295 := Aside0.mk (Kd.R_lower (Kd.R_new' (Kd.R_new' (Kd.R_new' ho0 (Kd.R_lt HO_288000.out)) (Kd.R_lt HO_288001.out)) (Kd.R_lt HO291.out)) (below_size HB.out)); replace HO_288000 := Aside0.mk (Kd.R_elder' HO_288000.out (Kd.R_base ho0) hb); replace HO_288001 := Aside0.mk (Kd.R_elder' HO_288001.out (Kd.R_base ho0) hb); replace HO291 := Aside0.mk (Kd.R_elder' HO291.out (Kd.R_base ho0) hb); replace BK280 := Aside0.mk (blk_below (g := gb280) (o := .cells #[.slice none 0 0, .slice none 0 0] 56 (0, 0)) BK280.out hb); replace BK287 := Aside0.mk (blk_below (g := gb287) (o := .cells #[.slice Ao9 y281.length co9, .slice Ao8 y284.length co8] 56 (0, 0)) BK287.out hb); replace HB := Aside0.mk (below_step HB.out hb); (try clear hb); (try clear ho0); have hnb65 := NB287_280.out; have hnc65 := NB280_287.out; have hcz66_0 : w64.cell? ⟨gb287, 0, none⟩ = some (.slice Ao9 y281.length co9) := (blk_cell BK287.out 0).trans rfl; have hcz66_1 : w64.cell? ⟨gb287, 1, none⟩ = some (.slice Ao8 y284.length co8) := (blk_cell BK287.out 1).trans rfl; have hfz66_0 := blk_frozen BK287.out 0; have hfz66_1 := blk_frozen BK287.out 1; have hcz67_0 : w64.cell? ⟨gb280, 0, none⟩ = some (.slice none 0 0) := (blk_cell BK280.out 0).trans rfl; have hcz67_1 : w64.cell? ⟨gb280, 1, none⟩ = some (.slice none 0 0) := (blk_cell BK280.out 1).trans rfl; have hfz67_0 := blk_frozen BK280.out 0; have hfz67_1 := blk_frozen BK280.out 1))
            refine bodyPost_ret (results_ct rfl _ _ gb280 56 #[.slice Ao9 y281.length co9, .slice Ao8 y284.length co8] (0, 0) _ rfl (by refine blk_put (cs := #[.slice Ao9 y281.length co9, .slice none 0 0]) ?_ 1 _ rfl; refine blk_put (cs := #[.slice none 0 0, .slice none 0 0]) ?_ 0 _ rfl; exact BK280.out) Tryd.underlying56 rfl (by kernel_rfl)) rfl ?_
            exact ⟨_, _, by first | rfl | (simp [*, errW_none, errW_some] <;> rfl), by exact Kd.R_mono (Kd.R_far (p := ⟨gb280, 1, none⟩) (Kd.R_far (p := ⟨gb280, 0, none⟩) (Kd.R_types HO_288000.out BK280.out (by decide)) (fun _ hk => hk.2) (.slice Ao9 y281.length co9)) (fun _ hk => hk.2) (.slice Ao8 y284.length co8)) (fun _ hk => hk.1.1.1), by exact Kd.R_mono (Kd.R_far (p := ⟨gb280, 1, none⟩) (Kd.R_far (p := ⟨gb280, 0, none⟩) (Kd.R_types HO_288001.out BK280.out (by decide)) (fun _ hk => hk.2) (.slice Ao9 y281.length co9)) (fun _ hk => hk.2) (.slice Ao8 y284.length co8)) (fun _ hk => hk.1.1.1), by repeat (first | (with_reducible first | exact HB.out | refine below_set ?_ GE280.out))⟩
          ·rw [if_neg c33] at H
           exact absurd H (by simp)
         ·rw [if_neg c32] at H
          exact absurd H (by simp)
        ·rw [if_neg c31] at H
         exact absurd H (by simp)
       ·rw [if_neg c28] at H
        exact absurd H (by simp)
      ·rw [if_neg c27] at H
       exact absurd H (by simp)


mutual
def spec_l1Less.l0 : Nat → Int → Int → List Bool → List Bool → Option (List Bool × List Bool)
 | 0, _, _, _, _ => none
 | k + 1, x3, x4, x297000, x297001 => if x4 < x3 then (if x4 = 0 then (none) else (spec_l1Less.l1 k x3 x4 ((Int.tmod x3 x4) == 0) x4 x297000 x297001)) else (if (x297000.length : Int) > 0 then (if 0 ≤ (wrap64 ((x297000.length : Int) - 1)) then (if (wrap64 ((x297000.length : Int) - 1)) < (x297000.length : Int) then (if 0 ≤ (wrap64 (x3 - 1)) then (if (wrap64 (x3 - 1)) < (x297001.length : Int) then (if ((rdOf false x297000 (wrap64 ((x297000.length : Int) - 1))) == (rdOf false x297001 (wrap64 (x3 - 1)))) = true then ((some (([rdOf false x297001 (wrap64 (x3 - 1))] : List Bool) : List Bool)).bind fun y301 => (if (wrap64 (x3 - 1)) ≤ (x297001.length : Int) then ((some (x297001.take ((wrap64 (x3 - 1)) : Int).toNat : List Bool)).bind fun y304 => (if y301.length + y304.length < 140737488355328 then (if (wrap64 ((x297000.length : Int) - 1)) ≤ (x297000.length : Int) then ((spec_l1Less.f k (x297000.take ((wrap64 ((x297000.length : Int) - 1)) : Int).toNat) (y301 ++ y304)).bind fun bt317 => (some (bt317.1, bt317.2))) else (none)) else (none))) else (none))) else (some (x297000, x297001))) else (none)) else (none)) else (none)) else (none)) else (some (x297000, x297001)))
def spec_l1Less.l1 : Nat → Int → Int → Bool → Int → List Bool → List Bool → Option (List Bool × List Bool)
 | 0, _, _, _, _, _, _ => none
 | k + 1, x3, x4, x5, x6, x297000, x297001 => if x6 < x3 then (if x5 = true then (if 0 ≤ x6 then (if x6 < (x297001.length : Int) then (if 0 ≤ (wrap64 (x6 - x4)) then (if (wrap64 (x6 - x4)) < (x297001.length : Int) then (spec_l1Less.l1 k x3 x4 ((rdOf false x297001 x6) == (rdOf false x297001 (wrap64 (x6 - x4)))) (wrap64 (x6 + 1)) x297000 x297001) else (none)) else (none)) else (none)) else (none)) else (spec_l1Less.l0 k x3 (wrap64 (x4 + 1)) x297000 x297001)) else (if x5 = true then (if 0 ≤ x4 then (if x4 ≤ (x297001.length : Int) then ((spec_l1Less.f k x297000 (x297001.take (x4 : Int).toNat)).bind fun bt330 => (some (bt330.1, bt330.2))) else (none)) else (none)) else (spec_l1Less.l0 k x3 (wrap64 (x4 + 1)) x297000 x297001))
def spec_l1Less.f : Nat → List Bool → List Bool → Option (List Bool × List Bool)
 | 0, _, _ => none
 | k + 1, l0_0, l0_1 => spec_l1Less.l0 k (l0_1.length : Int) 1 l0_0 l0_1
end
theorem spec_l1Less.mono_l : ∀ k, (∀ y0 y1, LeO (spec_l1Less.f k y0 y1) (spec_l1Less.f (k + 1) y0 y1)) ∧ (∀ y0 y1 y2 y3, LeO (spec_l1Less.l0 k y0 y1 y2 y3) (spec_l1Less.l0 (k + 1) y0 y1 y2 y3)) ∧ (∀ y0 y1 y2 y3 y4 y5, LeO (spec_l1Less.l1 k y0 y1 y2 y3 y4 y5) (spec_l1Less.l1 (k + 1) y0 y1 y2 y3 y4 y5))
 | 0 => ⟨fun _ _ r h => by simp [spec_l1Less.f] at h, fun _ _ _ _ r h => by simp [spec_l1Less.l0] at h, fun _ _ _ _ _ _ r h => by simp [spec_l1Less.l1] at h⟩
 | k + 1 => by
  obtain ⟨ih0, ih1, ih2⟩ := spec_l1Less.mono_l k
  refine ⟨?_, ?_, ?_⟩
  ·intro y0 y1
   unfold spec_l1Less.f
   repeat' (with_reducible exact ih1 _ _ _ _)
  ·intro y0 y1 y2 y3
   unfold spec_l1Less.l0
   repeat' first | (with_reducible exact ih0 _ _) | (with_reducible exact ih2 _ _ _ _ _ _) | (with_reducible exact LeO.refl _) | (with_reducible refine LeO.ite ?_ ?_) | (with_reducible refine LeO.bind ?_ (fun _ => ?_))
  ·intro y0 y1 y2 y3 y4 y5
   unfold spec_l1Less.l1
   repeat' first | (with_reducible exact ih0 _ _) | (with_reducible exact ih1 _ _ _ _) | (with_reducible exact ih2 _ _ _ _ _ _) | (with_reducible exact LeO.refl _) | (with_reducible refine LeO.ite ?_ ?_) | (with_reducible refine LeO.bind ?_ (fun _ => ?_))
theorem spec_l1Less.mono : ∀ a0 a1 k, LeO (spec_l1Less.f k a0 a1) (spec_l1Less.f (k + 1) a0 a1) := by
 intro a0 a1 k
 obtain ⟨ih0, ih1, ih2⟩ := spec_l1Less.mono_l k
 exact ih0 a0 a1
def spec_l1Less.T9 : Bool × List (List Nat × List Nat) := (true, [([], []), ([0], [0]), ([], []), ([1, 2], [1, 2]), ([3], [3]), ([], []), ([5], [5]), ([], []), ([], []), ([7, 8], [7, 8]), ([6, 9], [6, 9]), ([10], [10]), ([4, 11], [4, 11]), ([12, 0, 1, 2, 3, 4, 5, 6, 7, 8, 9, 10, 11, 12], [12])])
def spec_l1Less.B9 : List Nat := [0, 1, 0, 7, 15, 0, 32, 0, 0, 384, 992, 2016, 4095, 8191]
theorem spec_l1Less.tab9 : rtab .any (opsOf Tryd.f69 9) = spec_l1Less.T9 := by kernel_rfl
theorem spec_l1Less.bits9 : waitsOk spec_l1Less.T9.2 spec_l1Less.B9 = true := by kernel_rfl
def spec_l1Less.T11 : Bool × List (List Nat × List Nat) := (true, [([], []), ([0], [0]), ([], []), ([2], [2]), ([], []), ([3, 4], [3, 4]), ([1, 5], [1, 5]), ([6], [6]), ([7, 7, 0, 1, 2, 3, 4, 5, 6, 7], [7])])
def spec_l1Less.B11 : List Nat := [0, 1, 0, 4, 0, 28, 63, 127, 255]
theorem spec_l1Less.tab11 : rtab .any (opsOf Tryd.f69 11) = spec_l1Less.T11 := by kernel_rfl
theorem spec_l1Less.bits11 : waitsOk spec_l1Less.T11.2 spec_l1Less.B11 = true := by kernel_rfl
def spec_l1Less.T13 : Bool × List (List Nat × List Nat) := (true, [([], []), ([0], [0]), ([1], [1]), ([2], [2]), ([3, 2], [2, 3]), ([2], [2]), ([5, 2], [2, 5]), ([4, 6, 2], [2, 4, 6]), ([7, 2], [2, 7]), ([2], [2]), ([9, 2], [2, 9]), ([2], [2]), ([11, 2], [2, 11]), ([10, 12, 2], [2, 10, 12]), ([13, 2], [2, 13]), ([8, 14, 2], [2, 8, 14]), ([2, 15], [2, 15])])
def spec_l1Less.B13 : List Nat := [0, 1, 3, 7, 15, 7, 39, 127, 255, 7, 519, 7, 2055, 7687, 15879, 32767, 65535]
theorem spec_l1Less.tab13 : rtab .any (opsOf Tryd.f69 13) = spec_l1Less.T13 := by kernel_rfl
theorem spec_l1Less.bits13 : waitsOk spec_l1Less.T13.2 spec_l1Less.B13 = true := by kernel_rfl
def spec_l1Less.T14 : Bool × List (List Nat × List Nat) := (true, [([], []), ([0], [0]), ([], []), ([2], [2]), ([1, 3], [1, 3]), ([4], [4]), ([5], [5]), ([], []), ([7], [7]), ([], []), ([9], [9]), ([8, 10], [8, 10]), ([6, 11], [6, 11]), ([12, 12, 0, 1, 2, 3, 4, 5, 6, 7, 8, 9, 10, 11, 12], [12])])
def spec_l1Less.B14 : List Nat := [0, 1, 0, 4, 15, 31, 63, 0, 128, 0, 512, 1920, 4095, 8191]
theorem spec_l1Less.tab14 : rtab .any (opsOf Tryd.f69 14) = spec_l1Less.T14 := by kernel_rfl
theorem spec_l1Less.bits14 : waitsOk spec_l1Less.T14.2 spec_l1Less.B14 = true := by kernel_rfl
set_option maxHeartbeats 8000000 in
set_option maxRecDepth 100000 in
theorem spec_l1Less.calls (k : Nat) : ∀ (P0_0_ : Nat → Prop) (A0_0 : Option Addr) (c0_0 : Nat) (l0_0 : List Bool) (P0_1_ : Nat → Prop) (A0_1 : Option Addr) (c0_1 : Nat) (l0_1 : List Bool) (r1 : List Bool) (r2 : List Bool) (w : World) (hs0_0 : Kd.V Kd.bool 4 w w.heap.size (fun k_ => P0_0_ k_) (.slice A0_0 l0_0.length c0_0) l0_0) (hs0_1 : Kd.V Kd.bool 4 w w.heap.size (fun k_ => P0_1_ k_) (.slice A0_1 l0_1.length c0_1) l0_1) (h : spec_l1Less.f k l0_0 l0_1 = some (r1, r2)),
  Calls Tryd.prog 69 #[.agg #[.slice A0_0 l0_0.length c0_0, .slice A0_1 l0_1.length c0_1]] w fun e w' => ∃ v0_ v1_ : Value, e = .returned (.agg #[v0_, v1_]) ∧ Kd.V Kd.bool 4 w' w.heap.size (fun k_ => ((P0_0_ k_ ∨ P0_1_ k_) ∨ w.heap.size ≤ k_)) v0_ r1 ∧ Kd.V Kd.bool 4 w' w.heap.size (fun k_ => ((P0_0_ k_ ∨ P0_1_ k_) ∨ w.heap.size ≤ k_)) v1_ r2 ∧ Below w.heap.size w w' := by
 induction k using Nat.strongRecOn with
 | _ k ih =>
 intro P0_0_ A0_0 c0_0 l0_0 P0_1_ A0_1 c0_1 l0_1 r1 r2 w hs0_0 hs0_1 h
 cases k with
 | zero => exact absurd h (by simp [spec_l1Less.f])
 | succ k =>
 simp only [spec_l1Less.f] at h
 have hu56 := Tryd.underlying56
 have HO0_0 := Aside0.mk (show Kd.V Kd.bool 4 w w.heap.size (fun k_ => ((P0_0_ k_ ∨ P0_1_ k_) ∨ w.heap.size ≤ k_)) (.slice A0_0 l0_0.length c0_0) l0_0 from Kd.V_mono hs0_0 (fun k_ hk => .inl (.inl hk)))
 have HO0_1 := Aside0.mk (show Kd.V Kd.bool 4 w w.heap.size (fun k_ => ((P0_0_ k_ ∨ P0_1_ k_) ∨ w.heap.size ≤ k_)) (.slice A0_1 l0_1.length c0_1) l0_1 from Kd.V_mono hs0_1 (fun k_ hk => .inl (.inr hk)))
 have HB := Aside0.mk (Below.refl w.heap.size w)
 have H : (spec_l1Less.l0 k (l0_1.length : Int) 1 l0_0 l0_1) = some (r1, r2) := h
 clear h
 have H' := Aside0.mk H
 clear H
 go_enter Tryd.func69, Tryd.ntmps69
 go_wp2_with (first | ((with_reducible refine gate_dst (N := 1) rfl ?_); refine box_event ?hg (N := 1) ?hd (cs := #[.slice A0_0 l0_0.length c0_0, .slice A0_1 l0_1.length c0_1]) (t := 56) ?hr ?_; (case hd => rfl); (case hg => rfl); (case hr => first | (go_simp; done)); intro gb296 hg w2 hbox hb; replace HO0_0 := Aside0.mk (Kd.V_below (Kd.V_elderB HO0_0.out gb296 (Nat.le_of_eq hg.symm)) hb); replace HO0_1 := Aside0.mk (Kd.V_below (Kd.V_elderB HO0_1.out gb296 (Nat.le_of_eq hg.symm)) hb); have BK296 := Aside0.mk hbox; have GW296 := Aside0.mk ((by rw [hg]; exact (below_size HB.out) : w.heap.size ≤ gb296)); have GE296 := Aside0.mk ((by rw [hg]; exact (below_size HB.out) : w.heap.size ≤ gb296)); replace HB := Aside0.mk (below_step HB.out hb); clear hb hbox hg) | ((with_reducible refine gate_dst (N := 2) rfl ?_); refine box_event ?hg (N := 2) ?hd (cs := #[.slice none 0 0, .slice none 0 0]) (t := 56) ?hr ?_; (case hd => rfl); (case hg => rfl); (case hr => first | (go_simp; done)); intro gb297 hg w3 hbox hb; replace HO0_0 := Aside0.mk (Kd.V_below (Kd.V_elderB HO0_0.out gb297 (Nat.le_of_eq hg.symm)) hb); replace HO0_1 := Aside0.mk (Kd.V_below (Kd.V_elderB HO0_1.out gb297 (Nat.le_of_eq hg.symm)) hb); have BK297 := Aside0.mk hbox; have GW297 := Aside0.mk ((by rw [hg]; exact (below_size HB.out) : w.heap.size ≤ gb297)); have GE297 := Aside0.mk ((by rw [hg]; exact (below_size HB.out) : w.heap.size ≤ gb297)); replace HB := Aside0.mk (below_step HB.out hb); have NB296_297 := Aside0.mk ((by rw [hg]; exact Nat.ne_of_lt (blk_lt (g := gb296) (o := .cells #[.slice A0_0 l0_0.length c0_0, .slice A0_1 l0_1.length c0_1] 56 (0, 0)) BK296.out) : gb296 ≠ gb297)); have NB297_296 := Aside0.mk ((by rw [hg]; exact Nat.ne_of_gt (blk_lt (g := gb296) (o := .cells #[.slice A0_0 l0_0.length c0_0, .slice A0_1 l0_1.length c0_1] 56 (0, 0)) BK296.out) : gb297 ≠ gb296)); replace BK296 := Aside0.mk (blk_below (g := gb296) (o := .cells #[.slice A0_0 l0_0.length c0_0, .slice A0_1 l0_1.length c0_1] 56 (0, 0)) BK296.out hb); clear hb hbox hg; have hnb4 := NB296_297.out; have hnc4 := NB297_296.out; have hcz5_0 : w3.cell? ⟨gb296, 0, none⟩ = some (.slice A0_0 l0_0.length c0_0) := (blk_cell BK296.out 0).trans rfl; have hcz5_1 : w3.cell? ⟨gb296, 1, none⟩ = some (.slice A0_1 l0_1.length c0_1) := (blk_cell BK296.out 1).trans rfl; have hfz5_0 := blk_frozen BK296.out 0; have hfz5_1 := blk_frozen BK296.out 1))
 go_loopg [4] k (fun kq v4 w' => ∃ (x4_1 : Int), v4 = .int .i64 x4_1 ∧ Aside0 (spec_l1Less.l0 kq (l0_1.length : Int) x4_1 l0_0 l0_1 = some (r1, r2)) ∧ Aside0 (kq ≤ k) ∧ Aside0 (Kd.V Kd.bool 4 w' w.heap.size (fun k_ => ((P0_0_ k_ ∨ P0_1_ k_) ∨ w.heap.size ≤ k_) ∧ k_ ≠ gb296 ∧ k_ ≠ gb297) (.slice A0_0 l0_0.length c0_0) l0_0) ∧ Aside0 (Kd.V Kd.bool 4 w' w.heap.size (fun k_ => ((P0_0_ k_ ∨ P0_1_ k_) ∨ w.heap.size ≤ k_) ∧ k_ ≠ gb296 ∧ k_ ≠ gb297) (.slice A0_1 l0_1.length c0_1) l0_1) ∧ Aside0 (w'.heap[gb296]? = some (.cells #[(.slice A0_0 l0_0.length c0_0), (.slice A0_1 l0_1.length c0_1)] 56 (0, 0))) ∧ Aside0 (w'.heap[gb297]? = some (.cells #[(.slice none 0 0), (.slice none 0 0)] 56 (0, 0))) ∧ Aside0 (Below w.heap.size w w'))
 case atStart => exact ⟨(1), (by rfl), H', ⟨Nat.le_refl _⟩, ⟨by exact Kd.V_mono HO0_0.out (fun _ hk => ⟨hk.1.1, ⟨hk.1.2, hk.2⟩⟩)⟩, ⟨by exact Kd.V_mono HO0_1.out (fun _ hk => ⟨hk.1.1, ⟨hk.1.2, hk.2⟩⟩)⟩, ⟨by exact BK296.out⟩, ⟨by exact BK297.out⟩, ⟨HB.out⟩⟩
 case round =>
  clear H'
  try clear hcz5_0
  try clear hcz5_1
  try clear hfz5_0
  try clear hfz5_1
  obtain ⟨x4_1, rfl, HA, HK1, HO_297000, HO_297001, BK296, BK297, HB⟩ := hrel
  cases gk with
  | zero => exact absurd HA.out (by simp [spec_l1Less.l0])
  | succ k1 =>
   have H := HA.out
   clear HA
   simp only [spec_l1Less.l0] at H
   by_cases c6 : x4_1 < (l0_1.length : Int)
   ·rw [if_pos c6] at H
    have c6b0 : decide (x4_1 < (l0_1.length : Int)) = true := decide_eq_true c6
    clear c6
    by_cases c7 : x4_1 = 0
    ·rw [if_pos c7] at H
     exact absurd H (by simp)
    ·rw [if_neg c7] at H
     have c7b0 : (x4_1 == 0) = false := beq_eq_false_iff_ne.mpr c7
     have c7b1 : (x4_1 != 0) = true := bne_iff_ne.mpr c7
     have H' := Aside0.mk H
     clear H
     go_wp2
     go_loopg [5, 6] k1 (fun kq v5 v6 w' => ∃ (x5_2 : Bool) (x6_2 : Int), v5 = .bool x5_2 ∧ v6 = .int .i64 x6_2 ∧ Aside0 (spec_l1Less.l1 kq (l0_1.length : Int) x4_1 x5_2 x6_2 l0_0 l0_1 = some (r1, r2)) ∧ Aside0 (kq ≤ k1) ∧ Aside0 (Kd.V Kd.bool 4 w' w.heap.size (fun k_ => ((P0_0_ k_ ∨ P0_1_ k_) ∨ w.heap.size ≤ k_) ∧ k_ ≠ gb296 ∧ k_ ≠ gb297) (.slice A0_0 l0_0.length c0_0) l0_0) ∧ Aside0 (Kd.V Kd.bool 4 w' w.heap.size (fun k_ => ((P0_0_ k_ ∨ P0_1_ k_) ∨ w.heap.size ≤ k_) ∧ k_ ≠ gb296 ∧ k_ ≠ gb297) (.slice A0_1 l0_1.length c0_1) l0_1) ∧ Aside0 (w'.heap[gb296]? = some (.cells #[(.slice A0_0 l0_0.length c0_0), (.slice A0_1 l0_1.length c0_1)] 56 (0, 0))) ∧ Aside0 (w'.heap[gb297]? = some (.cells #[(.slice none 0 0), (.slice none 0 0)] 56 (0, 0))) ∧ Aside0 (Below w.heap.size w w'))
     case atStart => exact ⟨(((Int.tmod (l0_1.length : Int) x4_1) == 0)), (x4_1), (by first | (simp [Int.tmod_eq_emod_of_nonneg]; done)), (by rfl), H', ⟨Nat.le_refl _⟩, ⟨by exact HO_297000.out⟩, ⟨by exact HO_297001.out⟩, ⟨by exact BK296.out⟩, ⟨by exact BK297.out⟩, ⟨HB.out⟩⟩
     case round =>
      clear H'
      try clear c6b0
      try clear c7
      try clear c7b0
      try clear c7b1
      obtain ⟨x5_2, x6_2, rfl, rfl, HA, HK2, HO_297000, HO_297001, BK296, BK297, HB⟩ := hrel
      cases gk with
      | zero => exact absurd HA.out (by simp [spec_l1Less.l1])
      | succ k2 =>
       have H := HA.out
       clear HA
       simp only [spec_l1Less.l1] at H
       by_cases c8 : x6_2 < (l0_1.length : Int)
       ·rw [if_pos c8] at H
        have c8b0 : decide (x6_2 < (l0_1.length : Int)) = true := decide_eq_true c8
        clear c8
        by_cases c9 : x5_2 = true
        ·subst c9
         replace H : (if 0 ≤ x6_2 then (if x6_2 < (l0_1.length : Int) then (if 0 ≤ (wrap64 (x6_2 - x4_1)) then (if (wrap64 (x6_2 - x4_1)) < (l0_1.length : Int) then (spec_l1Less.l1 k2 (l0_1.length : Int) x4_1 ((rdOf false l0_1 x6_2) == (rdOf false l0_1 (wrap64 (x6_2 - x4_1)))) (wrap64 (x6_2 + 1)) l0_0 l0_1) else (none)) else (none)) else (none)) else (none)) = some (r1, r2) := by rw [if_pos rfl] at H; exact H
         by_cases c10 : 0 ≤ x6_2
         ·rw [if_pos c10] at H
          have c10b0 : decide (0 ≤ x6_2) = true := decide_eq_true c10
          clear c10
          by_cases c11 : x6_2 < (l0_1.length : Int)
          ·rw [if_pos c11] at H
           have c11b0 : decide (x6_2 < (l0_1.length : Int)) = true := decide_eq_true c11
           clear c11
           obtain ⟨ji12, hji12⟩ : ∃ j_ : Int, (wrap64 (x6_2 - x4_1)) = j_ := ⟨_, rfl⟩
           replace H : (if 0 ≤ (ji12) then (if (ji12) < (l0_1.length : Int) then (spec_l1Less.l1 k2 (l0_1.length : Int) x4_1 ((rdOf false l0_1 x6_2) == (rdOf false l0_1 (ji12))) (wrap64 (x6_2 + 1)) l0_0 l0_1) else (none)) else (none)) = some (r1, r2) := by first | (rw [hji12] at H; exact H)
           have hji12w : (IntKind.i64.wrap (x6_2 - x4_1)) = ji12 := (i64_w _).trans hji12
           by_cases c13 : 0 ≤ (ji12)
           ·rw [if_pos c13] at H
            have c13b0 : decide (0 ≤ (ji12)) = true := decide_eq_true c13
            clear c13
            by_cases c14 : (ji12) < (l0_1.length : Int)
            ·rw [if_pos c14] at H
             have c14b0 : decide ((ji12) < (l0_1.length : Int)) = true := decide_eq_true c14
             clear c14
             have H' := Aside0.mk H
             clear H
             try go_wp2
             replace HO_297000 := Aside0.mk (Kd.V_drew HO_297000.out)
             replace HO_297001 := Aside0.mk (Kd.V_drew HO_297001.out)
             replace BK296 := Aside0.mk (blk_drew BK296.out)
             replace BK297 := Aside0.mk (blk_drew BK297.out)
             replace HB := Aside0.mk (below_drew1 HB.out)
             have p323 : 0 ≤ (x6_2 : Int) := of_decide_eq_true (by (with_reducible assumption))
             have q323 : x6_2 < (l0_1.length : Int) := of_decide_eq_true (by (with_reducible assumption))
             obtain ⟨ad323, e323, hx323_0⟩ := Kd.at_bool (Kd.V_reads' HO_297001.out).2.2 x6_2 p323 q323
             cases e323
             replace p323 := eq_true p323
             replace q323 := eq_true q323
             have p324 : 0 ≤ ((ji12) : Int) := of_decide_eq_true (by (with_reducible assumption))
             have q324 : (ji12) < (l0_1.length : Int) := of_decide_eq_true (by (with_reducible assumption))
             obtain ⟨ad324, e324, hx324_0⟩ := Kd.at_bool (Kd.V_reads' HO_297001.out).2.2 (ji12) p324 q324
             obtain rfl : ad323 = ad324 := (by injection e324)
             replace p324 := eq_true p324
             replace q324 := eq_true q324
             refine start_ (n := 14) (S := fun w' => w'.cell? ⟨gb296, 0, none⟩ = some (.slice A0_0 l0_0.length c0_0) ∧ w'.cell? ⟨gb296, 1, none⟩ = some (.slice (some ad323) l0_1.length c0_1) ∧ w'.cell? (ad323.add (x6_2).toNat) = some (.bool (rdOf false l0_1 x6_2)) ∧ w'.cell? (ad323.add ((ji12)).toNat) = some (.bool (rdOf false l0_1 (ji12)))) (ds := []) #[false, false, false, false, false, false, false, false, false, false, false, false, false, false] (by kernel_rfl) rfl rfl ⟨(blk_cell BK296.out 0).trans rfl, (blk_cell BK296.out 1).trans rfl, hx323_0, hx324_0⟩ (fun hHeld => ?_); refine with_tabW spec_l1Less.tab9 spec_l1Less.bits9 (fun HT_ HW_ => ?_)
             generalize wr.drew = w15 at HO_297000 HO_297001 BK296 BK297 HB hx323_0 hx324_0 hHeld ⊢
             refine pure_ (i := 0) (N := some 30) (v := ?_) (a' := ?_) #[true, false, false, false, false, false, false, false, false, false, false, false, false, false] rfl rfl (any_of HT_.out (by kernel_rfl)) (fun _ _ _ h => h) (Or.inl ⟨by rfl, ?_⟩) ?_ ?_
             rotate_left
             ·intro w'
              go_simp
              with_reducible rfl
             rotate_left
             ·simp only [Act.put, List.setIfInBounds_toArray, List.set_cons_zero, List.set_cons_succ, i64_w, i32_w]
              rfl
             refine pure_ (i := 2) (N := some 32) (v := ?_) (a' := ?_) #[true, false, true, false, false, false, false, false, false, false, false, false, false, false] rfl rfl (any_of HT_.out (by kernel_rfl)) (fun _ _ _ h => h) (Or.inl ⟨by rfl, ?_⟩) ?_ ?_
             rotate_left
             ·intro w'
              go_simp
              with_reducible rfl
             rotate_left
             ·simp only [Act.put, List.setIfInBounds_toArray, List.set_cons_zero, List.set_cons_succ, i64_w, i32_w]
              rfl
             refine pure_ (i := 5) (N := some 35) (v := ?_) (a' := ?_) #[true, false, true, false, false, true, false, false, false, false, false, false, false, false] rfl rfl (any_of HT_.out (by kernel_rfl)) (fun _ _ _ h => h) (Or.inl ⟨by rfl, ?_⟩) ?_ ?_
             rotate_left
             ·intro w'
              go_simp
              with_reducible rfl
             rotate_left
             ·simp only [Act.put, List.setIfInBounds_toArray, List.set_cons_zero, List.set_cons_succ, i64_w, i32_w]
              rfl
             refine pure_ (i := 7) (N := some 37) (v := ?_) (a' := ?_) #[true, false, true, false, false, true, false, true, false, false, false, false, false, false] rfl rfl (any_of HT_.out (by kernel_rfl)) (fun _ _ _ h => h) (Or.inl ⟨by rfl, ?_⟩) ?_ ?_
             rotate_left
             ·intro w'
              go_simp
              with_reducible rfl
             rotate_left
             ·simp only [Act.put, List.setIfInBounds_toArray, List.set_cons_zero, List.set_cons_succ, i64_w, i32_w]
              rfl
             refine pure_ (i := 8) (N := some 38) (v := ?_) (a' := ?_) #[true, false, true, false, false, true, false, true, true, false, false, false, false, false] rfl rfl (any_of HT_.out (by kernel_rfl)) (fun _ _ _ h => h) (Or.inl ⟨by rfl, ?_⟩) ?_ ?_
             rotate_left
             ·intro w'
              go_simp
              with_reducible rfl
             rotate_left
             ·simp only [Act.put, List.setIfInBounds_toArray, List.set_cons_zero, List.set_cons_succ, i64_w, i32_w]
              rfl
             refine pure_ (i := 9) (N := some 39) (v := ?_) (a' := ?_) #[true, false, true, false, false, true, false, true, true, true, false, false, false, false] rfl rfl (any_of HT_.out (by kernel_rfl)) (fun _ _ _ h => h) (Or.inl ⟨by rfl, ?_⟩) ?_ ?_
             rotate_left
             ·intro w'
              go_simp
              with_reducible rfl
             rotate_left
             ·simp only [Act.put, List.setIfInBounds_toArray, List.set_cons_zero, List.set_cons_succ, i64_w, i32_w]
              rfl
             refine take_ (i := 1) (N := some 31) (v := ?_) (a' := ?_) #[true, true, true, false, false, true, false, true, true, true, false, false, false, false] rfl rfl (take_ofW HT_.out HW_.out (by kernel_rfl)) (fun _ _ _ h => h) (Or.inl ⟨by rfl, ?_⟩) hHeld ?_ ?_
             rotate_left
             ·rintro w' ⟨s0, s1, s2, s3⟩
              go_simp
              with_reducible rfl
             rotate_left
             ·simp only [Act.put, List.setIfInBounds_toArray, List.set_cons_zero, List.set_cons_succ, i64_w, i32_w]
              rfl
             refine pure_ (i := 3) (N := some 33) (v := ?_) (a' := ?_) #[true, true, true, true, false, true, false, true, true, true, false, false, false, false] rfl rfl (any_of HT_.out (by kernel_rfl)) (fun _ _ _ h => h) (Or.inl ⟨by rfl, ?_⟩) ?_ ?_
             rotate_left
             ·intro w'
              go_simp
              with_reducible rfl
             rotate_left
             ·simp only [Act.put, List.setIfInBounds_toArray, List.set_cons_zero, List.set_cons_succ, i64_w, i32_w]
              rfl
             refine take_ (i := 4) (N := some 34) (v := ?_) (a' := ?_) #[true, true, true, true, true, true, false, true, true, true, false, false, false, false] rfl rfl (take_ofW HT_.out HW_.out (by kernel_rfl)) (fun _ _ _ h => h) (Or.inl ⟨by rfl, ?_⟩) hHeld ?_ ?_
             rotate_left
             ·rintro w' ⟨s0, s1, s2, s3⟩
              go_simp
              with_reducible rfl
             rotate_left
             ·simp only [Act.put, List.setIfInBounds_toArray, List.set_cons_zero, List.set_cons_succ, i64_w, i32_w]
              rfl
             refine take_ (i := 6) (N := some 36) (v := ?_) (a' := ?_) #[true, true, true, true, true, true, true, true, true, true, false, false, false, false] rfl rfl (take_ofW HT_.out HW_.out (by kernel_rfl)) (fun _ _ _ h => h) (Or.inl ⟨by rfl, ?_⟩) hHeld ?_ ?_
             rotate_left
             ·rintro w' ⟨s0, s1, s2, s3⟩
              go_simp
              with_reducible rfl
             rotate_left
             ·simp only [Act.put, List.setIfInBounds_toArray, List.set_cons_zero, List.set_cons_succ, i64_w, i32_w]
              rfl
             refine pure_ (i := 10) (N := some 40) (v := ?_) (a' := ?_) #[true, true, true, true, true, true, true, true, true, true, true, false, false, false] rfl rfl (any_of HT_.out (by kernel_rfl)) (fun _ _ _ h => h) (Or.inl ⟨by rfl, ?_⟩) ?_ ?_
             rotate_left
             ·intro w'
              go_simp
              with_reducible rfl
             rotate_left
             ·simp only [Act.put, List.setIfInBounds_toArray, List.set_cons_zero, List.set_cons_succ, i64_w, i32_w]
              rfl
             refine take_ (i := 11) (N := some 41) (v := ?_) (a' := ?_) #[true, true, true, true, true, true, true, true, true, true, true, true, false, false] rfl rfl (take_ofW HT_.out HW_.out (by kernel_rfl)) (fun _ _ _ h => h) (Or.inl ⟨by rfl, ?_⟩) hHeld ?_ ?_
             rotate_left
             ·rintro w' ⟨s0, s1, s2, s3⟩
              go_simp
              with_reducible rfl
             rotate_left
             ·simp only [Act.put, List.setIfInBounds_toArray, List.set_cons_zero, List.set_cons_succ, i64_w, i32_w]
              rfl
             refine pure_ (i := 12) (N := some 42) (v := ?_) (a' := ?_) #[true, true, true, true, true, true, true, true, true, true, true, true, true, false] rfl rfl (any_of HT_.out (by kernel_rfl)) (fun _ _ _ h => h) (Or.inl ⟨by rfl, ?_⟩) ?_ ?_
             rotate_left
             ·intro w'
              go_simp
              with_reducible rfl
             rotate_left
             ·simp only [Act.put, List.setIfInBounds_toArray, List.set_cons_zero, List.set_cons_succ, i64_w, i32_w]
              rfl
             refine pure_ (i := 13) (N := some 5) (v := ?_) (a' := ?_) #[true, true, true, true, true, true, true, true, true, true, true, true, true, true] rfl rfl (any_of HT_.out (by kernel_rfl)) (fun _ _ _ h => h) (Or.inl ⟨by rfl, ?_⟩) ?_ ?_
             rotate_left
             ·intro w'
              go_simp
              with_reducible rfl
             rotate_left
             ·simp only [Act.put, List.setIfInBounds_toArray, List.set_cons_zero, List.set_cons_succ, i64_w, i32_w]
              rfl
             refine done_ (done_of HT_.out (by kernel_rfl)) ?_
             try go_wp2
             go_roundg k2
             case measure => have := HK1.out; have := HK2.out; omega
             case rel => exact ⟨(((rdOf false l0_1 x6_2) == (rdOf false l0_1 (ji12)))), (wrap64 (x6_2 + 1)), (by rfl), (by rfl), H', ⟨by have := HK1.out; have := HK2.out; omega⟩, ⟨by exact HO_297000.out⟩, ⟨by exact HO_297001.out⟩, ⟨by exact BK296.out⟩, ⟨by exact BK297.out⟩, ⟨HB.out⟩⟩
            ·rw [if_neg c14] at H
             exact absurd H (by simp)
           ·rw [if_neg c13] at H
            exact absurd H (by simp)
          ·rw [if_neg c11] at H
           exact absurd H (by simp)
         ·rw [if_neg c10] at H
          exact absurd H (by simp)
        ·replace c9 := Bool.eq_false_iff.mpr c9
         subst c9
         replace H : (spec_l1Less.l0 k2 (l0_1.length : Int) (wrap64 (x4_1 + 1)) l0_0 l0_1) = some (r1, r2) := by rw [if_neg (show ¬ (false = true) by decide)] at H; exact H
         have H' := Aside0.mk H
         clear H
         go_wp2
         go_roundg k2
         case measure => have := HK1.out; have := HK2.out; omega
         case rel => exact ⟨(wrap64 (x4_1 + 1)), (by rfl), H', ⟨by have := HK1.out; have := HK2.out; omega⟩, ⟨by exact HO_297000.out⟩, ⟨by exact HO_297001.out⟩, ⟨by exact BK296.out⟩, ⟨by exact BK297.out⟩, ⟨HB.out⟩⟩
       ·rw [if_neg c8] at H
        have c8b0 : decide (x6_2 < (l0_1.length : Int)) = false := decide_eq_false c8
        clear c8
        by_cases c16 : x5_2 = true
        ·subst c16
         replace H : (if 0 ≤ x4_1 then (if x4_1 ≤ (l0_1.length : Int) then ((spec_l1Less.f k2 l0_0 (l0_1.take (x4_1 : Int).toNat)).bind fun bt330 => (some (bt330.1, bt330.2))) else (none)) else (none)) = some (r1, r2) := by rw [if_pos rfl] at H; exact H
         by_cases c17 : 0 ≤ x4_1
         ·rw [if_pos c17] at H
          have c17b0 := eq_true c17
          have c17b1 : decide (0 ≤ x4_1) = true := decide_eq_true c17
          clear c17
          by_cases c18 : x4_1 ≤ (l0_1.length : Int)
          ·rw [if_pos c18] at H
           have c18b0 := eq_true c18
           have c18b1 : decide (x4_1 ≤ (l0_1.length : Int)) = true := decide_eq_true c18
           clear c18
           obtain ⟨y325, hy325⟩ : ∃ y_ : List Bool, y_ = (l0_1.take (x4_1 : Int).toNat) := ⟨_, rfl⟩
           replace H : ((spec_l1Less.f k2 l0_0 y325).bind fun bt330 => (some (bt330.1, bt330.2))) = some (r1, r2) := by first | (rw [hy325]; with_reducible exact H)
           have Ny325 := Aside0.mk hy325
           clear hy325
           replace H := Option.bind_eq_some_iff.mp H
           obtain ⟨⟨t330, t333⟩, A190, H⟩ := H
           replace H : (some (t330, t333)) = some (r1, r2) := H
           have A19 := Aside0.mk A190
           clear A190
           simp only [Option.some.injEq, Prod.mk.injEq] at H
           obtain ⟨rfl, rfl⟩ := H
           try go_wp2
           replace HO_297000 := Aside0.mk (Kd.V_drew HO_297000.out)
           replace HO_297001 := Aside0.mk (Kd.V_drew HO_297001.out)
           replace BK296 := Aside0.mk (blk_drew BK296.out)
           replace BK297 := Aside0.mk (blk_drew BK297.out)
           replace HB := Aside0.mk (below_drew1 HB.out)
           have q21 : (x4_1 : Int) ≤ ((l0_1.length : Int) : Int) := of_decide_eq_true (by (with_reducible assumption))
           obtain ⟨i021, hi021, _, hsz21, _⟩ := info_parts info4
           have hroom21 : l0_1.length ≤ c0_1 := (Kd.V_reads' HO_297001.out).2.1
           have hC21 : Kd.F Kd.bool _ _ A0_1 l0_1.length l0_1 := (Kd.V_at (base := w.heap.size) HO_297001.out).2.2
           have hcut21 := cut_to (P := Tryd.prog) 47 4 .i64 Tryd.underlying47 hi021 A0_1 l0_1.length c0_1 x4_1 (of_decide_eq_true (by (with_reducible assumption))) q21 hroom21
           have hr21 := Kd.F_take (m := (x4_1 : Int).toNat) hC21 (by omega)
           have hy21 : y325.length = (x4_1 : Int).toNat := (by rw [Ny325.out, List.length_take]; omega)
           rw [← Ny325.out] at hr21
           rw [← hy21] at hcut21
           have HO329 := Aside0.mk (show Kd.V Kd.bool 4 _ w.heap.size _ (.slice A0_1 y325.length c0_1) y325 from Kd.V_mk (by omega) hr21)
           have HC329 := Aside0.mk (show y325.length ≤ c0_1 from by omega)
           clear hr21 hC21 hroom21 hi021 hsz21
           have KY21 := Aside0.mk hy21
           clear hy21
           replace q21 := eq_true q21
           refine start_ (n := 9) (S := fun w' => w'.cell? ⟨gb296, 0, none⟩ = some (.slice A0_0 l0_0.length c0_0) ∧ w'.cell? ⟨gb296, 1, none⟩ = some (.slice A0_1 l0_1.length c0_1)) (ds := []) #[false, false, false, false, false, false, false, false, false] (by kernel_rfl) rfl rfl ⟨(blk_cell BK296.out 0).trans rfl, (blk_cell BK296.out 1).trans rfl⟩ (fun hHeld => ?_); refine with_tabW spec_l1Less.tab11 spec_l1Less.bits11 (fun HT_ HW_ => ?_)
           generalize wr.drew = w20 at HO_297000 HO_297001 BK296 BK297 HB HO329 hHeld ⊢
           refine pure_ (i := 0) (N := some 44) (v := ?_) (a' := ?_) #[true, false, false, false, false, false, false, false, false] rfl rfl (any_of HT_.out (by kernel_rfl)) (fun _ _ _ h => h) (Or.inl ⟨by rfl, ?_⟩) ?_ ?_
           rotate_left
           ·intro w'
            go_simp
            with_reducible rfl
           rotate_left
           ·simp only [Act.put, List.setIfInBounds_toArray, List.set_cons_zero, List.set_cons_succ, i64_w, i32_w]
            rfl
           refine pure_ (i := 2) (N := some 46) (v := ?_) (a' := ?_) #[true, false, true, false, false, false, false, false, false] rfl rfl (any_of HT_.out (by kernel_rfl)) (fun _ _ _ h => h) (Or.inl ⟨by rfl, ?_⟩) ?_ ?_
           rotate_left
           ·intro w'
            go_simp
            with_reducible rfl
           rotate_left
           ·simp only [Act.put, List.setIfInBounds_toArray, List.set_cons_zero, List.set_cons_succ, i64_w, i32_w]
            rfl
           refine pure_ (i := 4) (N := some 48) (v := ?_) (a' := ?_) #[true, false, true, false, true, false, false, false, false] rfl rfl (any_of HT_.out (by kernel_rfl)) (fun _ _ _ h => h) (Or.inl ⟨by rfl, ?_⟩) ?_ ?_
           rotate_left
           ·intro w'
            go_simp
            with_reducible rfl
           rotate_left
           ·simp only [Act.put, List.setIfInBounds_toArray, List.set_cons_zero, List.set_cons_succ, i64_w, i32_w]
            rfl
           refine take_ (i := 1) (N := some 45) (v := ?_) (a' := ?_) #[true, true, true, false, true, false, false, false, false] rfl rfl (take_ofW HT_.out HW_.out (by kernel_rfl)) (fun _ _ _ h => h) (Or.inl ⟨by rfl, ?_⟩) hHeld ?_ ?_
           rotate_left
           ·rintro w' ⟨s0, s1⟩
            go_simp
            with_reducible rfl
           rotate_left
           ·simp only [Act.put, List.setIfInBounds_toArray, List.set_cons_zero, List.set_cons_succ, i64_w, i32_w]
            rfl
           refine take_ (i := 3) (N := some 47) (v := ?_) (a' := ?_) #[true, true, true, true, true, false, false, false, false] rfl rfl (take_ofW HT_.out HW_.out (by kernel_rfl)) (fun _ _ _ h => h) (Or.inl ⟨by rfl, ?_⟩) hHeld ?_ ?_
           rotate_left
           ·rintro w' ⟨s0, s1⟩
            go_simp
            with_reducible rfl
           rotate_left
           ·simp only [Act.put, List.setIfInBounds_toArray, List.set_cons_zero, List.set_cons_succ, i64_w, i32_w]
            rfl
           refine pure_ (i := 5) (N := some 49) (v := ?_) (a' := ?_) #[true, true, true, true, true, true, false, false, false] rfl rfl (any_of HT_.out (by kernel_rfl)) (fun _ _ _ h => h) (Or.inl ⟨by rfl, ?_⟩) ?_ ?_
           rotate_left
           ·intro w'
            go_simp
            with_reducible rfl
           rotate_left
           ·simp only [Act.put, List.setIfInBounds_toArray, List.set_cons_zero, List.set_cons_succ, i64_w, i32_w]
            rfl
           refine pure_ (i := 6) (N := some 50) (v := ?_) (a' := ?_) #[true, true, true, true, true, true, true, false, false] rfl rfl (any_of HT_.out (by kernel_rfl)) (fun _ _ _ h => h) (Or.inl ⟨by rfl, ?_⟩) ?_ ?_
           rotate_left
           ·intro w'
            go_simp
            with_reducible rfl
           rotate_left
           ·simp only [Act.put, List.setIfInBounds_toArray, List.set_cons_zero, List.set_cons_succ, i64_w, i32_w]
            rfl
           refine one_ (i := 7) (N := some 51) #[true, true, true, true, true, true, true, true, false] rfl rfl (one_of HT_.out (by kernel_rfl)) (by decide) (fun K hK => ?_)
           refine goes_ Tryd.func69 (by kernel_rfl) rfl #[.agg #[.slice A0_0 l0_0.length c0_0, .slice A0_1 y325.length c0_1]] (by rfl) rfl rfl (by (try simp only [List.map_toArray, List.map_cons, List.map_nil]); rfl) ?_
           with_reducible refine (ih k2 (by have := HK1.out; have := HK2.out; omega) (fun k_ => (((P0_0_ k_ ∨ P0_1_ k_) ∨ w.heap.size ≤ k_) ∧ (k_ ≠ gb296 ∧ k_ ≠ gb297))) _ _ l0_0 (fun k_ => (((P0_0_ k_ ∨ P0_1_ k_) ∨ w.heap.size ≤ k_) ∧ (k_ ≠ gb296 ∧ k_ ≠ gb297))) _ _ y325 t330 t333 _ ?side1 ?side2 A19.out).mono ?_
           (case side1 => exact HO_297000.out)
           (case side2 => exact HO329.out)
           rintro e w22 ⟨v331, v334, rfl, ho0, ho1, hb⟩
           refine ⟨_, rfl, ?_⟩
           replace HO_297000 := Aside0.mk (Kd.V_below HO_297000.out hb)
           replace HO_297001 := Aside0.mk (Kd.V_below HO_297001.out hb)
           replace HO329 := Aside0.mk (Kd.V_below HO329.out hb)
           have HO332 := Aside0.mk (Kd.V_lower (Kd.V_mono (ok' := fun k_ => ((P0_0_ k_ ∨ P0_1_ k_) ∨ w.heap.size ≤ k_) ∧ k_ ≠ gb296 ∧ k_ ≠ gb297) ho0 (fun k_ hk_ => ⟨Or.elim hk_ (fun hs_ => Or.elim hs_ (fun hs_ => hs_.1) (fun hs_ => hs_.1)) (fun hn_ => (.inr (Nat.le_trans (below_size HB.out) hn_))), Or.elim hk_ (fun hs_ => Or.elim hs_ (fun hs_ => hs_.2.1) (fun hs_ => hs_.2.1)) (fun hn_ => (Kd.freshB (g := gb296) (o := .cells #[.slice A0_0 l0_0.length c0_0, .slice A0_1 l0_1.length c0_1] 56 (0, 0)) BK296.out k_ hn_)), Or.elim hk_ (fun hs_ => Or.elim hs_ (fun hs_ => hs_.2.2) (fun hs_ => hs_.2.2)) (fun hn_ => (Kd.freshB (g := gb297) (o := .cells #[.slice none 0 0, .slice none 0 0] 56 (0, 0)) BK297.out k_ hn_))⟩)) (below_size HB.out))
           have HO335 := Aside0.mk (Kd.V_lower (Kd.V_mono (ok' := fun k_ => ((P0_0_ k_ ∨ P0_1_ k_) ∨ w.heap.size ≤ k_) ∧ k_ ≠ gb296 ∧ k_ ≠ gb297) ho1 (fun k_ hk_ => ⟨Or.elim hk_ (fun hs_ => Or.elim hs_ (fun hs_ => hs_.1) (fun hs_ => hs_.1)) (fun hn_ => (.inr (Nat.le_trans (below_size HB.out) hn_))), Or.elim hk_ (fun hs_ => Or.elim hs_ (fun hs_ => hs_.2.1) (fun hs_ => hs_.2.1)) (fun hn_ => (Kd.freshB (g := gb296) (o := .cells #[.slice A0_0 l0_0.length c0_0, .slice A0_1 l0_1.length c0_1] 56 (0, 0)) BK296.out k_ hn_)), Or.elim hk_ (fun hs_ => Or.elim hs_ (fun hs_ => hs_.2.2) (fun hs_ => hs_.2.2)) (fun hn_ => (Kd.freshB (g := gb297) (o := .cells #[.slice none 0 0, .slice none 0 0] 56 (0, 0)) BK297.out k_ hn_))⟩)) (below_size HB.out))
           replace BK296 := Aside0.mk (blk_below (g := gb296) (o := .cells #[.slice A0_0 l0_0.length c0_0, .slice A0_1 l0_1.length c0_1] 56 (0, 0)) BK296.out hb)
           replace BK297 := Aside0.mk (blk_below (g := gb297) (o := .cells #[.slice none 0 0, .slice none 0 0] 56 (0, 0)) BK297.out hb)
           replace HB := Aside0.mk (below_step HB.out hb)
           (try clear hb)
           (try clear ho0)
           (try clear ho1)
           obtain ⟨Ao23, co23, eo23⟩ := Kd.V_slice HO332.out
           (subst eo23)
           obtain ⟨Ao25, co25, eo25⟩ := Kd.V_slice HO335.out
           (subst eo25)
           refine hK.out _ _ ⟨(blk_cell BK296.out 0).trans rfl, (blk_cell BK296.out 1).trans rfl⟩ (fun hHeld => ?_)
           clear hK K
           refine norm_ (a' := ?_) ?_ ?_
           rotate_left
           ·show Act.put _ (some 51) _ = _
            simp only [Act.put, List.setIfInBounds_toArray, List.set_cons_zero, List.set_cons_succ, i64_w, i32_w]
            rfl
           refine one_ (i := 8) (N := none) #[true, true, true, true, true, true, true, true, true] rfl rfl (one_of HT_.out (by kernel_rfl)) (by decide) (fun K hK => ?_)
           have hs24 : w22.cell? ⟨gb297, 0, none⟩ = some (.slice none 0 0) := (blk_cell BK297.out 0).trans rfl
           have hfs24 := blk_frozen BK297.out 0
           have hns24_0 := NB296_297.out
           have hms24_0 := NB297_296.out
           have hs26 : w22.cell? ⟨gb297, 1, none⟩ = some (.slice none 0 0) := (blk_cell BK297.out 1).trans rfl
           have hfs26 := blk_frozen BK297.out 1
           have hns26_0 := NB296_297.out
           have hms26_0 := NB297_296.out
           refine skip_ (w1 := ?_) (by rfl) rfl ?_ ?_
           rotate_left
           ·go_simp
            rfl
           refine hK.out _ _ ⟨((cell_far (p := ⟨gb297, _, none⟩) NB296_297.out _).trans (((cell_far (p := ⟨gb297, _, none⟩) NB296_297.out _).trans (hHeld.1)))), ((cell_far (p := ⟨gb297, _, none⟩) NB296_297.out _).trans (((cell_far (p := ⟨gb297, _, none⟩) NB296_297.out _).trans (hHeld.2))))⟩ (fun hHeld => ?_)
           clear hK K
           refine done_ (done_of HT_.out (by kernel_rfl)) ?_
           try go_wp2
           refine bodyPost_ret (results_cell_row rfl _ _ gb297 56 #[.slice Ao23 t330.length co23, .slice Ao25 t333.length co25] (0, 0) _ rfl (by refine blk_put (cs := #[.slice Ao23 t330.length co23, .slice none 0 0]) ?_ 1 _ rfl; refine blk_put (cs := #[.slice none 0 0, .slice none 0 0]) ?_ 0 _ rfl; exact BK297.out) Tryd.underlying56 rfl (by kernel_rfl)) rfl ?_
           exact ⟨_, _, by first | rfl | (simp [*, errW_none, errW_some] <;> rfl), by exact Kd.V_mono (Kd.V_far (p := ⟨gb297, 1, none⟩) (Kd.V_far (p := ⟨gb297, 0, none⟩) (Kd.V_mono HO332.out (fun k_ hk => (⟨hk, hk.2.2⟩ : _ ∧ k_ ≠ gb297))) (fun _ hk => hk.2) (.slice Ao23 t330.length co23)) (fun _ hk => hk.2) (.slice Ao25 t333.length co25)) (fun _ hk => hk.1.1), by exact Kd.V_mono (Kd.V_far (p := ⟨gb297, 1, none⟩) (Kd.V_far (p := ⟨gb297, 0, none⟩) (Kd.V_mono HO335.out (fun k_ hk => (⟨hk, hk.2.2⟩ : _ ∧ k_ ≠ gb297))) (fun _ hk => hk.2) (.slice Ao23 t330.length co23)) (fun _ hk => hk.2) (.slice Ao25 t333.length co25)) (fun _ hk => hk.1.1), by repeat (first | (with_reducible first | exact HB.out | refine below_set ?_ GE297.out))⟩
          ·rw [if_neg c18] at H
           exact absurd H (by simp)
         ·rw [if_neg c17] at H
          exact absurd H (by simp)
        ·replace c16 := Bool.eq_false_iff.mpr c16
         subst c16
         replace H : (spec_l1Less.l0 k2 (l0_1.length : Int) (wrap64 (x4_1 + 1)) l0_0 l0_1) = some (r1, r2) := by rw [if_neg (show ¬ (false = true) by decide)] at H; exact H
         have H' := Aside0.mk H
         clear H
         go_wp2
         go_roundg k2
         case measure => have := HK1.out; have := HK2.out; omega
         case rel => exact ⟨(wrap64 (x4_1 + 1)), (by rfl), H', ⟨by have := HK1.out; have := HK2.out; omega⟩, ⟨by exact HO_297000.out⟩, ⟨by exact HO_297001.out⟩, ⟨by exact BK296.out⟩, ⟨by exact BK297.out⟩, ⟨HB.out⟩⟩
   ·rw [if_neg c6] at H
    have c6b0 : decide (x4_1 < (l0_1.length : Int)) = false := decide_eq_false c6
    clear c6
    by_cases c27 : (l0_0.length : Int) > 0
    ·rw [if_pos c27] at H
     have c27b0 : decide (0 < (l0_0.length : Int)) = true := decide_eq_true c27
     have c27b1 : decide (0 < l0_0.length) = true := decide_eq_true (by omega)
     clear c27
     obtain ⟨ji28, hji28⟩ : ∃ j_ : Int, (wrap64 ((l0_0.length : Int) - 1)) = j_ := ⟨_, rfl⟩
     replace H : (if 0 ≤ (ji28) then (if (ji28) < (l0_0.length : Int) then (if 0 ≤ (wrap64 ((l0_1.length : Int) - 1)) then (if (wrap64 ((l0_1.length : Int) - 1)) < (l0_1.length : Int) then (if ((rdOf false l0_0 (ji28)) == (rdOf false l0_1 (wrap64 ((l0_1.length : Int) - 1)))) = true then ((some (([rdOf false l0_1 (wrap64 ((l0_1.length : Int) - 1))] : List Bool) : List Bool)).bind fun y301 => (if (wrap64 ((l0_1.length : Int) - 1)) ≤ (l0_1.length : Int) then ((some (l0_1.take ((wrap64 ((l0_1.length : Int) - 1)) : Int).toNat : List Bool)).bind fun y304 => (if y301.length + y304.length < 140737488355328 then (if (ji28) ≤ (l0_0.length : Int) then ((spec_l1Less.f k1 (l0_0.take ((ji28) : Int).toNat) (y301 ++ y304)).bind fun bt317 => (some (bt317.1, bt317.2))) else (none)) else (none))) else (none))) else (some (l0_0, l0_1))) else (none)) else (none)) else (none)) else (none)) = some (r1, r2) := by first | (rw [hji28] at H; exact H)
     have hji28w : (IntKind.i64.wrap ((l0_0.length : Int) - 1)) = ji28 := (i64_w _).trans hji28
     by_cases c29 : 0 ≤ (ji28)
     ·rw [if_pos c29] at H
      have c29b0 : decide (0 ≤ (ji28)) = true := decide_eq_true c29
      clear c29
      by_cases c30 : (ji28) < (l0_0.length : Int)
      ·rw [if_pos c30] at H
       have c30b0 : decide ((ji28) < (l0_0.length : Int)) = true := decide_eq_true c30
       clear c30
       obtain ⟨ji31, hji31⟩ : ∃ j_ : Int, (wrap64 ((l0_1.length : Int) - 1)) = j_ := ⟨_, rfl⟩
       replace H : (if 0 ≤ (ji31) then (if (ji31) < (l0_1.length : Int) then (if ((rdOf false l0_0 (ji28)) == (rdOf false l0_1 (ji31))) = true then ((some (([rdOf false l0_1 (ji31)] : List Bool) : List Bool)).bind fun y301 => (if (ji31) ≤ (l0_1.length : Int) then ((some (l0_1.take ((ji31) : Int).toNat : List Bool)).bind fun y304 => (if y301.length + y304.length < 140737488355328 then (if (ji28) ≤ (l0_0.length : Int) then ((spec_l1Less.f k1 (l0_0.take ((ji28) : Int).toNat) (y301 ++ y304)).bind fun bt317 => (some (bt317.1, bt317.2))) else (none)) else (none))) else (none))) else (some (l0_0, l0_1))) else (none)) else (none)) = some (r1, r2) := by first | (rw [hji31] at H; exact H)
       have hji31w : (IntKind.i64.wrap ((l0_1.length : Int) - 1)) = ji31 := (i64_w _).trans hji31
       by_cases c32 : 0 ≤ (ji31)
       ·rw [if_pos c32] at H
        have c32b0 : decide (0 ≤ (ji31)) = true := decide_eq_true c32
        clear c32
        by_cases c33 : (ji31) < (l0_1.length : Int)
        ·rw [if_pos c33] at H
         have c33b0 : decide ((ji31) < (l0_1.length : Int)) = true := decide_eq_true c33
         clear c33
         by_cases c34 : ((rdOf false l0_0 (ji28)) == (rdOf false l0_1 (ji31))) = true
         ·rw [if_pos c34] at H
          have c34b0 : ((rdOf false l0_0 (ji28)) == (rdOf false l0_1 (ji31))) = true := c34
          (try (have c34b1 : decide ((rdOf false l0_0 (ji28)) = (rdOf false l0_1 (ji31))) = true := by simpa using c34))
          (try (have c34b2 : ((rdOf false l0_0 (ji28)) == (rdOf false l0_1 (ji31))) = true := by simpa using c34))
          clear c34
          obtain ⟨y301, hy301⟩ : ∃ y_ : List Bool, y_ = (([rdOf false l0_1 (ji31)] : List Bool)) := ⟨_, rfl⟩
          replace H : (if (ji31) ≤ (l0_1.length : Int) then ((some (l0_1.take ((ji31) : Int).toNat : List Bool)).bind fun y304 => (if y301.length + y304.length < 140737488355328 then (if (ji28) ≤ (l0_0.length : Int) then ((spec_l1Less.f k1 (l0_0.take ((ji28) : Int).toNat) (y301 ++ y304)).bind fun bt317 => (some (bt317.1, bt317.2))) else (none)) else (none))) else (none)) = some (r1, r2) := by first | (have H2_ := (Option.bind_some _ _).symm.trans H; rw [hy301]; with_reducible exact H2_)
          have Ny301 := Aside0.mk hy301
          clear hy301
          have c35b0 := eq_true (of_decide_eq_true (by (with_reducible assumption)) : 0 ≤ (ji31))
          by_cases c36 : (ji31) ≤ (l0_1.length : Int)
          ·rw [if_pos c36] at H
           have c36b0 := eq_true c36
           have c36b1 : decide ((ji31) ≤ (l0_1.length : Int)) = true := decide_eq_true c36
           clear c36
           obtain ⟨y304, hy304⟩ : ∃ y_ : List Bool, y_ = (l0_1.take ((ji31) : Int).toNat) := ⟨_, rfl⟩
           replace H : (if y301.length + y304.length < 140737488355328 then (if (ji28) ≤ (l0_0.length : Int) then ((spec_l1Less.f k1 (l0_0.take ((ji28) : Int).toNat) (y301 ++ y304)).bind fun bt317 => (some (bt317.1, bt317.2))) else (none)) else (none)) = some (r1, r2) := by first | (have H2_ := (Option.bind_some _ _).symm.trans H; rw [hy304]; with_reducible exact H2_)
           have Ny304 := Aside0.mk hy304
           clear hy304
           by_cases c37 : y301.length + y304.length < 140737488355328
           ·rw [if_pos c37] at H
            have LMc37 := Aside0.mk c37
            clear c37
            obtain ⟨y309, hy309⟩ : ∃ y_ : List Bool, y_ = (y301 ++ y304) := ⟨_, rfl⟩
            replace H : (if (ji28) ≤ (l0_0.length : Int) then ((spec_l1Less.f k1 (l0_0.take ((ji28) : Int).toNat) y309).bind fun bt317 => (some (bt317.1, bt317.2))) else (none)) = some (r1, r2) := by first | (rw [hy309]; with_reducible exact H)
            have Ny309 := Aside0.mk hy309
            clear hy309
            have c38b0 := eq_true (of_decide_eq_true (by (with_reducible assumption)) : 0 ≤ (ji28))
            by_cases c39 : (ji28) ≤ (l0_0.length : Int)
            ·rw [if_pos c39] at H
             have c39b0 := eq_true c39
             have c39b1 : decide ((ji28) ≤ (l0_0.length : Int)) = true := decide_eq_true c39
             clear c39
             obtain ⟨y312, hy312⟩ : ∃ y_ : List Bool, y_ = (l0_0.take ((ji28) : Int).toNat) := ⟨_, rfl⟩
             replace H : ((spec_l1Less.f k1 y312 y309).bind fun bt317 => (some (bt317.1, bt317.2))) = some (r1, r2) := by first | (rw [hy312]; with_reducible exact H)
             have Ny312 := Aside0.mk hy312
             clear hy312
             replace H := Option.bind_eq_some_iff.mp H
             obtain ⟨⟨t317, t320⟩, A400, H⟩ := H
             replace H : (some (t317, t320)) = some (r1, r2) := H
             have A40 := Aside0.mk A400
             clear A400
             simp only [Option.some.injEq, Prod.mk.injEq] at H
             obtain ⟨rfl, rfl⟩ := H
             have hnb41 := NB296_297.out
             have hnc41 := NB297_296.out
             have hcz42_0 : wr.cell? ⟨gb296, 0, none⟩ = some (.slice A0_0 l0_0.length c0_0) := (blk_cell BK296.out 0).trans rfl
             have hcz42_1 : wr.cell? ⟨gb296, 1, none⟩ = some (.slice A0_1 l0_1.length c0_1) := (blk_cell BK296.out 1).trans rfl
             have hfz42_0 := blk_frozen BK296.out 0
             have hfz42_1 := blk_frozen BK296.out 1
             try go_wp2
             replace HO_297000 := Aside0.mk (Kd.V_drew HO_297000.out)
             replace HO_297001 := Aside0.mk (Kd.V_drew HO_297001.out)
             replace BK296 := Aside0.mk (blk_drew BK296.out)
             replace BK297 := Aside0.mk (blk_drew BK297.out)
             replace HB := Aside0.mk (below_drew1 HB.out)
             have p298 : 0 ≤ ((ji28) : Int) := of_decide_eq_true (by (with_reducible assumption))
             have q298 : (ji28) < (l0_0.length : Int) := of_decide_eq_true (by (with_reducible assumption))
             obtain ⟨ad298, e298, hx298_0⟩ := Kd.at_bool (Kd.V_reads' HO_297000.out).2.2 (ji28) p298 q298
             cases e298
             replace p298 := eq_true p298
             replace q298 := eq_true q298
             have p299 : 0 ≤ ((ji31) : Int) := of_decide_eq_true (by (with_reducible assumption))
             have q299 : (ji31) < (l0_1.length : Int) := of_decide_eq_true (by (with_reducible assumption))
             obtain ⟨ad299, e299, hx299_0⟩ := Kd.at_bool (Kd.V_reads' HO_297001.out).2.2 (ji31) p299 q299
             cases e299
             replace p299 := eq_true p299
             replace q299 := eq_true q299
             refine start_ (n := 17) (S := fun w' => w'.cell? ⟨gb296, 0, none⟩ = some (.slice (some ad298) l0_0.length c0_0) ∧ w'.cell? ⟨gb296, 1, none⟩ = some (.slice (some ad299) l0_1.length c0_1) ∧ w'.cell? (ad298.add ((ji28)).toNat) = some (.bool (rdOf false l0_0 (ji28))) ∧ w'.cell? (ad299.add ((ji31)).toNat) = some (.bool (rdOf false l0_1 (ji31)))) (ds := []) #[false, false, false, false, false, false, false, false, false, false, false, false, false, false, false, false, false] (by kernel_rfl) rfl rfl ⟨(blk_cell BK296.out 0).trans rfl, (blk_cell BK296.out 1).trans rfl, hx298_0, hx299_0⟩ (fun hHeld => ?_); refine with_tabW spec_l1Less.tab13 spec_l1Less.bits13 (fun HT_ HW_ => ?_)
             generalize wr.drew = w43 at HO_297000 HO_297001 BK296 BK297 HB hx298_0 hx299_0 hHeld ⊢
             refine pure_ (i := 0) (N := some 55) (v := ?_) (a' := ?_) #[true, false, false, false, false, false, false, false, false, false, false, false, false, false, false, false, false] rfl rfl (any_of HT_.out (by kernel_rfl)) (fun _ _ _ h => h) (Or.inl ⟨by rfl, ?_⟩) ?_ ?_
             rotate_left
             ·intro w'
              go_simp
              with_reducible rfl
             rotate_left
             ·simp only [Act.put, List.setIfInBounds_toArray, List.set_cons_zero, List.set_cons_succ, i64_w, i32_w]
              rfl
             refine pure_ (i := 1) (N := some 56) (v := ?_) (a' := ?_) #[true, true, false, false, false, false, false, false, false, false, false, false, false, false, false, false, false] rfl rfl (any_of HT_.out (by kernel_rfl)) (fun _ _ _ h => h) (Or.inl ⟨by rfl, ?_⟩) ?_ ?_
             rotate_left
             ·intro w'
              go_simp
              with_reducible rfl
             rotate_left
             ·simp only [Act.put, List.setIfInBounds_toArray, List.set_cons_zero, List.set_cons_succ, i64_w, i32_w]
              rfl
             refine pure_ (i := 2) (N := some 57) (v := ?_) (a' := ?_) #[true, true, true, false, false, false, false, false, false, false, false, false, false, false, false, false, false] rfl rfl (any_of HT_.out (by kernel_rfl)) (fun _ _ _ h => h) (Or.inl ⟨by rfl, ?_⟩) ?_ ?_
             rotate_left
             ·intro w'
              go_simp
              with_reducible rfl
             rotate_left
             ·simp only [Act.put, List.setIfInBounds_toArray, List.set_cons_zero, List.set_cons_succ, i64_w, i32_w]
              rfl
             refine pure_ (i := 3) (N := some 58) (v := ?_) (a' := ?_) #[true, true, true, true, false, false, false, false, false, false, false, false, false, false, false, false, false] rfl rfl (any_of HT_.out (by kernel_rfl)) (fun _ _ _ h => h) (Or.inl ⟨by rfl, ?_⟩) ?_ ?_
             rotate_left
             ·intro w'
              go_simp
              with_reducible rfl
             rotate_left
             ·simp only [Act.put, List.setIfInBounds_toArray, List.set_cons_zero, List.set_cons_succ, i64_w, i32_w]
              rfl
             refine pure_ (i := 5) (N := some 60) (v := ?_) (a' := ?_) #[true, true, true, true, false, true, false, false, false, false, false, false, false, false, false, false, false] rfl rfl (any_of HT_.out (by kernel_rfl)) (fun _ _ _ h => h) (Or.inl ⟨by rfl, ?_⟩) ?_ ?_
             rotate_left
             ·intro w'
              go_simp
              with_reducible rfl
             rotate_left
             ·simp only [Act.put, List.setIfInBounds_toArray, List.set_cons_zero, List.set_cons_succ, i64_w, i32_w]
              rfl
             refine pure_ (i := 6) (N := some 61) (v := ?_) (a' := ?_) #[true, true, true, true, false, true, true, false, false, false, false, false, false, false, false, false, false] rfl rfl (any_of HT_.out (by kernel_rfl)) (fun _ _ _ h => h) (Or.inl ⟨by rfl, ?_⟩) ?_ ?_
             rotate_left
             ·intro w'
              go_simp
              with_reducible rfl
             rotate_left
             ·simp only [Act.put, List.setIfInBounds_toArray, List.set_cons_zero, List.set_cons_succ, i64_w, i32_w]
              rfl
             refine pure_ (i := 9) (N := some 64) (v := ?_) (a' := ?_) #[true, true, true, true, false, true, true, false, false, true, false, false, false, false, false, false, false] rfl rfl (any_of HT_.out (by kernel_rfl)) (fun _ _ _ h => h) (Or.inl ⟨by rfl, ?_⟩) ?_ ?_
             rotate_left
             ·intro w'
              go_simp
              with_reducible rfl
             rotate_left
             ·simp only [Act.put, List.setIfInBounds_toArray, List.set_cons_zero, List.set_cons_succ, i64_w, i32_w]
              rfl
             refine pure_ (i := 11) (N := some 66) (v := ?_) (a' := ?_) #[true, true, true, true, false, true, true, false, false, true, false, true, false, false, false, false, false] rfl rfl (any_of HT_.out (by kernel_rfl)) (fun _ _ _ h => h) (Or.inl ⟨by rfl, ?_⟩) ?_ ?_
             rotate_left
             ·intro w'
              go_simp
              with_reducible rfl
             rotate_left
             ·simp only [Act.put, List.setIfInBounds_toArray, List.set_cons_zero, List.set_cons_succ, i64_w, i32_w]
              rfl
             refine pure_ (i := 12) (N := some 67) (v := ?_) (a' := ?_) #[true, true, true, true, false, true, true, false, false, true, false, true, true, false, false, false, false] rfl rfl (any_of HT_.out (by kernel_rfl)) (fun _ _ _ h => h) (Or.inl ⟨by rfl, ?_⟩) ?_ ?_
             rotate_left
             ·intro w'
              go_simp
              with_reducible rfl
             rotate_left
             ·simp only [Act.put, List.setIfInBounds_toArray, List.set_cons_zero, List.set_cons_succ, i64_w, i32_w]
              rfl
             refine take_ (i := 4) (N := some 59) (v := ?_) (a' := ?_) #[true, true, true, true, true, true, true, false, false, true, false, true, true, false, false, false, false] rfl rfl (take_ofW HT_.out HW_.out (by kernel_rfl)) (fun _ _ _ h => h) (Or.inl ⟨by rfl, ?_⟩) hHeld ?_ ?_
             rotate_left
             ·rintro w' ⟨s0, s1, s2, s3⟩
              go_simp
              with_reducible rfl
             rotate_left
             ·simp only [Act.put, List.setIfInBounds_toArray, List.set_cons_zero, List.set_cons_succ, i64_w, i32_w]
              rfl
             refine pure_ (i := 7) (N := some 62) (v := ?_) (a' := ?_) #[true, true, true, true, true, true, true, true, false, true, false, true, true, false, false, false, false] rfl rfl (any_of HT_.out (by kernel_rfl)) (fun _ _ _ h => h) (Or.inl ⟨by rfl, ?_⟩) ?_ ?_
             rotate_left
             ·intro w'
              go_simp
              with_reducible rfl
             rotate_left
             ·simp only [Act.put, List.setIfInBounds_toArray, List.set_cons_zero, List.set_cons_succ, i64_w, i32_w]
              rfl
             refine take_ (i := 8) (N := some 63) (v := ?_) (a' := ?_) #[true, true, true, true, true, true, true, true, true, true, false, true, true, false, false, false, false] rfl rfl (take_ofW HT_.out HW_.out (by kernel_rfl)) (fun _ _ _ h => h) (Or.inl ⟨by rfl, ?_⟩) hHeld ?_ ?_
             rotate_left
             ·rintro w' ⟨s0, s1, s2, s3⟩
              go_simp
              with_reducible rfl
             rotate_left
             ·simp only [Act.put, List.setIfInBounds_toArray, List.set_cons_zero, List.set_cons_succ, i64_w, i32_w]
              rfl
             refine take_ (i := 10) (N := some 65) (v := ?_) (a' := ?_) #[true, true, true, true, true, true, true, true, true, true, true, true, true, false, false, false, false] rfl rfl (take_ofW HT_.out HW_.out (by kernel_rfl)) (fun _ _ _ h => h) (Or.inl ⟨by rfl, ?_⟩) hHeld ?_ ?_
             rotate_left
             ·rintro w' ⟨s0, s1, s2, s3⟩
              go_simp
              with_reducible rfl
             rotate_left
             ·simp only [Act.put, List.setIfInBounds_toArray, List.set_cons_zero, List.set_cons_succ, i64_w, i32_w]
              rfl
             refine pure_ (i := 13) (N := some 68) (v := ?_) (a' := ?_) #[true, true, true, true, true, true, true, true, true, true, true, true, true, true, false, false, false] rfl rfl (any_of HT_.out (by kernel_rfl)) (fun _ _ _ h => h) (Or.inl ⟨by rfl, ?_⟩) ?_ ?_
             rotate_left
             ·intro w'
              go_simp
              with_reducible rfl
             rotate_left
             ·simp only [Act.put, List.setIfInBounds_toArray, List.set_cons_zero, List.set_cons_succ, i64_w, i32_w]
              rfl
             refine take_ (i := 14) (N := some 69) (v := ?_) (a' := ?_) #[true, true, true, true, true, true, true, true, true, true, true, true, true, true, true, false, false] rfl rfl (take_ofW HT_.out HW_.out (by kernel_rfl)) (fun _ _ _ h => h) (Or.inl ⟨by rfl, ?_⟩) hHeld ?_ ?_
             rotate_left
             ·rintro w' ⟨s0, s1, s2, s3⟩
              go_simp
              with_reducible rfl
             rotate_left
             ·simp only [Act.put, List.setIfInBounds_toArray, List.set_cons_zero, List.set_cons_succ, i64_w, i32_w]
              rfl
             refine pure_ (i := 15) (N := some 70) (v := ?_) (a' := ?_) #[true, true, true, true, true, true, true, true, true, true, true, true, true, true, true, true, false] rfl rfl (any_of HT_.out (by kernel_rfl)) (fun _ _ _ h => h) (Or.inl ⟨by rfl, ?_⟩) ?_ ?_
             rotate_left
             ·intro w'
              go_simp
              with_reducible rfl
             rotate_left
             ·simp only [Act.put, List.setIfInBounds_toArray, List.set_cons_zero, List.set_cons_succ, i64_w, i32_w]
              rfl
             refine pure_ (i := 16) (N := some 71) (v := ?_) (a' := ?_) #[true, true, true, true, true, true, true, true, true, true, true, true, true, true, true, true, true] rfl rfl (any_of HT_.out (by kernel_rfl)) (fun _ _ _ h => h) (Or.inl ⟨by rfl, ?_⟩) ?_ ?_
             rotate_left
             ·intro w'
              go_simp
              with_reducible rfl
             rotate_left
             ·simp only [Act.put, List.setIfInBounds_toArray, List.set_cons_zero, List.set_cons_succ, i64_w, i32_w]
              rfl
             refine done_ (done_of HT_.out (by kernel_rfl)) ?_
             try go_wp2
             replace HO_297000 := Aside0.mk (Kd.V_drew HO_297000.out)
             replace HO_297001 := Aside0.mk (Kd.V_drew HO_297001.out)
             replace BK296 := Aside0.mk (blk_drew BK296.out)
             replace BK297 := Aside0.mk (blk_drew BK297.out)
             replace HB := Aside0.mk (below_drew1 HB.out)
             have p300 : 0 ≤ ((ji31) : Int) := of_decide_eq_true (by (with_reducible assumption))
             have q300 : (ji31) < (l0_1.length : Int) := of_decide_eq_true (by (with_reducible assumption))
             obtain ⟨ad300, e300, hx300_0⟩ := Kd.at_bool (Kd.V_reads' HO_297001.out).2.2 (ji31) p300 q300
             obtain rfl : ad299 = ad300 := (by injection e300)
             replace p300 := eq_true p300
             replace q300 := eq_true q300
             have q45 : ((ji31) : Int) ≤ ((l0_1.length : Int) : Int) := of_decide_eq_true (by (with_reducible assumption))
             obtain ⟨i045, hi045, _, hsz45, _⟩ := info_parts info4
             have hroom45 : l0_1.length ≤ c0_1 := (Kd.V_reads' HO_297001.out).2.1
             have hC45 : Kd.F Kd.bool _ _ (some ad299) l0_1.length l0_1 := (Kd.V_at (base := w.heap.size) HO_297001.out).2.2
             have hcut45 := cut_to (P := Tryd.prog) 47 4 .i64 Tryd.underlying47 hi045 (some ad299) l0_1.length c0_1 (ji31) (of_decide_eq_true (by (with_reducible assumption))) q45 hroom45
             have hr45 := Kd.F_take (m := ((ji31) : Int).toNat) hC45 (by omega)
             have hy45 : y304.length = ((ji31) : Int).toNat := (by rw [Ny304.out, List.length_take]; omega)
             rw [← Ny304.out] at hr45
             rw [← hy45] at hcut45
             have HO308 := Aside0.mk (show Kd.V Kd.bool 4 _ w.heap.size _ (.slice (some ad299) y304.length c0_1) y304 from Kd.V_mk (by omega) hr45)
             have HC308 := Aside0.mk (show y304.length ≤ c0_1 from by omega)
             clear hr45 hC45 hroom45 hi045 hsz45
             have KY45 := Aside0.mk hy45
             clear hy45
             replace q45 := eq_true q45
             refine start_ (n := 14) (S := fun w' => w'.cell? ⟨gb296, 0, none⟩ = some (.slice (some ad298) l0_0.length c0_0) ∧ w'.cell? ⟨gb296, 1, none⟩ = some (.slice (some ad299) l0_1.length c0_1) ∧ w'.cell? (ad299.add ((ji31)).toNat) = some (.bool (rdOf false l0_1 (ji31)))) (ds := [12]) #[false, false, false, false, false, false, false, false, false, false, false, false, false, false] (by kernel_rfl) rfl rfl ⟨(blk_cell BK296.out 0).trans rfl, (blk_cell BK296.out 1).trans rfl, hx300_0⟩ (fun hHeld => ?_); refine with_tabW spec_l1Less.tab14 spec_l1Less.bits14 (fun HT_ HW_ => ?_)
             generalize w43.drew = w44 at HO_297000 HO_297001 BK296 BK297 HB HO308 hx300_0 hHeld ⊢
             refine pure_ (i := 0) (N := some 72) (v := ?_) (a' := ?_) #[true, false, false, false, false, false, false, false, false, false, false, false, false, false] rfl rfl (any_of HT_.out (by kernel_rfl)) (fun _ _ _ h => h) (Or.inl ⟨by rfl, ?_⟩) ?_ ?_
             rotate_left
             ·intro w'
              go_simp
              with_reducible rfl
             rotate_left
             ·simp only [Act.put, List.setIfInBounds_toArray, List.set_cons_zero, List.set_cons_succ, i64_w, i32_w]
              rfl
             refine pure_ (i := 2) (N := some 74) (v := ?_) (a' := ?_) #[true, false, true, false, false, false, false, false, false, false, false, false, false, false] rfl rfl (any_of HT_.out (by kernel_rfl)) (fun _ _ _ h => h) (Or.inl ⟨by rfl, ?_⟩) ?_ ?_
             rotate_left
             ·intro w'
              go_simp
              with_reducible rfl
             rotate_left
             ·simp only [Act.put, List.setIfInBounds_toArray, List.set_cons_zero, List.set_cons_succ, i64_w, i32_w]
              rfl
             refine pure_ (i := 3) (N := some 75) (v := ?_) (a' := ?_) #[true, false, true, true, false, false, false, false, false, false, false, false, false, false] rfl rfl (any_of HT_.out (by kernel_rfl)) (fun _ _ _ h => h) (Or.inl ⟨by rfl, ?_⟩) ?_ ?_
             rotate_left
             ·intro w'
              go_simp
              with_reducible rfl
             rotate_left
             ·simp only [Act.put, List.setIfInBounds_toArray, List.set_cons_zero, List.set_cons_succ, i64_w, i32_w]
              rfl
             refine pure_ (i := 7) (N := some 79) (v := ?_) (a' := ?_) #[true, false, true, true, false, false, false, true, false, false, false, false, false, false] rfl rfl (any_of HT_.out (by kernel_rfl)) (fun _ _ _ h => h) (Or.inl ⟨by rfl, ?_⟩) ?_ ?_
             rotate_left
             ·intro w'
              go_simp
              with_reducible rfl
             rotate_left
             ·simp only [Act.put, List.setIfInBounds_toArray, List.set_cons_zero, List.set_cons_succ, i64_w, i32_w]
              rfl
             refine pure_ (i := 9) (N := some 81) (v := ?_) (a' := ?_) #[true, false, true, true, false, false, false, true, false, true, false, false, false, false] rfl rfl (any_of HT_.out (by kernel_rfl)) (fun _ _ _ h => h) (Or.inl ⟨by rfl, ?_⟩) ?_ ?_
             rotate_left
             ·intro w'
              go_simp
              with_reducible rfl
             rotate_left
             ·simp only [Act.put, List.setIfInBounds_toArray, List.set_cons_zero, List.set_cons_succ, i64_w, i32_w]
              rfl
             refine pure_ (i := 10) (N := some 82) (v := ?_) (a' := ?_) #[true, false, true, true, false, false, false, true, false, true, true, false, false, false] rfl rfl (any_of HT_.out (by kernel_rfl)) (fun _ _ _ h => h) (Or.inl ⟨by rfl, ?_⟩) ?_ ?_
             rotate_left
             ·intro w'
              go_simp
              with_reducible rfl
             rotate_left
             ·simp only [Act.put, List.setIfInBounds_toArray, List.set_cons_zero, List.set_cons_succ, i64_w, i32_w]
              rfl
             refine take_ (i := 1) (N := some 73) (v := ?_) (a' := ?_) #[true, true, true, true, false, false, false, true, false, true, true, false, false, false] rfl rfl (take_ofW HT_.out HW_.out (by kernel_rfl)) (fun _ _ _ h => h) (Or.inl ⟨by rfl, ?_⟩) hHeld ?_ ?_
             rotate_left
             ·rintro w' ⟨s0, s1, s2⟩
              go_simp
              with_reducible rfl
             rotate_left
             ·simp only [Act.put, List.setIfInBounds_toArray, List.set_cons_zero, List.set_cons_succ, i64_w, i32_w]
              rfl
             refine pure_ (i := 4) (N := some 76) (v := ?_) (a' := ?_) #[true, true, true, true, true, false, false, true, false, true, true, false, false, false] rfl rfl (any_of HT_.out (by kernel_rfl)) (fun _ _ _ h => h) (Or.inl ⟨by rfl, ?_⟩) ?_ ?_
             rotate_left
             ·intro w'
              go_simp
              with_reducible rfl
             rotate_left
             ·simp only [Act.put, List.setIfInBounds_toArray, List.set_cons_zero, List.set_cons_succ, i64_w, i32_w]
              rfl
             refine take_ (i := 5) (N := some 77) (v := ?_) (a' := ?_) #[true, true, true, true, true, true, false, true, false, true, true, false, false, false] rfl rfl (take_ofW HT_.out HW_.out (by kernel_rfl)) (fun _ _ _ h => h) (Or.inl ⟨by rfl, ?_⟩) hHeld ?_ ?_
             rotate_left
             ·rintro w' ⟨s0, s1, s2⟩
              go_simp
              with_reducible rfl
             rotate_left
             ·simp only [Act.put, List.setIfInBounds_toArray, List.set_cons_zero, List.set_cons_succ, i64_w, i32_w]
              rfl
             refine take_ (i := 8) (N := some 80) (v := ?_) (a' := ?_) #[true, true, true, true, true, true, false, true, true, true, true, false, false, false] rfl rfl (take_ofW HT_.out HW_.out (by kernel_rfl)) (fun _ _ _ h => h) (Or.inl ⟨by rfl, ?_⟩) hHeld ?_ ?_
             rotate_left
             ·rintro w' ⟨s0, s1, s2⟩
              go_simp
              with_reducible rfl
             rotate_left
             ·simp only [Act.put, List.setIfInBounds_toArray, List.set_cons_zero, List.set_cons_succ, i64_w, i32_w]
              rfl
             refine pure_ (i := 11) (N := some 83) (v := ?_) (a' := ?_) #[true, true, true, true, true, true, false, true, true, true, true, true, false, false] rfl rfl (any_of HT_.out (by kernel_rfl)) (fun _ _ _ h => h) (Or.inl ⟨by rfl, ?_⟩) ?_ ?_
             rotate_left
             ·intro w'
              go_simp
              with_reducible rfl
             rotate_left
             ·simp only [Act.put, List.setIfInBounds_toArray, List.set_cons_zero, List.set_cons_succ, i64_w, i32_w]
              rfl
             refine one_ (i := 6) (N := some 78) #[true, true, true, true, true, true, true, true, true, true, true, true, false, false] rfl rfl (one_of HT_.out (by kernel_rfl)) (by decide) (fun K hK => ?_)
             refine Kd.R_lit_step Kd.bool _ 4 ?hg (N := 78) ?hd (xs := ([rdOf false l0_1 (ji31)] : List Bool)) (inner := [.bool (rdOf false l0_1 (ji31))]) (ok := fun _ => True) (okp := fun _ => True) ?hr ?hp (fun _ hk => hk) trivial (Below.refl _ _) (Nat.le_refl _) (by simp) ?_; (case hd => rfl); (case hg => rfl); (case hr => first | (go_simp; done)); (case hp => exact (Reps.one (show Kd.M Kd.bool _ _ _ (rdOf false l0_1 (ji31)) [.bool (rdOf false l0_1 (ji31))] from rfl) (Reps.none _ _)))
             intro v302 w46 ho47 hb hg_ hnew_
             have HS2_ := (hb.cell (World.block_lt_of_cell? _ _ (hHeld.2.2))).trans (hHeld.2.2)
             clear hg_ hnew_
             (rw [← Ny301.out] at ho47)
             replace HO_297000 := Aside0.mk (Kd.V_elder' HO_297000.out (Kd.R_base ho47) hb)
             replace HO_297001 := Aside0.mk (Kd.V_elder' HO_297001.out (Kd.R_base ho47) hb)
             replace HO308 := Aside0.mk (Kd.V_elder' HO308.out (Kd.R_base ho47) hb)
             have HO303 := Aside0.mk (Kd.R_lower (Kd.R_newM (M := fun k_ => (w.heap.size ≤ k_)) ho47 (below_size HB.out) (fun k_ h_ => h_)) (below_size HB.out))
             replace BK296 := Aside0.mk (blk_below (g := gb296) (o := .cells #[.slice (some ad298) l0_0.length c0_0, .slice (some ad299) l0_1.length c0_1] 56 (0, 0)) BK296.out hb)
             replace BK297 := Aside0.mk (blk_below (g := gb297) (o := .cells #[.slice none 0 0, .slice none 0 0] 56 (0, 0)) BK297.out hb)
             replace HB := Aside0.mk (below_step HB.out hb)
             clear hb ho47
             refine hK.out _ _ ⟨(blk_cell BK296.out 0).trans rfl, (blk_cell BK296.out 1).trans rfl, HS2_⟩ (fun hHeld => ?_)
             clear hK K
             refine norm_ (a' := ?_) ?_ ?_
             rotate_left
             ·show Act.put _ (some 78) _ = _
              simp only [Act.put, List.setIfInBounds_toArray, List.set_cons_zero, List.set_cons_succ, i64_w, i32_w]
              rfl
             refine last_ (i := 12) (N := some 84) #[true, true, true, true, true, true, true, true, true, true, true, true, true, false] rfl rfl (one_of HT_.out (by kernel_rfl)) (by decide) (fun K hK => ?_)
             refine Kd.R_append_rows_step Kd.bool (w0 := w) w.heap.size (by rfl) (.tmp 78) (.tmp 83) 47 4 (.bool false) 1 rfl Tryd.underlying47 info4 rfl (by decide) (by omega) v302 y301 y304 _ _ _ (fun k_ => (w.heap.size ≤ k_)) (fun _ => False) rfl rfl ?aO ?aR (fun _ _ h => h) (fun _ h => h.elim) ?aF ?aB ?aS ?aL ?_
             (case aR => repeat (exact (Kd.V_reads' HO308.out).2.2))
             (case aB => exact HB.out)
             (case aF => exact (fun k_ hk => (Nat.le_trans (below_size HB.out) hk)))
             (case aO => exact (by exact Kd.R_mono HO303.out (fun _ hk => hk.1)))
             (case aS => exact (below_size HB.out))
             (case aL => have := LMc37.out; omega)
             intro v310 w48 ho hb hg hat
             rw [← Ny309.out] at ho
             replace HO_297000 := Aside0.mk (Kd.V_afterv (ok := (fun k_ => ((P0_0_ k_ ∨ P0_1_ k_) ∨ w.heap.size ≤ k_) ∧ k_ ≠ gb296 ∧ k_ ≠ gb297)) HO_297000.out hg hat)
             replace HO_297001 := Aside0.mk (Kd.V_afterv (ok := (fun k_ => ((P0_0_ k_ ∨ P0_1_ k_) ∨ w.heap.size ≤ k_) ∧ k_ ≠ gb296 ∧ k_ ≠ gb297)) HO_297001.out hg hat)
             replace BK296 := Aside0.mk (blk_grown (g := gb296) (o := .cells #[.slice (some ad298) l0_0.length c0_0, .slice (some ad299) l0_1.length c0_1] 56 (0, 0)) BK296.out hg (Kd.R_ne HO303.out BK296.out (by decide)))
             replace BK297 := Aside0.mk (blk_grown (g := gb297) (o := .cells #[.slice none 0 0, .slice none 0 0] 56 (0, 0)) BK297.out hg (Kd.R_ne HO303.out BK297.out (by decide)))
             replace HO308 := Aside0.mk (Kd.V_afterv (ok := (fun k_ => ((P0_0_ k_ ∨ P0_1_ k_) ∨ w.heap.size ≤ k_) ∧ k_ ≠ gb296 ∧ k_ ≠ gb297)) HO308.out hg hat)
             replace HB := Aside0.mk hb
             have HO311 := Aside0.mk ho
             clear HO303
             clear ho hb hg hat
             refine hK.out _ _ ?_
             clear hK K
             refine norm_ (a' := ?_) ?_ ?_
             rotate_left
             ·show Act.put _ (some 84) _ = _
              simp only [Act.put, List.setIfInBounds_toArray, List.set_cons_zero, List.set_cons_succ, i64_w, i32_w]
              rfl
             refine pure_ (i := 13) (N := some 8) (v := ?_) (a' := ?_) #[true, true, true, true, true, true, true, true, true, true, true, true, true, true] rfl rfl (any_of HT_.out (by kernel_rfl)) (fun _ _ _ h => h) (Or.inl ⟨by rfl, ?_⟩) ?_ ?_
             rotate_left
             ·intro w'
              go_simp
              with_reducible rfl
             rotate_left
             ·simp only [Act.put, List.setIfInBounds_toArray, List.set_cons_zero, List.set_cons_succ, i64_w, i32_w]
              rfl
             refine done_ (done_of HT_.out (by kernel_rfl)) ?_
             have hcz49_0 : w48.cell? ⟨gb296, 0, none⟩ = some (.slice (some ad298) l0_0.length c0_0) := (blk_cell BK296.out 0).trans rfl
             have hcz49_1 : w48.cell? ⟨gb296, 1, none⟩ = some (.slice (some ad299) l0_1.length c0_1) := (blk_cell BK296.out 1).trans rfl
             have hfz49_0 := blk_frozen BK296.out 0
             have hfz49_1 := blk_frozen BK296.out 1
             have q50 : ((ji28) : Int) ≤ ((l0_0.length : Int) : Int) := of_decide_eq_true (by (with_reducible assumption))
             obtain ⟨i050, hi050, _, hsz50, _⟩ := info_parts info4
             have hroom50 : l0_0.length ≤ c0_0 := (Kd.V_reads' HO_297000.out).2.1
             have hC50 : Kd.F Kd.bool _ _ (some ad298) l0_0.length l0_0 := (Kd.V_at (base := w.heap.size) HO_297000.out).2.2
             have hcut50 := cut_to (P := Tryd.prog) 47 4 .i64 Tryd.underlying47 hi050 (some ad298) l0_0.length c0_0 (ji28) (of_decide_eq_true (by (with_reducible assumption))) q50 hroom50
             have hr50 := Kd.F_take (m := ((ji28) : Int).toNat) hC50 (by omega)
             have hy50 : y312.length = ((ji28) : Int).toNat := (by rw [Ny312.out, List.length_take]; omega)
             rw [← Ny312.out] at hr50
             rw [← hy50] at hcut50
             have HO316 := Aside0.mk (show Kd.V Kd.bool 4 _ w.heap.size _ (.slice (some ad298) y312.length c0_0) y312 from Kd.V_mk (by omega) hr50)
             have HC316 := Aside0.mk (show y312.length ≤ c0_0 from by omega)
             clear hr50 hC50 hroom50 hi050 hsz50
             have KY50 := Aside0.mk hy50
             clear hy50
             replace q50 := eq_true q50
             obtain ⟨Ao51, co51, eo51⟩ := Kd.R_slice HO311.out
             subst eo51
             try go_wp2_with (first | ((with_reducible refine gate_callee (f := 69) rfl ?_); refine goesL_ (some 92) rfl rfl Tryd.func69 (by kernel_rfl) rfl #[.agg #[.slice (some ad298) y312.length c0_0, .slice Ao51 y309.length co51]] rfl (by (try simp only [List.map_toArray, List.map_cons, List.map_nil]); rfl) ?_; (with_reducible refine (ih k1 (by have := HK1.out; omega) (fun k_ => ((((P0_0_ k_ ∨ P0_1_ k_) ∨ w.heap.size ≤ k_) ∧ (k_ ≠ gb296 ∧ k_ ≠ gb297)) ∧ some k_ ≠ (.slice Ao51 y309.length co51 : Value).ownBlock)) _ _ y312 (fun k_ => some k_ = (.slice Ao51 y309.length co51 : Value).ownBlock) _ _ y309 t317 t320 _ ?side1 ?side2 A40.out).mono ?_); (case side1 => exact HO316.out); (case side2 => exact Kd.R_V (Kd.R_tight rfl (Kd.R_types (Kd.R_types (HO311.out) BK296.out (by decide)) BK297.out (by decide)))); rintro e w52 ⟨v318, v321, rfl, ho0, ho1, hb⟩; refine ⟨_, rfl, ?_⟩; replace HO_297000 := Aside0.mk (Kd.V_below HO_297000.out hb); replace HO_297001 := Aside0.mk (Kd.V_below HO_297001.out hb); replace HO308 := Aside0.mk (Kd.V_below HO308.out hb); replace HO316 := Aside0.mk (Kd.V_below HO316.out hb); have HO319 := Aside0.mk (Kd.V_lower (Kd.V_mono (ok' := fun k_ => ((P0_0_ k_ ∨ P0_1_ k_) ∨ w.heap.size ≤ k_) ∧ k_ ≠ gb296 ∧ k_ ≠ gb297) ho0 (fun k_ hk_ => ⟨Or.elim hk_ (fun hs_ => Or.elim hs_ (fun hs_ => hs_.1.1) (fun hs_ => (.inr (((Kd.R_types (Kd.R_types (HO311.out) BK296.out (by decide)) BK297.out (by decide)).1 k_ hs_.symm).1.1)))) (fun hn_ => (.inr (Nat.le_trans (below_size HB.out) hn_))), Or.elim hk_ (fun hs_ => Or.elim hs_ (fun hs_ => hs_.1.2.1) (fun hs_ => ((Kd.R_types (Kd.R_types (HO311.out) BK296.out (by decide)) BK297.out (by decide)).1 k_ hs_.symm).1.2)) (fun hn_ => (Kd.freshB (g := gb296) (o := .cells #[.slice (some ad298) l0_0.length c0_0, .slice (some ad299) l0_1.length c0_1] 56 (0, 0)) BK296.out k_ hn_)), Or.elim hk_ (fun hs_ => Or.elim hs_ (fun hs_ => hs_.1.2.2) (fun hs_ => ((Kd.R_types (Kd.R_types (HO311.out) BK296.out (by decide)) BK297.out (by decide)).1 k_ hs_.symm).2)) (fun hn_ => (Kd.freshB (g := gb297) (o := .cells #[.slice none 0 0, .slice none 0 0] 56 (0, 0)) BK297.out k_ hn_))⟩)) (below_size HB.out)); have HO322 := Aside0.mk (Kd.V_lower (Kd.V_mono (ok' := fun k_ => ((P0_0_ k_ ∨ P0_1_ k_) ∨ w.heap.size ≤ k_) ∧ k_ ≠ gb296 ∧ k_ ≠ gb297) ho1 (fun k_ hk_ => ⟨Or.elim hk_ (fun hs_ => Or.elim hs_ (fun hs_ => hs_.1.1) (fun hs_ => (.inr (((Kd.R_types (Kd.R_types (HO311.out) BK296.out (by decide)) BK297.out (by decide)).1 k_ hs_.symm).1.1)))) (fun hn_ => (.inr (Nat.le_trans (below_size HB.out) hn_))), Or.elim hk_ (fun hs_ => Or.elim hs_ (fun hs_ => hs_.1.2.1) (fun hs_ => ((Kd.R_types (Kd.R_types (HO311.out) BK296.out (by decide)) BK297.out (by decide)).1 k_ hs_.symm).1.2)) (fun hn_ => (Kd.freshB (g := gb296) (o := .cells #[.slice (some ad298) l0_0.length c0_0, .slice (some ad299) l0_1.length c0_1] 56 (0, 0)) BK296.out k_ hn_)), Or.elim hk_ (fun hs_ => Or.elim hs_ (fun hs_ => hs_.1.2.2) (fun hs_ => ((Kd.R_types (Kd.R_types (HO311.out) BK296.out (by decide)) BK297.out (by decide)).1 k_ hs_.symm).2)) (fun hn_ => (Kd.freshB (g := gb297) (o := .cells #[.slice none 0 0, .slice none 0 0] 56 (0, 0)) BK297.out k_ hn_))⟩)) (below_size HB.out)); replace HO311 := Aside0.mk (Kd.R_below HO311.out hb); replace BK296 := Aside0.mk (blk_below (g := gb296) (o := .cells #[.slice (some ad298) l0_0.length c0_0, .slice (some ad299) l0_1.length c0_1] 56 (0, 0)) BK296.out hb); replace BK297 := Aside0.mk (blk_below (g := gb297) (o := .cells #[.slice none 0 0, .slice none 0 0] 56 (0, 0)) BK297.out hb); replace HB := Aside0.mk (below_step HB.out hb); (try clear hb); (try clear ho0); (try clear ho1); obtain ⟨Ao53, co53, eo53⟩ := Kd.V_slice HO319.out; subst eo53; have hcz54_0 : w52.cell? ⟨gb297, 0, none⟩ = some (.slice none 0 0) := (blk_cell BK297.out 0).trans rfl; have hcz54_1 : w52.cell? ⟨gb297, 1, none⟩ = some (.slice none 0 0) := (blk_cell BK297.out 1).trans rfl; have hfz54_0 := blk_frozen BK297.out 0; have hfz54_1 := blk_frozen BK297.out 1; obtain ⟨Ao55, co55, eo55⟩ := Kd.V_slice HO322.out; subst eo55))
             refine bodyPost_ret (results_cell_row rfl _ _ gb297 56 #[.slice Ao53 t317.length co53, .slice Ao55 t320.length co55] (0, 0) _ rfl (by refine blk_put (cs := #[.slice Ao53 t317.length co53, .slice none 0 0]) ?_ 1 _ rfl; refine blk_put (cs := #[.slice none 0 0, .slice none 0 0]) ?_ 0 _ rfl; exact BK297.out) Tryd.underlying56 rfl (by kernel_rfl)) rfl ?_
             exact ⟨_, _, by first | rfl | (simp [*, errW_none, errW_some] <;> rfl), by exact Kd.V_mono (Kd.V_far (p := ⟨gb297, 1, none⟩) (Kd.V_far (p := ⟨gb297, 0, none⟩) (Kd.V_mono HO319.out (fun k_ hk => (⟨hk, hk.2.2⟩ : _ ∧ k_ ≠ gb297))) (fun _ hk => hk.2) (.slice Ao53 t317.length co53)) (fun _ hk => hk.2) (.slice Ao55 t320.length co55)) (fun _ hk => hk.1.1), by exact Kd.V_mono (Kd.V_far (p := ⟨gb297, 1, none⟩) (Kd.V_far (p := ⟨gb297, 0, none⟩) (Kd.V_mono HO322.out (fun k_ hk => (⟨hk, hk.2.2⟩ : _ ∧ k_ ≠ gb297))) (fun _ hk => hk.2) (.slice Ao53 t317.length co53)) (fun _ hk => hk.2) (.slice Ao55 t320.length co55)) (fun _ hk => hk.1.1), by repeat (first | (with_reducible first | exact HB.out | refine below_set ?_ GE297.out))⟩
            ·rw [if_neg c39] at H
             exact absurd H (by simp)
           ·rw [if_neg c37] at H
            exact absurd H (by simp)
          ·rw [if_neg c36] at H
           exact absurd H (by simp)
         ·rw [if_neg c34] at H
          have c34b0 : ((rdOf false l0_0 (ji28)) == (rdOf false l0_1 (ji31))) = false := by simpa using c34
          (try (have c34b1 : decide ((rdOf false l0_0 (ji28)) = (rdOf false l0_1 (ji31))) = false := by simpa using c34))
          (try (have c34b2 : ((rdOf false l0_0 (ji28)) == (rdOf false l0_1 (ji31))) = false := by simpa using c34))
          (try (have c34b3 : ¬ ((rdOf false l0_0 (ji28)) = (rdOf false l0_1 (ji31))) := by simpa using c34))
          clear c34
          simp only [Option.some.injEq, Prod.mk.injEq] at H
          obtain ⟨rfl, rfl⟩ := H
          have hnb56 := NB296_297.out
          have hnc56 := NB297_296.out
          have hcz57_0 : wr.cell? ⟨gb296, 0, none⟩ = some (.slice A0_0 l0_0.length c0_0) := (blk_cell BK296.out 0).trans rfl
          have hcz57_1 : wr.cell? ⟨gb296, 1, none⟩ = some (.slice A0_1 l0_1.length c0_1) := (blk_cell BK296.out 1).trans rfl
          have hfz57_0 := blk_frozen BK296.out 0
          have hfz57_1 := blk_frozen BK296.out 1
          try go_wp2
          replace HO_297000 := Aside0.mk (Kd.V_drew HO_297000.out)
          replace HO_297001 := Aside0.mk (Kd.V_drew HO_297001.out)
          replace BK296 := Aside0.mk (blk_drew BK296.out)
          replace BK297 := Aside0.mk (blk_drew BK297.out)
          replace HB := Aside0.mk (below_drew1 HB.out)
          have p298 : 0 ≤ ((ji28) : Int) := of_decide_eq_true (by (with_reducible assumption))
          have q298 : (ji28) < (l0_0.length : Int) := of_decide_eq_true (by (with_reducible assumption))
          obtain ⟨ad298, e298, hx298_0⟩ := Kd.at_bool (Kd.V_reads' HO_297000.out).2.2 (ji28) p298 q298
          cases e298
          replace p298 := eq_true p298
          replace q298 := eq_true q298
          have p299 : 0 ≤ ((ji31) : Int) := of_decide_eq_true (by (with_reducible assumption))
          have q299 : (ji31) < (l0_1.length : Int) := of_decide_eq_true (by (with_reducible assumption))
          obtain ⟨ad299, e299, hx299_0⟩ := Kd.at_bool (Kd.V_reads' HO_297001.out).2.2 (ji31) p299 q299
          cases e299
          replace p299 := eq_true p299
          replace q299 := eq_true q299
          refine start_ (n := 17) (S := fun w' => w'.cell? ⟨gb296, 0, none⟩ = some (.slice (some ad298) l0_0.length c0_0) ∧ w'.cell? ⟨gb296, 1, none⟩ = some (.slice (some ad299) l0_1.length c0_1) ∧ w'.cell? (ad298.add ((ji28)).toNat) = some (.bool (rdOf false l0_0 (ji28))) ∧ w'.cell? (ad299.add ((ji31)).toNat) = some (.bool (rdOf false l0_1 (ji31)))) (ds := []) #[false, false, false, false, false, false, false, false, false, false, false, false, false, false, false, false, false] (by kernel_rfl) rfl rfl ⟨(blk_cell BK296.out 0).trans rfl, (blk_cell BK296.out 1).trans rfl, hx298_0, hx299_0⟩ (fun hHeld => ?_); refine with_tabW spec_l1Less.tab13 spec_l1Less.bits13 (fun HT_ HW_ => ?_)
          generalize wr.drew = w58 at HO_297000 HO_297001 BK296 BK297 HB hx298_0 hx299_0 hHeld ⊢
          refine pure_ (i := 0) (N := some 55) (v := ?_) (a' := ?_) #[true, false, false, false, false, false, false, false, false, false, false, false, false, false, false, false, false] rfl rfl (any_of HT_.out (by kernel_rfl)) (fun _ _ _ h => h) (Or.inl ⟨by rfl, ?_⟩) ?_ ?_
          rotate_left
          ·intro w'
           go_simp
           with_reducible rfl
          rotate_left
          ·simp only [Act.put, List.setIfInBounds_toArray, List.set_cons_zero, List.set_cons_succ, i64_w, i32_w]
           rfl
          refine pure_ (i := 1) (N := some 56) (v := ?_) (a' := ?_) #[true, true, false, false, false, false, false, false, false, false, false, false, false, false, false, false, false] rfl rfl (any_of HT_.out (by kernel_rfl)) (fun _ _ _ h => h) (Or.inl ⟨by rfl, ?_⟩) ?_ ?_
          rotate_left
          ·intro w'
           go_simp
           with_reducible rfl
          rotate_left
          ·simp only [Act.put, List.setIfInBounds_toArray, List.set_cons_zero, List.set_cons_succ, i64_w, i32_w]
           rfl
          refine pure_ (i := 2) (N := some 57) (v := ?_) (a' := ?_) #[true, true, true, false, false, false, false, false, false, false, false, false, false, false, false, false, false] rfl rfl (any_of HT_.out (by kernel_rfl)) (fun _ _ _ h => h) (Or.inl ⟨by rfl, ?_⟩) ?_ ?_
          rotate_left
          ·intro w'
           go_simp
           with_reducible rfl
          rotate_left
          ·simp only [Act.put, List.setIfInBounds_toArray, List.set_cons_zero, List.set_cons_succ, i64_w, i32_w]
           rfl
          refine pure_ (i := 3) (N := some 58) (v := ?_) (a' := ?_) #[true, true, true, true, false, false, false, false, false, false, false, false, false, false, false, false, false] rfl rfl (any_of HT_.out (by kernel_rfl)) (fun _ _ _ h => h) (Or.inl ⟨by rfl, ?_⟩) ?_ ?_
          rotate_left
          ·intro w'
           go_simp
           with_reducible rfl
          rotate_left
          ·simp only [Act.put, List.setIfInBounds_toArray, List.set_cons_zero, List.set_cons_succ, i64_w, i32_w]
           rfl
          refine pure_ (i := 5) (N := some 60) (v := ?_) (a' := ?_) #[true, true, true, true, false, true, false, false, false, false, false, false, false, false, false, false, false] rfl rfl (any_of HT_.out (by kernel_rfl)) (fun _ _ _ h => h) (Or.inl ⟨by rfl, ?_⟩) ?_ ?_
          rotate_left
          ·intro w'
           go_simp
           with_reducible rfl
          rotate_left
          ·simp only [Act.put, List.setIfInBounds_toArray, List.set_cons_zero, List.set_cons_succ, i64_w, i32_w]
           rfl
          refine pure_ (i := 6) (N := some 61) (v := ?_) (a' := ?_) #[true, true, true, true, false, true, true, false, false, false, false, false, false, false, false, false, false] rfl rfl (any_of HT_.out (by kernel_rfl)) (fun _ _ _ h => h) (Or.inl ⟨by rfl, ?_⟩) ?_ ?_
          rotate_left
          ·intro w'
           go_simp
           with_reducible rfl
          rotate_left
          ·simp only [Act.put, List.setIfInBounds_toArray, List.set_cons_zero, List.set_cons_succ, i64_w, i32_w]
           rfl
          refine pure_ (i := 9) (N := some 64) (v := ?_) (a' := ?_) #[true, true, true, true, false, true, true, false, false, true, false, false, false, false, false, false, false] rfl rfl (any_of HT_.out (by kernel_rfl)) (fun _ _ _ h => h) (Or.inl ⟨by rfl, ?_⟩) ?_ ?_
          rotate_left
          ·intro w'
           go_simp
           with_reducible rfl
          rotate_left
          ·simp only [Act.put, List.setIfInBounds_toArray, List.set_cons_zero, List.set_cons_succ, i64_w, i32_w]
           rfl
          refine pure_ (i := 11) (N := some 66) (v := ?_) (a' := ?_) #[true, true, true, true, false, true, true, false, false, true, false, true, false, false, false, false, false] rfl rfl (any_of HT_.out (by kernel_rfl)) (fun _ _ _ h => h) (Or.inl ⟨by rfl, ?_⟩) ?_ ?_
          rotate_left
          ·intro w'
           go_simp
           with_reducible rfl
          rotate_left
          ·simp only [Act.put, List.setIfInBounds_toArray, List.set_cons_zero, List.set_cons_succ, i64_w, i32_w]
           rfl
          refine pure_ (i := 12) (N := some 67) (v := ?_) (a' := ?_) #[true, true, true, true, false, true, true, false, false, true, false, true, true, false, false, false, false] rfl rfl (any_of HT_.out (by kernel_rfl)) (fun _ _ _ h => h) (Or.inl ⟨by rfl, ?_⟩) ?_ ?_
          rotate_left
          ·intro w'
           go_simp
           with_reducible rfl
          rotate_left
          ·simp only [Act.put, List.setIfInBounds_toArray, List.set_cons_zero, List.set_cons_succ, i64_w, i32_w]
           rfl
          refine take_ (i := 4) (N := some 59) (v := ?_) (a' := ?_) #[true, true, true, true, true, true, true, false, false, true, false, true, true, false, false, false, false] rfl rfl (take_ofW HT_.out HW_.out (by kernel_rfl)) (fun _ _ _ h => h) (Or.inl ⟨by rfl, ?_⟩) hHeld ?_ ?_
          rotate_left
          ·rintro w' ⟨s0, s1, s2, s3⟩
           go_simp
           with_reducible rfl
          rotate_left
          ·simp only [Act.put, List.setIfInBounds_toArray, List.set_cons_zero, List.set_cons_succ, i64_w, i32_w]
           rfl
          refine pure_ (i := 7) (N := some 62) (v := ?_) (a' := ?_) #[true, true, true, true, true, true, true, true, false, true, false, true, true, false, false, false, false] rfl rfl (any_of HT_.out (by kernel_rfl)) (fun _ _ _ h => h) (Or.inl ⟨by rfl, ?_⟩) ?_ ?_
          rotate_left
          ·intro w'
           go_simp
           with_reducible rfl
          rotate_left
          ·simp only [Act.put, List.setIfInBounds_toArray, List.set_cons_zero, List.set_cons_succ, i64_w, i32_w]
           rfl
          refine take_ (i := 8) (N := some 63) (v := ?_) (a' := ?_) #[true, true, true, true, true, true, true, true, true, true, false, true, true, false, false, false, false] rfl rfl (take_ofW HT_.out HW_.out (by kernel_rfl)) (fun _ _ _ h => h) (Or.inl ⟨by rfl, ?_⟩) hHeld ?_ ?_
          rotate_left
          ·rintro w' ⟨s0, s1, s2, s3⟩
           go_simp
           with_reducible rfl
          rotate_left
          ·simp only [Act.put, List.setIfInBounds_toArray, List.set_cons_zero, List.set_cons_succ, i64_w, i32_w]
           rfl
          refine take_ (i := 10) (N := some 65) (v := ?_) (a' := ?_) #[true, true, true, true, true, true, true, true, true, true, true, true, true, false, false, false, false] rfl rfl (take_ofW HT_.out HW_.out (by kernel_rfl)) (fun _ _ _ h => h) (Or.inl ⟨by rfl, ?_⟩) hHeld ?_ ?_
          rotate_left
          ·rintro w' ⟨s0, s1, s2, s3⟩
           go_simp
           with_reducible rfl
          rotate_left
          ·simp only [Act.put, List.setIfInBounds_toArray, List.set_cons_zero, List.set_cons_succ, i64_w, i32_w]
           rfl
          refine pure_ (i := 13) (N := some 68) (v := ?_) (a' := ?_) #[true, true, true, true, true, true, true, true, true, true, true, true, true, true, false, false, false] rfl rfl (any_of HT_.out (by kernel_rfl)) (fun _ _ _ h => h) (Or.inl ⟨by rfl, ?_⟩) ?_ ?_
          rotate_left
          ·intro w'
           go_simp
           with_reducible rfl
          rotate_left
          ·simp only [Act.put, List.setIfInBounds_toArray, List.set_cons_zero, List.set_cons_succ, i64_w, i32_w]
           rfl
          refine take_ (i := 14) (N := some 69) (v := ?_) (a' := ?_) #[true, true, true, true, true, true, true, true, true, true, true, true, true, true, true, false, false] rfl rfl (take_ofW HT_.out HW_.out (by kernel_rfl)) (fun _ _ _ h => h) (Or.inl ⟨by rfl, ?_⟩) hHeld ?_ ?_
          rotate_left
          ·rintro w' ⟨s0, s1, s2, s3⟩
           go_simp
           with_reducible rfl
          rotate_left
          ·simp only [Act.put, List.setIfInBounds_toArray, List.set_cons_zero, List.set_cons_succ, i64_w, i32_w]
           rfl
          refine pure_ (i := 15) (N := some 70) (v := ?_) (a' := ?_) #[true, true, true, true, true, true, true, true, true, true, true, true, true, true, true, true, false] rfl rfl (any_of HT_.out (by kernel_rfl)) (fun _ _ _ h => h) (Or.inl ⟨by rfl, ?_⟩) ?_ ?_
          rotate_left
          ·intro w'
           go_simp
           with_reducible rfl
          rotate_left
          ·simp only [Act.put, List.setIfInBounds_toArray, List.set_cons_zero, List.set_cons_succ, i64_w, i32_w]
           rfl
          refine pure_ (i := 16) (N := some 71) (v := ?_) (a' := ?_) #[true, true, true, true, true, true, true, true, true, true, true, true, true, true, true, true, true] rfl rfl (any_of HT_.out (by kernel_rfl)) (fun _ _ _ h => h) (Or.inl ⟨by rfl, ?_⟩) ?_ ?_
          rotate_left
          ·intro w'
           go_simp
           with_reducible rfl
          rotate_left
          ·simp only [Act.put, List.setIfInBounds_toArray, List.set_cons_zero, List.set_cons_succ, i64_w, i32_w]
           rfl
          refine done_ (done_of HT_.out (by kernel_rfl)) ?_
          have hcz59_0 : w58.cell? ⟨gb296, 0, none⟩ = some (.slice (some ad298) l0_0.length c0_0) := (blk_cell BK296.out 0).trans rfl
          have hcz59_1 : w58.cell? ⟨gb296, 1, none⟩ = some (.slice (some ad299) l0_1.length c0_1) := (blk_cell BK296.out 1).trans rfl
          have hfz59_0 := blk_frozen BK296.out 0
          have hfz59_1 := blk_frozen BK296.out 1
          have hcz60_0 : w58.cell? ⟨gb297, 0, none⟩ = some (.slice none 0 0) := (blk_cell BK297.out 0).trans rfl
          have hcz60_1 : w58.cell? ⟨gb297, 1, none⟩ = some (.slice none 0 0) := (blk_cell BK297.out 1).trans rfl
          have hfz60_0 := blk_frozen BK297.out 0
          have hfz60_1 := blk_frozen BK297.out 1
          try go_wp2
          refine bodyPost_ret (results_cell_row rfl _ _ gb297 56 #[.slice (some ad298) l0_0.length c0_0, .slice (some ad299) l0_1.length c0_1] (0, 0) _ rfl (by refine blk_put (cs := #[.slice (some ad298) l0_0.length c0_0, .slice none 0 0]) ?_ 1 _ rfl; refine blk_put (cs := #[.slice none 0 0, .slice none 0 0]) ?_ 0 _ rfl; exact BK297.out) Tryd.underlying56 rfl (by kernel_rfl)) rfl ?_
          exact ⟨_, _, by first | rfl | (simp [*, errW_none, errW_some] <;> rfl), by exact Kd.V_mono (Kd.V_far (p := ⟨gb297, 1, none⟩) (Kd.V_far (p := ⟨gb297, 0, none⟩) (Kd.V_mono HO_297000.out (fun k_ hk => (⟨hk, hk.2.2⟩ : _ ∧ k_ ≠ gb297))) (fun _ hk => hk.2) (.slice (some ad298) l0_0.length c0_0)) (fun _ hk => hk.2) (.slice (some ad299) l0_1.length c0_1)) (fun _ hk => hk.1.1), by exact Kd.V_mono (Kd.V_far (p := ⟨gb297, 1, none⟩) (Kd.V_far (p := ⟨gb297, 0, none⟩) (Kd.V_mono HO_297001.out (fun k_ hk => (⟨hk, hk.2.2⟩ : _ ∧ k_ ≠ gb297))) (fun _ hk => hk.2) (.slice (some ad298) l0_0.length c0_0)) (fun _ hk => hk.2) (.slice (some ad299) l0_1.length c0_1)) (fun _ hk => hk.1.1), by repeat (first | (with_reducible first | exact HB.out | refine below_set ?_ GE297.out))⟩
        ·rw [if_neg c33] at H
         exact absurd H (by simp)
       ·rw [if_neg c32] at H
        exact absurd H (by simp)
      ·rw [if_neg c30] at H
       exact absurd H (by simp)
     ·rw [if_neg c29] at H
      exact absurd H (by simp)
    ·rw [if_neg c27] at H
     have c27b0 : decide (0 < (l0_0.length : Int)) = false := decide_eq_false c27
     have c27b1 : decide (0 < l0_0.length) = false := decide_eq_false (by omega)
     clear c27
     simp only [Option.some.injEq, Prod.mk.injEq] at H
     obtain ⟨rfl, rfl⟩ := H
     have hnb61 := NB296_297.out
     have hnc61 := NB297_296.out
     have hcz62_0 : wr.cell? ⟨gb296, 0, none⟩ = some (.slice A0_0 l0_0.length c0_0) := (blk_cell BK296.out 0).trans rfl
     have hcz62_1 : wr.cell? ⟨gb296, 1, none⟩ = some (.slice A0_1 l0_1.length c0_1) := (blk_cell BK296.out 1).trans rfl
     have hfz62_0 := blk_frozen BK296.out 0
     have hfz62_1 := blk_frozen BK296.out 1
     try go_wp2
     replace HO_297000 := Aside0.mk (Kd.V_drew HO_297000.out)
     replace HO_297001 := Aside0.mk (Kd.V_drew HO_297001.out)
     replace BK296 := Aside0.mk (blk_drew BK296.out)
     replace BK297 := Aside0.mk (blk_drew BK297.out)
     replace HB := Aside0.mk (below_drew1 HB.out)
     refine start_ (n := 17) (S := fun w' => True) (ds := []) #[false, false, false, false, false, false, false, false, false, false, false, false, false, false, false, false, false] (by kernel_rfl) rfl rfl trivial (fun hHeld => ?_); refine with_tabW spec_l1Less.tab13 spec_l1Less.bits13 (fun HT_ HW_ => ?_)
     generalize wr.drew = w63 at HO_297000 HO_297001 BK296 BK297 HB hHeld ⊢
     refine pure_ (i := 0) (N := some 55) (v := ?_) (a' := ?_) #[true, false, false, false, false, false, false, false, false, false, false, false, false, false, false, false, false] rfl rfl (any_of HT_.out (by kernel_rfl)) (fun _ _ _ h => h) (Or.inl ⟨by rfl, ?_⟩) ?_ ?_
     rotate_left
     ·intro w'
      go_simp
      with_reducible rfl
     rotate_left
     ·simp only [Act.put, List.setIfInBounds_toArray, List.set_cons_zero, List.set_cons_succ, i64_w, i32_w]
      rfl
     refine pure_ (i := 1) (N := some 56) (v := ?_) (a' := ?_) #[true, true, false, false, false, false, false, false, false, false, false, false, false, false, false, false, false] rfl rfl (any_of HT_.out (by kernel_rfl)) (fun _ _ _ h => h) (Or.inl ⟨by rfl, ?_⟩) ?_ ?_
     rotate_left
     ·intro w'
      go_simp
      with_reducible rfl
     rotate_left
     ·simp only [Act.put, List.setIfInBounds_toArray, List.set_cons_zero, List.set_cons_succ, i64_w, i32_w]
      rfl
     refine pure_ (i := 2) (N := some 57) (v := ?_) (a' := ?_) #[true, true, true, false, false, false, false, false, false, false, false, false, false, false, false, false, false] rfl rfl (any_of HT_.out (by kernel_rfl)) (fun _ _ _ h => h) (Or.inl ⟨by rfl, ?_⟩) ?_ ?_
     rotate_left
     ·intro w'
      go_simp
      with_reducible rfl
     rotate_left
     ·simp only [Act.put, List.setIfInBounds_toArray, List.set_cons_zero, List.set_cons_succ, i64_w, i32_w]
      rfl
     refine pure_ (i := 3) (N := some 58) (v := undef) (a' := ?_) #[true, true, true, true, false, false, false, false, false, false, false, false, false, false, false, false, false] rfl rfl (any_of HT_.out (by kernel_rfl)) (fun _ _ _ h => h) (Or.inr ⟨by rfl, rfl⟩) ?_ ?_
     rotate_left
     ·simp only [Act.put, List.setIfInBounds_toArray, List.set_cons_zero, List.set_cons_succ, i64_w, i32_w]
      rfl
     refine pure_ (i := 4) (N := some 59) (v := undef) (a' := ?_) #[true, true, true, true, true, false, false, false, false, false, false, false, false, false, false, false, false] rfl rfl (any_of HT_.out (by kernel_rfl)) (fun _ _ _ h => h) (Or.inr ⟨by rfl, rfl⟩) ?_ ?_
     rotate_left
     ·simp only [Act.put, List.setIfInBounds_toArray, List.set_cons_zero, List.set_cons_succ, i64_w, i32_w]
      rfl
     refine pure_ (i := 5) (N := some 60) (v := undef) (a' := ?_) #[true, true, true, true, true, true, false, false, false, false, false, false, false, false, false, false, false] rfl rfl (any_of HT_.out (by kernel_rfl)) (fun _ _ _ h => h) (Or.inr ⟨by rfl, rfl⟩) ?_ ?_
     rotate_left
     ·simp only [Act.put, List.setIfInBounds_toArray, List.set_cons_zero, List.set_cons_succ, i64_w, i32_w]
      rfl
     refine pure_ (i := 6) (N := some 61) (v := undef) (a' := ?_) #[true, true, true, true, true, true, true, false, false, false, false, false, false, false, false, false, false] rfl rfl (any_of HT_.out (by kernel_rfl)) (fun _ _ _ h => h) (Or.inr ⟨by rfl, rfl⟩) ?_ ?_
     rotate_left
     ·simp only [Act.put, List.setIfInBounds_toArray, List.set_cons_zero, List.set_cons_succ, i64_w, i32_w]
      rfl
     refine pure_ (i := 7) (N := some 62) (v := undef) (a' := ?_) #[true, true, true, true, true, true, true, true, false, false, false, false, false, false, false, false, false] rfl rfl (any_of HT_.out (by kernel_rfl)) (fun _ _ _ h => h) (Or.inr ⟨by rfl, rfl⟩) ?_ ?_
     rotate_left
     ·simp only [Act.put, List.setIfInBounds_toArray, List.set_cons_zero, List.set_cons_succ, i64_w, i32_w]
      rfl
     refine pure_ (i := 8) (N := some 63) (v := undef) (a' := ?_) #[true, true, true, true, true, true, true, true, true, false, false, false, false, false, false, false, false] rfl rfl (any_of HT_.out (by kernel_rfl)) (fun _ _ _ h => h) (Or.inr ⟨by rfl, rfl⟩) ?_ ?_
     rotate_left
     ·simp only [Act.put, List.setIfInBounds_toArray, List.set_cons_zero, List.set_cons_succ, i64_w, i32_w]
      rfl
     refine pure_ (i := 9) (N := some 64) (v := undef) (a' := ?_) #[true, true, true, true, true, true, true, true, true, true, false, false, false, false, false, false, false] rfl rfl (any_of HT_.out (by kernel_rfl)) (fun _ _ _ h => h) (Or.inr ⟨by rfl, rfl⟩) ?_ ?_
     rotate_left
     ·simp only [Act.put, List.setIfInBounds_toArray, List.set_cons_zero, List.set_cons_succ, i64_w, i32_w]
      rfl
     refine pure_ (i := 10) (N := some 65) (v := undef) (a' := ?_) #[true, true, true, true, true, true, true, true, true, true, true, false, false, false, false, false, false] rfl rfl (any_of HT_.out (by kernel_rfl)) (fun _ _ _ h => h) (Or.inr ⟨by rfl, rfl⟩) ?_ ?_
     rotate_left
     ·simp only [Act.put, List.setIfInBounds_toArray, List.set_cons_zero, List.set_cons_succ, i64_w, i32_w]
      rfl
     refine pure_ (i := 11) (N := some 66) (v := undef) (a' := ?_) #[true, true, true, true, true, true, true, true, true, true, true, true, false, false, false, false, false] rfl rfl (any_of HT_.out (by kernel_rfl)) (fun _ _ _ h => h) (Or.inr ⟨by rfl, rfl⟩) ?_ ?_
     rotate_left
     ·simp only [Act.put, List.setIfInBounds_toArray, List.set_cons_zero, List.set_cons_succ, i64_w, i32_w]
      rfl
     refine pure_ (i := 12) (N := some 67) (v := undef) (a' := ?_) #[true, true, true, true, true, true, true, true, true, true, true, true, true, false, false, false, false] rfl rfl (any_of HT_.out (by kernel_rfl)) (fun _ _ _ h => h) (Or.inr ⟨by rfl, rfl⟩) ?_ ?_
     rotate_left
     ·simp only [Act.put, List.setIfInBounds_toArray, List.set_cons_zero, List.set_cons_succ, i64_w, i32_w]
      rfl
     refine pure_ (i := 13) (N := some 68) (v := undef) (a' := ?_) #[true, true, true, true, true, true, true, true, true, true, true, true, true, true, false, false, false] rfl rfl (any_of HT_.out (by kernel_rfl)) (fun _ _ _ h => h) (Or.inr ⟨by rfl, rfl⟩) ?_ ?_
     rotate_left
     ·simp only [Act.put, List.setIfInBounds_toArray, List.set_cons_zero, List.set_cons_succ, i64_w, i32_w]
      rfl
     refine pure_ (i := 14) (N := some 69) (v := undef) (a' := ?_) #[true, true, true, true, true, true, true, true, true, true, true, true, true, true, true, false, false] rfl rfl (any_of HT_.out (by kernel_rfl)) (fun _ _ _ h => h) (Or.inr ⟨by rfl, rfl⟩) ?_ ?_
     rotate_left
     ·simp only [Act.put, List.setIfInBounds_toArray, List.set_cons_zero, List.set_cons_succ, i64_w, i32_w]
      rfl
     refine pure_ (i := 15) (N := some 70) (v := undef) (a' := ?_) #[true, true, true, true, true, true, true, true, true, true, true, true, true, true, true, true, false] rfl rfl (any_of HT_.out (by kernel_rfl)) (fun _ _ _ h => h) (Or.inr ⟨by rfl, rfl⟩) ?_ ?_
     rotate_left
     ·simp only [Act.put, List.setIfInBounds_toArray, List.set_cons_zero, List.set_cons_succ, i64_w, i32_w]
      rfl
     refine pure_ (i := 16) (N := some 71) (v := ?_) (a' := ?_) #[true, true, true, true, true, true, true, true, true, true, true, true, true, true, true, true, true] rfl rfl (any_of HT_.out (by kernel_rfl)) (fun _ _ _ h => h) (Or.inl ⟨by rfl, ?_⟩) ?_ ?_
     rotate_left
     ·intro w'
      go_simp
      with_reducible rfl
     rotate_left
     ·simp only [Act.put, List.setIfInBounds_toArray, List.set_cons_zero, List.set_cons_succ, i64_w, i32_w]
      rfl
     refine done_ (done_of HT_.out (by kernel_rfl)) ?_
     have hcz64_0 : w63.cell? ⟨gb296, 0, none⟩ = some (.slice A0_0 l0_0.length c0_0) := (blk_cell BK296.out 0).trans rfl
     have hcz64_1 : w63.cell? ⟨gb296, 1, none⟩ = some (.slice A0_1 l0_1.length c0_1) := (blk_cell BK296.out 1).trans rfl
     have hfz64_0 := blk_frozen BK296.out 0
     have hfz64_1 := blk_frozen BK296.out 1
     have hcz65_0 : w63.cell? ⟨gb297, 0, none⟩ = some (.slice none 0 0) := (blk_cell BK297.out 0).trans rfl
     have hcz65_1 : w63.cell? ⟨gb297, 1, none⟩ = some (.slice none 0 0) := (blk_cell BK297.out 1).trans rfl
     have hfz65_0 := blk_frozen BK297.out 0
     have hfz65_1 := blk_frozen BK297.out 1
     try go_wp2
     refine bodyPost_ret (results_cell_row rfl _ _ gb297 56 #[.slice A0_0 l0_0.length c0_0, .slice A0_1 l0_1.length c0_1] (0, 0) _ rfl (by refine blk_put (cs := #[.slice A0_0 l0_0.length c0_0, .slice none 0 0]) ?_ 1 _ rfl; refine blk_put (cs := #[.slice none 0 0, .slice none 0 0]) ?_ 0 _ rfl; exact BK297.out) Tryd.underlying56 rfl (by kernel_rfl)) rfl ?_
     exact ⟨_, _, by first | rfl | (simp [*, errW_none, errW_some] <;> rfl), by exact Kd.V_mono (Kd.V_far (p := ⟨gb297, 1, none⟩) (Kd.V_far (p := ⟨gb297, 0, none⟩) (Kd.V_mono HO_297000.out (fun k_ hk => (⟨hk, hk.2.2⟩ : _ ∧ k_ ≠ gb297))) (fun _ hk => hk.2) (.slice A0_0 l0_0.length c0_0)) (fun _ hk => hk.2) (.slice A0_1 l0_1.length c0_1)) (fun _ hk => hk.1.1), by exact Kd.V_mono (Kd.V_far (p := ⟨gb297, 1, none⟩) (Kd.V_far (p := ⟨gb297, 0, none⟩) (Kd.V_mono HO_297001.out (fun k_ hk => (⟨hk, hk.2.2⟩ : _ ∧ k_ ≠ gb297))) (fun _ hk => hk.2) (.slice A0_0 l0_0.length c0_0)) (fun _ hk => hk.2) (.slice A0_1 l0_1.length c0_1)) (fun _ hk => hk.1.1), by repeat (first | (with_reducible first | exact HB.out | refine below_set ?_ GE297.out))⟩


def spec_l4Small.f (k : Nat) (a0 : ByteArray) : Option (List Bool × List Bool × Bool) := (spec_l1Read.f k a0).bind fun bt337 => (if bt337.2.2 = true then ((spec_l1Less.f k bt337.1 bt337.2.1).bind fun bt345 => (if (bt345.1.length : Int) ≤ 8 then (some (bt345.1, bt345.2, decide ((bt345.2.length : Int) ≤ 8))) else (some (bt345.1, bt345.2, false)))) else (some (bt337.1, bt337.2.1, false)))
theorem spec_l4Small.mono : ∀ a0 k, LeO (spec_l4Small.f k a0) (spec_l4Small.f (k + 1) a0) := by
 intro a0 k
 unfold spec_l4Small.f
 repeat' first | (with_reducible exact spec_l1Less.mono _ _ _) | (with_reducible exact spec_l1Read.mono _ _) | (with_reducible exact LeO.refl _) | (with_reducible refine LeO.ite ?_ ?_) | (with_reducible refine LeO.bind ?_ (fun _ => ?_))
def spec_l4Small.T5 : Bool × List (List Nat × List Nat) := (true, [([], []), ([], []), ([1], [1]), ([2], [2]), ([3], [3]), ([4], [4]), ([5], [5]), ([6, 5], [5, 6]), ([7, 5], [5, 7]), ([8, 5], [5, 8]), ([5, 9], [5, 9]), ([0, 5, 0], [0]), ([10, 11, 0, 1, 2, 3, 4, 5, 6, 7, 8, 9, 10, 11], [10])])
def spec_l4Small.B5 : List Nat := [0, 0, 2, 6, 14, 30, 62, 126, 254, 510, 1022, 63, 4095]
theorem spec_l4Small.tab5 : rtab .any (opsOf Tryd.f44 5) = spec_l4Small.T5 := by kernel_rfl
theorem spec_l4Small.bits5 : waitsOk spec_l4Small.T5.2 spec_l4Small.B5 = true := by kernel_rfl
set_option maxHeartbeats 8000000 in
set_option maxRecDepth 100000 in
theorem spec_l4Small.calls (k : Nat) (a0 : ByteArray) (r1 : List Bool) (r2 : List Bool) (r3 : Bool) (w : World) (h : spec_l4Small.f k a0 = some (r1, r2, r3)) :
  Calls Tryd.prog 44 #[.string a0] w fun e w' => ∃ v0_ v1_ : Value, e = .returned (.tuple #[.agg #[v0_, v1_], .bool r3]) ∧ Kd.V Kd.bool 4 w' w.heap.size (fun k_ => (w.heap.size ≤ k_)) v0_ r1 ∧ Kd.V Kd.bool 4 w' w.heap.size (fun k_ => (w.heap.size ≤ k_)) v1_ r2 ∧ Below w.heap.size w w' := by
 have hu56 := Tryd.underlying56
 have HB := Aside0.mk (Below.refl w.heap.size w)
 have H : ((spec_l1Read.f k a0).bind fun bt337 => (if bt337.2.2 = true then ((spec_l1Less.f k bt337.1 bt337.2.1).bind fun bt345 => (if (bt345.1.length : Int) ≤ 8 then (some (bt345.1, bt345.2, decide ((bt345.2.length : Int) ≤ 8))) else (some (bt345.1, bt345.2, false)))) else (some (bt337.1, bt337.2.1, false)))) = some (r1, r2, r3) := h
 clear h
 replace H := Option.bind_eq_some_iff.mp H
 obtain ⟨⟨t337, t340, t343⟩, A20, H⟩ := H
 replace H : (if t343 = true then ((spec_l1Less.f k t337 t340).bind fun bt345 => (if (bt345.1.length : Int) ≤ 8 then (some (bt345.1, bt345.2, decide ((bt345.2.length : Int) ≤ 8))) else (some (bt345.1, bt345.2, false)))) else (some (t337, t340, false))) = some (r1, r2, r3) := H
 have A2 := Aside0.mk A20
 clear A20
 by_cases c3 : t343 = true
 ·subst c3
  replace H : ((spec_l1Less.f k t337 t340).bind fun bt345 => (if (bt345.1.length : Int) ≤ 8 then (some (bt345.1, bt345.2, decide ((bt345.2.length : Int) ≤ 8))) else (some (bt345.1, bt345.2, false)))) = some (r1, r2, r3) := by rw [if_pos rfl] at H; exact H
  replace H := Option.bind_eq_some_iff.mp H
  obtain ⟨⟨t345, t348⟩, A40, H⟩ := H
  replace H : (if (t345.length : Int) ≤ 8 then (some (t345, t348, decide ((t348.length : Int) ≤ 8))) else (some (t345, t348, false))) = some (r1, r2, r3) := H
  have A4 := Aside0.mk A40
  clear A40
  by_cases c5 : (t345.length : Int) ≤ 8
  all_goals
   first
   |rw [if_pos c5] at H
    have c5b0 : decide ((t345.length : Int) ≤ 8) = true := decide_eq_true c5
    have c5b1 : decide (t345.length ≤ 8) = true := decide_eq_true (by omega)
   |rw [if_neg c5] at H
    have c5b0 : decide ((t345.length : Int) ≤ 8) = false := decide_eq_false c5
    have c5b1 : decide (t345.length ≤ 8) = false := decide_eq_false (by omega)
   clear c5
   simp only [Option.some.injEq, Prod.mk.injEq] at H
   obtain ⟨rfl, rfl, rfl⟩ := H
   go_enter Tryd.func44, Tryd.ntmps44
   try go_wp2_with (first | ((with_reducible refine gate_dst (N := 2) rfl ?_); (try (refine gate_guard (by rfl) ?_; dsimp only)); refine box_event ?hg (N := 2) ?hd (cs := #[.slice none 0 0, .slice none 0 0]) (t := 56) ?hr ?_; (case hd => rfl); (case hg => rfl); (case hr => first | (go_simp; done)); intro gb336 hg w6 hbox hb; have BK336 := Aside0.mk hbox; have GW336 := Aside0.mk ((by rw [hg]; exact (below_size HB.out) : w.heap.size ≤ gb336)); have GE336 := Aside0.mk ((by rw [hg]; exact (below_size HB.out) : w.heap.size ≤ gb336)); replace HB := Aside0.mk (below_step HB.out hb); clear hb hbox hg) | ((with_reducible refine gate_callee (f := 59) rfl ?_); refine goesL_ (some 9) rfl rfl Tryd.func59 (by kernel_rfl) rfl #[.string a0] rfl (by (try simp only [List.map_toArray, List.map_cons, List.map_nil]); rfl) ?_; (with_reducible refine (spec_l1Read.calls k a0 t337 t340 true _ A2.out).mono ?_); rintro e w7 ⟨v338, v341, rfl, ho0, ho1, hb⟩; refine ⟨_, rfl, ?_⟩; have HO339 := Aside0.mk (Kd.R_lower (Kd.R_newM (M := fun k_ => (w.heap.size ≤ k_)) ho0 (below_size HB.out) (fun k_ h_ => h_)) (below_size HB.out)); have HO342 := Aside0.mk (Kd.R_lower (Kd.R_newM (M := fun k_ => (w.heap.size ≤ k_)) ho1 (below_size HB.out) (fun k_ h_ => h_)) (below_size HB.out)); replace BK336 := Aside0.mk (blk_below (g := gb336) (o := .cells #[.slice none 0 0, .slice none 0 0] 56 (0, 0)) BK336.out hb); replace HB := Aside0.mk (below_step HB.out hb); (try clear hb); (try clear ho0); (try clear ho1)) | ((with_reducible refine gate_dst (N := 4) rfl ?_); (try (refine gate_guard (by rfl) ?_; dsimp only)); refine box_event ?hg (N := 4) ?hd (cs := #[.slice none 0 0, .slice none 0 0]) (t := 56) ?hr ?_; (case hd => rfl); (case hg => rfl); (case hr => first | (go_simp; done)); intro gb344 hg w8 hbox hb; replace HO339 := Aside0.mk (Kd.R_below HO339.out hb); replace HO342 := Aside0.mk (Kd.R_below HO342.out hb); have BK344 := Aside0.mk hbox; have GW344 := Aside0.mk ((by rw [hg]; exact (below_size HB.out) : w.heap.size ≤ gb344)); have GE344 := Aside0.mk ((by rw [hg]; exact (below_size HB.out) : w.heap.size ≤ gb344)); replace HB := Aside0.mk (below_step HB.out hb); have NB336_344 := Aside0.mk ((by rw [hg]; exact Nat.ne_of_lt (blk_lt (g := gb336) (o := .cells #[.slice none 0 0, .slice none 0 0] 56 (0, 0)) BK336.out) : gb336 ≠ gb344)); have NB344_336 := Aside0.mk ((by rw [hg]; exact Nat.ne_of_gt (blk_lt (g := gb336) (o := .cells #[.slice none 0 0, .slice none 0 0] 56 (0, 0)) BK336.out) : gb344 ≠ gb336)); replace BK336 := Aside0.mk (blk_below (g := gb336) (o := .cells #[.slice none 0 0, .slice none 0 0] 56 (0, 0)) BK336.out hb); clear hb hbox hg; obtain ⟨Ao9, co9, eo9⟩ := Kd.R_slice HO339.out; subst eo9; have hnb10 := NB344_336.out; have hnc10 := NB336_344.out; have hcz11_0 : w8.cell? ⟨gb344, 0, none⟩ = some (.slice none 0 0) := (blk_cell BK344.out 0).trans rfl; have hcz11_1 : w8.cell? ⟨gb344, 1, none⟩ = some (.slice none 0 0) := (blk_cell BK344.out 1).trans rfl; have hfz11_0 := blk_frozen BK344.out 0; have hfz11_1 := blk_frozen BK344.out 1; obtain ⟨Ao12, co12, eo12⟩ := Kd.R_slice HO342.out; subst eo12) | ((with_reducible refine gate_store (t := 56) (p := 4) rfl ?_); refine store_event (t := 56) (p := 4) (v := ?vo_w13) (w1 := ((w8.setCell ⟨gb344, 0, none⟩ (.slice Ao9 t337.length co9)).setCell ⟨gb344, 1, none⟩ (.slice Ao12 t340.length co12))) ?hg ?ho ?hn ?hr ?_; (case ho => rfl); (case hg => rfl); (case hn => rfl); (case hr => first | (go_simp; done)); intro w13 hw; have n0_ : Aside0 (Kd.R Kd.bool 4 w13 w.heap.size (fun k_ => (w.heap.size ≤ k_) ∧ some k_ ≠ (.slice Ao12 t340.length co12 : Value).ownBlock) (.slice Ao9 t337.length co9) t337) := ⟨(by rw [hw]; exact (by exact Kd.R_mono (Kd.R_far (p := ⟨gb344, 1, none⟩) (Kd.R_far (p := ⟨gb344, 0, none⟩) (Kd.R_types HO339.out BK344.out (by decide)) (fun _ hk => hk.2) (.slice Ao9 t337.length co9)) (fun _ hk => hk.2) (.slice Ao12 t340.length co12)) (fun _ hk => ⟨hk.1.1, hk.1.2⟩)))⟩; have n1_ : Aside0 (Kd.R Kd.bool 4 w13 w.heap.size (fun k_ => (w.heap.size ≤ k_) ∧ some k_ ≠ (.slice Ao9 t337.length co9 : Value).ownBlock) (.slice Ao12 t340.length co12) t340) := ⟨(by rw [hw]; exact (by exact Kd.R_mono (Kd.R_far (p := ⟨gb344, 1, none⟩) (Kd.R_far (p := ⟨gb344, 0, none⟩) (Kd.R_types HO342.out BK344.out (by decide)) (fun _ hk => hk.2) (.slice Ao9 t337.length co9)) (fun _ hk => hk.2) (.slice Ao12 t340.length co12)) (fun _ hk => ⟨hk.1.1, hk.1.2⟩)))⟩; have n2_ : Aside0 (w13.heap[gb336]? = some (.cells #[.slice none 0 0, .slice none 0 0] 56 (0, 0))) := ⟨(by rw [hw]; exact (by refine blk_far ?_ NB336_344.out _; refine blk_far ?_ NB336_344.out _; exact BK336.out))⟩; have n3_ : Aside0 (w13.heap[gb344]? = some (.cells #[.slice Ao9 t337.length co9, .slice Ao12 t340.length co12] 56 (0, 0))) := ⟨(by rw [hw]; exact (by refine blk_put (cs := #[.slice Ao9 t337.length co9, .slice none 0 0]) ?_ 1 _ rfl; refine blk_put (cs := #[.slice none 0 0, .slice none 0 0]) ?_ 0 _ rfl; exact BK344.out))⟩; have n4_ : Aside0 (Below w.heap.size w w13) := ⟨(by rw [hw]; exact (by repeat (first | (with_reducible first | exact HB.out | refine below_set ?_ GE344.out))))⟩; clear hw; clear HO339; clear HO342; clear BK336; clear BK344; clear HB; have HO339 := n0_; have HO342 := n1_; have BK336 := n2_; have BK344 := n3_; have HB := n4_; clear n0_ n1_ n2_ n3_ n4_; have hcz14_0 : w13.cell? ⟨gb344, 0, none⟩ = some (.slice Ao9 t337.length co9) := (blk_cell BK344.out 0).trans rfl; have hcz14_1 : w13.cell? ⟨gb344, 1, none⟩ = some (.slice Ao12 t340.length co12) := (blk_cell BK344.out 1).trans rfl; have hfz14_0 := blk_frozen BK344.out 0; have hfz14_1 := blk_frozen BK344.out 1) | ((with_reducible refine gate_callee (f := 69) rfl ?_); refine goesL_ (some 16) rfl rfl Tryd.func69 (by kernel_rfl) rfl #[.agg #[.slice Ao9 t337.length co9, .slice Ao12 t340.length co12]] rfl (by (try simp only [List.map_toArray, List.map_cons, List.map_nil]); rfl) ?_; (with_reducible refine (spec_l1Less.calls k (fun k_ => some k_ = (.slice Ao9 t337.length co9 : Value).ownBlock) _ _ t337 (fun k_ => some k_ = (.slice Ao12 t340.length co12 : Value).ownBlock) _ _ t340 t345 t348 _ ?side1 ?side2 A4.out).mono ?_); (case side1 => exact Kd.R_V (Kd.R_tight rfl (Kd.R_types (Kd.R_types (HO339.out) BK336.out (by decide)) BK344.out (by decide)))); (case side2 => exact Kd.R_V (Kd.R_tight rfl (Kd.R_types (Kd.R_types (HO342.out) BK336.out (by decide)) BK344.out (by decide)))); rintro e w15 ⟨v346, v349, rfl, ho0, ho1, hb⟩; refine ⟨_, rfl, ?_⟩; have HO347 := Aside0.mk (Kd.V_lower (Kd.V_mono (ok' := fun k_ => (w.heap.size ≤ k_) ∧ k_ ≠ gb336 ∧ k_ ≠ gb344) ho0 (fun k_ hk_ => ⟨Or.elim hk_ (fun hs_ => Or.elim hs_ (fun hs_ => ((Kd.R_types (Kd.R_types (HO339.out) BK336.out (by decide)) BK344.out (by decide)).1 k_ hs_.symm).1.1.1) (fun hs_ => ((Kd.R_types (Kd.R_types (HO342.out) BK336.out (by decide)) BK344.out (by decide)).1 k_ hs_.symm).1.1.1)) (fun hn_ => (Nat.le_trans (below_size HB.out) hn_)), Or.elim hk_ (fun hs_ => Or.elim hs_ (fun hs_ => ((Kd.R_types (Kd.R_types (HO339.out) BK336.out (by decide)) BK344.out (by decide)).1 k_ hs_.symm).1.2) (fun hs_ => ((Kd.R_types (Kd.R_types (HO342.out) BK336.out (by decide)) BK344.out (by decide)).1 k_ hs_.symm).1.2)) (fun hn_ => (Kd.freshB (g := gb336) (o := .cells #[.slice none 0 0, .slice none 0 0] 56 (0, 0)) BK336.out k_ hn_)), Or.elim hk_ (fun hs_ => Or.elim hs_ (fun hs_ => ((Kd.R_types (Kd.R_types (HO339.out) BK336.out (by decide)) BK344.out (by decide)).1 k_ hs_.symm).2) (fun hs_ => ((Kd.R_types (Kd.R_types (HO342.out) BK336.out (by decide)) BK344.out (by decide)).1 k_ hs_.symm).2)) (fun hn_ => (Kd.freshB (g := gb344) (o := .cells #[.slice Ao9 t337.length co9, .slice Ao12 t340.length co12] 56 (0, 0)) BK344.out k_ hn_))⟩)) (below_size HB.out)); have HO350 := Aside0.mk (Kd.V_lower (Kd.V_mono (ok' := fun k_ => (w.heap.size ≤ k_) ∧ k_ ≠ gb336 ∧ k_ ≠ gb344) ho1 (fun k_ hk_ => ⟨Or.elim hk_ (fun hs_ => Or.elim hs_ (fun hs_ => ((Kd.R_types (Kd.R_types (HO339.out) BK336.out (by decide)) BK344.out (by decide)).1 k_ hs_.symm).1.1.1) (fun hs_ => ((Kd.R_types (Kd.R_types (HO342.out) BK336.out (by decide)) BK344.out (by decide)).1 k_ hs_.symm).1.1.1)) (fun hn_ => (Nat.le_trans (below_size HB.out) hn_)), Or.elim hk_ (fun hs_ => Or.elim hs_ (fun hs_ => ((Kd.R_types (Kd.R_types (HO339.out) BK336.out (by decide)) BK344.out (by decide)).1 k_ hs_.symm).1.2) (fun hs_ => ((Kd.R_types (Kd.R_types (HO342.out) BK336.out (by decide)) BK344.out (by decide)).1 k_ hs_.symm).1.2)) (fun hn_ => (Kd.freshB (g := gb336) (o := .cells #[.slice none 0 0, .slice none 0 0] 56 (0, 0)) BK336.out k_ hn_)), Or.elim hk_ (fun hs_ => Or.elim hs_ (fun hs_ => ((Kd.R_types (Kd.R_types (HO339.out) BK336.out (by decide)) BK344.out (by decide)).1 k_ hs_.symm).2) (fun hs_ => ((Kd.R_types (Kd.R_types (HO342.out) BK336.out (by decide)) BK344.out (by decide)).1 k_ hs_.symm).2)) (fun hn_ => (Kd.freshB (g := gb344) (o := .cells #[.slice Ao9 t337.length co9, .slice Ao12 t340.length co12] 56 (0, 0)) BK344.out k_ hn_))⟩)) (below_size HB.out)); replace HO339 := Aside0.mk (Kd.R_below HO339.out hb); replace HO342 := Aside0.mk (Kd.R_below HO342.out hb); replace BK336 := Aside0.mk (blk_below (g := gb336) (o := .cells #[.slice none 0 0, .slice none 0 0] 56 (0, 0)) BK336.out hb); replace BK344 := Aside0.mk (blk_below (g := gb344) (o := .cells #[.slice Ao9 t337.length co9, .slice Ao12 t340.length co12] 56 (0, 0)) BK344.out hb); replace HB := Aside0.mk (below_step HB.out hb); (try clear hb); (try clear ho0); (try clear ho1)) | ((with_reducible refine gate_dst (N := 6) rfl ?_); (try (refine gate_guard (by rfl) ?_; dsimp only)); refine box_event ?hg (N := 6) ?hd (cs := #[.slice none 0 0, .slice none 0 0]) (t := 56) ?hr ?_; (case hd => rfl); (case hg => rfl); (case hr => first | (go_simp; done)); intro gb351 hg w16 hbox hb; replace HO339 := Aside0.mk (Kd.R_below HO339.out hb); replace HO342 := Aside0.mk (Kd.R_below HO342.out hb); replace HO347 := Aside0.mk (Kd.V_below (Kd.V_elderB HO347.out gb351 (Nat.le_of_eq hg.symm)) hb); replace HO350 := Aside0.mk (Kd.V_below (Kd.V_elderB HO350.out gb351 (Nat.le_of_eq hg.symm)) hb); have BK351 := Aside0.mk hbox; have GW351 := Aside0.mk ((by rw [hg]; exact (below_size HB.out) : w.heap.size ≤ gb351)); have GE351 := Aside0.mk ((by rw [hg]; exact (below_size HB.out) : w.heap.size ≤ gb351)); replace HB := Aside0.mk (below_step HB.out hb); have NB336_351 := Aside0.mk ((by rw [hg]; exact Nat.ne_of_lt (blk_lt (g := gb336) (o := .cells #[.slice none 0 0, .slice none 0 0] 56 (0, 0)) BK336.out) : gb336 ≠ gb351)); have NB351_336 := Aside0.mk ((by rw [hg]; exact Nat.ne_of_gt (blk_lt (g := gb336) (o := .cells #[.slice none 0 0, .slice none 0 0] 56 (0, 0)) BK336.out) : gb351 ≠ gb336)); replace BK336 := Aside0.mk (blk_below (g := gb336) (o := .cells #[.slice none 0 0, .slice none 0 0] 56 (0, 0)) BK336.out hb); have NB344_351 := Aside0.mk ((by rw [hg]; exact Nat.ne_of_lt (blk_lt (g := gb344) (o := .cells #[.slice Ao9 t337.length co9, .slice Ao12 t340.length co12] 56 (0, 0)) BK344.out) : gb344 ≠ gb351)); have NB351_344 := Aside0.mk ((by rw [hg]; exact Nat.ne_of_gt (blk_lt (g := gb344) (o := .cells #[.slice Ao9 t337.length co9, .slice Ao12 t340.length co12] 56 (0, 0)) BK344.out) : gb351 ≠ gb344)); replace BK344 := Aside0.mk (blk_below (g := gb344) (o := .cells #[.slice Ao9 t337.length co9, .slice Ao12 t340.length co12] 56 (0, 0)) BK344.out hb); clear hb hbox hg; obtain ⟨Ao17, co17, eo17⟩ := Kd.V_slice HO347.out; subst eo17; have hnb18 := NB351_336.out; have hnc18 := NB336_351.out; have hnb19 := NB351_344.out; have hnc19 := NB344_351.out; have hcz20_0 : w16.cell? ⟨gb351, 0, none⟩ = some (.slice none 0 0) := (blk_cell BK351.out 0).trans rfl; have hcz20_1 : w16.cell? ⟨gb351, 1, none⟩ = some (.slice none 0 0) := (blk_cell BK351.out 1).trans rfl; have hfz20_0 := blk_frozen BK351.out 0; have hfz20_1 := blk_frozen BK351.out 1; obtain ⟨Ao21, co21, eo21⟩ := Kd.V_slice HO350.out; subst eo21))
   have n0_ : Aside0 (Kd.R Kd.bool 4 ((w16.setCell ⟨gb351, 0, none⟩ (.slice Ao17 t345.length co17)).setCell ⟨gb351, 1, none⟩ (.slice Ao21 t348.length co21)) w.heap.size (fun k_ => (w.heap.size ≤ k_) ∧ some k_ ≠ (.slice Ao12 t340.length co12 : Value).ownBlock) (.slice Ao9 t337.length co9) t337) := ⟨by exact Kd.R_mono (Kd.R_far (p := ⟨gb351, 1, none⟩) (Kd.R_far (p := ⟨gb351, 0, none⟩) (Kd.R_types HO339.out BK351.out (by decide)) (fun _ hk => hk.2) (.slice Ao17 t345.length co17)) (fun _ hk => hk.2) (.slice Ao21 t348.length co21)) (fun _ hk => ⟨hk.1.1, hk.1.2⟩)⟩
   have n1_ : Aside0 (Kd.R Kd.bool 4 ((w16.setCell ⟨gb351, 0, none⟩ (.slice Ao17 t345.length co17)).setCell ⟨gb351, 1, none⟩ (.slice Ao21 t348.length co21)) w.heap.size (fun k_ => (w.heap.size ≤ k_) ∧ some k_ ≠ (.slice Ao9 t337.length co9 : Value).ownBlock) (.slice Ao12 t340.length co12) t340) := ⟨by exact Kd.R_mono (Kd.R_far (p := ⟨gb351, 1, none⟩) (Kd.R_far (p := ⟨gb351, 0, none⟩) (Kd.R_types HO342.out BK351.out (by decide)) (fun _ hk => hk.2) (.slice Ao17 t345.length co17)) (fun _ hk => hk.2) (.slice Ao21 t348.length co21)) (fun _ hk => ⟨hk.1.1, hk.1.2⟩)⟩
   have n2_ : Aside0 (Kd.V Kd.bool 4 ((w16.setCell ⟨gb351, 0, none⟩ (.slice Ao17 t345.length co17)).setCell ⟨gb351, 1, none⟩ (.slice Ao21 t348.length co21)) w.heap.size (fun k_ => (w.heap.size ≤ k_) ∧ k_ ≠ gb336 ∧ k_ ≠ gb344 ∧ k_ ≠ gb351) (.slice Ao17 t345.length co17) t345) := ⟨by exact Kd.V_mono (Kd.V_far (p := ⟨gb351, 1, none⟩) (Kd.V_far (p := ⟨gb351, 0, none⟩) (Kd.V_mono HO347.out (fun k_ hk => (⟨hk, hk.2⟩ : _ ∧ k_ ≠ gb351))) (fun _ hk => hk.2) (.slice Ao17 t345.length co17)) (fun _ hk => hk.2) (.slice Ao21 t348.length co21)) (fun _ hk => ⟨hk.1.1.1, ⟨hk.1.1.2.1, ⟨hk.1.1.2.2, hk.1.2⟩⟩⟩)⟩
   have n3_ : Aside0 (Kd.V Kd.bool 4 ((w16.setCell ⟨gb351, 0, none⟩ (.slice Ao17 t345.length co17)).setCell ⟨gb351, 1, none⟩ (.slice Ao21 t348.length co21)) w.heap.size (fun k_ => (w.heap.size ≤ k_) ∧ k_ ≠ gb336 ∧ k_ ≠ gb344 ∧ k_ ≠ gb351) (.slice Ao21 t348.length co21) t348) := ⟨by exact Kd.V_mono (Kd.V_far (p := ⟨gb351, 1, none⟩) (Kd.V_far (p := ⟨gb351, 0, none⟩) (Kd.V_mono HO350.out (fun k_ hk => (⟨hk, hk.2⟩ : _ ∧ k_ ≠ gb351))) (fun _ hk => hk.2) (.slice Ao17 t345.length co17)) (fun _ hk => hk.2) (.slice Ao21 t348.length co21)) (fun _ hk => ⟨hk.1.1.1, ⟨hk.1.1.2.1, ⟨hk.1.1.2.2, hk.1.2⟩⟩⟩)⟩
   have n4_ : Aside0 (((w16.setCell ⟨gb351, 0, none⟩ (.slice Ao17 t345.length co17)).setCell ⟨gb351, 1, none⟩ (.slice Ao21 t348.length co21)).heap[gb336]? = some (.cells #[.slice none 0 0, .slice none 0 0] 56 (0, 0))) := ⟨by refine blk_far ?_ NB336_351.out _; refine blk_far ?_ NB336_351.out _; exact BK336.out⟩
   have n5_ : Aside0 (((w16.setCell ⟨gb351, 0, none⟩ (.slice Ao17 t345.length co17)).setCell ⟨gb351, 1, none⟩ (.slice Ao21 t348.length co21)).heap[gb344]? = some (.cells #[.slice Ao9 t337.length co9, .slice Ao12 t340.length co12] 56 (0, 0))) := ⟨by refine blk_far ?_ NB344_351.out _; refine blk_far ?_ NB344_351.out _; exact BK344.out⟩
   have n6_ : Aside0 (((w16.setCell ⟨gb351, 0, none⟩ (.slice Ao17 t345.length co17)).setCell ⟨gb351, 1, none⟩ (.slice Ao21 t348.length co21)).heap[gb351]? = some (.cells #[.slice Ao17 t345.length co17, .slice Ao21 t348.length co21] 56 (0, 0))) := ⟨by refine blk_put (cs := #[.slice Ao17 t345.length co17, .slice none 0 0]) ?_ 1 _ rfl; refine blk_put (cs := #[.slice none 0 0, .slice none 0 0]) ?_ 0 _ rfl; exact BK351.out⟩
   have n7_ : Aside0 (Below w.heap.size w ((w16.setCell ⟨gb351, 0, none⟩ (.slice Ao17 t345.length co17)).setCell ⟨gb351, 1, none⟩ (.slice Ao21 t348.length co21))) := ⟨by repeat (first | (with_reducible first | exact HB.out | refine below_set ?_ GE351.out))⟩
   (try clear HO339)
   (try clear HO342)
   (try clear HO347)
   (try clear HO350)
   (try clear BK336)
   (try clear BK344)
   (try clear BK351)
   (try clear HB)
   generalize ((w16.setCell ⟨gb351, 0, none⟩ (.slice Ao17 t345.length co17)).setCell ⟨gb351, 1, none⟩ (.slice Ao21 t348.length co21)) = w22 at n0_ n1_ n2_ n3_ n4_ n5_ n6_ n7_ ⊢
   have HO339 := n0_
   have HO342 := n1_
   have HO347 := n2_
   have HO350 := n3_
   have BK336 := n4_
   have BK344 := n5_
   have BK351 := n6_
   have HB := n7_
   clear n0_ n1_ n2_ n3_ n4_ n5_ n6_ n7_
   replace HO339 := Aside0.mk (Kd.R_drew HO339.out)
   replace HO342 := Aside0.mk (Kd.R_drew HO342.out)
   replace HO347 := Aside0.mk (Kd.V_drew HO347.out)
   replace HO350 := Aside0.mk (Kd.V_drew HO350.out)
   replace BK336 := Aside0.mk (blk_drew BK336.out)
   replace BK344 := Aside0.mk (blk_drew BK344.out)
   replace BK351 := Aside0.mk (blk_drew BK351.out)
   replace HB := Aside0.mk (below_drew1 HB.out)
   refine start_ (n := 13) (S := fun w' => w'.cell? ⟨gb351, 0, none⟩ = some (.slice Ao17 t345.length co17) ∧ w'.cell? ⟨gb351, 1, none⟩ = some (.slice Ao21 t348.length co21)) (ds := []) #[false, false, false, false, false, false, false, false, false, false, false, false, false] (by kernel_rfl) rfl rfl ⟨(blk_cell BK351.out 0).trans rfl, (blk_cell BK351.out 1).trans rfl⟩ (fun hHeld => ?_); refine with_tabW spec_l4Small.tab5 spec_l4Small.bits5 (fun HT_ HW_ => ?_)
   generalize w22.drew = w23 at HO339 HO342 HO347 HO350 BK336 BK344 BK351 HB hHeld ⊢
   refine pure_ (i := 1) (N := some 18) (v := ?_) (a' := ?_) #[false, true, false, false, false, false, false, false, false, false, false, false, false] rfl rfl (any_of HT_.out (by kernel_rfl)) (fun _ _ _ h => h) (Or.inl ⟨by rfl, ?_⟩) ?_ ?_
   rotate_left
   ·intro w'
    go_simp
    with_reducible rfl
   rotate_left
   ·simp only [Act.put, List.setIfInBounds_toArray, List.set_cons_zero, List.set_cons_succ, i64_w, i32_w]
    rfl
   refine take_ (i := 0) (N := some 17) (v := ?_) (a' := ?_) #[true, true, false, false, false, false, false, false, false, false, false, false, false] rfl rfl (take_ofW HT_.out HW_.out (by kernel_rfl)) (fun _ _ _ h => h) (Or.inl ⟨by rfl, ?_⟩) hHeld ?_ ?_
   rotate_left
   ·rintro w' ⟨s0, s1⟩
    go_simp
    with_reducible rfl
   rotate_left
   ·simp only [Act.put, List.setIfInBounds_toArray, List.set_cons_zero, List.set_cons_succ, i64_w, i32_w]
    rfl
   refine take_ (i := 2) (N := some 19) (v := ?_) (a' := ?_) #[true, true, true, false, false, false, false, false, false, false, false, false, false] rfl rfl (take_ofW HT_.out HW_.out (by kernel_rfl)) (fun _ _ _ h => h) (Or.inl ⟨by rfl, ?_⟩) hHeld ?_ ?_
   rotate_left
   ·rintro w' ⟨s0, s1⟩
    go_simp
    with_reducible rfl
   rotate_left
   ·simp only [Act.put, List.setIfInBounds_toArray, List.set_cons_zero, List.set_cons_succ, i64_w, i32_w]
    rfl
   refine pure_ (i := 3) (N := some 20) (v := ?_) (a' := ?_) #[true, true, true, true, false, false, false, false, false, false, false, false, false] rfl rfl (any_of HT_.out (by kernel_rfl)) (fun _ _ _ h => h) (Or.inl ⟨by rfl, ?_⟩) ?_ ?_
   rotate_left
   ·intro w'
    go_simp
    with_reducible rfl
   rotate_left
   ·simp only [Act.put, List.setIfInBounds_toArray, List.set_cons_zero, List.set_cons_succ, i64_w, i32_w]
    rfl
   refine pure_ (i := 4) (N := some 21) (v := ?_) (a' := ?_) #[true, true, true, true, true, false, false, false, false, false, false, false, false] rfl rfl (any_of HT_.out (by kernel_rfl)) (fun _ _ _ h => h) (Or.inl ⟨by rfl, ?_⟩) ?_ ?_
   rotate_left
   ·intro w'
    go_simp
    with_reducible rfl
   rotate_left
   ·simp only [Act.put, List.setIfInBounds_toArray, List.set_cons_zero, List.set_cons_succ, i64_w, i32_w]
    rfl
   refine pure_ (i := 5) (N := some 22) (v := ?_) (a' := ?_) #[true, true, true, true, true, true, false, false, false, false, false, false, false] rfl rfl (any_of HT_.out (by kernel_rfl)) (fun _ _ _ h => h) (Or.inl ⟨by rfl, ?_⟩) ?_ ?_
   rotate_left
   ·intro w'
    go_simp
    with_reducible rfl
   rotate_left
   ·simp only [Act.put, List.setIfInBounds_toArray, List.set_cons_zero, List.set_cons_succ, i64_w, i32_w]
    rfl
   first
   |refine pure_ (i := 6) (N := some 23) (v := ?_) (a' := ?_) #[true, true, true, true, true, true, true, false, false, false, false, false, false] rfl rfl (any_of HT_.out (by kernel_rfl)) (fun _ _ _ h => h) (Or.inl ⟨by rfl, ?_⟩) ?_ ?_
    rotate_left
    ·intro w'
     go_simp
     with_reducible rfl
   |refine pure_ (i := 6) (N := some 23) (v := undef) (a' := ?_) #[true, true, true, true, true, true, true, false, false, false, false, false, false] rfl rfl (any_of HT_.out (by kernel_rfl)) (fun _ _ _ h => h) (Or.inr ⟨by rfl, rfl⟩) ?_ ?_
   rotate_left
   ·simp only [Act.put, List.setIfInBounds_toArray, List.set_cons_zero, List.set_cons_succ, i64_w, i32_w]
    rfl
   first
   |refine take_ (i := 7) (N := some 24) (v := ?_) (a' := ?_) #[true, true, true, true, true, true, true, true, false, false, false, false, false] rfl rfl (take_ofW HT_.out HW_.out (by kernel_rfl)) (fun _ _ _ h => h) (Or.inl ⟨by rfl, ?_⟩) hHeld ?_ ?_
    rotate_left
    ·rintro w' ⟨s0, s1⟩
     go_simp
     with_reducible rfl
   |refine pure_ (i := 7) (N := some 24) (v := undef) (a' := ?_) #[true, true, true, true, true, true, true, true, false, false, false, false, false] rfl rfl (any_of HT_.out (by kernel_rfl)) (fun _ _ _ h => h) (Or.inr ⟨by rfl, rfl⟩) ?_ ?_
   rotate_left
   ·simp only [Act.put, List.setIfInBounds_toArray, List.set_cons_zero, List.set_cons_succ, i64_w, i32_w]
    rfl
   first
   |refine pure_ (i := 8) (N := some 25) (v := ?_) (a' := ?_) #[true, true, true, true, true, true, true, true, true, false, false, false, false] rfl rfl (any_of HT_.out (by kernel_rfl)) (fun _ _ _ h => h) (Or.inl ⟨by rfl, ?_⟩) ?_ ?_
    rotate_left
    ·intro w'
     go_simp
     with_reducible rfl
   |refine pure_ (i := 8) (N := some 25) (v := undef) (a' := ?_) #[true, true, true, true, true, true, true, true, true, false, false, false, false] rfl rfl (any_of HT_.out (by kernel_rfl)) (fun _ _ _ h => h) (Or.inr ⟨by rfl, rfl⟩) ?_ ?_
   rotate_left
   ·simp only [Act.put, List.setIfInBounds_toArray, List.set_cons_zero, List.set_cons_succ, i64_w, i32_w]
    rfl
   first
   |refine pure_ (i := 9) (N := some 26) (v := ?_) (a' := ?_) #[true, true, true, true, true, true, true, true, true, true, false, false, false] rfl rfl (any_of HT_.out (by kernel_rfl)) (fun _ _ _ h => h) (Or.inl ⟨by rfl, ?_⟩) ?_ ?_
    rotate_left
    ·intro w'
     go_simp
     with_reducible rfl
   |refine pure_ (i := 9) (N := some 26) (v := undef) (a' := ?_) #[true, true, true, true, true, true, true, true, true, true, false, false, false] rfl rfl (any_of HT_.out (by kernel_rfl)) (fun _ _ _ h => h) (Or.inr ⟨by rfl, rfl⟩) ?_ ?_
   rotate_left
   ·simp only [Act.put, List.setIfInBounds_toArray, List.set_cons_zero, List.set_cons_succ, i64_w, i32_w]
    rfl
   refine pure_ (i := 10) (N := some 27) (v := ?_) (a' := ?_) #[true, true, true, true, true, true, true, true, true, true, true, false, false] rfl rfl (any_of HT_.out (by kernel_rfl)) (fun _ _ _ h => h) (Or.inl ⟨by rfl, ?_⟩) ?_ ?_
   rotate_left
   ·intro w'
    go_simp
    with_reducible rfl
   rotate_left
   ·simp only [Act.put, List.setIfInBounds_toArray, List.set_cons_zero, List.set_cons_succ, i64_w, i32_w]
    rfl
   refine one_ (i := 11) (N := none) #[true, true, true, true, true, true, true, true, true, true, true, true, false] rfl rfl (one_of HT_.out (by kernel_rfl)) (by decide) (fun K hK => ?_)
   have hs24 : w23.cell? ⟨gb336, 0, none⟩ = some (.slice none 0 0) := (blk_cell BK336.out 0).trans rfl
   have hfs24 := blk_frozen BK336.out 0
   have hns24_1 := NB344_336.out
   have hns24_2 := NB351_336.out
   have hms24_1 := NB336_344.out
   have hms24_2 := NB336_351.out
   have hs25 : w23.cell? ⟨gb336, 1, none⟩ = some (.slice none 0 0) := (blk_cell BK336.out 1).trans rfl
   have hfs25 := blk_frozen BK336.out 1
   have hns25_1 := NB344_336.out
   have hns25_2 := NB351_336.out
   have hms25_1 := NB336_344.out
   have hms25_2 := NB336_351.out
   refine skip_ (w1 := ?_) (by rfl) rfl ?_ ?_
   rotate_left
   ·go_simp
    rfl
   refine hK.out _ _ ⟨((cell_far (p := ⟨gb336, _, none⟩) NB351_336.out _).trans (((cell_far (p := ⟨gb336, _, none⟩) NB351_336.out _).trans (hHeld.1)))), ((cell_far (p := ⟨gb336, _, none⟩) NB351_336.out _).trans (((cell_far (p := ⟨gb336, _, none⟩) NB351_336.out _).trans (hHeld.2))))⟩ (fun hHeld => ?_)
   clear hK K
   refine pure_ (i := 12) (N := some 3) (v := ?_) (a' := ?_) #[true, true, true, true, true, true, true, true, true, true, true, true, true] rfl rfl (any_of HT_.out (by kernel_rfl)) (fun _ _ _ h => h) (Or.inl ⟨by rfl, ?_⟩) ?_ ?_
   rotate_left
   ·intro w'
    go_simp
    with_reducible rfl
   rotate_left
   ·simp only [Act.put, List.setIfInBounds_toArray, List.set_cons_zero, List.set_cons_succ, i64_w, i32_w]
    rfl
   refine done_ (done_of HT_.out (by kernel_rfl)) ?_
   try go_wp2
   refine bodyPost_ret (results_ct rfl _ _ gb336 56 #[.slice Ao17 t345.length co17, .slice Ao21 t348.length co21] (0, 0) _ rfl (by refine blk_put (cs := #[.slice Ao17 t345.length co17, .slice none 0 0]) ?_ 1 _ rfl; refine blk_put (cs := #[.slice none 0 0, .slice none 0 0]) ?_ 0 _ rfl; exact BK336.out) Tryd.underlying56 rfl (by kernel_rfl)) rfl ?_
   exact ⟨_, _, by first | rfl | (simp [*, errW_none, errW_some] <;> rfl), by exact Kd.V_mono (Kd.V_far (p := ⟨gb336, 1, none⟩) (Kd.V_far (p := ⟨gb336, 0, none⟩) (Kd.V_mono HO347.out (fun k_ hk => (⟨hk, hk.2.1⟩ : _ ∧ k_ ≠ gb336))) (fun _ hk => hk.2) (.slice Ao17 t345.length co17)) (fun _ hk => hk.2) (.slice Ao21 t348.length co21)) (fun _ hk => hk.1.1), by exact Kd.V_mono (Kd.V_far (p := ⟨gb336, 1, none⟩) (Kd.V_far (p := ⟨gb336, 0, none⟩) (Kd.V_mono HO350.out (fun k_ hk => (⟨hk, hk.2.1⟩ : _ ∧ k_ ≠ gb336))) (fun _ hk => hk.2) (.slice Ao17 t345.length co17)) (fun _ hk => hk.2) (.slice Ao21 t348.length co21)) (fun _ hk => hk.1.1), by repeat (first | (with_reducible first | exact HB.out | refine below_set ?_ GE336.out))⟩
 ·replace c3 := Bool.eq_false_iff.mpr c3
  subst c3
  replace H : (some (t337, t340, false)) = some (r1, r2, r3) := by rw [if_neg (show ¬ (false = true) by decide)] at H; exact H
  simp only [Option.some.injEq, Prod.mk.injEq] at H
  obtain ⟨rfl, rfl, rfl⟩ := H
  go_enter Tryd.func44, Tryd.ntmps44
  go_wp2_with (first | ((with_reducible refine gate_dst (N := 2) rfl ?_); (try (refine gate_guard (by rfl) ?_; dsimp only)); refine box_event ?hg (N := 2) ?hd (cs := #[.slice none 0 0, .slice none 0 0]) (t := 56) ?hr ?_; (case hd => rfl); (case hg => rfl); (case hr => first | (go_simp; done)); intro gb336 hg w46 hbox hb; have BK336 := Aside0.mk hbox; have GW336 := Aside0.mk ((by rw [hg]; exact (below_size HB.out) : w.heap.size ≤ gb336)); have GE336 := Aside0.mk ((by rw [hg]; exact (below_size HB.out) : w.heap.size ≤ gb336)); replace HB := Aside0.mk (below_step HB.out hb); clear hb hbox hg) | ((with_reducible refine gate_callee (f := 59) rfl ?_); refine goesL_ (some 9) rfl rfl Tryd.func59 (by kernel_rfl) rfl #[.string a0] rfl (by (try simp only [List.map_toArray, List.map_cons, List.map_nil]); rfl) ?_; (with_reducible refine (spec_l1Read.calls k a0 t337 t340 false _ A2.out).mono ?_); rintro e w47 ⟨v338, v341, rfl, ho0, ho1, hb⟩; refine ⟨_, rfl, ?_⟩; have HO339 := Aside0.mk (Kd.R_lower (Kd.R_newM (M := fun k_ => (w.heap.size ≤ k_)) ho0 (below_size HB.out) (fun k_ h_ => h_)) (below_size HB.out)); have HO342 := Aside0.mk (Kd.R_lower (Kd.R_newM (M := fun k_ => (w.heap.size ≤ k_)) ho1 (below_size HB.out) (fun k_ h_ => h_)) (below_size HB.out)); replace BK336 := Aside0.mk (blk_below (g := gb336) (o := .cells #[.slice none 0 0, .slice none 0 0] 56 (0, 0)) BK336.out hb); replace HB := Aside0.mk (below_step HB.out hb); (try clear hb); (try clear ho0); (try clear ho1)) | ((with_reducible refine gate_dst (N := 4) rfl ?_); (try (refine gate_guard (by rfl) ?_; dsimp only)); refine box_event ?hg (N := 4) ?hd (cs := #[.slice none 0 0, .slice none 0 0]) (t := 56) ?hr ?_; (case hd => rfl); (case hg => rfl); (case hr => first | (go_simp; done)); intro gb344 hg w48 hbox hb; replace HO339 := Aside0.mk (Kd.R_below HO339.out hb); replace HO342 := Aside0.mk (Kd.R_below HO342.out hb); have BK344 := Aside0.mk hbox; have GW344 := Aside0.mk ((by rw [hg]; exact (below_size HB.out) : w.heap.size ≤ gb344)); have GE344 := Aside0.mk ((by rw [hg]; exact (below_size HB.out) : w.heap.size ≤ gb344)); replace HB := Aside0.mk (below_step HB.out hb); have NB336_344 := Aside0.mk ((by rw [hg]; exact Nat.ne_of_lt (blk_lt (g := gb336) (o := .cells #[.slice none 0 0, .slice none 0 0] 56 (0, 0)) BK336.out) : gb336 ≠ gb344)); have NB344_336 := Aside0.mk ((by rw [hg]; exact Nat.ne_of_gt (blk_lt (g := gb336) (o := .cells #[.slice none 0 0, .slice none 0 0] 56 (0, 0)) BK336.out) : gb344 ≠ gb336)); replace BK336 := Aside0.mk (blk_below (g := gb336) (o := .cells #[.slice none 0 0, .slice none 0 0] 56 (0, 0)) BK336.out hb); clear hb hbox hg; obtain ⟨Ao49, co49, eo49⟩ := Kd.R_slice HO339.out; subst eo49; have hnb50 := NB344_336.out; have hnc50 := NB336_344.out; have hcz51_0 : w48.cell? ⟨gb344, 0, none⟩ = some (.slice none 0 0) := (blk_cell BK344.out 0).trans rfl; have hcz51_1 : w48.cell? ⟨gb344, 1, none⟩ = some (.slice none 0 0) := (blk_cell BK344.out 1).trans rfl; have hfz51_0 := blk_frozen BK344.out 0; have hfz51_1 := blk_frozen BK344.out 1; obtain ⟨Ao52, co52, eo52⟩ := Kd.R_slice HO342.out; subst eo52; have hcz53_0 : w48.cell? ⟨gb336, 0, none⟩ = some (.slice none 0 0) := (blk_cell BK336.out 0).trans rfl; have hcz53_1 : w48.cell? ⟨gb336, 1, none⟩ = some (.slice none 0 0) := (blk_cell BK336.out 1).trans rfl; have hfz53_0 := blk_frozen BK336.out 0; have hfz53_1 := blk_frozen BK336.out 1))
  refine bodyPost_ret (results_ct rfl _ _ gb336 56 #[.slice Ao49 t337.length co49, .slice Ao52 t340.length co52] (0, 0) _ rfl (by refine blk_put (cs := #[.slice Ao49 t337.length co49, .slice none 0 0]) ?_ 1 _ rfl; refine blk_put (cs := #[.slice none 0 0, .slice none 0 0]) ?_ 0 _ rfl; refine blk_far ?_ NB336_344.out _; refine blk_far ?_ NB336_344.out _; exact BK336.out) Tryd.underlying56 rfl (by kernel_rfl)) rfl ?_
  exact ⟨_, _, by first | rfl | (simp [*, errW_none, errW_some] <;> rfl), Kd.R_V (by exact Kd.R_mono (Kd.R_far (p := ⟨gb336, 1, none⟩) (Kd.R_far (p := ⟨gb336, 0, none⟩) (Kd.R_far (p := ⟨gb344, 1, none⟩) (Kd.R_far (p := ⟨gb344, 0, none⟩) (Kd.R_types (Kd.R_types HO339.out BK344.out (by decide)) BK336.out (by decide)) (fun _ hk => hk.1.2) (.slice Ao49 t337.length co49)) (fun _ hk => hk.1.2) (.slice Ao52 t340.length co52)) (fun _ hk => hk.2) (.slice Ao49 t337.length co49)) (fun _ hk => hk.2) (.slice Ao52 t340.length co52)) (fun _ hk => hk.1.1.1)), Kd.R_V (by exact Kd.R_mono (Kd.R_far (p := ⟨gb336, 1, none⟩) (Kd.R_far (p := ⟨gb336, 0, none⟩) (Kd.R_far (p := ⟨gb344, 1, none⟩) (Kd.R_far (p := ⟨gb344, 0, none⟩) (Kd.R_types (Kd.R_types HO342.out BK344.out (by decide)) BK336.out (by decide)) (fun _ hk => hk.1.2) (.slice Ao49 t337.length co49)) (fun _ hk => hk.1.2) (.slice Ao52 t340.length co52)) (fun _ hk => hk.2) (.slice Ao49 t337.length co49)) (fun _ hk => hk.2) (.slice Ao52 t340.length co52)) (fun _ hk => hk.1.1.1)), by repeat (first | (with_reducible first | exact HB.out | refine below_set ?_ GE336.out | refine below_set ?_ GE344.out))⟩


def spec_l6In.f (a0 : Int) (a1 : Int) (a2 : Int) : Option (Bool) := if a0 ≥ a1 then (some (decide (a0 ≤ a2))) else (some false)
set_option maxHeartbeats 8000000 in
set_option maxRecDepth 100000 in
theorem spec_l6In.calls (a0 : Int) (a1 : Int) (a2 : Int) (r : Bool) (w : World) (h : spec_l6In.f a0 a1 a2 = some r) :
  Calls Tryd.prog 45 #[.int .i64 a0, .int .i64 a1, .int .i64 a2] w fun e w' => e = .returned (.bool r) ∧ Drawn0 w w' := by
 have H : (if a0 ≥ a1 then (some (decide (a0 ≤ a2))) else (some false)) = some r := h
 clear h
 by_cases c4 : a0 ≥ a1
 ·rw [if_pos c4] at H
  have c4b0 : decide (a1 ≤ a0) = true := decide_eq_true c4
  clear c4
  obtain rfl := Option.some.inj H
  go_enter Tryd.func45, Tryd.ntmps45
  go_wp2
  go_ret
  exact ⟨by first | rfl | (simp; done) | (simp [*]; done), by repeat (first | exact Drawn0.refl _ | apply Drawn0.step)⟩
 ·rw [if_neg c4] at H
  have c4b0 : decide (a1 ≤ a0) = false := decide_eq_false c4
  clear c4
  obtain rfl := Option.some.inj H
  go_enter Tryd.func45, Tryd.ntmps45
  go_wp2
  go_ret
  exact ⟨by first | rfl | (simp; done) | (simp [*]; done), by repeat (first | exact Drawn0.refl _ | apply Drawn0.step)⟩


def spec_l1Has.f (l0_0 : List Bool) (l0_1 : List Bool) (a1 : Int) : Option (Bool) := if a1 < (l0_0.length : Int) then (if 0 ≤ a1 then (some (rdOf false l0_0 a1)) else (none)) else (if (l0_1.length : Int) = 0 then (none) else (if 0 ≤ (Int.tmod (wrap64 (a1 - (l0_0.length : Int))) (l0_1.length : Int)) then (if (Int.tmod (wrap64 (a1 - (l0_0.length : Int))) (l0_1.length : Int)) < (l0_1.length : Int) then (some (rdOf false l0_1 (Int.tmod (wrap64 (a1 - (l0_0.length : Int))) (l0_1.length : Int)))) else (none)) else (none)))
set_option maxHeartbeats 8000000 in
set_option maxRecDepth 100000 in
theorem spec_l1Has.calls (A0_0 : Option Addr) (c0_0 : Nat) (l0_0 : List Bool) (A0_1 : Option Addr) (c0_1 : Nat) (l0_1 : List Bool) (a1 : Int) (r : Bool) (w : World) (hr0_0 : Kd.C Kd.bool w A0_0 l0_0.length l0_0) (hc0_0 : l0_0.length ≤ c0_0) (hr0_1 : Kd.C Kd.bool w A0_1 l0_1.length l0_1) (hc0_1 : l0_1.length ≤ c0_1) (h : spec_l1Has.f l0_0 l0_1 a1 = some r) :
  Calls Tryd.prog 61 #[.agg #[.slice A0_0 l0_0.length c0_0, .slice A0_1 l0_1.length c0_1], .int .i64 a1] w fun e w' => e = .returned (.bool r) ∧ Below w.heap.size w w' := by
 have hu56 := Tryd.underlying56
 have HR0_0 := Aside0.mk hr0_0
 have HC0_0 := Aside0.mk hc0_0
 clear hr0_0 hc0_0
 have HR0_1 := Aside0.mk hr0_1
 have HC0_1 := Aside0.mk hc0_1
 clear hr0_1 hc0_1
 have HB := Aside0.mk (Below.refl w.heap.size w)
 have H : (if a1 < (l0_0.length : Int) then (if 0 ≤ a1 then (some (rdOf false l0_0 a1)) else (none)) else (if (l0_1.length : Int) = 0 then (none) else (if 0 ≤ (Int.tmod (wrap64 (a1 - (l0_0.length : Int))) (l0_1.length : Int)) then (if (Int.tmod (wrap64 (a1 - (l0_0.length : Int))) (l0_1.length : Int)) < (l0_1.length : Int) then (some (rdOf false l0_1 (Int.tmod (wrap64 (a1 - (l0_0.length : Int))) (l0_1.length : Int)))) else (none)) else (none)))) = some r := h
 clear h
 by_cases c3 : a1 < (l0_0.length : Int)
 ·rw [if_pos c3] at H
  have c3b0 : decide (a1 < (l0_0.length : Int)) = true := decide_eq_true c3
  clear c3
  by_cases c4 : 0 ≤ a1
  ·rw [if_pos c4] at H
   have c4b0 : decide (0 ≤ a1) = true := decide_eq_true c4
   clear c4
   obtain rfl := Option.some.inj H
   go_enter Tryd.func61, Tryd.ntmps61
   go_wp2_with (first | ((with_reducible refine gate_dst (N := 2) rfl ?_); refine box_event ?hg (N := 2) ?hd (cs := #[.slice A0_0 l0_0.length c0_0, .slice A0_1 l0_1.length c0_1]) (t := 56) ?hr ?_; (case hd => rfl); (case hg => rfl); (case hr => first | (go_simp; done)); intro gb352 hg w5 hbox hb; have BK352 := Aside0.mk hbox; have GW352 := Aside0.mk ((by rw [hg]; exact (below_size HB.out) : w.heap.size ≤ gb352)); have GE352 := Aside0.mk ((by rw [hg]; exact (below_size HB.out) : w.heap.size ≤ gb352)); replace HB := Aside0.mk (below_step HB.out hb); clear hb hbox hg; have hcz6_0 : w5.cell? ⟨gb352, 0, none⟩ = some (.slice A0_0 l0_0.length c0_0) := (blk_cell BK352.out 0).trans rfl; have hcz6_1 : w5.cell? ⟨gb352, 1, none⟩ = some (.slice A0_1 l0_1.length c0_1) := (blk_cell BK352.out 1).trans rfl; have hfz6_0 := blk_frozen BK352.out 0; have hfz6_1 := blk_frozen BK352.out 1; have p353 : 0 ≤ (a1 : Int) := of_decide_eq_true (by (with_reducible assumption)); have q353 : a1 < (l0_0.length : Int) := of_decide_eq_true (by (with_reducible assumption)); obtain ⟨ad353, e353, hx353_0⟩ := Kd.at_bool HR0_0.out a1 p353 q353; cases e353; replace hx353_0 := (HB.out.cell (World.block_lt_of_cell? w _ hx353_0)).trans hx353_0; replace p353 := eq_true p353; replace q353 := eq_true q353))
   repeat (go_quiet (fail); try go_wp2_with (fail))
   go_ret
   exact ⟨by first | rfl | (simp [*, errW_none, errW_some] <;> rfl), HB.out⟩
  ·rw [if_neg c4] at H
   exact absurd H (by simp)
 ·rw [if_neg c3] at H
  have c3b0 : decide (a1 < (l0_0.length : Int)) = false := decide_eq_false c3
  clear c3
  by_cases c7 : (l0_1.length : Int) = 0
  ·rw [if_pos c7] at H
   exact absurd H (by simp)
  ·rw [if_neg c7] at H
   have c7b0 : ((l0_1.length : Int) == 0) = false := beq_eq_false_iff_ne.mpr c7
   have c7b1 : ((l0_1.length : Int) != 0) = true := bne_iff_ne.mpr c7
   have c7b2 : ¬ (l0_1 = []) := fun h_ => c7 (by rw [h_]; rfl)
   obtain ⟨ji8, hji8⟩ : ∃ j_ : Int, (Int.tmod (wrap64 (a1 - (l0_0.length : Int))) (l0_1.length : Int)) = j_ := ⟨_, rfl⟩
   replace H : (if 0 ≤ (ji8) then (if (ji8) < (l0_1.length : Int) then (some (rdOf false l0_1 (ji8))) else (none)) else (none)) = some r := by first | (rw [hji8] at H; exact H)
   by_cases c9 : 0 ≤ (ji8)
   ·rw [if_pos c9] at H
    have c9b0 : decide (0 ≤ (ji8)) = true := decide_eq_true c9
    clear c9
    by_cases c10 : (ji8) < (l0_1.length : Int)
    ·rw [if_pos c10] at H
     have c10b0 : decide ((ji8) < (l0_1.length : Int)) = true := decide_eq_true c10
     clear c10
     obtain rfl := Option.some.inj H
     go_enter Tryd.func61, Tryd.ntmps61
     go_wp2_with (first | ((with_reducible refine gate_dst (N := 2) rfl ?_); refine box_event ?hg (N := 2) ?hd (cs := #[.slice A0_0 l0_0.length c0_0, .slice A0_1 l0_1.length c0_1]) (t := 56) ?hr ?_; (case hd => rfl); (case hg => rfl); (case hr => first | (go_simp; done)); intro gb352 hg w11 hbox hb; have BK352 := Aside0.mk hbox; have GW352 := Aside0.mk ((by rw [hg]; exact (below_size HB.out) : w.heap.size ≤ gb352)); have GE352 := Aside0.mk ((by rw [hg]; exact (below_size HB.out) : w.heap.size ≤ gb352)); replace HB := Aside0.mk (below_step HB.out hb); clear hb hbox hg; have hcz12_0 : w11.cell? ⟨gb352, 0, none⟩ = some (.slice A0_0 l0_0.length c0_0) := (blk_cell BK352.out 0).trans rfl; have hcz12_1 : w11.cell? ⟨gb352, 1, none⟩ = some (.slice A0_1 l0_1.length c0_1) := (blk_cell BK352.out 1).trans rfl; have hfz12_0 := blk_frozen BK352.out 0; have hfz12_1 := blk_frozen BK352.out 1; have p354 : 0 ≤ ((ji8) : Int) := of_decide_eq_true (by (with_reducible assumption)); have q354 : (ji8) < (l0_1.length : Int) := of_decide_eq_true (by (with_reducible assumption)); obtain ⟨ad354, e354, hx354_0⟩ := Kd.at_bool HR0_1.out (ji8) p354 q354; cases e354; replace hx354_0 := (HB.out.cell (World.block_lt_of_cell? w _ hx354_0)).trans hx354_0; replace p354 := eq_true p354; replace q354 := eq_true q354))
     repeat (go_quiet (fail); try go_wp2_with (fail))
     go_ret
     exact ⟨by first | rfl | (simp [*, errW_none, errW_some] <;> rfl), by repeat (first | (with_reducible first | exact HB.out | apply pw_below_drewN))⟩
    ·rw [if_neg c10] at H
     exact absurd H (by simp)
   ·rw [if_neg c9] at H
    exact absurd H (by simp)


def spec_l1Divisor.l0 : Nat → Int → Int → Option (Int)
 | 0, _, _ => none
 | k + 1, x0, x1 => if x1 > 0 then (if x1 = 0 then (none) else (spec_l1Divisor.l0 k x1 (Int.tmod x0 x1))) else (some x0)
def spec_l1Divisor.f (k : Nat) (a0 : Int) (a1 : Int) : Option (Int) := spec_l1Divisor.l0 k a0 a1
theorem spec_l1Divisor.mono_l : ∀ k, (∀ y0 y1, LeO (spec_l1Divisor.l0 k y0 y1) (spec_l1Divisor.l0 (k + 1) y0 y1))
 | 0 => fun _ _ r h => by simp [spec_l1Divisor.l0] at h
 | k + 1 => by
  have ih0 := spec_l1Divisor.mono_l k
  ·intro y0 y1
   unfold spec_l1Divisor.l0
   repeat' first | (with_reducible exact ih0 _ _) | (with_reducible exact LeO.refl _) | (with_reducible refine LeO.ite ?_ ?_)
theorem spec_l1Divisor.mono : ∀ a0 a1 k, LeO (spec_l1Divisor.f k a0 a1) (spec_l1Divisor.f (k + 1) a0 a1) := by
 intro a0 a1 k
 have ih0 := spec_l1Divisor.mono_l k
 unfold spec_l1Divisor.f
 repeat' (with_reducible exact ih0 _ _)
set_option maxHeartbeats 8000000 in
set_option maxRecDepth 100000 in
theorem spec_l1Divisor.calls (k : Nat) (a0 : Int) (a1 : Int) (r : Int) (w : World) (h : spec_l1Divisor.f k a0 a1 = some r) :
  Calls Tryd.prog 70 #[.int .i64 a0, .int .i64 a1] w fun e w' => e = .returned (.int .i64 r) ∧ Drawn0 w w' := by
 have H : (spec_l1Divisor.l0 k a0 a1) = some r := h
 clear h
 have H' := Aside0.mk H
 clear H
 go_enter Tryd.func70, Tryd.ntmps70
 go_wp2
 go_loopg [0, 1] k (fun kq v0 v1 w' => ∃ (x0_1 : Int) (x1_1 : Int), v0 = .int .i64 x0_1 ∧ v1 = .int .i64 x1_1 ∧ Aside0 (spec_l1Divisor.l0 kq x0_1 x1_1 = some r) ∧ Aside0 (kq ≤ k) ∧ Drawn0 w w')
 case atStart => exact ⟨(a0), (a1), (by rfl), (by rfl), H', ⟨Nat.le_refl _⟩, by repeat (exact Drawn0.refl _)⟩
 case round =>
  clear H'
  obtain ⟨x0_1, x1_1, rfl, rfl, HA, HK1, ⟨m1, rfl⟩⟩ := hrel
  cases gk with
  | zero => exact absurd HA.out (by simp [spec_l1Divisor.l0])
  | succ k1 =>
   have H := HA.out
   clear HA
   simp only [spec_l1Divisor.l0] at H
   by_cases c3 : x1_1 > 0
   ·rw [if_pos c3] at H
    have c3b0 : decide (0 < x1_1) = true := decide_eq_true c3
    clear c3
    by_cases c4 : x1_1 = 0
    ·rw [if_pos c4] at H
     exact absurd H (by simp)
    ·rw [if_neg c4] at H
     have c4b0 : (x1_1 == 0) = false := beq_eq_false_iff_ne.mpr c4
     have c4b1 : (x1_1 != 0) = true := bne_iff_ne.mpr c4
     have H' := Aside0.mk H
     clear H
     go_wp2
     go_roundg k1
     case measure => have := HK1.out; omega
     case rel => exact ⟨(x1_1), (Int.tmod x0_1 x1_1), (by rfl), (by rfl), H', ⟨by have := HK1.out; omega⟩, by repeat (first | exact Drawn0.refl _ | apply Drawn0.step)⟩
   ·rw [if_neg c3] at H
    have c3b0 : decide (0 < x1_1) = false := decide_eq_false c3
    clear c3
    obtain rfl := Option.some.inj H
    go_wp2
    go_ret
    exact ⟨by first | rfl | (simp [*]; done), by repeat (first | exact Drawn0.refl _ | apply Drawn0.step)⟩


def spec_l11Common.l0 : Nat → Int → Int → List Bool → List Bool → Option (Int)
 | 0, _, _, _, _ => none
 | k + 1, x3, x4, x356000, x356001 => if x4 < 40 then ((spec_l1Has.f x356000 x356001 x4).bind fun t356 => (if t356 = true then ((spec_l1Divisor.f k x4 x3).bind fun t357 => (spec_l11Common.l0 k t357 (wrap64 (x4 + 1)) x356000 x356001)) else (spec_l11Common.l0 k x3 (wrap64 (x4 + 1)) x356000 x356001))) else (some x3)
def spec_l11Common.f (k : Nat) (l0_0 : List Bool) (l0_1 : List Bool) : Option (Int) := spec_l11Common.l0 k 0 1 l0_0 l0_1
theorem spec_l11Common.mono_l : ∀ k, (∀ y0 y1 y2 y3, LeO (spec_l11Common.l0 k y0 y1 y2 y3) (spec_l11Common.l0 (k + 1) y0 y1 y2 y3))
 | 0 => fun _ _ _ _ r h => by simp [spec_l11Common.l0] at h
 | k + 1 => by
  have ih0 := spec_l11Common.mono_l k
  ·intro y0 y1 y2 y3
   unfold spec_l11Common.l0
   repeat' first | (with_reducible exact ih0 _ _ _ _) | (with_reducible exact spec_l1Divisor.mono _ _ _) | (with_reducible exact LeO.refl _) | (with_reducible refine LeO.ite ?_ ?_) | (with_reducible refine LeO.bind ?_ (fun _ => ?_))
theorem spec_l11Common.mono : ∀ a0 a1 k, LeO (spec_l11Common.f k a0 a1) (spec_l11Common.f (k + 1) a0 a1) := by
 intro a0 a1 k
 have ih0 := spec_l11Common.mono_l k
 unfold spec_l11Common.f
 repeat' (with_reducible exact ih0 _ _ _ _)
set_option maxHeartbeats 8000000 in
set_option maxRecDepth 100000 in
theorem spec_l11Common.calls (k : Nat) (A0_0 : Option Addr) (c0_0 : Nat) (l0_0 : List Bool) (A0_1 : Option Addr) (c0_1 : Nat) (l0_1 : List Bool) (r : Int) (w : World) (hr0_0 : Kd.C Kd.bool w A0_0 l0_0.length l0_0) (hc0_0 : l0_0.length ≤ c0_0) (hr0_1 : Kd.C Kd.bool w A0_1 l0_1.length l0_1) (hc0_1 : l0_1.length ≤ c0_1) (h : spec_l11Common.f k l0_0 l0_1 = some r) :
  Calls Tryd.prog 46 #[.agg #[.slice A0_0 l0_0.length c0_0, .slice A0_1 l0_1.length c0_1]] w fun e w' => e = .returned (.int .i64 r) ∧ Below w.heap.size w w' := by
 have hu56 := Tryd.underlying56
 have HR0_0 := Aside0.mk hr0_0
 have HC0_0 := Aside0.mk hc0_0
 clear hr0_0 hc0_0
 have HR0_1 := Aside0.mk hr0_1
 have HC0_1 := Aside0.mk hc0_1
 clear hr0_1 hc0_1
 have HB := Aside0.mk (Below.refl w.heap.size w)
 have H : (spec_l11Common.l0 k 0 1 l0_0 l0_1) = some r := h
 clear h
 have H' := Aside0.mk H
 clear H
 go_enter Tryd.func46, Tryd.ntmps46
 go_wp2_with (first | ((with_reducible refine gate_dst (N := 1) rfl ?_); refine box_event ?hg (N := 1) ?hd (cs := #[.slice A0_0 l0_0.length c0_0, .slice A0_1 l0_1.length c0_1]) (t := 56) ?hr ?_; (case hd => rfl); (case hg => rfl); (case hr => first | (go_simp; done)); intro gb355 hg w2 hbox hb; have BK355 := Aside0.mk hbox; have GW355 := Aside0.mk ((by rw [hg]; exact (below_size HB.out) : w.heap.size ≤ gb355)); have GE355 := Aside0.mk ((by rw [hg]; exact (below_size HB.out) : w.heap.size ≤ gb355)); replace HB := Aside0.mk (below_step HB.out hb); clear hb hbox hg))
 go_loopg [3, 4] k (fun kq v3 v4 w' => ∃ (x3_1 : Int) (x4_1 : Int), v3 = .int .i64 x3_1 ∧ v4 = .int .i64 x4_1 ∧ Aside0 (spec_l11Common.l0 kq x3_1 x4_1 l0_0 l0_1 = some r) ∧ Aside0 (kq ≤ k) ∧ Aside0 (w'.heap[gb355]? = some (.cells #[(.slice A0_0 l0_0.length c0_0), (.slice A0_1 l0_1.length c0_1)] 56 (0, 0))) ∧ Aside0 (Below w.heap.size w w'))
 case atStart => exact ⟨(0), (1), (by rfl), (by rfl), H', ⟨Nat.le_refl _⟩, ⟨by exact BK355.out⟩, ⟨HB.out⟩⟩
 case round =>
  clear H'
  obtain ⟨x3_1, x4_1, rfl, rfl, HA, HK1, BK355, HB⟩ := hrel
  cases gk with
  | zero => exact absurd HA.out (by simp [spec_l11Common.l0])
  | succ k1 =>
   have H := HA.out
   clear HA
   simp only [spec_l11Common.l0] at H
   by_cases c3 : x4_1 < 40
   ·rw [if_pos c3] at H
    have c3b0 : decide (x4_1 < 40) = true := decide_eq_true c3
    clear c3
    replace H := Option.bind_eq_some_iff.mp H
    obtain ⟨t356, A40, H⟩ := H
    replace H : (if t356 = true then ((spec_l1Divisor.f k1 x4_1 x3_1).bind fun t357 => (spec_l11Common.l0 k1 t357 (wrap64 (x4_1 + 1)) l0_0 l0_1)) else (spec_l11Common.l0 k1 x3_1 (wrap64 (x4_1 + 1)) l0_0 l0_1)) = some r := H
    have A4 := Aside0.mk A40
    clear A40
    by_cases c5 : t356 = true
    ·subst c5
     replace H : ((spec_l1Divisor.f k1 x4_1 x3_1).bind fun t357 => (spec_l11Common.l0 k1 t357 (wrap64 (x4_1 + 1)) l0_0 l0_1)) = some r := by rw [if_pos rfl] at H; exact H
     replace H := Option.bind_eq_some_iff.mp H
     obtain ⟨t357, A60, H⟩ := H
     replace H : (spec_l11Common.l0 k1 t357 (wrap64 (x4_1 + 1)) l0_0 l0_1) = some r := H
     have A6 := Aside0.mk A60
     clear A60
     have H' := Aside0.mk H
     clear H
     have hcz7_0 : wr.cell? ⟨gb355, 0, none⟩ = some (.slice A0_0 l0_0.length c0_0) := (blk_cell BK355.out 0).trans rfl
     have hcz7_1 : wr.cell? ⟨gb355, 1, none⟩ = some (.slice A0_1 l0_1.length c0_1) := (blk_cell BK355.out 1).trans rfl
     have hfz7_0 := blk_frozen BK355.out 0
     have hfz7_1 := blk_frozen BK355.out 1
     go_wp2_with (first | ((with_reducible refine gate_callee (f := 61) rfl ?_); refine goesL_ (some 11) rfl rfl Tryd.func61 (by kernel_rfl) rfl #[.agg #[.slice A0_0 l0_0.length c0_0, .slice A0_1 l0_1.length c0_1], .int .i64 x4_1] rfl (by (try simp only [List.map_toArray, List.map_cons, List.map_nil]); rfl) ?_; (with_reducible refine (spec_l1Has.calls _ _ l0_0 _ _ l0_1 x4_1 true _ ?side1 ?side2 ?side3 ?side4 A4.out).mono ?_); (case side1 => repeat (exact (Kd.C_below HR0_0.out HB.out))); (case side2 => exact HC0_0.out); (case side3 => repeat (exact (Kd.C_below HR0_1.out HB.out))); (case side4 => exact HC0_1.out); rintro e w8 ⟨rfl, hb⟩; refine ⟨_, rfl, ?_⟩; replace BK355 := Aside0.mk (blk_below (g := gb355) (o := .cells #[.slice A0_0 l0_0.length c0_0, .slice A0_1 l0_1.length c0_1] 56 (0, 0)) BK355.out hb); replace HB := Aside0.mk (below_step HB.out hb); (try clear hb)) | ((with_reducible refine gate_callee (f := 70) rfl ?_); refine goesL_ (some 14) rfl rfl Tryd.func70 (by kernel_rfl) rfl #[.int .i64 x4_1, .int .i64 x3_1] rfl (by (try simp only [List.map_toArray, List.map_cons, List.map_nil]); rfl) ?_; (with_reducible refine (spec_l1Divisor.calls k1 x4_1 x3_1 t357 _ A6.out).mono ?_); rintro e w' ⟨rfl, ⟨nd, rfl⟩⟩; refine ⟨_, rfl, ?_⟩))
     go_roundg k1
     case measure => have := HK1.out; omega
     case rel => exact ⟨(t357), (wrap64 (x4_1 + 1)), (by rfl), (by rfl), H', ⟨by have := HK1.out; omega⟩, ⟨by (with_reducible repeat (refine blk_drewN ?_ _)); exact BK355.out⟩, ⟨by repeat (first | (with_reducible first | exact HB.out | apply pw_below_drewN))⟩⟩
    ·replace c5 := Bool.eq_false_iff.mpr c5
     subst c5
     replace H : (spec_l11Common.l0 k1 x3_1 (wrap64 (x4_1 + 1)) l0_0 l0_1) = some r := by rw [if_neg (show ¬ (false = true) by decide)] at H; exact H
     have H' := Aside0.mk H
     clear H
     have hcz9_0 : wr.cell? ⟨gb355, 0, none⟩ = some (.slice A0_0 l0_0.length c0_0) := (blk_cell BK355.out 0).trans rfl
     have hcz9_1 : wr.cell? ⟨gb355, 1, none⟩ = some (.slice A0_1 l0_1.length c0_1) := (blk_cell BK355.out 1).trans rfl
     have hfz9_0 := blk_frozen BK355.out 0
     have hfz9_1 := blk_frozen BK355.out 1
     go_wp2_with (first | ((with_reducible refine gate_callee (f := 61) rfl ?_); refine goesL_ (some 11) rfl rfl Tryd.func61 (by kernel_rfl) rfl #[.agg #[.slice A0_0 l0_0.length c0_0, .slice A0_1 l0_1.length c0_1], .int .i64 x4_1] rfl (by (try simp only [List.map_toArray, List.map_cons, List.map_nil]); rfl) ?_; (with_reducible refine (spec_l1Has.calls _ _ l0_0 _ _ l0_1 x4_1 false _ ?side1 ?side2 ?side3 ?side4 A4.out).mono ?_); (case side1 => repeat (exact (Kd.C_below HR0_0.out HB.out))); (case side2 => exact HC0_0.out); (case side3 => repeat (exact (Kd.C_below HR0_1.out HB.out))); (case side4 => exact HC0_1.out); rintro e w10 ⟨rfl, hb⟩; refine ⟨_, rfl, ?_⟩; replace BK355 := Aside0.mk (blk_below (g := gb355) (o := .cells #[.slice A0_0 l0_0.length c0_0, .slice A0_1 l0_1.length c0_1] 56 (0, 0)) BK355.out hb); replace HB := Aside0.mk (below_step HB.out hb); (try clear hb)))
     go_roundg k1
     case measure => have := HK1.out; omega
     case rel => exact ⟨(x3_1), (wrap64 (x4_1 + 1)), (by rfl), (by rfl), H', ⟨by have := HK1.out; omega⟩, ⟨by exact BK355.out⟩, ⟨HB.out⟩⟩
   ·rw [if_neg c3] at H
    have c3b0 : decide (x4_1 < 40) = false := decide_eq_false c3
    clear c3
    obtain rfl := Option.some.inj H
    go_wp2
    go_ret
    exact ⟨by first | rfl | (simp [*, errW_none, errW_some] <;> rfl), HB.out⟩

end Go.Proofs.YtinjblbfaijhdaaDoor.Q
