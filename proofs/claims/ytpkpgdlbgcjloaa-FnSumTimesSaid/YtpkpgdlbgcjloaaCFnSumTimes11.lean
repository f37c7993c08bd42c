/- The law FnSumTimes holds for all that it draws. -/
import Derived.Test.YtpkpgdlbgcjloaaCFnSumTimes8
import Derived.Test.YtpkpgdlbgcjloaaCFnSumTimes9
import Derived.Test.YtpkpgdlbgcjloaaCFnSumTimes10
namespace Go.Proofs.Ytpkpgdlbgcjloaa.Q
open Go.RowKit Go.Proofs.YtpkpgdlbgcjloaaW.PrintWords Go.Proofs.YtpkpgdlbgcjloaaW.PrintLast Go.Proofs.YtpkpgdlbgcjloaaW.PrintMore
attribute [local go_sem] max2_int min2_int max_two min_two max_three min_three max_four min_four   -- for this text's walks alone
set_option linter.unusedVariables false
set_option linter.unusedSimpArgs false
def spec_l1Done.f (k : Nat) (l0_0 : List Bool) (l0_1 : List Bool) : Option (ByteArray × Bool) := (spec_l1Less.f k l0_0 l0_1).bind fun bt525 => (if (bt525.1.length : Int) > 60 then (some ((⟨#[]⟩ : ByteArray), false)) else (if (bt525.2.length : Int) > 60 then (some ((⟨#[]⟩ : ByteArray), false)) else ((spec_l1Write.f k bt525.1 bt525.2).bind fun t532 => (some (t532, true)))))
theorem spec_l1Done.mono : ∀ a0 a1 k, LeO (spec_l1Done.f k a0 a1) (spec_l1Done.f (k + 1) a0 a1) := by
 intro a0 a1 k
 unfold spec_l1Done.f
 repeat' first | (with_reducible exact spec_l1Less.mono _ _ _) | (with_reducible exact spec_l1Write.mono _ _ _) | (with_reducible exact LeO.refl _) | (with_reducible refine LeO.ite ?_ ?_) | (with_reducible refine LeO.bind ?_ (fun _ => ?_))
set_option maxHeartbeats 8000000 in
set_option maxRecDepth 100000 in
theorem spec_l1Done.calls (k : Nat) (A0_0 : Option Addr) (c0_0 : Nat) (l0_0 : List Bool) (A0_1 : Option Addr) (c0_1 : Nat) (l0_1 : List Bool) (r1 : ByteArray) (r2 : Bool) (w : World) (hr0_0 : Kd.C Kd.bool w A0_0 l0_0.length l0_0) (hc0_0 : l0_0.length ≤ c0_0) (hr0_1 : Kd.C Kd.bool w A0_1 l0_1.length l0_1) (hc0_1 : l0_1.length ≤ c0_1) (h : spec_l1Done.f k l0_0 l0_1 = some (r1, r2)) :
  Calls Try.prog 75 #[.agg #[.slice A0_0 l0_0.length c0_0, .slice A0_1 l0_1.length c0_1]] w fun e w' => e = .returned (.tuple #[.string r1, .bool r2]) ∧ Below w.heap.size w w' := by
 have hu66 := Try.underlying66
 have HR0_0 := Aside0.mk hr0_0
 have HC0_0 := Aside0.mk hc0_0
 clear hr0_0 hc0_0
 have HR0_1 := Aside0.mk hr0_1
 have HC0_1 := Aside0.mk hc0_1
 clear hr0_1 hc0_1
 have HB := Aside0.mk (Below.refl w.heap.size w)
 have H : ((spec_l1Less.f k l0_0 l0_1).bind fun bt525 => (if (bt525.1.length : Int) > 60 then (some ((⟨#[]⟩ : ByteArray), false)) else (if (bt525.2.length : Int) > 60 then (some ((⟨#[]⟩ : ByteArray), false)) else ((spec_l1Write.f k bt525.1 bt525.2).bind fun t532 => (some (t532, true)))))) = some (r1, r2) := h
 clear h
 replace H := Option.bind_eq_some_iff.mp H
 obtain ⟨⟨t525, t528⟩, A20, H⟩ := H
 replace H : (if (t525.length : Int) > 60 then (some ((⟨#[]⟩ : ByteArray), false)) else (if (t528.length : Int) > 60 then (some ((⟨#[]⟩ : ByteArray), false)) else ((spec_l1Write.f k t525 t528).bind fun t532 => (some (t532, true))))) = some (r1, r2) := H
 have A2 := Aside0.mk A20
 clear A20
 by_cases c3 : (t525.length : Int) > 60
 ·rw [if_pos c3] at H
  have c3b0 : decide (60 < (t525.length : Int)) = true := decide_eq_true c3
  have c3b1 : decide (60 < t525.length) = true := decide_eq_true (by omega)
  clear c3
  simp only [Option.some.injEq, Prod.mk.injEq] at H
  obtain ⟨rfl, rfl⟩ := H
  go_enter Try.func75, Try.ntmps75
  go_wp2_with (first | ((with_reducible refine gate_dst (N := 1) rfl ?_); (try (refine gate_guard (by rfl) ?_; dsimp only)); refine box_event ?hg (N := 1) ?hd (cs := #[.slice A0_0 l0_0.length c0_0, .slice A0_1 l0_1.length c0_1]) (t := 66) ?hr ?_; (case hd => rfl); (case hg => rfl); (case hr => first | (go_simp; done)); intro gb524 hg w4 hbox hb; have BK524 := Aside0.mk hbox; have GW524 := Aside0.mk ((by rw [hg]; exact (below_size HB.out) : w.heap.size ≤ gb524)); have GE524 := Aside0.mk ((by rw [hg]; exact (below_size HB.out) : w.heap.size ≤ gb524)); replace HB := Aside0.mk (below_step HB.out hb); clear hb hbox hg; have hcz5_0 : w4.cell? ⟨gb524, 0, none⟩ = some (.slice A0_0 l0_0.length c0_0) := (blk_cell BK524.out 0).trans rfl; have hcz5_1 : w4.cell? ⟨gb524, 1, none⟩ = some (.slice A0_1 l0_1.length c0_1) := (blk_cell BK524.out 1).trans rfl; have hfz5_0 := blk_frozen BK524.out 0; have hfz5_1 := blk_frozen BK524.out 1) | ((with_reducible refine gate_callee (f := 90) rfl ?_); refine goesL_ (some 6) rfl rfl Try.func90 (by kernel_rfl) rfl #[.agg #[.slice A0_0 l0_0.length c0_0, .slice A0_1 l0_1.length c0_1]] rfl (by (try simp only [List.map_toArray, List.map_cons, List.map_nil]); rfl) ?_; (with_reducible refine (spec_l1Less.calls k (fun k_ => k_ < w.heap.size) _ _ l0_0 (fun k_ => k_ < w.heap.size) _ _ l0_1 t525 t528 _ ?side1 ?side2 A2.out).mono ?_); (case side1 => exact Kd.V_mk HC0_0.out (Kd.F_below (Kd.C_F Kd.heap_bool HR0_0.out) HB.out)); (case side2 => exact Kd.V_mk HC0_1.out (Kd.F_below (Kd.C_F Kd.heap_bool HR0_1.out) HB.out)); rintro e w6 ⟨v526, v529, rfl, ho0, ho1, hb⟩; refine ⟨_, rfl, ?_⟩; have HO527 := Aside0.mk (Kd.V_lower (Kd.V_mono (ok' := fun k_ => k_ ≠ gb524) ho0 (fun k_ hk_ => Or.elim hk_ (fun hs_ => Or.elim hs_ (fun hs_ => fun e_ => Nat.not_le.2 hs_ (by rw [e_]; exact GW524.out)) (fun hs_ => fun e_ => Nat.not_le.2 hs_ (by rw [e_]; exact GW524.out))) (fun hn_ => (Kd.freshB (g := gb524) (o := .cells #[.slice A0_0 l0_0.length c0_0, .slice A0_1 l0_1.length c0_1] 66 (0, 0)) BK524.out k_ hn_)))) (below_size HB.out)); have HO530 := Aside0.mk (Kd.V_lower (Kd.V_mono (ok' := fun k_ => k_ ≠ gb524) ho1 (fun k_ hk_ => Or.elim hk_ (fun hs_ => Or.elim hs_ (fun hs_ => fun e_ => Nat.not_le.2 hs_ (by rw [e_]; exact GW524.out)) (fun hs_ => fun e_ => Nat.not_le.2 hs_ (by rw [e_]; exact GW524.out))) (fun hn_ => (Kd.freshB (g := gb524) (o := .cells #[.slice A0_0 l0_0.length c0_0, .slice A0_1 l0_1.length c0_1] 66 (0, 0)) BK524.out k_ hn_)))) (below_size HB.out)); replace BK524 := Aside0.mk (blk_below (g := gb524) (o := .cells #[.slice A0_0 l0_0.length c0_0, .slice A0_1 l0_1.length c0_1] 66 (0, 0)) BK524.out hb); replace HB := Aside0.mk (below_step HB.out hb); (try clear hb); (try clear ho0); (try clear ho1)) | ((with_reducible refine gate_dst (N := 4) rfl ?_); (try (refine gate_guard (by rfl) ?_; dsimp only)); refine box_event ?hg (N := 4) ?hd (cs := #[.slice none 0 0, .slice none 0 0]) (t := 66) ?hr ?_; (case hd => rfl); (case hg => rfl); (case hr => first | (go_simp; done)); intro gb531 hg w7 hbox hb; replace HO527 := Aside0.mk (Kd.V_below (Kd.V_elderB HO527.out gb531 (Nat.le_of_eq hg.symm)) hb); replace HO530 := Aside0.mk (Kd.V_below (Kd.V_elderB HO530.out gb531 (Nat.le_of_eq hg.symm)) hb); have BK531 := Aside0.mk hbox; have GW531 := Aside0.mk ((by rw [hg]; exact (below_size HB.out) : w.heap.size ≤ gb531)); have GE531 := Aside0.mk ((by rw [hg]; exact (below_size HB.out) : w.heap.size ≤ gb531)); replace HB := Aside0.mk (below_step HB.out hb); have NB524_531 := Aside0.mk ((by rw [hg]; exact Nat.ne_of_lt (blk_lt (g := gb524) (o := .cells #[.slice A0_0 l0_0.length c0_0, .slice A0_1 l0_1.length c0_1] 66 (0, 0)) BK524.out) : gb524 ≠ gb531)); have NB531_524 := Aside0.mk ((by rw [hg]; exact Nat.ne_of_gt (blk_lt (g := gb524) (o := .cells #[.slice A0_0 l0_0.length c0_0, .slice A0_1 l0_1.length c0_1] 66 (0, 0)) BK524.out) : gb531 ≠ gb524)); replace BK524 := Aside0.mk (blk_below (g := gb524) (o := .cells #[.slice A0_0 l0_0.length c0_0, .slice A0_1 l0_1.length c0_1] 66 (0, 0)) BK524.out hb); clear hb hbox hg; obtain ⟨Ao8, co8, eo8⟩ := Kd.V_slice HO527.out; subst eo8; have hnb9 := NB531_524.out; have hnc9 := NB524_531.out; have hcz10_0 : w7.cell? ⟨gb531, 0, none⟩ = some (.slice none 0 0) := (blk_cell BK531.out 0).trans rfl; have hcz10_1 : w7.cell? ⟨gb531, 1, none⟩ = some (.slice none 0 0) := (blk_cell BK531.out 1).trans rfl; have hfz10_0 := blk_frozen BK531.out 0; have hfz10_1 := blk_frozen BK531.out 1; obtain ⟨Ao11, co11, eo11⟩ := Kd.V_slice HO530.out; subst eo11))
  go_ret2
  exact ⟨by first | rfl | (simp [*, errW_none, errW_some] <;> rfl), by repeat (first | (with_reducible first | exact HB.out | refine below_set ?_ GE531.out))⟩
 ·rw [if_neg c3] at H
  have c3b0 : decide (60 < (t525.length : Int)) = false := decide_eq_false c3
  have c3b1 : decide (60 < t525.length) = false := decide_eq_false (by omega)
  clear c3
  by_cases c12 : (t528.length : Int) > 60
  ·rw [if_pos c12] at H
   have c12b0 : decide (60 < (t528.length : Int)) = true := decide_eq_true c12
   have c12b1 : decide (60 < t528.length) = true := decide_eq_true (by omega)
   clear c12
   simp only [Option.some.injEq, Prod.mk.injEq] at H
   obtain ⟨rfl, rfl⟩ := H
   go_enter Try.func75, Try.ntmps75
   go_wp2_with (first | ((with_reducible refine gate_dst (N := 1) rfl ?_); (try (refine gate_guard (by rfl) ?_; dsimp only)); refine box_event ?hg (N := 1) ?hd (cs := #[.slice A0_0 l0_0.length c0_0, .slice A0_1 l0_1.length c0_1]) (t := 66) ?hr ?_; (case hd => rfl); (case hg => rfl); (case hr => first | (go_simp; done)); intro gb524 hg w13 hbox hb; have BK524 := Aside0.mk hbox; have GW524 := Aside0.mk ((by rw [hg]; exact (below_size HB.out) : w.heap.size ≤ gb524)); have GE524 := Aside0.mk ((by rw [hg]; exact (below_size HB.out) : w.heap.size ≤ gb524)); replace HB := Aside0.mk (below_step HB.out hb); clear hb hbox hg; have hcz14_0 : w13.cell? ⟨gb524, 0, none⟩ = some (.slice A0_0 l0_0.length c0_0) := (blk_cell BK524.out 0).trans rfl; have hcz14_1 : w13.cell? ⟨gb524, 1, none⟩ = some (.slice A0_1 l0_1.length c0_1) := (blk_cell BK524.out 1).trans rfl; have hfz14_0 := blk_frozen BK524.out 0; have hfz14_1 := blk_frozen BK524.out 1) | ((with_reducible refine gate_callee (f := 90) rfl ?_); refine goesL_ (some 6) rfl rfl Try.func90 (by kernel_rfl) rfl #[.agg #[.slice A0_0 l0_0.length c0_0, .slice A0_1 l0_1.length c0_1]] rfl (by (try simp only [List.map_toArray, List.map_cons, List.map_nil]); rfl) ?_; (with_reducible refine (spec_l1Less.calls k (fun k_ => k_ < w.heap.size) _ _ l0_0 (fun k_ => k_ < w.heap.size) _ _ l0_1 t525 t528 _ ?side1 ?side2 A2.out).mono ?_); (case side1 => exact Kd.V_mk HC0_0.out (Kd.F_below (Kd.C_F Kd.heap_bool HR0_0.out) HB.out)); (case side2 => exact Kd.V_mk HC0_1.out (Kd.F_below (Kd.C_F Kd.heap_bool HR0_1.out) HB.out)); rintro e w15 ⟨v526, v529, rfl, ho0, ho1, hb⟩; refine ⟨_, rfl, ?_⟩; have HO527 := Aside0.mk (Kd.V_lower (Kd.V_mono (ok' := fun k_ => k_ ≠ gb524) ho0 (fun k_ hk_ => Or.elim hk_ (fun hs_ => Or.elim hs_ (fun hs_ => fun e_ => Nat.not_le.2 hs_ (by rw [e_]; exact GW524.out)) (fun hs_ => fun e_ => Nat.not_le.2 hs_ (by rw [e_]; exact GW524.out))) (fun hn_ => (Kd.freshB (g := gb524) (o := .cells #[.slice A0_0 l0_0.length c0_0, .slice A0_1 l0_1.length c0_1] 66 (0, 0)) BK524.out k_ hn_)))) (below_size HB.out)); have HO530 := Aside0.mk (Kd.V_lower (Kd.V_mono (ok' := fun k_ => k_ ≠ gb524) ho1 (fun k_ hk_ => Or.elim hk_ (fun hs_ => Or.elim hs_ (fun hs_ => fun e_ => Nat.not_le.2 hs_ (by rw [e_]; exact GW524.out)) (fun hs_ => fun e_ => Nat.not_le.2 hs_ (by rw [e_]; exact GW524.out))) (fun hn_ => (Kd.freshB (g := gb524) (o := .cells #[.slice A0_0 l0_0.length c0_0, .slice A0_1 l0_1.length c0_1] 66 (0, 0)) BK524.out k_ hn_)))) (below_size HB.out)); replace BK524 := Aside0.mk (blk_below (g := gb524) (o := .cells #[.slice A0_0 l0_0.length c0_0, .slice A0_1 l0_1.length c0_1] 66 (0, 0)) BK524.out hb); replace HB := Aside0.mk (below_step HB.out hb); (try clear hb); (try clear ho0); (try clear ho1)) | ((with_reducible refine gate_dst (N := 4) rfl ?_); (try (refine gate_guard (by rfl) ?_; dsimp only)); refine box_event ?hg (N := 4) ?hd (cs := #[.slice none 0 0, .slice none 0 0]) (t := 66) ?hr ?_; (case hd => rfl); (case hg => rfl); (case hr => first | (go_simp; done)); intro gb531 hg w16 hbox hb; replace HO527 := Aside0.mk (Kd.V_below (Kd.V_elderB HO527.out gb531 (Nat.le_of_eq hg.symm)) hb); replace HO530 := Aside0.mk (Kd.V_below (Kd.V_elderB HO530.out gb531 (Nat.le_of_eq hg.symm)) hb); have BK531 := Aside0.mk hbox; have GW531 := Aside0.mk ((by rw [hg]; exact (below_size HB.out) : w.heap.size ≤ gb531)); have GE531 := Aside0.mk ((by rw [hg]; exact (below_size HB.out) : w.heap.size ≤ gb531)); replace HB := Aside0.mk (below_step HB.out hb); have NB524_531 := Aside0.mk ((by rw [hg]; exact Nat.ne_of_lt (blk_lt (g := gb524) (o := .cells #[.slice A0_0 l0_0.length c0_0, .slice A0_1 l0_1.length c0_1] 66 (0, 0)) BK524.out) : gb524 ≠ gb531)); have NB531_524 := Aside0.mk ((by rw [hg]; exact Nat.ne_of_gt (blk_lt (g := gb524) (o := .cells #[.slice A0_0 l0_0.length c0_0, .slice A0_1 l0_1.length c0_1] 66 (0, 0)) BK524.out) : gb531 ≠ gb524)); replace BK524 := Aside0.mk (blk_below (g := gb524) (o := .cells #[.slice A0_0 l0_0.length c0_0, .slice A0_1 l0_1.length c0_1] 66 (0, 0)) BK524.out hb); clear hb hbox hg; obtain ⟨Ao17, co17, eo17⟩ := Kd.V_slice HO527.out; subst eo17; have hnb18 := NB531_524.out; have hnc18 := NB524_531.out; have hcz19_0 : w16.cell? ⟨gb531, 0, none⟩ = some (.slice none 0 0) := (blk_cell BK531.out 0).trans rfl; have hcz19_1 : w16.cell? ⟨gb531, 1, none⟩ = some (.slice none 0 0) := (blk_cell BK531.out 1).trans rfl; have hfz19_0 := blk_frozen BK531.out 0; have hfz19_1 := blk_frozen BK531.out 1; obtain ⟨Ao20, co20, eo20⟩ := Kd.V_slice HO530.out; subst eo20))
   go_ret2
   exact ⟨by first | rfl | (simp [*, errW_none, errW_some] <;> rfl), by repeat (first | (with_reducible first | exact HB.out | refine below_set ?_ GE531.out))⟩
  ·rw [if_neg c12] at H
   have c12b0 : decide (60 < (t528.length : Int)) = false := decide_eq_false c12
   have c12b1 : decide (60 < t528.length) = false := decide_eq_false (by omega)
   clear c12
   replace H := Option.bind_eq_some_iff.mp H
   obtain ⟨t532, A210, H⟩ := H
   replace H : (some (t532, true)) = some (r1, r2) := H
   have A21 := Aside0.mk A210
   clear A210
   simp only [Option.some.injEq, Prod.mk.injEq] at H
   obtain ⟨rfl, rfl⟩ := H
   go_enter Try.func75, Try.ntmps75
   go_wp2_with (first | ((with_reducible refine gate_dst (N := 1) rfl ?_); (try (refine gate_guard (by rfl) ?_; dsimp only)); refine box_event ?hg (N := 1) ?hd (cs := #[.slice A0_0 l0_0.length c0_0, .slice A0_1 l0_1.length c0_1]) (t := 66) ?hr ?_; (case hd => rfl); (case hg => rfl); (case hr => first | (go_simp; done)); intro gb524 hg w22 hbox hb; have BK524 := Aside0.mk hbox; have GW524 := Aside0.mk ((by rw [hg]; exact (below_size HB.out) : w.heap.size ≤ gb524)); have GE524 := Aside0.mk ((by rw [hg]; exact (below_size HB.out) : w.heap.size ≤ gb524)); replace HB := Aside0.mk (below_step HB.out hb); clear hb hbox hg; have hcz23_0 : w22.cell? ⟨gb524, 0, none⟩ = some (.slice A0_0 l0_0.length c0_0) := (blk_cell BK524.out 0).trans rfl; have hcz23_1 : w22.cell? ⟨gb524, 1, none⟩ = some (.slice A0_1 l0_1.length c0_1) := (blk_cell BK524.out 1).trans rfl; have hfz23_0 := blk_frozen BK524.out 0; have hfz23_1 := blk_frozen BK524.out 1) | ((with_reducible refine gate_callee (f := 90) rfl ?_); refine goesL_ (some 6) rfl rfl Try.func90 (by kernel_rfl) rfl #[.agg #[.slice A0_0 l0_0.length c0_0, .slice A0_1 l0_1.length c0_1]] rfl (by (try simp only [List.map_toArray, List.map_cons, List.map_nil]); rfl) ?_; (with_reducible refine (spec_l1Less.calls k (fun k_ => k_ < w.heap.size) _ _ l0_0 (fun k_ => k_ < w.heap.size) _ _ l0_1 t525 t528 _ ?side1 ?side2 A2.out).mono ?_); (case side1 => exact Kd.V_mk HC0_0.out (Kd.F_below (Kd.C_F Kd.heap_bool HR0_0.out) HB.out)); (case side2 => exact Kd.V_mk HC0_1.out (Kd.F_below (Kd.C_F Kd.heap_bool HR0_1.out) HB.out)); rintro e w24 ⟨v526, v529, rfl, ho0, ho1, hb⟩; refine ⟨_, rfl, ?_⟩; have HO527 := Aside0.mk (Kd.V_lower (Kd.V_mono (ok' := fun k_ => k_ ≠ gb524) ho0 (fun k_ hk_ => Or.elim hk_ (fun hs_ => Or.elim hs_ (fun hs_ => fun e_ => Nat.not_le.2 hs_ (by rw [e_]; exact GW524.out)) (fun hs_ => fun e_ => Nat.not_le.2 hs_ (by rw [e_]; exact GW524.out))) (fun hn_ => (Kd.freshB (g := gb524) (o := .cells #[.slice A0_0 l0_0.length c0_0, .slice A0_1 l0_1.length c0_1] 66 (0, 0)) BK524.out k_ hn_)))) (below_size HB.out)); have HO530 := Aside0.mk (Kd.V_lower (Kd.V_mono (ok' := fun k_ => k_ ≠ gb524) ho1 (fun k_ hk_ => Or.elim hk_ (fun hs_ => Or.elim hs_ (fun hs_ => fun e_ => Nat.not_le.2 hs_ (by rw [e_]; exact GW524.out)) (fun hs_ => fun e_ => Nat.not_le.2 hs_ (by rw [e_]; exact GW524.out))) (fun hn_ => (Kd.freshB (g := gb524) (o := .cells #[.slice A0_0 l0_0.length c0_0, .slice A0_1 l0_1.length c0_1] 66 (0, 0)) BK524.out k_ hn_)))) (below_size HB.out)); replace BK524 := Aside0.mk (blk_below (g := gb524) (o := .cells #[.slice A0_0 l0_0.length c0_0, .slice A0_1 l0_1.length c0_1] 66 (0, 0)) BK524.out hb); replace HB := Aside0.mk (below_step HB.out hb); (try clear hb); (try clear ho0); (try clear ho1)) | ((with_reducible refine gate_dst (N := 4) rfl ?_); (try (refine gate_guard (by rfl) ?_; dsimp only)); refine box_event ?hg (N := 4) ?hd (cs := #[.slice none 0 0, .slice none 0 0]) (t := 66) ?hr ?_; (case hd => rfl); (case hg => rfl); (case hr => first | (go_simp; done)); intro gb531 hg w25 hbox hb; replace HO527 := Aside0.mk (Kd.V_below (Kd.V_elderB HO527.out gb531 (Nat.le_of_eq hg.symm)) hb); replace HO530 := Aside0.mk (Kd.V_below (Kd.V_elderB HO530.out gb531 (Nat.le_of_eq hg.symm)) hb); have BK531 := Aside0.mk hbox; have GW531 := Aside0.mk ((by rw [hg]; exact (below_size HB.out) : w.heap.size ≤ gb531)); have GE531 := Aside0.mk ((by rw [hg]; exact (below_size HB.out) : w.heap.size ≤ gb531)); replace HB := Aside0.mk (below_step HB.out hb); have NB524_531 := Aside0.mk ((by rw [hg]; exact Nat.ne_of_lt (blk_lt (g := gb524) (o := .cells #[.slice A0_0 l0_0.length c0_0, .slice A0_1 l0_1.length c0_1] 66 (0, 0)) BK524.out) : gb524 ≠ gb531)); have NB531_524 := Aside0.mk ((by rw [hg]; exact Nat.ne_of_gt (blk_lt (g := gb524) (o := .cells #[.slice A0_0 l0_0.length c0_0, .slice A0_1 l0_1.length c0_1] 66 (0, 0)) BK524.out) : gb531 ≠ gb524)); replace BK524 := Aside0.mk (blk_below (g := gb524) (o := .cells #[.slice A0_0 l0_0.length c0_0, .slice A0_1 l0_1.length c0_1] 66 (0, 0)) BK524.out hb); clear hb hbox hg; obtain ⟨Ao26, co26, eo26⟩ := Kd.V_slice HO527.out; subst eo26; have hnb27 := NB531_524.out; have hnc27 := NB524_531.out; have hcz28_0 : w25.cell? ⟨gb531, 0, none⟩ = some (.slice none 0 0) := (blk_cell BK531.out 0).trans rfl; have hcz28_1 : w25.cell? ⟨gb531, 1, none⟩ = some (.slice none 0 0) := (blk_cell BK531.out 1).trans rfl; have hfz28_0 := blk_frozen BK531.out 0; have hfz28_1 := blk_frozen BK531.out 1; obtain ⟨Ao29, co29, eo29⟩ := Kd.V_slice HO530.out; subst eo29) | ((with_reducible refine gate_callee (f := 110) rfl ?_); refine goesL_ (some 18) rfl rfl Try.func110 (by kernel_rfl) rfl #[.agg #[.slice Ao26 t525.length co26, .slice Ao29 t528.length co29]] rfl (by (try simp only [List.map_toArray, List.map_cons, List.map_nil]); rfl) ?_; (with_reducible refine (spec_l1Write.calls k _ _ t525 _ _ t528 t532 _ ?side1 ?side2 ?side3 ?side4 A21.out).mono ?_); (case side1 => refine (Kd.V_reads' (e := 4) (base := w.heap.size) (ok := fun k_ => (k_ ≠ gb524 ∧ k_ ≠ gb531)) (n := t525.length) (c := co26) ?_).2.2; exact (by exact (Kd.V_mono (Kd.V_far (p := ⟨gb531, 1, none⟩) (Kd.V_far (p := ⟨gb531, 0, none⟩) (Kd.V_mono HO527.out (fun k_ hk => (⟨hk, hk.2⟩ : _ ∧ k_ ≠ gb531))) (fun _ hk => hk.2) (.slice Ao26 t525.length co26)) (fun _ hk => hk.2) (.slice Ao29 t528.length co29)) (fun _ h_ => h_.1)))); (case side2 => exact (Kd.V_reads' HO527.out).2.1); (case side3 => refine (Kd.V_reads' (e := 4) (base := w.heap.size) (ok := fun k_ => (k_ ≠ gb524 ∧ k_ ≠ gb531)) (n := t528.length) (c := co29) ?_).2.2; exact (by exact (Kd.V_mono (Kd.V_far (p := ⟨gb531, 1, none⟩) (Kd.V_far (p := ⟨gb531, 0, none⟩) (Kd.V_mono HO530.out (fun k_ hk => (⟨hk, hk.2⟩ : _ ∧ k_ ≠ gb531))) (fun _ hk => hk.2) (.slice Ao26 t525.length co26)) (fun _ hk => hk.2) (.slice Ao29 t528.length co29)) (fun _ h_ => h_.1)))); (case side4 => exact (Kd.V_reads' HO530.out).2.1); rintro e w30 ⟨rfl, hb⟩; refine ⟨_, rfl, ?_⟩; replace HO527 := Aside0.mk (Kd.V_below (by exact (Kd.V_mono (Kd.V_far (p := ⟨gb531, 1, none⟩) (Kd.V_far (p := ⟨gb531, 0, none⟩) (Kd.V_mono HO527.out (fun k_ hk => (⟨hk, hk.2⟩ : _ ∧ k_ ≠ gb531))) (fun _ hk => hk.2) (.slice Ao26 t525.length co26)) (fun _ hk => hk.2) (.slice Ao29 t528.length co29)) (fun _ h_ => h_.1))) hb); replace HO530 := Aside0.mk (Kd.V_below (by exact (Kd.V_mono (Kd.V_far (p := ⟨gb531, 1, none⟩) (Kd.V_far (p := ⟨gb531, 0, none⟩) (Kd.V_mono HO530.out (fun k_ hk => (⟨hk, hk.2⟩ : _ ∧ k_ ≠ gb531))) (fun _ hk => hk.2) (.slice Ao26 t525.length co26)) (fun _ hk => hk.2) (.slice Ao29 t528.length co29)) (fun _ h_ => h_.1))) hb); replace BK524 := Aside0.mk (blk_below (g := gb524) (o := .cells #[.slice A0_0 l0_0.length c0_0, .slice A0_1 l0_1.length c0_1] 66 (0, 0)) (by refine blk_far ?_ NB524_531.out _; refine blk_far ?_ NB524_531.out _; exact BK524.out) hb); replace BK531 := Aside0.mk (blk_below (g := gb531) (o := .cells #[.slice Ao26 t525.length co26, .slice Ao29 t528.length co29] 66 (0, 0)) (by refine blk_put (cs := #[.slice Ao26 t525.length co26, .slice none 0 0]) ?_ 1 _ rfl; refine blk_put (cs := #[.slice none 0 0, .slice none 0 0]) ?_ 0 _ rfl; exact BK531.out) hb); replace HB := Aside0.mk (below_step (by repeat (first | (with_reducible first | exact HB.out | refine below_set ?_ GE531.out))) hb); (try clear hb)))
   go_ret2
   exact ⟨by first | rfl | (simp [*, errW_none, errW_some] <;> rfl), HB.out⟩


def spec_l2Fill.f (k : Nat) (l0 : List Bool) (a1 : Int) : Option (ByteArray × Bool) := if 0 ≤ a1 then (if a1 ≤ (l0.length : Int) then ((spec_l1Done.f k (l0.take (a1 : Int).toNat) (l0.drop (a1 : Int).toNat)).bind fun bt535 => (some (bt535.1, bt535.2))) else (none)) else (none)
theorem spec_l2Fill.mono : ∀ a0 a1 k, LeO (spec_l2Fill.f k a0 a1) (spec_l2Fill.f (k + 1) a0 a1) := by
 intro a0 a1 k
 unfold spec_l2Fill.f
 repeat' first | (with_reducible exact spec_l1Done.mono _ _ _) | (with_reducible exact LeO.refl _) | (with_reducible refine LeO.ite ?_ ?_) | (with_reducible refine LeO.bind ?_ (fun _ => ?_))
def spec_l2Fill.T1 : Bool × List (List Nat × List Nat) := (true, [([], []), ([], []), ([0, 1], [0, 1]), ([], []), ([], []), ([3, 4], [3, 4]), ([2, 5], [2, 5]), ([6], [6]), ([7], [7]), ([7], [7]), ([8, 7, 0, 1, 2, 3, 4, 5, 6, 7, 8, 9], [8]), ([9, 10, 0, 1, 2, 3, 4, 5, 6, 7, 8, 9, 10], [9])])
def spec_l2Fill.B1 : List Nat := [0, 0, 3, 0, 0, 24, 63, 127, 255, 255, 1023, 2047]
theorem spec_l2Fill.tab1 : rtab .any (opsOf Try.f76 1) = spec_l2Fill.T1 := by kernel_rfl
theorem spec_l2Fill.bits1 : waitsOk spec_l2Fill.T1.2 spec_l2Fill.B1 = true := by kernel_rfl
set_option maxHeartbeats 8000000 in
set_option maxRecDepth 100000 in
theorem spec_l2Fill.calls (k : Nat) (A0 : Option Addr) (c0 : Nat) (l0 : List Bool) (a1 : Int) (r1 : ByteArray) (r2 : Bool) (w : World) (hr0 : Kd.C Kd.bool w A0 l0.length l0) (hc0 : l0.length ≤ c0) (h : spec_l2Fill.f k l0 a1 = some (r1, r2)) :
  Calls Try.prog 76 #[.slice A0 l0.length c0, .int .i64 a1] w fun e w' => e = .returned (.tuple #[.string r1, .bool r2]) ∧ Below w.heap.size w w' := by
 have hu66 := Try.underlying66
 have HR0 := Aside0.mk hr0
 have HC0 := Aside0.mk hc0
 clear hr0 hc0
 have HB := Aside0.mk (Below.refl w.heap.size w)
 have H : (if 0 ≤ a1 then (if a1 ≤ (l0.length : Int) then ((spec_l1Done.f k (l0.take (a1 : Int).toNat) (l0.drop (a1 : Int).toNat)).bind fun bt535 => (some (bt535.1, bt535.2))) else (none)) else (none)) = some (r1, r2) := h
 clear h
 by_cases c3 : 0 ≤ a1
 ·rw [if_pos c3] at H
  have c3b0 := eq_true c3
  have c3b1 : decide (0 ≤ a1) = true := decide_eq_true c3
  clear c3
  by_cases c4 : a1 ≤ (l0.length : Int)
  ·rw [if_pos c4] at H
   have c4b0 := eq_true c4
   have c4b1 : decide (a1 ≤ (l0.length : Int)) = true := decide_eq_true c4
   clear c4
   have c5b0 := eq_true (of_decide_eq_true (by (with_reducible assumption)) : 0 ≤ a1)
   have c6b0 := eq_true (of_decide_eq_true (by (with_reducible assumption)) : a1 ≤ (l0.length : Int))
   replace H := Option.bind_eq_some_iff.mp H
   obtain ⟨⟨t535, t536⟩, A70, H⟩ := H
   replace H : (some (t535, t536)) = some (r1, r2) := H
   have A7 := Aside0.mk A70
   clear A70
   simp only [Option.some.injEq, Prod.mk.injEq] at H
   obtain ⟨rfl, rfl⟩ := H
   go_enter Try.func76, Try.ntmps76
   try go_wp2
   replace HB := Aside0.mk (below_drew1 HB.out)
   obtain ⟨i09, hi09, _, hsz9, _⟩ := info_parts info4
   obtain ⟨hcut9, hA9, hC9⟩ := print_take_of (P := Try.prog) Value.bool false 58 4 .i64 Try.underlying58 hi09 hsz9 A0 c0 l0 a1 (of_decide_eq_true (by (with_reducible assumption))) (of_decide_eq_true (by (with_reducible assumption))) HC0.out
   have HR533 := Aside0.mk (Kd.C_of_reads (h1 := fun _ => rfl) (hA9 _ (Kd.reads_of_C HR0.out)))
   have HC533 := Aside0.mk hC9
   clear hA9 hC9 hi09 hsz9
   obtain ⟨i010, hi010, _, hsz10, _⟩ := info_parts info4
   obtain ⟨A10, hcut10, hA10, hC10⟩ := print_drop_of (P := Try.prog) Value.bool false 58 4 .i64 Try.underlying58 hi010 hsz10 A0 c0 l0 a1 (of_decide_eq_true (by (with_reducible assumption))) (of_decide_eq_true (by (with_reducible assumption))) HC0.out
   have HR534 := Aside0.mk (Kd.C_of_reads (h1 := fun _ => rfl) (hA10 _ (Kd.reads_of_C HR0.out)))
   have HC534 := Aside0.mk hC10
   clear hA10 hC10 hi010 hsz10
   refine start_ (n := 12) (S := fun w' => True) (ds := []) #[false, false, false, false, false, false, false, false, false, false, false, false] (by kernel_rfl) rfl rfl trivial (fun hHeld => ?_); refine with_tabW spec_l2Fill.tab1 spec_l2Fill.bits1 (fun HT_ HW_ => ?_)
   generalize w.drew = w8 at HB HR533 HR534 hHeld ⊢
   refine pure_ (i := 0) (N := some 6) (v := ?_) (a' := ?_) #[true, false, false, false, false, false, false, false, false, false, false, false] rfl rfl (any_of HT_.out (by kernel_rfl)) (fun _ _ _ h => h) (Or.inl ⟨by rfl, ?_⟩) ?_ ?_
   rotate_left
   ·intro w'
    go_simp
    with_reducible rfl
   rotate_left
   ·simp only [Act.put, List.setIfInBounds_toArray, List.set_cons_zero, List.set_cons_succ, i64_w, i32_w]
    rfl
   refine pure_ (i := 1) (N := some 7) (v := ?_) (a' := ?_) #[true, true, false, false, false, false, false, false, false, false, false, false] rfl rfl (any_of HT_.out (by kernel_rfl)) (fun _ _ _ h => h) (Or.inl ⟨by rfl, ?_⟩) ?_ ?_
   rotate_left
   ·intro w'
    go_simp
    with_reducible rfl
   rotate_left
   ·simp only [Act.put, List.setIfInBounds_toArray, List.set_cons_zero, List.set_cons_succ, i64_w, i32_w]
    rfl
   refine pure_ (i := 2) (N := some 8) (v := ?_) (a' := ?_) #[true, true, true, false, false, false, false, false, false, false, false, false] rfl rfl (any_of HT_.out (by kernel_rfl)) (fun _ _ _ h => h) (Or.inl ⟨by rfl, ?_⟩) ?_ ?_
   rotate_left
   ·intro w'
    go_simp
    with_reducible rfl
   rotate_left
   ·simp only [Act.put, List.setIfInBounds_toArray, List.set_cons_zero, List.set_cons_succ, i64_w, i32_w]
    rfl
   refine pure_ (i := 3) (N := some 9) (v := ?_) (a' := ?_) #[true, true, true, true, false, false, false, false, false, false, false, false] rfl rfl (any_of HT_.out (by kernel_rfl)) (fun _ _ _ h => h) (Or.inl ⟨by rfl, ?_⟩) ?_ ?_
   rotate_left
   ·intro w'
    go_simp
    with_reducible rfl
   rotate_left
   ·simp only [Act.put, List.setIfInBounds_toArray, List.set_cons_zero, List.set_cons_succ, i64_w, i32_w]
    rfl
   refine pure_ (i := 4) (N := some 10) (v := ?_) (a' := ?_) #[true, true, true, true, true, false, false, false, false, false, false, false] rfl rfl (any_of HT_.out (by kernel_rfl)) (fun _ _ _ h => h) (Or.inl ⟨by rfl, ?_⟩) ?_ ?_
   rotate_left
   ·intro w'
    go_simp
    with_reducible rfl
   rotate_left
   ·simp only [Act.put, List.setIfInBounds_toArray, List.set_cons_zero, List.set_cons_succ, i64_w, i32_w]
    rfl
   refine pure_ (i := 5) (N := some 11) (v := ?_) (a' := ?_) #[true, true, true, true, true, true, false, false, false, false, false, false] rfl rfl (any_of HT_.out (by kernel_rfl)) (fun _ _ _ h => h) (Or.inl ⟨by rfl, ?_⟩) ?_ ?_
   rotate_left
   ·intro w'
    go_simp
    with_reducible rfl
   rotate_left
   ·simp only [Act.put, List.setIfInBounds_toArray, List.set_cons_zero, List.set_cons_succ, i64_w, i32_w]
    rfl
   refine pure_ (i := 6) (N := some 12) (v := ?_) (a' := ?_) #[true, true, true, true, true, true, true, false, false, false, false, false] rfl rfl (any_of HT_.out (by kernel_rfl)) (fun _ _ _ h => h) (Or.inl ⟨by rfl, ?_⟩) ?_ ?_
   rotate_left
   ·intro w'
    go_simp
    with_reducible rfl
   rotate_left
   ·simp only [Act.put, List.setIfInBounds_toArray, List.set_cons_zero, List.set_cons_succ, i64_w, i32_w]
    rfl
   refine one_ (i := 7) (N := some 13) #[true, true, true, true, true, true, true, true, false, false, false, false] rfl rfl (one_of HT_.out (by kernel_rfl)) (by decide) (fun K hK => ?_)
   refine goes_ Try.func75 (by kernel_rfl) rfl #[.agg #[.slice A0 (l0.take (a1 : Int).toNat).length c0, .slice A10 (l0.drop (a1 : Int).toNat).length (c0 - a1.toNat)]] (by rfl) rfl rfl (by (try simp only [List.map_toArray, List.map_cons, List.map_nil]); first | (rw [show (l0.take (a1 : Int).toNat).length = a1.toNat from (by rw [List.length_take]; have h_ : (a1 : Int) ≤ (l0.length : Int) := of_decide_eq_true (by (with_reducible assumption)); omega), show (l0.drop (a1 : Int).toNat).length = (l0.length - a1.toNat) from List.length_drop] <;> rfl)) ?_
   with_reducible refine (spec_l1Done.calls k _ _ (l0.take (a1 : Int).toNat) _ _ (l0.drop (a1 : Int).toNat) t535 t536 _ ?side1 ?side2 ?side3 ?side4 A7.out).mono ?_
   (case side1 => repeat (exact (Kd.C_below HR533.out HB.out)))
   (case side2 => exact HC533.out)
   (case side3 => repeat (exact (Kd.C_below HR534.out HB.out)))
   (case side4 => exact HC534.out)
   rintro e w11 ⟨rfl, hb⟩
   refine ⟨_, rfl, ?_⟩
   replace HB := Aside0.mk (below_step HB.out hb)
   (try clear hb)
   refine hK.out _ _ trivial (fun hHeld => ?_)
   clear hK K
   refine norm_ (a' := ?_) ?_ ?_
   rotate_left
   ·show Act.put _ (some 13) _ = _
    simp only [Act.put, List.setIfInBounds_toArray, List.set_cons_zero, List.set_cons_succ, i64_w, i32_w]
    rfl
   refine pure_ (i := 8) (N := some 14) (v := ?_) (a' := ?_) #[true, true, true, true, true, true, true, true, true, false, false, false] rfl rfl (any_of HT_.out (by kernel_rfl)) (fun _ _ _ h => h) (Or.inl ⟨by rfl, ?_⟩) ?_ ?_
   rotate_left
   ·intro w'
    go_simp
    with_reducible rfl
   rotate_left
   ·simp only [Act.put, List.setIfInBounds_toArray, List.set_cons_zero, List.set_cons_succ, i64_w, i32_w]
    rfl
   refine pure_ (i := 9) (N := some 15) (v := ?_) (a' := ?_) #[true, true, true, true, true, true, true, true, true, true, false, false] rfl rfl (any_of HT_.out (by kernel_rfl)) (fun _ _ _ h => h) (Or.inl ⟨by rfl, ?_⟩) ?_ ?_
   rotate_left
   ·intro w'
    go_simp
    with_reducible rfl
   rotate_left
   ·simp only [Act.put, List.setIfInBounds_toArray, List.set_cons_zero, List.set_cons_succ, i64_w, i32_w]
    rfl
   refine pure_ (i := 10) (N := some 4) (v := ?_) (a' := ?_) #[true, true, true, true, true, true, true, true, true, true, true, false] rfl rfl (any_of HT_.out (by kernel_rfl)) (fun _ _ _ h => h) (Or.inl ⟨by rfl, ?_⟩) ?_ ?_
   rotate_left
   ·intro w'
    go_simp
    with_reducible rfl
   rotate_left
   ·simp only [Act.put, List.setIfInBounds_toArray, List.set_cons_zero, List.set_cons_succ, i64_w, i32_w]
    rfl
   refine pure_ (i := 11) (N := some 5) (v := ?_) (a' := ?_) #[true, true, true, true, true, true, true, true, true, true, true, true] rfl rfl (any_of HT_.out (by kernel_rfl)) (fun _ _ _ h => h) (Or.inl ⟨by rfl, ?_⟩) ?_ ?_
   rotate_left
   ·intro w'
    go_simp
    with_reducible rfl
   rotate_left
   ·simp only [Act.put, List.setIfInBounds_toArray, List.set_cons_zero, List.set_cons_succ, i64_w, i32_w]
    rfl
   refine done_ (done_of HT_.out (by kernel_rfl)) ?_
   try go_wp2
   go_ret2
   exact ⟨by first | rfl | (simp [*, errW_none, errW_some] <;> rfl), HB.out⟩
  ·rw [if_neg c4] at H
   exact absurd H (by simp)
 ·rw [if_neg c3] at H
  exact absurd H (by simp)


def spec_l1Divisor.l0 : Nat → Int → Int → Option (Int)
 | 0, _, _ => none
 | k + 1, x0, x1 => if x1 > 0 then (if x1 = 0 then (none) else (spec_l1Divisor.l0 k x1 (Int.tmod x0 x1))) else (some x0)
def spec_l1Divisor.f (k : Nat) (a0 : Int) (a1 : Int) : Option (Int) := spec_l1Divisor.l0 k a0 a1
theorem spec_l1Divisor.mono_l : ∀ k, (∀ y0 y1, LeO (spec_l1Divisor.l0 k y0 y1) (spec_l1Divisor.l0 (k + 1) y0 y1))
 | 0 => fun _ _ r h => by simp [spec_l1Divisor.l0] at h
 | k + 1 => by
  have ih0 := spec_l1Divisor.mono_l k
  ·intro y0 y1
   unfold spec_l1Divisor.l0
   repeat' first | (with_reducible exact ih0 _ _) | (with_reducible exact LeO.refl _) | (with_reducible refine LeO.ite ?_ ?_)
theorem spec_l1Divisor.mono : ∀ a0 a1 k, LeO (spec_l1Divisor.f k a0 a1) (spec_l1Divisor.f (k + 1) a0 a1) := by
 intro a0 a1 k
 have ih0 := spec_l1Divisor.mono_l k
 unfold spec_l1Divisor.f
 repeat' (with_reducible exact ih0 _ _)
set_option maxHeartbeats 8000000 in
set_option maxRecDepth 100000 in
theorem spec_l1Divisor.calls (k : Nat) (a0 : Int) (a1 : Int) (r : Int) (w : World) (h : spec_l1Divisor.f k a0 a1 = some r) :
  Calls Try.prog 107 #[.int .i64 a0, .int .i64 a1] w fun e w' => e = .returned (.int .i64 r) ∧ Drawn0 w w' := by
 have H : (spec_l1Divisor.l0 k a0 a1) = some r := h
 clear h
 have H' := Aside0.mk H
 clear H
 go_enter Try.func107, Try.ntmps107
 go_wp2
 go_loopg [0, 1] k (fun kq v0 v1 w' => ∃ (x0_1 : Int) (x1_1 : Int), v0 = .int .i64 x0_1 ∧ v1 = .int .i64 x1_1 ∧ Aside0 (spec_l1Divisor.l0 kq x0_1 x1_1 = some r) ∧ Aside0 (kq ≤ k) ∧ Drawn0 w w')
 case atStart => exact ⟨(a0), (a1), (by rfl), (by rfl), H', ⟨Nat.le_refl _⟩, by repeat (exact Drawn0.refl _)⟩
 case round =>
  clear H'
  obtain ⟨x0_1, x1_1, rfl, rfl, HA, HK1, ⟨m1, rfl⟩⟩ := hrel
  cases gk with
  | zero => exact absurd HA.out (by simp [spec_l1Divisor.l0])
  | succ k1 =>
   have H := HA.out
   clear HA
   simp only [spec_l1Divisor.l0] at H
   by_cases c3 : x1_1 > 0
   ·rw [if_pos c3] at H
    have c3b0 : decide (0 < x1_1) = true := decide_eq_true c3
    clear c3
    by_cases c4 : x1_1 = 0
    ·rw [if_pos c4] at H
     exact absurd H (by simp)
    ·rw [if_neg c4] at H
     have c4b0 : (x1_1 == 0) = false := beq_eq_false_iff_ne.mpr c4
     have c4b1 : (x1_1 != 0) = true := bne_iff_ne.mpr c4
     have H' := Aside0.mk H
     clear H
     go_wp2
     go_roundg k1
     case measure => have := HK1.out; omega
     case rel => exact ⟨(x1_1), (Int.tmod x0_1 x1_1), (by rfl), (by rfl), H', ⟨by have := HK1.out; omega⟩, by repeat (first | exact Drawn0.refl _ | apply Drawn0.step)⟩
   ·rw [if_neg c3] at H
    have c3b0 : decide (0 < x1_1) = false := decide_eq_false c3
    clear c3
    obtain rfl := Option.some.inj H
    go_wp2
    go_ret
    exact ⟨by first | rfl | (simp [*]; done), by repeat (first | exact Drawn0.refl _ | apply Drawn0.step)⟩


def spec_l1Shape.f (k : Nat) (l0_0 : List Bool) (l0_1 : List Bool) (l1_0 : List Bool) (l1_1 : List Bool) : Option (Int × Int) := (spec_l1Divisor.f k (l0_1.length : Int) (l1_1.length : Int)).bind fun t556 => (if t556 = 0 then (none) else (some (mx (l0_0.length : Int) (l1_0.length : Int), wrap64 ((wrap64 ((l0_1.length : Int) / t556)) * (l1_1.length : Int)))))
theorem spec_l1Shape.mono : ∀ a0 a1 a2 a3 k, LeO (spec_l1Shape.f k a0 a1 a2 a3) (spec_l1Shape.f (k + 1) a0 a1 a2 a3) := by
 intro a0 a1 a2 a3 k
 unfold spec_l1Shape.f
 repeat' first
   |(with_reducible exact spec_l1Divisor.mono _ _ _)
   |(with_reducible exact LeO.refl _)
   |(with_reducible exact LeO.none _)
   |(with_reducible refine LeO.ite ?_ ?_)
   |(with_reducible refine LeO.bind ?_ (fun _ => ?_))
   |exact spec_l1Divisor.mono _ _ _
   |exact LeO.none _
   |refine LeO.ite ?_ ?_
   |refine LeO.bind ?_ (fun _ => ?_)
set_option maxHeartbeats 8000000 in
set_option maxRecDepth 100000 in
theorem spec_l1Shape.calls (k : Nat) (A0_0 : Option Addr) (c0_0 : Nat) (l0_0 : List Bool) (A0_1 : Option Addr) (c0_1 : Nat) (l0_1 : List Bool) (A1_0 : Option Addr) (c1_0 : Nat) (l1_0 : List Bool) (A1_1 : Option Addr) (c1_1 : Nat) (l1_1 : List Bool) (r1 : Int) (r2 : Int) (w : World) (hr0_0 : Kd.C Kd.bool w A0_0 l0_0.length l0_0) (hc0_0 : l0_0.length ≤ c0_0) (hr0_1 : Kd.C Kd.bool w A0_1 l0_1.length l0_1) (hc0_1 : l0_1.length ≤ c0_1) (hr1_0 : Kd.C Kd.bool w A1_0 l1_0.length l1_0) (hc1_0 : l1_0.length ≤ c1_0) (hr1_1 : Kd.C Kd.bool w A1_1 l1_1.length l1_1) (hc1_1 : l1_1.length ≤ c1_1) (h : spec_l1Shape.f k l0_0 l0_1 l1_0 l1_1 = some (r1, r2)) :
  Calls Try.prog 66 #[.agg #[.slice A0_0 l0_0.length c0_0, .slice A0_1 l0_1.length c0_1], .agg #[.slice A1_0 l1_0.length c1_0, .slice A1_1 l1_1.length c1_1]] w fun e w' => e = .returned (.tuple #[.int .i64 r1, .int .i64 r2]) ∧ Below w.heap.size w w' := by
 have hu66 := Try.underlying66
 have HR0_0 := Aside0.mk hr0_0
 have HC0_0 := Aside0.mk hc0_0
 clear hr0_0 hc0_0
 have HR0_1 := Aside0.mk hr0_1
 have HC0_1 := Aside0.mk hc0_1
 clear hr0_1 hc0_1
 have HR1_0 := Aside0.mk hr1_0
 have HC1_0 := Aside0.mk hc1_0
 clear hr1_0 hc1_0
 have HR1_1 := Aside0.mk hr1_1
 have HC1_1 := Aside0.mk hc1_1
 clear hr1_1 hc1_1
 have HB := Aside0.mk (Below.refl w.heap.size w)
 have H : ((spec_l1Divisor.f k (l0_1.length : Int) (l1_1.length : Int)).bind fun t556 => (if t556 = 0 then (none) else (some (mx (l0_0.length : Int) (l1_0.length : Int), wrap64 ((wrap64 ((l0_1.length : Int) / t556)) * (l1_1.length : Int)))))) = some (r1, r2) := h
 clear h
 replace H := Option.bind_eq_some_iff.mp H
 obtain ⟨t556, A30, H⟩ := H
 replace H : (if t556 = 0 then (none) else (some (mx (l0_0.length : Int) (l1_0.length : Int), wrap64 ((wrap64 ((l0_1.length : Int) / t556)) * (l1_1.length : Int))))) = some (r1, r2) := H
 have A3 := Aside0.mk A30
 clear A30
 by_cases c4 : t556 = 0
 ·rw [if_pos c4] at H
  exact absurd H (by simp)
 ·rw [if_neg c4] at H
  have c4b0 : (t556 == 0) = false := beq_eq_false_iff_ne.mpr c4
  have c4b1 : (t556 != 0) = true := bne_iff_ne.mpr c4
  obtain ⟨ji5, hji5⟩ : ∃ j_ : Int, (mx (l0_0.length : Int) (l1_0.length : Int)) = j_ := ⟨_, rfl⟩
  replace H : (some (ji5, wrap64 ((wrap64 ((l0_1.length : Int) / t556)) * (l1_1.length : Int)))) = some (r1, r2) := by first | (rw [hji5] at H; exact H) | (simp only [hji5] at H ⊢; exact H)
  (try rw [hji5] at A3)
  (try (have hji5l : 0 ≤ ji5 := by (rw [← hji5]; unfold mx; (repeat' split) <;> omega)))
  (try (have hji5m : 0 ≤ ji5 := by omega))
  have hji5_ : (if (l0_0.length : Int) < (l1_0.length : Int) then (l1_0.length : Int) else (l0_0.length : Int)) = ji5 := hji5
  have hji5n : (if l0_0.length < l1_0.length then (l1_0.length : Int) else (l0_0.length : Int)) = ji5 := by rw [← hji5_]; split <;> split <;> omega
  simp only [Option.some.injEq, Prod.mk.injEq] at H
  obtain ⟨rfl, rfl⟩ := H
  go_enter Try.func66, Try.ntmps66
  go_wp2_with (first | ((with_reducible refine gate_dst (N := 2) rfl ?_); refine box_event ?hg (N := 2) ?hd (cs := #[.slice A0_0 l0_0.length c0_0, .slice A0_1 l0_1.length c0_1]) (t := 66) ?hr ?_; (case hd => rfl); (case hg => rfl); (case hr => first | (go_simp; done) | (go_simp; rfl)); intro gb554 hg w6 hbox hb; have BK554 := Aside0.mk hbox; have GW554 := Aside0.mk ((by rw [hg]; exact (below_size (by repeat (first | (with_reducible first | exact HB.out | apply below_alloc | apply pw_below_drewN | apply below_drew1) | exact HB.out))) : w.heap.size ≤ gb554)); have GE554 := Aside0.mk ((by rw [hg]; exact (below_size (by repeat (first | (with_reducible first | exact HB.out | apply below_alloc | apply pw_below_drewN | apply below_drew1) | exact HB.out))) : w.heap.size ≤ gb554)); replace HB := Aside0.mk (below_step (by repeat (first | (with_reducible first | exact HB.out | apply below_alloc | apply pw_below_drewN | apply below_drew1) | exact HB.out)) hb); clear hb hbox hg) | ((with_reducible refine gate_dst (N := 3) rfl ?_); refine box_event ?hg (N := 3) ?hd (cs := #[.slice A1_0 l1_0.length c1_0, .slice A1_1 l1_1.length c1_1]) (t := 66) ?hr ?_; (case hd => rfl); (case hg => rfl); (case hr => first | (go_simp; done) | (go_simp; rfl)); intro gb555 hg w7 hbox hb; have BK555 := Aside0.mk hbox; have GW555 := Aside0.mk ((by rw [hg]; exact (below_size (by repeat (first | (with_reducible first | exact HB.out | apply below_alloc | apply pw_below_drewN | apply below_drew1 | refine below_set ?_ GE554.out) | exact HB.out))) : w.heap.size ≤ gb555)); have GE555 := Aside0.mk ((by rw [hg]; exact (below_size (by repeat (first | (with_reducible first | exact HB.out | apply below_alloc | apply pw_below_drewN | apply below_drew1 | refine below_set ?_ GE554.out) | exact HB.out))) : w.heap.size ≤ gb555)); replace HB := Aside0.mk (below_step (by repeat (first | (with_reducible first | exact HB.out | apply below_alloc | apply pw_below_drewN | apply below_drew1 | refine below_set ?_ GE554.out) | exact HB.out)) hb); have NB554_555 := Aside0.mk ((by rw [hg]; exact Nat.ne_of_lt (blk_lt (g := gb554) (o := .cells #[.slice A0_0 l0_0.length c0_0, .slice A0_1 l0_1.length c0_1] 66 (0, 0)) (by (with_reducible repeat (first | refine blk_drewN ?_ _ | refine blk_drew ?_ | refine blk_alloc ?_ _)); exact BK554.out)) : gb554 ≠ gb555)); have NB555_554 := Aside0.mk ((by rw [hg]; exact Nat.ne_of_gt (blk_lt (g := gb554) (o := .cells #[.slice A0_0 l0_0.length c0_0, .slice A0_1 l0_1.length c0_1] 66 (0, 0)) (by (with_reducible repeat (first | refine blk_drewN ?_ _ | refine blk_drew ?_ | refine blk_alloc ?_ _)); exact BK554.out)) : gb555 ≠ gb554)); replace BK554 := Aside0.mk (blk_below (g := gb554) (o := .cells #[.slice A0_0 l0_0.length c0_0, .slice A0_1 l0_1.length c0_1] 66 (0, 0)) (by (with_reducible repeat (first | refine blk_drewN ?_ _ | refine blk_drew ?_ | refine blk_alloc ?_ _)); exact BK554.out) hb); clear hb hbox hg; have hnb8 := NB554_555.out; have hnc8 := NB555_554.out; have hcz9_0 : w7.cell? ⟨gb554, 0, none⟩ = some (.slice A0_0 l0_0.length c0_0) := (blk_cell BK554.out 0).trans rfl; have hcz9_1 : w7.cell? ⟨gb554, 1, none⟩ = some (.slice A0_1 l0_1.length c0_1) := (blk_cell BK554.out 1).trans rfl; have hfz9_0 := blk_frozen BK554.out 0; have hfz9_1 := blk_frozen BK554.out 1; have hcz10_0 : w7.cell? ⟨gb555, 0, none⟩ = some (.slice A1_0 l1_0.length c1_0) := (blk_cell BK555.out 0).trans rfl; have hcz10_1 : w7.cell? ⟨gb555, 1, none⟩ = some (.slice A1_1 l1_1.length c1_1) := (blk_cell BK555.out 1).trans rfl; have hfz10_0 := blk_frozen BK555.out 0; have hfz10_1 := blk_frozen BK555.out 1) | (go_at_call 107; (with_reducible refine (spec_l1Divisor.calls k (l0_1.length : Int) (l1_1.length : Int) t556 _ A3.out).mono ?_); rintro e w' ⟨rfl, ⟨nd, rfl⟩⟩; (try first | exact ⟨rfl, _, World.drewN_drewN _ _ _⟩ | exact ⟨rfl, _, Eq.trans (World.drewN_drewN _ _ _) (congrArg (World.drewN _) (Nat.add_assoc _ _ _))⟩)))
  repeat (go_quiet (first | ((with_reducible refine gate_dst (N := 2) rfl ?_); refine box_event ?hg (N := 2) ?hd (cs := #[.slice A0_0 l0_0.length c0_0, .slice A0_1 l0_1.length c0_1]) (t := 66) ?hr ?_; (case hd => rfl); (case hg => rfl); (case hr => first | (go_simp; done) | (go_simp; rfl)); intro gb554 hg w6 hbox hb; have BK554 := Aside0.mk hbox; have GW554 := Aside0.mk ((by rw [hg]; exact (below_size (by repeat (first | (with_reducible first | exact HB.out | apply below_alloc | apply pw_below_drewN | apply below_drew1) | exact HB.out))) : w.heap.size ≤ gb554)); have GE554 := Aside0.mk ((by rw [hg]; exact (below_size (by repeat (first | (with_reducible first | exact HB.out | apply below_alloc | apply pw_below_drewN | apply below_drew1) | exact HB.out))) : w.heap.size ≤ gb554)); replace HB := Aside0.mk (below_step (by repeat (first | (with_reducible first | exact HB.out | apply below_alloc | apply pw_below_drewN | apply below_drew1) | exact HB.out)) hb); clear hb hbox hg) | ((with_reducible refine gate_dst (N := 3) rfl ?_); refine box_event ?hg (N := 3) ?hd (cs := #[.slice A1_0 l1_0.length c1_0, .slice A1_1 l1_1.length c1_1]) (t := 66) ?hr ?_; (case hd => rfl); (case hg => rfl); (case hr => first | (go_simp; done) | (go_simp; rfl)); intro gb555 hg w7 hbox hb; have BK555 := Aside0.mk hbox; have GW555 := Aside0.mk ((by rw [hg]; exact (below_size (by repeat (first | (with_reducible first | exact HB.out | apply below_alloc | apply pw_below_drewN | apply below_drew1 | refine below_set ?_ GE554.out) | exact HB.out))) : w.heap.size ≤ gb555)); have GE555 := Aside0.mk ((by rw [hg]; exact (below_size (by repeat (first | (with_reducible first | exact HB.out | apply below_alloc | apply pw_below_drewN | apply below_drew1 | refine below_set ?_ GE554.out) | exact HB.out))) : w.heap.size ≤ gb555)); replace HB := Aside0.mk (below_step (by repeat (first | (with_reducible first | exact HB.out | apply below_alloc | apply pw_below_drewN | apply below_drew1 | refine below_set ?_ GE554.out) | exact HB.out)) hb); have NB554_555 := Aside0.mk ((by rw [hg]; exact Nat.ne_of_lt (blk_lt (g := gb554) (o := .cells #[.slice A0_0 l0_0.length c0_0, .slice A0_1 l0_1.length c0_1] 66 (0, 0)) (by (with_reducible repeat (first | refine blk_drewN ?_ _ | refine blk_drew ?_ | refine blk_alloc ?_ _)); exact BK554.out)) : gb554 ≠ gb555)); have NB555_554 := Aside0.mk ((by rw [hg]; exact Nat.ne_of_gt (blk_lt (g := gb554) (o := .cells #[.slice A0_0 l0_0.length c0_0, .slice A0_1 l0_1.length c0_1] 66 (0, 0)) (by (with_reducible repeat (first | refine blk_drewN ?_ _ | refine blk_drew ?_ | refine blk_alloc ?_ _)); exact BK554.out)) : gb555 ≠ gb554)); replace BK554 := Aside0.mk (blk_below (g := gb554) (o := .cells #[.slice A0_0 l0_0.length c0_0, .slice A0_1 l0_1.length c0_1] 66 (0, 0)) (by (with_reducible repeat (first | refine blk_drewN ?_ _ | refine blk_drew ?_ | refine blk_alloc ?_ _)); exact BK554.out) hb); clear hb hbox hg; have hnb8 := NB554_555.out; have hnc8 := NB555_554.out; have hcz9_0 : w7.cell? ⟨gb554, 0, none⟩ = some (.slice A0_0 l0_0.length c0_0) := (blk_cell BK554.out 0).trans rfl; have hcz9_1 : w7.cell? ⟨gb554, 1, none⟩ = some (.slice A0_1 l0_1.length c0_1) := (blk_cell BK554.out 1).trans rfl; have hfz9_0 := blk_frozen BK554.out 0; have hfz9_1 := blk_frozen BK554.out 1; have hcz10_0 : w7.cell? ⟨gb555, 0, none⟩ = some (.slice A1_0 l1_0.length c1_0) := (blk_cell BK555.out 0).trans rfl; have hcz10_1 : w7.cell? ⟨gb555, 1, none⟩ = some (.slice A1_1 l1_1.length c1_1) := (blk_cell BK555.out 1).trans rfl; have hfz10_0 := blk_frozen BK555.out 0; have hfz10_1 := blk_frozen BK555.out 1) | (go_at_call 107; (with_reducible refine (spec_l1Divisor.calls k (l0_1.length : Int) (l1_1.length : Int) t556 _ A3.out).mono ?_); rintro e w' ⟨rfl, ⟨nd, rfl⟩⟩; (try first | exact ⟨rfl, _, World.drewN_drewN _ _ _⟩ | exact ⟨rfl, _, Eq.trans (World.drewN_drewN _ _ _) (congrArg (World.drewN _) (Nat.add_assoc _ _ _))⟩))); try go_wp2_with (first | ((with_reducible refine gate_dst (N := 2) rfl ?_); refine box_event ?hg (N := 2) ?hd (cs := #[.slice A0_0 l0_0.length c0_0, .slice A0_1 l0_1.length c0_1]) (t := 66) ?hr ?_; (case hd => rfl); (case hg => rfl); (case hr => first | (go_simp; done) | (go_simp; rfl)); intro gb554 hg w6 hbox hb; have BK554 := Aside0.mk hbox; have GW554 := Aside0.mk ((by rw [hg]; exact (below_size (by repeat (first | (with_reducible first | exact HB.out | apply below_alloc | apply pw_below_drewN | apply below_drew1) | exact HB.out))) : w.heap.size ≤ gb554)); have GE554 := Aside0.mk ((by rw [hg]; exact (below_size (by repeat (first | (with_reducible first | exact HB.out | apply below_alloc | apply pw_below_drewN | apply below_drew1) | exact HB.out))) : w.heap.size ≤ gb554)); replace HB := Aside0.mk (below_step (by repeat (first | (with_reducible first | exact HB.out | apply below_alloc | apply pw_below_drewN | apply below_drew1) | exact HB.out)) hb); clear hb hbox hg) | ((with_reducible refine gate_dst (N := 3) rfl ?_); refine box_event ?hg (N := 3) ?hd (cs := #[.slice A1_0 l1_0.length c1_0, .slice A1_1 l1_1.length c1_1]) (t := 66) ?hr ?_; (case hd => rfl); (case hg => rfl); (case hr => first | (go_simp; done) | (go_simp; rfl)); intro gb555 hg w7 hbox hb; have BK555 := Aside0.mk hbox; have GW555 := Aside0.mk ((by rw [hg]; exact (below_size (by repeat (first | (with_reducible first | exact HB.out | apply below_alloc | apply pw_below_drewN | apply below_drew1 | refine below_set ?_ GE554.out) | exact HB.out))) : w.heap.size ≤ gb555)); have GE555 := Aside0.mk ((by rw [hg]; exact (below_size (by repeat (first | (with_reducible first | exact HB.out | apply below_alloc | apply pw_below_drewN | apply below_drew1 | refine below_set ?_ GE554.out) | exact HB.out))) : w.heap.size ≤ gb555)); replace HB := Aside0.mk (below_step (by repeat (first | (with_reducible first | exact HB.out | apply below_alloc | apply pw_below_drewN | apply below_drew1 | refine below_set ?_ GE554.out) | exact HB.out)) hb); have NB554_555 := Aside0.mk ((by rw [hg]; exact Nat.ne_of_lt (blk_lt (g := gb554) (o := .cells #[.slice A0_0 l0_0.length c0_0, .slice A0_1 l0_1.length c0_1] 66 (0, 0)) (by (with_reducible repeat (first | refine blk_drewN ?_ _ | refine blk_drew ?_ | refine blk_alloc ?_ _)); exact BK554.out)) : gb554 ≠ gb555)); have NB555_554 := Aside0.mk ((by rw [hg]; exact Nat.ne_of_gt (blk_lt (g := gb554) (o := .cells #[.slice A0_0 l0_0.length c0_0, .slice A0_1 l0_1.length c0_1] 66 (0, 0)) (by (with_reducible repeat (first | refine blk_drewN ?_ _ | refine blk_drew ?_ | refine blk_alloc ?_ _)); exact BK554.out)) : gb555 ≠ gb554)); replace BK554 := Aside0.mk (blk_below (g := gb554) (o := .cells #[.slice A0_0 l0_0.length c0_0, .slice A0_1 l0_1.length c0_1] 66 (0, 0)) (by (with_reducible repeat (first | refine blk_drewN ?_ _ | refine blk_drew ?_ | refine blk_alloc ?_ _)); exact BK554.out) hb); clear hb hbox hg; have hnb8 := NB554_555.out; have hnc8 := NB555_554.out; have hcz9_0 : w7.cell? ⟨gb554, 0, none⟩ = some (.slice A0_0 l0_0.length c0_0) := (blk_cell BK554.out 0).trans rfl; have hcz9_1 : w7.cell? ⟨gb554, 1, none⟩ = some (.slice A0_1 l0_1.length c0_1) := (blk_cell BK554.out 1).trans rfl; have hfz9_0 := blk_frozen BK554.out 0; have hfz9_1 := blk_frozen BK554.out 1; have hcz10_0 : w7.cell? ⟨gb555, 0, none⟩ = some (.slice A1_0 l1_0.length c1_0) := (blk_cell BK555.out 0).trans rfl; have hcz10_1 : w7.cell? ⟨gb555, 1, none⟩ = some (.slice A1_1 l1_1.length c1_1) := (blk_cell BK555.out 1).trans rfl; have hfz10_0 := blk_frozen BK555.out 0; have hfz10_1 := blk_frozen BK555.out 1) | (go_at_call 107; (with_reducible refine (spec_l1Divisor.calls k (l0_1.length : Int) (l1_1.length : Int) t556 _ A3.out).mono ?_); rintro e w' ⟨rfl, ⟨nd, rfl⟩⟩; (try first | exact ⟨rfl, _, World.drewN_drewN _ _ _⟩ | exact ⟨rfl, _, Eq.trans (World.drewN_drewN _ _ _) (congrArg (World.drewN _) (Nat.add_assoc _ _ _))⟩))))
  go_ret2
  exact ⟨by first | rfl | (simp [errW_none, errW_some] <;> rfl) | (simp [errW_none, errW_some]; exact ⟨rfl, rfl⟩) | (simp [errW_none, errW_some]; exact ⟨rfl, rfl, rfl⟩) | (simp only [← hji5]; first | rfl | (simp [errW_none, errW_some] <;> rfl) | (simp [errW_none, errW_some]; exact ⟨rfl, rfl⟩) | (simp [errW_none, errW_some]; exact ⟨rfl, rfl, rfl⟩)) | (simp [*, errW_none, errW_some] <;> rfl), by repeat (first | (with_reducible first | exact HB.out | apply below_alloc | apply pw_below_drewN | apply below_drew1 | refine below_set ?_ GE554.out | refine below_set ?_ GE555.out) | exact HB.out)⟩


mutual
def spec_l4Sum.l0 : Nat → Bool → Int → Int → List Bool → Int → List Bool → List Bool → List Bool → List Bool → Option (ByteArray × Bool)
 | 0, _, _, _, _, _, _, _, _, _ => none
 | k + 1, x2, x8, x9, x10, x11, x558000, x558001, x559000, x559001 => if x11 < (wrap64 (x8 + x9)) then (spec_l4Sum.l1 k x2 x8 x9 x10 x11 false 0 x558000 x558001 x559000 x559001) else ((spec_l2Fill.f k x10 x8).bind fun bt564 => (some (bt564.1, bt564.2)))
def spec_l4Sum.l1 : Nat → Bool → Int → Int → List Bool → Int → Bool → Int → List Bool → List Bool → List Bool → List Bool → Option (ByteArray × Bool)
 | 0, _, _, _, _, _, _, _, _, _, _, _ => none
 | k + 1, x2, x8, x9, x10, x11, x12, x13, x558000, x558001, x559000, x559001 => if x13 ≤ x11 then (if x12 = true then (spec_l4Sum.l1 k x2 x8 x9 x10 x11 true (wrap64 (x13 + 1)) x558000 x558001 x559000 x559001) else ((spec_l1Has.f x558000 x558001 x13).bind fun t566 => (if t566 = true then ((spec_l1Has.f x559000 x559001 (wrap64 (x11 - x13))).bind fun t567 => (if t567 = true then (if x2 = true then (spec_l4Sum.l1 k x2 x8 x9 x10 x11 (x13 != (wrap64 (x11 - x13))) (wrap64 (x13 + 1)) x558000 x558001 x559000 x559001) else (spec_l4Sum.l1 k x2 x8 x9 x10 x11 true (wrap64 (x13 + 1)) x558000 x558001 x559000 x559001)) else (spec_l4Sum.l1 k x2 x8 x9 x10 x11 false (wrap64 (x13 + 1)) x558000 x558001 x559000 x559001))) else (spec_l4Sum.l1 k x2 x8 x9 x10 x11 false (wrap64 (x13 + 1)) x558000 x558001 x559000 x559001)))) else (if x10.length < 140737488355328 then (spec_l4Sum.l0 k x2 x8 x9 (x10 ++ [x12]) (wrap64 (x11 + 1)) x558000 x558001 x559000 x559001) else (none))
end
def spec_l4Sum.f (k : Nat) (l0_0 : List Bool) (l0_1 : List Bool) (l1_0 : List Bool) (l1_1 : List Bool) (a2 : Bool) : Option (ByteArray × Bool) := (spec_l1Shape.f k l0_0 l0_1 l1_0 l1_1).bind fun bt559 => (spec_l4Sum.l0 k a2 (wrap64 ((wrap64 ((wrap64 (2 * bt559.1)) + (wrap64 (3 * bt559.2)))) + 2)) bt559.2 (([] : List Bool)) 0 l0_0 l0_1 l1_0 l1_1)
theorem spec_l4Sum.mono_l : ∀ k, (∀ y0 y1 y2 y3 y4 y5 y6 y7 y8, LeO (spec_l4Sum.l0 k y0 y1 y2 y3 y4 y5 y6 y7 y8) (spec_l4Sum.l0 (k + 1) y0 y1 y2 y3 y4 y5 y6 y7 y8)) ∧ (∀ y0 y1 y2 y3 y4 y5 y6 y7 y8 y9 y10, LeO (spec_l4Sum.l1 k y0 y1 y2 y3 y4 y5 y6 y7 y8 y9 y10) (spec_l4Sum.l1 (k + 1) y0 y1 y2 y3 y4 y5 y6 y7 y8 y9 y10))
 | 0 => ⟨fun _ _ _ _ _ _ _ _ _ r h => by simp [spec_l4Sum.l0] at h, fun _ _ _ _ _ _ _ _ _ _ _ r h => by simp [spec_l4Sum.l1] at h⟩
 | k + 1 => by
  obtain ⟨ih0, ih1⟩ := spec_l4Sum.mono_l k
  refine ⟨?_, ?_⟩
  ·intro y0 y1 y2 y3 y4 y5 y6 y7 y8
   unfold spec_l4Sum.l0
   repeat' first | (with_reducible exact ih1 _ _ _ _ _ _ _ _ _ _ _) | (with_reducible exact spec_l2Fill.mono _ _ _) | (with_reducible exact LeO.refl _) | (with_reducible refine LeO.ite ?_ ?_) | (with_reducible refine LeO.bind ?_ (fun _ => ?_))
  ·intro y0 y1 y2 y3 y4 y5 y6 y7 y8 y9 y10
   unfold spec_l4Sum.l1
   repeat' first | (with_reducible exact ih0 _ _ _ _ _ _ _ _ _) | (with_reducible exact ih1 _ _ _ _ _ _ _ _ _ _ _) | (with_reducible exact LeO.refl _) | (with_reducible refine LeO.ite ?_ ?_) | (with_reducible refine LeO.bind ?_ (fun _ => ?_))
theorem spec_l4Sum.mono : ∀ a0 a1 a2 a3 a4 k, LeO (spec_l4Sum.f k a0 a1 a2 a3 a4) (spec_l4Sum.f (k + 1) a0 a1 a2 a3 a4) := by
 intro a0 a1 a2 a3 a4 k
 obtain ⟨ih0, ih1⟩ := spec_l4Sum.mono_l k
 unfold spec_l4Sum.f
 repeat' first | (with_reducible exact ih0 _ _ _ _ _ _ _ _ _) | (with_reducible exact spec_l1Shape.mono _ _ _ _ _) | (with_reducible refine LeO.bind ?_ (fun _ => ?_))
set_option maxHeartbeats 8000000 in
set_option maxRecDepth 100000 in
theorem spec_l4Sum.calls (k : Nat) (A0_0 : Option Addr) (c0_0 : Nat) (l0_0 : List Bool) (A0_1 : Option Addr) (c0_1 : Nat) (l0_1 : List Bool) (A1_0 : Option Addr) (c1_0 : Nat) (l1_0 : List Bool) (A1_1 : Option Addr) (c1_1 : Nat) (l1_1 : List Bool) (a2 : Bool) (r1 : ByteArray) (r2 : Bool) (w : World) (hr0_0 : Kd.C Kd.bool w A0_0 l0_0.length l0_0) (hc0_0 : l0_0.length ≤ c0_0) (hr0_1 : Kd.C Kd.bool w A0_1 l0_1.length l0_1) (hc0_1 : l0_1.length ≤ c0_1) (hr1_0 : Kd.C Kd.bool w A1_0 l1_0.length l1_0) (hc1_0 : l1_0.length ≤ c1_0) (hr1_1 : Kd.C Kd.bool w A1_1 l1_1.length l1_1) (hc1_1 : l1_1.length ≤ c1_1) (h : spec_l4Sum.f k l0_0 l0_1 l1_0 l1_1 a2 = some (r1, r2)) :
  Calls Try.prog 106 #[.agg #[.slice A0_0 l0_0.length c0_0, .slice A0_1 l0_1.length c0_1], .agg #[.slice A1_0 l1_0.length c1_0, .slice A1_1 l1_1.length c1_1], .bool a2] w fun e w' => e = .returned (.tuple #[.string r1, .bool r2]) ∧ Below w.heap.size w w' := by
 have hu66 := Try.underlying66
 have HR0_0 := Aside0.mk hr0_0
 have HC0_0 := Aside0.mk hc0_0
 clear hr0_0 hc0_0
 have HR0_1 := Aside0.mk hr0_1
 have HC0_1 := Aside0.mk hc0_1
 clear hr0_1 hc0_1
 have HR1_0 := Aside0.mk hr1_0
 have HC1_0 := Aside0.mk hc1_0
 clear hr1_0 hc1_0
 have HR1_1 := Aside0.mk hr1_1
 have HC1_1 := Aside0.mk hc1_1
 clear hr1_1 hc1_1
 have HB := Aside0.mk (Below.refl w.heap.size w)
 have H : ((spec_l1Shape.f k l0_0 l0_1 l1_0 l1_1).bind fun bt559 => (spec_l4Sum.l0 k a2 (wrap64 ((wrap64 ((wrap64 (2 * bt559.1)) + (wrap64 (3 * bt559.2)))) + 2)) bt559.2 (([] : List Bool)) 0 l0_0 l0_1 l1_0 l1_1)) = some (r1, r2) := h
 clear h
 replace H := Option.bind_eq_some_iff.mp H
 obtain ⟨⟨t559, t560⟩, A40, H⟩ := H
 replace H : (spec_l4Sum.l0 k a2 (wrap64 ((wrap64 ((wrap64 (2 * t559)) + (wrap64 (3 * t560)))) + 2)) t560 (([] : List Bool)) 0 l0_0 l0_1 l1_0 l1_1) = some (r1, r2) := H
 have A4 := Aside0.mk A40
 clear A40
 obtain ⟨y561, hy561⟩ : ∃ y_ : List Bool, y_ = (([] : List Bool)) := ⟨_, rfl⟩
 replace H : (spec_l4Sum.l0 k a2 (wrap64 ((wrap64 ((wrap64 (2 * t559)) + (wrap64 (3 * t560)))) + 2)) t560 y561 0 l0_0 l0_1 l1_0 l1_1) = some (r1, r2) := by first | (rw [hy561]; with_reducible exact H)
 have Ny561 := Aside0.mk hy561
 clear hy561
 have H' := Aside0.mk H
 clear H
 go_enter Try.func106, Try.ntmps106
 go_wp2_with (first | ((with_reducible refine gate_dst (N := 3) rfl ?_); refine box_event ?hg (N := 3) ?hd (cs := #[.slice A0_0 l0_0.length c0_0, .slice A0_1 l0_1.length c0_1]) (t := 66) ?hr ?_; (case hd => rfl); (case hg => rfl); (case hr => first | (go_simp; done)); intro gb557 hg w5 hbox hb; have BK557 := Aside0.mk hbox; have GW557 := Aside0.mk ((by rw [hg]; exact (below_size HB.out) : w.heap.size ≤ gb557)); have GE557 := Aside0.mk ((by rw [hg]; exact (below_size HB.out) : w.heap.size ≤ gb557)); replace HB := Aside0.mk (below_step HB.out hb); clear hb hbox hg) | ((with_reducible refine gate_dst (N := 4) rfl ?_); refine box_event ?hg (N := 4) ?hd (cs := #[.slice A1_0 l1_0.length c1_0, .slice A1_1 l1_1.length c1_1]) (t := 66) ?hr ?_; (case hd => rfl); (case hg => rfl); (case hr => first | (go_simp; done)); intro gb558 hg w6 hbox hb; have BK558 := Aside0.mk hbox; have GW558 := Aside0.mk ((by rw [hg]; exact (below_size HB.out) : w.heap.size ≤ gb558)); have GE558 := Aside0.mk ((by rw [hg]; exact (below_size HB.out) : w.heap.size ≤ gb558)); replace HB := Aside0.mk (below_step HB.out hb); have NB557_558 := Aside0.mk ((by rw [hg]; exact Nat.ne_of_lt (blk_lt (g := gb557) (o := .cells #[.slice A0_0 l0_0.length c0_0, .slice A0_1 l0_1.length c0_1] 66 (0, 0)) BK557.out) : gb557 ≠ gb558)); have NB558_557 := Aside0.mk ((by rw [hg]; exact Nat.ne_of_gt (blk_lt (g := gb557) (o := .cells #[.slice A0_0 l0_0.length c0_0, .slice A0_1 l0_1.length c0_1] 66 (0, 0)) BK557.out) : gb558 ≠ gb557)); replace BK557 := Aside0.mk (blk_below (g := gb557) (o := .cells #[.slice A0_0 l0_0.length c0_0, .slice A0_1 l0_1.length c0_1] 66 (0, 0)) BK557.out hb); clear hb hbox hg; have hnb7 := NB557_558.out; have hnc7 := NB558_557.out; have hcz8_0 : w6.cell? ⟨gb557, 0, none⟩ = some (.slice A0_0 l0_0.length c0_0) := (blk_cell BK557.out 0).trans rfl; have hcz8_1 : w6.cell? ⟨gb557, 1, none⟩ = some (.slice A0_1 l0_1.length c0_1) := (blk_cell BK557.out 1).trans rfl; have hfz8_0 := blk_frozen BK557.out 0; have hfz8_1 := blk_frozen BK557.out 1; have hcz9_0 : w6.cell? ⟨gb558, 0, none⟩ = some (.slice A1_0 l1_0.length c1_0) := (blk_cell BK558.out 0).trans rfl; have hcz9_1 : w6.cell? ⟨gb558, 1, none⟩ = some (.slice A1_1 l1_1.length c1_1) := (blk_cell BK558.out 1).trans rfl; have hfz9_0 := blk_frozen BK558.out 0; have hfz9_1 := blk_frozen BK558.out 1) | ((with_reducible refine gate_callee (f := 66) rfl ?_); refine goesL_ (some 17) rfl rfl Try.func66 (by kernel_rfl) rfl #[.agg #[.slice A0_0 l0_0.length c0_0, .slice A0_1 l0_1.length c0_1], .agg #[.slice A1_0 l1_0.length c1_0, .slice A1_1 l1_1.length c1_1]] rfl (by (try simp only [List.map_toArray, List.map_cons, List.map_nil]); rfl) ?_; (with_reducible refine (spec_l1Shape.calls k _ _ l0_0 _ _ l0_1 _ _ l1_0 _ _ l1_1 t559 t560 _ ?side1 ?side2 ?side3 ?side4 ?side5 ?side6 ?side7 ?side8 A4.out).mono ?_); (case side1 => repeat (exact (Kd.C_below HR0_0.out HB.out))); (case side2 => exact HC0_0.out); (case side3 => repeat (exact (Kd.C_below HR0_1.out HB.out))); (case side4 => exact HC0_1.out); (case side5 => repeat (exact (Kd.C_below HR1_0.out HB.out))); (case side6 => exact HC1_0.out); (case side7 => repeat (exact (Kd.C_below HR1_1.out HB.out))); (case side8 => exact HC1_1.out); rintro e w10 ⟨rfl, hb⟩; refine ⟨_, rfl, ?_⟩; replace BK557 := Aside0.mk (blk_below (g := gb557) (o := .cells #[.slice A0_0 l0_0.length c0_0, .slice A0_1 l0_1.length c0_1] 66 (0, 0)) BK557.out hb); replace BK558 := Aside0.mk (blk_below (g := gb558) (o := .cells #[.slice A1_0 l1_0.length c1_0, .slice A1_1 l1_1.length c1_1] 66 (0, 0)) BK558.out hb); replace HB := Aside0.mk (below_step HB.out hb); (try clear hb)) | ((with_reducible refine gate_dst (N := 26) rfl ?_); refine Kd.R_lit Kd.bool _ 4 ?hg (N := 26) ?hd (xs := ([] : List Bool)) (inner := []) (ok := fun _ => True) (okp := fun _ => True) ?hr ?hp (fun _ hk => hk) trivial (Below.refl _ _) (Nat.le_refl _) (by simp) ?_; (case hd => rfl); (case hg => rfl); (case hr => first | (go_simp; done)); (case hp => exact (Reps.none _ _)); intro v562 w11 ho12 hb hg_ hnew_; clear hg_ hnew_; (rw [← Ny561.out] at ho12); have HO563 := Aside0.mk (Kd.R_lower ho12 (below_size HB.out)); replace BK557 := Aside0.mk (blk_below (g := gb557) (o := .cells #[.slice A0_0 l0_0.length c0_0, .slice A0_1 l0_1.length c0_1] 66 (0, 0)) BK557.out hb); replace BK558 := Aside0.mk (blk_below (g := gb558) (o := .cells #[.slice A1_0 l1_0.length c1_0, .slice A1_1 l1_1.length c1_1] 66 (0, 0)) BK558.out hb); replace HB := Aside0.mk (below_step HB.out hb); clear hb ho12))
 go_loopg [10, 11] k (fun kq v10 v11 w' => ∃ (x10_1 : List Bool) (x11_1 : Int), v11 = .int .i64 x11_1 ∧ Aside0 (spec_l4Sum.l0 kq a2 (wrap64 ((wrap64 ((wrap64 (2 * t559)) + (wrap64 (3 * t560)))) + 2)) t560 x10_1 x11_1 l0_0 l0_1 l1_0 l1_1 = some (r1, r2)) ∧ Aside0 (kq ≤ k) ∧ Aside0 (Kd.R Kd.bool 4 w' w.heap.size (fun _ => True) v10 x10_1) ∧ Aside0 (w'.heap[gb557]? = some (.cells #[(.slice A0_0 l0_0.length c0_0), (.slice A0_1 l0_1.length c0_1)] 66 (0, 0))) ∧ Aside0 (w'.heap[gb558]? = some (.cells #[(.slice A1_0 l1_0.length c1_0), (.slice A1_1 l1_1.length c1_1)] 66 (0, 0))) ∧ Aside0 (Below w.heap.size w w'))
 case atStart => exact ⟨(y561), (0), (by rfl), H', ⟨Nat.le_refl _⟩, ⟨by exact HO563.out⟩, ⟨by exact BK557.out⟩, ⟨by exact BK558.out⟩, ⟨HB.out⟩⟩
 case round =>
  clear H'
  try clear hcz8_0
  try clear hcz8_1
  try clear hcz9_0
  try clear hcz9_1
  try clear hfz8_0
  try clear hfz8_1
  try clear hfz9_0
  try clear hfz9_1
  obtain ⟨x10_1, x11_1, rfl, HA, HK1, HO_10, BK557, BK558, HB⟩ := hrel
  cases gk with
  | zero => exact absurd HA.out (by simp [spec_l4Sum.l0])
  | succ k1 =>
   have H := HA.out
   clear HA
   simp only [spec_l4Sum.l0] at H
   by_cases c13 : x11_1 < (wrap64 ((wrap64 ((wrap64 ((wrap64 (2 * t559)) + (wrap64 (3 * t560)))) + 2)) + t560))
   ·rw [if_pos c13] at H
    have c13b0 : decide (x11_1 < (wrap64 ((wrap64 ((wrap64 ((wrap64 (2 * t559)) + (wrap64 (3 * t560)))) + 2)) + t560))) = true := decide_eq_true c13
    clear c13
    have H' := Aside0.mk H
    clear H
    go_wp2
    go_loopg [12, 13] k1 (fun kq v12 v13 w' => ∃ (x12_2 : Bool) (x13_2 : Int), v12 = .bool x12_2 ∧ v13 = .int .i64 x13_2 ∧ Aside0 (spec_l4Sum.l1 kq a2 (wrap64 ((wrap64 ((wrap64 (2 * t559)) + (wrap64 (3 * t560)))) + 2)) t560 x10_1 x11_1 x12_2 x13_2 l0_0 l0_1 l1_0 l1_1 = some (r1, r2)) ∧ Aside0 (kq ≤ k1) ∧ Aside0 (Kd.R Kd.bool 4 w' w.heap.size (fun _ => True) u10 x10_1) ∧ Aside0 (w'.heap[gb557]? = some (.cells #[(.slice A0_0 l0_0.length c0_0), (.slice A0_1 l0_1.length c0_1)] 66 (0, 0))) ∧ Aside0 (w'.heap[gb558]? = some (.cells #[(.slice A1_0 l1_0.length c1_0), (.slice A1_1 l1_1.length c1_1)] 66 (0, 0))) ∧ Aside0 (Below w.heap.size w w'))
    case atStart => exact ⟨(false), (0), (by rfl), (by rfl), H', ⟨Nat.le_refl _⟩, ⟨by exact HO_10.out⟩, ⟨by exact BK557.out⟩, ⟨by exact BK558.out⟩, ⟨HB.out⟩⟩
    case round =>
     clear H'
     try clear c13b0
     obtain ⟨x12_2, x13_2, rfl, rfl, HA, HK2, HO_10, BK557, BK558, HB⟩ := hrel
     cases gk with
     | zero => exact absurd HA.out (by simp [spec_l4Sum.l1])
     | succ k2 =>
      have H := HA.out
      clear HA
      simp only [spec_l4Sum.l1] at H
      by_cases c14 : x13_2 ≤ x11_1
      ·rw [if_pos c14] at H
       have c14b0 : decide (x13_2 ≤ x11_1) = true := decide_eq_true c14
       clear c14
       by_cases c15 : x12_2 = true
       ·subst c15
        replace H : (spec_l4Sum.l1 k2 a2 (wrap64 ((wrap64 ((wrap64 (2 * t559)) + (wrap64 (3 * t560)))) + 2)) t560 x10_1 x11_1 true (wrap64 (x13_2 + 1)) l0_0 l0_1 l1_0 l1_1) = some (r1, r2) := by rw [if_pos rfl] at H; exact H
        have H' := Aside0.mk H
        clear H
        go_wp2
        go_roundg k2
        case measure => have := HK1.out; have := HK2.out; omega
        case rel => exact ⟨(true), (wrap64 (x13_2 + 1)), (by rfl), (by rfl), H', ⟨by have := HK1.out; have := HK2.out; omega⟩, ⟨by exact HO_10.out⟩, ⟨by exact BK557.out⟩, ⟨by exact BK558.out⟩, ⟨HB.out⟩⟩
       ·replace c15 := Bool.eq_false_iff.mpr c15
        subst c15
        replace H : ((spec_l1Has.f l0_0 l0_1 x13_2).bind fun t566 => (if t566 = true then ((spec_l1Has.f l1_0 l1_1 (wrap64 (x11_1 - x13_2))).bind fun t567 => (if t567 = true then (if a2 = true then (spec_l4Sum.l1 k2 a2 (wrap64 ((wrap64 ((wrap64 (2 * t559)) + (wrap64 (3 * t560)))) + 2)) t560 x10_1 x11_1 (x13_2 != (wrap64 (x11_1 - x13_2))) (wrap64 (x13_2 + 1)) l0_0 l0_1 l1_0 l1_1) else (spec_l4Sum.l1 k2 a2 (wrap64 ((wrap64 ((wrap64 (2 * t559)) + (wrap64 (3 * t560)))) + 2)) t560 x10_1 x11_1 true (wrap64 (x13_2 + 1)) l0_0 l0_1 l1_0 l1_1)) else (spec_l4Sum.l1 k2 a2 (wrap64 ((wrap64 ((wrap64 (2 * t559)) + (wrap64 (3 * t560)))) + 2)) t560 x10_1 x11_1 false (wrap64 (x13_2 + 1)) l0_0 l0_1 l1_0 l1_1))) else (spec_l4Sum.l1 k2 a2 (wrap64 ((wrap64 ((wrap64 (2 * t559)) + (wrap64 (3 * t560)))) + 2)) t560 x10_1 x11_1 false (wrap64 (x13_2 + 1)) l0_0 l0_1 l1_0 l1_1))) = some (r1, r2) := by rw [if_neg (show ¬ (false = true) by decide)] at H; exact H
        replace H := Option.bind_eq_some_iff.mp H
        obtain ⟨t566, A160, H⟩ := H
        replace H : (if t566 = true then ((spec_l1Has.f l1_0 l1_1 (wrap64 (x11_1 - x13_2))).bind fun t567 => (if t567 = true then (if a2 = true then (spec_l4Sum.l1 k2 a2 (wrap64 ((wrap64 ((wrap64 (2 * t559)) + (wrap64 (3 * t560)))) + 2)) t560 x10_1 x11_1 (x13_2 != (wrap64 (x11_1 - x13_2))) (wrap64 (x13_2 + 1)) l0_0 l0_1 l1_0 l1_1) else (spec_l4Sum.l1 k2 a2 (wrap64 ((wrap64 ((wrap64 (2 * t559)) + (wrap64 (3 * t560)))) + 2)) t560 x10_1 x11_1 true (wrap64 (x13_2 + 1)) l0_0 l0_1 l1_0 l1_1)) else (spec_l4Sum.l1 k2 a2 (wrap64 ((wrap64 ((wrap64 (2 * t559)) + (wrap64 (3 * t560)))) + 2)) t560 x10_1 x11_1 false (wrap64 (x13_2 + 1)) l0_0 l0_1 l1_0 l1_1))) else (spec_l4Sum.l1 k2 a2 (wrap64 ((wrap64 ((wrap64 (2 * t559)) + (wrap64 (3 * t560)))) + 2)) t560 x10_1 x11_1 false (wrap64 (x13_2 + 1)) l0_0 l0_1 l1_0 l1_1)) = some (r1, r2) := H
        have A16 := Aside0.mk A160
        clear A160
        by_cases c17 : t566 = true
        ·subst c17
         replace H : ((spec_l1Has.f l1_0 l1_1 (wrap64 (x11_1 - x13_2))).bind fun t567 => (if t567 = true then (if a2 = true then (spec_l4Sum.l1 k2 a2 (wrap64 ((wrap64 ((wrap64 (2 * t559)) + (wrap64 (3 * t560)))) + 2)) t560 x10_1 x11_1 (x13_2 != (wrap64 (x11_1 - x13_2))) (wrap64 (x13_2 + 1)) l0_0 l0_1 l1_0 l1_1) else (spec_l4Sum.l1 k2 a2 (wrap64 ((wrap64 ((wrap64 (2 * t559)) + (wrap64 (3 * t560)))) + 2)) t560 x10_1 x11_1 true (wrap64 (x13_2 + 1)) l0_0 l0_1 l1_0 l1_1)) else (spec_l4Sum.l1 k2 a2 (wrap64 ((wrap64 ((wrap64 (2 * t559)) + (wrap64 (3 * t560)))) + 2)) t560 x10_1 x11_1 false (wrap64 (x13_2 + 1)) l0_0 l0_1 l1_0 l1_1))) = some (r1, r2) := by rw [if_pos rfl] at H; exact H
         replace H := Option.bind_eq_some_iff.mp H
         obtain ⟨t567, A180, H⟩ := H
         replace H : (if t567 = true then (if a2 = true then (spec_l4Sum.l1 k2 a2 (wrap64 ((wrap64 ((wrap64 (2 * t559)) + (wrap64 (3 * t560)))) + 2)) t560 x10_1 x11_1 (x13_2 != (wrap64 (x11_1 - x13_2))) (wrap64 (x13_2 + 1)) l0_0 l0_1 l1_0 l1_1) else (spec_l4Sum.l1 k2 a2 (wrap64 ((wrap64 ((wrap64 (2 * t559)) + (wrap64 (3 * t560)))) + 2)) t560 x10_1 x11_1 true (wrap64 (x13_2 + 1)) l0_0 l0_1 l1_0 l1_1)) else (spec_l4Sum.l1 k2 a2 (wrap64 ((wrap64 ((wrap64 (2 * t559)) + (wrap64 (3 * t560)))) + 2)) t560 x10_1 x11_1 false (wrap64 (x13_2 + 1)) l0_0 l0_1 l1_0 l1_1)) = some (r1, r2) := H
         have A18 := Aside0.mk A180
         clear A180
         by_cases c19 : t567 = true
         ·subst c19
          replace H : (if a2 = true then (spec_l4Sum.l1 k2 a2 (wrap64 ((wrap64 ((wrap64 (2 * t559)) + (wrap64 (3 * t560)))) + 2)) t560 x10_1 x11_1 (x13_2 != (wrap64 (x11_1 - x13_2))) (wrap64 (x13_2 + 1)) l0_0 l0_1 l1_0 l1_1) else (spec_l4Sum.l1 k2 a2 (wrap64 ((wrap64 ((wrap64 (2 * t559)) + (wrap64 (3 * t560)))) + 2)) t560 x10_1 x11_1 true (wrap64 (x13_2 + 1)) l0_0 l0_1 l1_0 l1_1)) = some (r1, r2) := by rw [if_pos rfl] at H; exact H
          by_cases c20 : a2 = true
          all_goals
           first
           |replace c20 := Bool.eq_false_iff.mpr c20
           |skip
           subst c20
           first
           |have H1 : (spec_l4Sum.l1 k2 true (wrap64 ((wrap64 ((wrap64 (2 * t559)) + (wrap64 (3 * t560)))) + 2)) t560 x10_1 x11_1 (x13_2 != (wrap64 (x11_1 - x13_2))) (wrap64 (x13_2 + 1)) l0_0 l0_1 l1_0 l1_1) = some (r1, r2) := by rw [if_pos rfl] at H; exact H
           |have H1 : (spec_l4Sum.l1 k2 false (wrap64 ((wrap64 ((wrap64 (2 * t559)) + (wrap64 (3 * t560)))) + 2)) t560 x10_1 x11_1 true (wrap64 (x13_2 + 1)) l0_0 l0_1 l1_0 l1_1) = some (r1, r2) := by rw [if_neg (show ¬ (false = true) by decide)] at H; exact H
           clear H
           have H := H1
           clear H1
           have H' := Aside0.mk H
           clear H
           have hnb21 := NB557_558.out
           have hnc21 := NB558_557.out
           have hcz22_0 : wr.cell? ⟨gb557, 0, none⟩ = some (.slice A0_0 l0_0.length c0_0) := (blk_cell BK557.out 0).trans rfl
           have hcz22_1 : wr.cell? ⟨gb557, 1, none⟩ = some (.slice A0_1 l0_1.length c0_1) := (blk_cell BK557.out 1).trans rfl
           have hfz22_0 := blk_frozen BK557.out 0
           have hfz22_1 := blk_frozen BK557.out 1
           go_wp2_with (first | (go_at_call 67; (with_reducible refine (spec_l1Has.calls _ _ l0_0 _ _ l0_1 x13_2 true _ ?side1 ?side2 ?side3 ?side4 A16.out).mono ?_); (case side1 => repeat (exact (Kd.C_below HR0_0.out HB.out))); (case side2 => exact HC0_0.out); (case side3 => repeat (exact (Kd.C_below HR0_1.out HB.out))); (case side4 => exact HC0_1.out); rintro e w23 ⟨rfl, hb⟩; replace HO_10 := Aside0.mk (Kd.R_below HO_10.out hb); replace BK557 := Aside0.mk (blk_below (g := gb557) (o := .cells #[.slice A0_0 l0_0.length c0_0, .slice A0_1 l0_1.length c0_1] 66 (0, 0)) BK557.out hb); replace BK558 := Aside0.mk (blk_below (g := gb558) (o := .cells #[.slice A1_0 l1_0.length c1_0, .slice A1_1 l1_1.length c1_1] 66 (0, 0)) BK558.out hb); replace HB := Aside0.mk (below_step HB.out hb); (try clear hb); have hcz24_0 : w23.cell? ⟨gb558, 0, none⟩ = some (.slice A1_0 l1_0.length c1_0) := (blk_cell BK558.out 0).trans rfl; have hcz24_1 : w23.cell? ⟨gb558, 1, none⟩ = some (.slice A1_1 l1_1.length c1_1) := (blk_cell BK558.out 1).trans rfl; have hfz24_0 := blk_frozen BK558.out 0; have hfz24_1 := blk_frozen BK558.out 1) | (go_at_call 67; (with_reducible refine (spec_l1Has.calls _ _ l1_0 _ _ l1_1 (wrap64 (x11_1 - x13_2)) true _ ?side1 ?side2 ?side3 ?side4 A18.out).mono ?_); (case side1 => repeat (exact (Kd.C_below HR1_0.out HB.out))); (case side2 => exact HC1_0.out); (case side3 => repeat (exact (Kd.C_below HR1_1.out HB.out))); (case side4 => exact HC1_1.out); rintro e w25 ⟨rfl, hb⟩; replace HO_10 := Aside0.mk (Kd.R_below HO_10.out hb); replace BK557 := Aside0.mk (blk_below (g := gb557) (o := .cells #[.slice A0_0 l0_0.length c0_0, .slice A0_1 l0_1.length c0_1] 66 (0, 0)) BK557.out hb); replace BK558 := Aside0.mk (blk_below (g := gb558) (o := .cells #[.slice A1_0 l1_0.length c1_0, .slice A1_1 l1_1.length c1_1] 66 (0, 0)) BK558.out hb); replace HB := Aside0.mk (below_step HB.out hb); (try clear hb)))
           go_roundg k2
           case measure => have := HK1.out; have := HK2.out; omega
           first
           |case rel => exact ⟨((x13_2 != (wrap64 (x11_1 - x13_2)))), (wrap64 (x13_2 + 1)), (by rfl), (by rfl), H', ⟨by have := HK1.out; have := HK2.out; omega⟩, ⟨by exact HO_10.out⟩, ⟨by exact BK557.out⟩, ⟨by exact BK558.out⟩, ⟨HB.out⟩⟩
           |case rel => exact ⟨(true), (wrap64 (x13_2 + 1)), (by rfl), (by rfl), H', ⟨by have := HK1.out; have := HK2.out; omega⟩, ⟨by exact HO_10.out⟩, ⟨by exact BK557.out⟩, ⟨by exact BK558.out⟩, ⟨HB.out⟩⟩
         ·replace c19 := Bool.eq_false_iff.mpr c19
          subst c19
          replace H : (spec_l4Sum.l1 k2 a2 (wrap64 ((wrap64 ((wrap64 (2 * t559)) + (wrap64 (3 * t560)))) + 2)) t560 x10_1 x11_1 false (wrap64 (x13_2 + 1)) l0_0 l0_1 l1_0 l1_1) = some (r1, r2) := by rw [if_neg (show ¬ (false = true) by decide)] at H; exact H
          have H' := Aside0.mk H
          clear H
          have hnb31 := NB557_558.out
          have hnc31 := NB558_557.out
          have hcz32_0 : wr.cell? ⟨gb557, 0, none⟩ = some (.slice A0_0 l0_0.length c0_0) := (blk_cell BK557.out 0).trans rfl
          have hcz32_1 : wr.cell? ⟨gb557, 1, none⟩ = some (.slice A0_1 l0_1.length c0_1) := (blk_cell BK557.out 1).trans rfl
          have hfz32_0 := blk_frozen BK557.out 0
          have hfz32_1 := blk_frozen BK557.out 1
          go_wp2_with (first | (go_at_call 67; (with_reducible refine (spec_l1Has.calls _ _ l0_0 _ _ l0_1 x13_2 true _ ?side1 ?side2 ?side3 ?side4 A16.out).mono ?_); (case side1 => repeat (exact (Kd.C_below HR0_0.out HB.out))); (case side2 => exact HC0_0.out); (case side3 => repeat (exact (Kd.C_below HR0_1.out HB.out))); (case side4 => exact HC0_1.out); rintro e w33 ⟨rfl, hb⟩; replace HO_10 := Aside0.mk (Kd.R_below HO_10.out hb); replace BK557 := Aside0.mk (blk_below (g := gb557) (o := .cells #[.slice A0_0 l0_0.length c0_0, .slice A0_1 l0_1.length c0_1] 66 (0, 0)) BK557.out hb); replace BK558 := Aside0.mk (blk_below (g := gb558) (o := .cells #[.slice A1_0 l1_0.length c1_0, .slice A1_1 l1_1.length c1_1] 66 (0, 0)) BK558.out hb); replace HB := Aside0.mk (below_step HB.out hb); (try clear hb); have hcz34_0 : w33.cell? ⟨gb558, 0, none⟩ = some (.slice A1_0 l1_0.length c1_0) := (blk_cell BK558.out 0).trans rfl; have hcz34_1 : w33.cell? ⟨gb558, 1, none⟩ = some (.slice A1_1 l1_1.length c1_1) := (blk_cell BK558.out 1).trans rfl; have hfz34_0 := blk_frozen BK558.out 0; have hfz34_1 := blk_frozen BK558.out 1) | (go_at_call 67; (with_reducible refine (spec_l1Has.calls _ _ l1_0 _ _ l1_1 (wrap64 (x11_1 - x13_2)) false _ ?side1 ?side2 ?side3 ?side4 A18.out).mono ?_); (case side1 => repeat (exact (Kd.C_below HR1_0.out HB.out))); (case side2 => exact HC1_0.out); (case side3 => repeat (exact (Kd.C_below HR1_1.out HB.out))); (case side4 => exact HC1_1.out); rintro e w35 ⟨rfl, hb⟩; replace HO_10 := Aside0.mk (Kd.R_below HO_10.out hb); replace BK557 := Aside0.mk (blk_below (g := gb557) (o := .cells #[.slice A0_0 l0_0.length c0_0, .slice A0_1 l0_1.length c0_1] 66 (0, 0)) BK557.out hb); replace BK558 := Aside0.mk (blk_below (g := gb558) (o := .cells #[.slice A1_0 l1_0.length c1_0, .slice A1_1 l1_1.length c1_1] 66 (0, 0)) BK558.out hb); replace HB := Aside0.mk (below_step HB.out hb); (try clear hb)))
          go_roundg k2
          case measure => have := HK1.out; have := HK2.out; omega
          case rel => exact ⟨(false), (wrap64 (x13_2 + 1)), (by rfl), (by rfl), H', ⟨by have := HK1.out; have := HK2.out; omega⟩, ⟨by exact HO_10.out⟩, ⟨by exact BK557.out⟩, ⟨by exact BK558.out⟩, ⟨HB.out⟩⟩
        ·replace c17 := Bool.eq_false_iff.mpr c17
         subst c17
         replace H : (spec_l4Sum.l1 k2 a2 (wrap64 ((wrap64 ((wrap64 (2 * t559)) + (wrap64 (3 * t560)))) + 2)) t560 x10_1 x11_1 false (wrap64 (x13_2 + 1)) l0_0 l0_1 l1_0 l1_1) = some (r1, r2) := by rw [if_neg (show ¬ (false = true) by decide)] at H; exact H
         have H' := Aside0.mk H
         clear H
         have hnb36 := NB557_558.out
         have hnc36 := NB558_557.out
         have hcz37_0 : wr.cell? ⟨gb557, 0, none⟩ = some (.slice A0_0 l0_0.length c0_0) := (blk_cell BK557.out 0).trans rfl
         have hcz37_1 : wr.cell? ⟨gb557, 1, none⟩ = some (.slice A0_1 l0_1.length c0_1) := (blk_cell BK557.out 1).trans rfl
         have hfz37_0 := blk_frozen BK557.out 0
         have hfz37_1 := blk_frozen BK557.out 1
         go_wp2_with (first | (go_at_call 67; (with_reducible refine (spec_l1Has.calls _ _ l0_0 _ _ l0_1 x13_2 false _ ?side1 ?side2 ?side3 ?side4 A16.out).mono ?_); (case side1 => repeat (exact (Kd.C_below HR0_0.out HB.out))); (case side2 => exact HC0_0.out); (case side3 => repeat (exact (Kd.C_below HR0_1.out HB.out))); (case side4 => exact HC0_1.out); rintro e w38 ⟨rfl, hb⟩; replace HO_10 := Aside0.mk (Kd.R_below HO_10.out hb); replace BK557 := Aside0.mk (blk_below (g := gb557) (o := .cells #[.slice A0_0 l0_0.length c0_0, .slice A0_1 l0_1.length c0_1] 66 (0, 0)) BK557.out hb); replace BK558 := Aside0.mk (blk_below (g := gb558) (o := .cells #[.slice A1_0 l1_0.length c1_0, .slice A1_1 l1_1.length c1_1] 66 (0, 0)) BK558.out hb); replace HB := Aside0.mk (below_step HB.out hb); (try clear hb)))
         go_roundg k2
         case measure => have := HK1.out; have := HK2.out; omega
         case rel => exact ⟨(false), (wrap64 (x13_2 + 1)), (by rfl), (by rfl), H', ⟨by have := HK1.out; have := HK2.out; omega⟩, ⟨by exact HO_10.out⟩, ⟨by exact BK557.out⟩, ⟨by exact BK558.out⟩, ⟨HB.out⟩⟩
      ·rw [if_neg c14] at H
       have c14b0 : decide (x13_2 ≤ x11_1) = false := decide_eq_false c14
       clear c14
       by_cases c39 : x10_1.length < 140737488355328
       ·rw [if_pos c39] at H
        have LMc39 := Aside0.mk c39
        clear c39
        obtain ⟨y568, hy568⟩ : ∃ y_ : List Bool, y_ = (x10_1 ++ [x12_2]) := ⟨_, rfl⟩
        replace H : (spec_l4Sum.l0 k2 a2 (wrap64 ((wrap64 ((wrap64 (2 * t559)) + (wrap64 (3 * t560)))) + 2)) t560 y568 (wrap64 (x11_1 + 1)) l0_0 l0_1 l1_0 l1_1) = some (r1, r2) := by first | (rw [hy568]; with_reducible exact H)
        have Ny568 := Aside0.mk hy568
        clear hy568
        have H' := Aside0.mk H
        clear H
        go_wp2_with (first | ((with_reducible refine gate_builtin (b := .append) (xs := #[.tmp 63, .tmp 65]) rfl ?_); at_builtin; refine Kd.R_append Kd.bool (w0 := w) w.heap.size rfl (.tmp 63) (.tmp 65) 58 4 (.bool false) 1 rfl Try.underlying58 info4 rfl (by decide) (by omega) u10 x10_1 x12_2 [.bool x12_2] (fun _ => True) (fun _ => False) rfl rfl ?aP (fun _ hk => hk.elim) ?aF ?aO ?aB ?aS ?aL ?_; (case aP => exact rfl); (case aB => exact HB.out); (case aF => exact (fun _ _ => trivial)); (case aO => exact HO_10.out); (case aS => exact (below_size HB.out)); (case aL => have := LMc39.out; omega); intro v569 w40 ho hb hg hat; rw [← Ny568.out] at ho; replace BK557 := Aside0.mk (blk_grown (g := gb557) (o := .cells #[.slice A0_0 l0_0.length c0_0, .slice A0_1 l0_1.length c0_1] 66 (0, 0)) BK557.out hg (Kd.R_ne HO_10.out BK557.out (by decide))); replace BK558 := Aside0.mk (blk_grown (g := gb558) (o := .cells #[.slice A1_0 l1_0.length c1_0, .slice A1_1 l1_1.length c1_1] 66 (0, 0)) BK558.out hg (Kd.R_ne HO_10.out BK558.out (by decide))); replace HB := Aside0.mk hb; have HO570 := Aside0.mk ho; clear HO_10; clear ho hb hg hat))
        go_roundg k2
        case measure => have := HK1.out; have := HK2.out; omega
        case rel => exact ⟨(y568), (wrap64 (x11_1 + 1)), (by rfl), H', ⟨by have := HK1.out; have := HK2.out; omega⟩, ⟨by exact HO570.out⟩, ⟨by exact BK557.out⟩, ⟨by exact BK558.out⟩, ⟨HB.out⟩⟩
       ·rw [if_neg c39] at H
        exact absurd H (by simp)
   ·rw [if_neg c13] at H
    have c13b0 : decide (x11_1 < (wrap64 ((wrap64 ((wrap64 ((wrap64 (2 * t559)) + (wrap64 (3 * t560)))) + 2)) + t560))) = false := decide_eq_false c13
    clear c13
    replace H := Option.bind_eq_some_iff.mp H
    obtain ⟨⟨t564, t565⟩, A410, H⟩ := H
    replace H : (some (t564, t565)) = some (r1, r2) := H
    have A41 := Aside0.mk A410
    clear A410
    simp only [Option.some.injEq, Prod.mk.injEq] at H
    obtain ⟨rfl, rfl⟩ := H
    obtain ⟨Ao42, co42, eo42⟩ := Kd.R_slice HO_10.out
    subst eo42
    go_wp2_with (first | ((with_reducible refine gate_callee (f := 76) rfl ?_); refine goesL_ (some 69) rfl rfl Try.func76 (by kernel_rfl) rfl #[.slice Ao42 x10_1.length co42, .int .i64 (wrap64 ((wrap64 ((wrap64 (2 * t559)) + (wrap64 (3 * t560)))) + 2))] rfl (by (try simp only [List.map_toArray, List.map_cons, List.map_nil]); rfl) ?_; (with_reducible refine (spec_l2Fill.calls k1 _ _ x10_1 (wrap64 ((wrap64 ((wrap64 (2 * t559)) + (wrap64 (3 * t560)))) + 2)) t564 t565 _ ?side1 ?side2 A41.out).mono ?_); (case side1 => repeat (exact (Kd.R_reads' HO_10.out).2.2)); (case side2 => exact (Kd.R_reads' HO_10.out).2.1); rintro e w43 ⟨rfl, hb⟩; refine ⟨_, rfl, ?_⟩; replace HO_10 := Aside0.mk (Kd.R_below HO_10.out hb); replace BK557 := Aside0.mk (blk_below (g := gb557) (o := .cells #[.slice A0_0 l0_0.length c0_0, .slice A0_1 l0_1.length c0_1] 66 (0, 0)) BK557.out hb); replace BK558 := Aside0.mk (blk_below (g := gb558) (o := .cells #[.slice A1_0 l1_0.length c1_0, .slice A1_1 l1_1.length c1_1] 66 (0, 0)) BK558.out hb); replace HB := Aside0.mk (below_step HB.out hb); (try clear hb)))
    go_ret2
    exact ⟨by first | rfl | (simp [*, errW_none, errW_some] <;> rfl), HB.out⟩


def spec_SumOf.f (k : Nat) (a0 : ByteArray) (a1 : ByteArray) : Option (ByteArray × Bool) := (spec_l4Small.f k a0).bind fun bt571 => ((spec_l4Small.f k a1).bind fun bt579 => (if bt571.2.2 = true then (if bt579.2.2 = true then ((spec_l4Sum.f k bt571.1 bt571.2.1 bt579.1 bt579.2.1 false).bind fun bt587 => (some (bt587.1, bt587.2))) else (some ((⟨#[]⟩ : ByteArray), false))) else (some ((⟨#[]⟩ : ByteArray), false))))
theorem spec_SumOf.mono : ∀ a0 a1 k, LeO (spec_SumOf.f k a0 a1) (spec_SumOf.f (k + 1) a0 a1) := by
 intro a0 a1 k
 unfold spec_SumOf.f
 repeat' first | (with_reducible exact spec_l4Small.mono _ _) | (with_reducible exact spec_l4Sum.mono _ _ _ _ _ _) | (with_reducible exact LeO.refl _) | (with_reducible refine LeO.ite ?_ ?_) | (with_reducible refine LeO.bind ?_ (fun _ => ?_))
set_option maxHeartbeats 8000000 in
set_option maxRecDepth 100000 in
theorem spec_SumOf.calls (k : Nat) (a0 : ByteArray) (a1 : ByteArray) (r1 : ByteArray) (r2 : Bool) (w : World) (h : spec_SumOf.f k a0 a1 = some (r1, r2)) :
  Calls Try.prog 63 #[.string a0, .string a1] w fun e w' => e = .returned (.tuple #[.string r1, .bool r2]) ∧ Below w.heap.size w w' := by
 have hu66 := Try.underlying66
 have HB := Aside0.mk (Below.refl w.heap.size w)
 have H : ((spec_l4Small.f k a0).bind fun bt571 => ((spec_l4Small.f k a1).bind fun bt579 => (if bt571.2.2 = true then (if bt579.2.2 = true then ((spec_l4Sum.f k bt571.1 bt571.2.1 bt579.1 bt579.2.1 false).bind fun bt587 => (some (bt587.1, bt587.2))) else (some ((⟨#[]⟩ : ByteArray), false))) else (some ((⟨#[]⟩ : ByteArray), false))))) = some (r1, r2) := h
 clear h
 replace H := Option.bind_eq_some_iff.mp H
 obtain ⟨⟨t571, t574, t577⟩, A30, H⟩ := H
 replace H : ((spec_l4Small.f k a1).bind fun bt579 => (if t577 = true then (if bt579.2.2 = true then ((spec_l4Sum.f k t571 t574 bt579.1 bt579.2.1 false).bind fun bt587 => (some (bt587.1, bt587.2))) else (some ((⟨#[]⟩ : ByteArray), false))) else (some ((⟨#[]⟩ : ByteArray), false)))) = some (r1, r2) := H
 have A3 := Aside0.mk A30
 clear A30
 replace H := Option.bind_eq_some_iff.mp H
 obtain ⟨⟨t579, t582, t585⟩, A40, H⟩ := H
 replace H : (if t577 = true then (if t585 = true then ((spec_l4Sum.f k t571 t574 t579 t582 false).bind fun bt587 => (some (bt587.1, bt587.2))) else (some ((⟨#[]⟩ : ByteArray), false))) else (some ((⟨#[]⟩ : ByteArray), false))) = some (r1, r2) := H
 have A4 := Aside0.mk A40
 clear A40
 by_cases c5 : t577 = true
 ·subst c5
  replace H : (if t585 = true then ((spec_l4Sum.f k t571 t574 t579 t582 false).bind fun bt587 => (some (bt587.1, bt587.2))) else (some ((⟨#[]⟩ : ByteArray), false))) = some (r1, r2) := by rw [if_pos rfl] at H; exact H
  by_cases c6 : t585 = true
  ·subst c6
   replace H : ((spec_l4Sum.f k t571 t574 t579 t582 false).bind fun bt587 => (some (bt587.1, bt587.2))) = some (r1, r2) := by rw [if_pos rfl] at H; exact H
   replace H := Option.bind_eq_some_iff.mp H
   obtain ⟨⟨t587, t588⟩, A70, H⟩ := H
   replace H : (some (t587, t588)) = some (r1, r2) := H
   have A7 := Aside0.mk A70
   clear A70
   simp only [Option.some.injEq, Prod.mk.injEq] at H
   obtain ⟨rfl, rfl⟩ := H
   go_enter Try.func63, Try.ntmps63
   go_wp2_with (first | ((with_reducible refine gate_callee (f := 57) rfl ?_); refine goesL_ (some 12) rfl rfl Try.func57 (by kernel_rfl) rfl #[.string a0] rfl (by (try simp only [List.map_toArray, List.map_cons, List.map_nil]); rfl) ?_; (with_reducible refine (spec_l4Small.calls k a0 t571 t574 true _ A3.out).mono ?_); rintro e w8 ⟨v572, v575, rfl, ho0, ho1, hb⟩; refine ⟨_, rfl, ?_⟩; have HO573 := Aside0.mk (Kd.V_lower (Kd.V_mono (ok' := fun k_ => True) ho0 (fun k_ hk_ => trivial)) (below_size HB.out)); have HO576 := Aside0.mk (Kd.V_lower (Kd.V_mono (ok' := fun k_ => True) ho1 (fun k_ hk_ => trivial)) (below_size HB.out)); replace HB := Aside0.mk (below_step HB.out hb); (try clear hb); (try clear ho0); (try clear ho1)) | ((with_reducible refine gate_dst (N := 6) rfl ?_); refine box_event ?hg (N := 6) ?hd (cs := #[.slice none 0 0, .slice none 0 0]) (t := 66) ?hr ?_; (case hd => rfl); (case hg => rfl); (case hr => first | (go_simp; done)); intro gb578 hg w9 hbox hb; replace HO573 := Aside0.mk (Kd.V_below (Kd.V_elderB HO573.out gb578 (Nat.le_of_eq hg.symm)) hb); replace HO576 := Aside0.mk (Kd.V_below (Kd.V_elderB HO576.out gb578 (Nat.le_of_eq hg.symm)) hb); have BK578 := Aside0.mk hbox; have GW578 := Aside0.mk ((by rw [hg]; exact (below_size HB.out) : w.heap.size ≤ gb578)); have GE578 := Aside0.mk ((by rw [hg]; exact (below_size HB.out) : w.heap.size ≤ gb578)); replace HB := Aside0.mk (below_step HB.out hb); clear hb hbox hg; obtain ⟨Ao10, co10, eo10⟩ := Kd.V_slice HO573.out; subst eo10; have hcz11_0 : w9.cell? ⟨gb578, 0, none⟩ = some (.slice none 0 0) := (blk_cell BK578.out 0).trans rfl; have hcz11_1 : w9.cell? ⟨gb578, 1, none⟩ = some (.slice none 0 0) := (blk_cell BK578.out 1).trans rfl; have hfz11_0 := blk_frozen BK578.out 0; have hfz11_1 := blk_frozen BK578.out 1; obtain ⟨Ao12, co12, eo12⟩ := Kd.V_slice HO576.out; subst eo12) | ((with_reducible refine gate_callee (f := 57) rfl ?_); refine goesL_ (some 17) rfl rfl Try.func57 (by kernel_rfl) rfl #[.string a1] rfl (by (try simp only [List.map_toArray, List.map_cons, List.map_nil]); rfl) ?_; (with_reducible refine (spec_l4Small.calls k a1 t579 t582 true _ A4.out).mono ?_); rintro e w13 ⟨v580, v583, rfl, ho0, ho1, hb⟩; refine ⟨_, rfl, ?_⟩; replace HO573 := Aside0.mk (Kd.V_below (by exact (Kd.V_mono (Kd.V_far (p := ⟨gb578, 1, none⟩) (Kd.V_far (p := ⟨gb578, 0, none⟩) (Kd.V_mono HO573.out (fun k_ hk => (⟨hk, hk.2⟩ : _ ∧ k_ ≠ gb578))) (fun _ hk => hk.2) (.slice Ao10 t571.length co10)) (fun _ hk => hk.2) (.slice Ao12 t574.length co12)) (fun _ h_ => h_.1))) hb); replace HO576 := Aside0.mk (Kd.V_below (by exact (Kd.V_mono (Kd.V_far (p := ⟨gb578, 1, none⟩) (Kd.V_far (p := ⟨gb578, 0, none⟩) (Kd.V_mono HO576.out (fun k_ hk => (⟨hk, hk.2⟩ : _ ∧ k_ ≠ gb578))) (fun _ hk => hk.2) (.slice Ao10 t571.length co10)) (fun _ hk => hk.2) (.slice Ao12 t574.length co12)) (fun _ h_ => h_.1))) hb); have HO581 := Aside0.mk (Kd.V_lower (Kd.V_mono (ok' := fun k_ => k_ ≠ gb578) ho0 (fun k_ hk_ => (Kd.freshB (g := gb578) (o := .cells #[.slice Ao10 t571.length co10, .slice Ao12 t574.length co12] 66 (0, 0)) (by refine blk_put (cs := #[.slice Ao10 t571.length co10, .slice none 0 0]) ?_ 1 _ rfl; refine blk_put (cs := #[.slice none 0 0, .slice none 0 0]) ?_ 0 _ rfl; exact BK578.out) k_ hk_))) (below_size (by repeat (first | (with_reducible first | exact HB.out | refine below_set ?_ GE578.out))))); have HO584 := Aside0.mk (Kd.V_lower (Kd.V_mono (ok' := fun k_ => k_ ≠ gb578) ho1 (fun k_ hk_ => (Kd.freshB (g := gb578) (o := .cells #[.slice Ao10 t571.length co10, .slice Ao12 t574.length co12] 66 (0, 0)) (by refine blk_put (cs := #[.slice Ao10 t571.length co10, .slice none 0 0]) ?_ 1 _ rfl; refine blk_put (cs := #[.slice none 0 0, .slice none 0 0]) ?_ 0 _ rfl; exact BK578.out) k_ hk_))) (below_size (by repeat (first | (with_reducible first | exact HB.out | refine below_set ?_ GE578.out))))); replace BK578 := Aside0.mk (blk_below (g := gb578) (o := .cells #[.slice Ao10 t571.length co10, .slice Ao12 t574.length co12] 66 (0, 0)) (by refine blk_put (cs := #[.slice Ao10 t571.length co10, .slice none 0 0]) ?_ 1 _ rfl; refine blk_put (cs := #[.slice none 0 0, .slice none 0 0]) ?_ 0 _ rfl; exact BK578.out) hb); replace HB := Aside0.mk (below_step (by repeat (first | (with_reducible first | exact HB.out | refine below_set ?_ GE578.out))) hb); (try clear hb); (try clear ho0); (try clear ho1)) | ((with_reducible refine gate_dst (N := 8) rfl ?_); refine box_event ?hg (N := 8) ?hd (cs := #[.slice none 0 0, .slice none 0 0]) (t := 66) ?hr ?_; (case hd => rfl); (case hg => rfl); (case hr => first | (go_simp; done)); intro gb586 hg w14 hbox hb; replace HO573 := Aside0.mk (Kd.V_below (Kd.V_elderB HO573.out gb586 (Nat.le_of_eq hg.symm)) hb); replace HO576 := Aside0.mk (Kd.V_below (Kd.V_elderB HO576.out gb586 (Nat.le_of_eq hg.symm)) hb); replace HO581 := Aside0.mk (Kd.V_below (Kd.V_elderB HO581.out gb586 (Nat.le_of_eq hg.symm)) hb); replace HO584 := Aside0.mk (Kd.V_below (Kd.V_elderB HO584.out gb586 (Nat.le_of_eq hg.symm)) hb); have BK586 := Aside0.mk hbox; have GW586 := Aside0.mk ((by rw [hg]; exact (below_size HB.out) : w.heap.size ≤ gb586)); have GE586 := Aside0.mk ((by rw [hg]; exact (below_size HB.out) : w.heap.size ≤ gb586)); replace HB := Aside0.mk (below_step HB.out hb); have NB578_586 := Aside0.mk ((by rw [hg]; exact Nat.ne_of_lt (blk_lt (g := gb578) (o := .cells #[.slice Ao10 t571.length co10, .slice Ao12 t574.length co12] 66 (0, 0)) BK578.out) : gb578 ≠ gb586)); have NB586_578 := Aside0.mk ((by rw [hg]; exact Nat.ne_of_gt (blk_lt (g := gb578) (o := .cells #[.slice Ao10 t571.length co10, .slice Ao12 t574.length co12] 66 (0, 0)) BK578.out) : gb586 ≠ gb578)); replace BK578 := Aside0.mk (blk_below (g := gb578) (o := .cells #[.slice Ao10 t571.length co10, .slice Ao12 t574.length co12] 66 (0, 0)) BK578.out hb); clear hb hbox hg; obtain ⟨Ao15, co15, eo15⟩ := Kd.V_slice HO581.out; subst eo15; have hnb16 := NB586_578.out; have hnc16 := NB578_586.out; have hcz17_0 : w14.cell? ⟨gb586, 0, none⟩ = some (.slice none 0 0) := (blk_cell BK586.out 0).trans rfl; have hcz17_1 : w14.cell? ⟨gb586, 1, none⟩ = some (.slice none 0 0) := (blk_cell BK586.out 1).trans rfl; have hfz17_0 := blk_frozen BK586.out 0; have hfz17_1 := blk_frozen BK586.out 1; obtain ⟨Ao18, co18, eo18⟩ := Kd.V_slice HO584.out; subst eo18; have hcz19_0 : w14.cell? ⟨gb578, 0, none⟩ = some (.slice Ao10 t571.length co10) := (blk_cell BK578.out 0).trans rfl; have hcz19_1 : w14.cell? ⟨gb578, 1, none⟩ = some (.slice Ao12 t574.length co12) := (blk_cell BK578.out 1).trans rfl; have hfz19_0 := blk_frozen BK578.out 0; have hfz19_1 := blk_frozen BK578.out 1) | ((with_reducible refine gate_callee (f := 106) rfl ?_); refine goesL_ (some 28) rfl rfl Try.func106 (by kernel_rfl) rfl #[.agg #[.slice Ao10 t571.length co10, .slice Ao12 t574.length co12], .agg #[.slice Ao15 t579.length co15, .slice Ao18 t582.length co18], .bool false] rfl (by (try simp only [List.map_toArray, List.map_cons, List.map_nil]); rfl) ?_; (with_reducible refine (spec_l4Sum.calls k _ _ t571 _ _ t574 _ _ t579 _ _ t582 false t587 t588 _ ?side1 ?side2 ?side3 ?side4 ?side5 ?side6 ?side7 ?side8 A7.out).mono ?_); (case side1 => refine (Kd.V_reads' (e := 4) (base := w.heap.size) (ok := fun k_ => ((True ∧ k_ ≠ gb578) ∧ k_ ≠ gb586)) (n := t571.length) (c := co10) ?_).2.2; exact (by exact (Kd.V_mono (Kd.V_far (p := ⟨gb586, 1, none⟩) (Kd.V_far (p := ⟨gb586, 0, none⟩) (Kd.V_mono HO573.out (fun k_ hk => (⟨hk, hk.2⟩ : _ ∧ k_ ≠ gb586))) (fun _ hk => hk.2) (.slice Ao15 t579.length co15)) (fun _ hk => hk.2) (.slice Ao18 t582.length co18)) (fun _ h_ => h_.1)))); (case side2 => exact (Kd.V_reads' HO573.out).2.1); (case side3 => refine (Kd.V_reads' (e := 4) (base := w.heap.size) (ok := fun k_ => ((True ∧ k_ ≠ gb578) ∧ k_ ≠ gb586)) (n := t574.length) (c := co12) ?_).2.2; exact (by exact (Kd.V_mono (Kd.V_far (p := ⟨gb586, 1, none⟩) (Kd.V_far (p := ⟨gb586, 0, none⟩) (Kd.V_mono HO576.out (fun k_ hk => (⟨hk, hk.2⟩ : _ ∧ k_ ≠ gb586))) (fun _ hk => hk.2) (.slice Ao15 t579.length co15)) (fun _ hk => hk.2) (.slice Ao18 t582.length co18)) (fun _ h_ => h_.1)))); (case side4 => exact (Kd.V_reads' HO576.out).2.1); (case side5 => refine (Kd.V_reads' (e := 4) (base := w.heap.size) (ok := fun k_ => (k_ ≠ gb578 ∧ k_ ≠ gb586)) (n := t579.length) (c := co15) ?_).2.2; exact (by exact (Kd.V_mono (Kd.V_far (p := ⟨gb586, 1, none⟩) (Kd.V_far (p := ⟨gb586, 0, none⟩) (Kd.V_mono HO581.out (fun k_ hk => (⟨hk, hk.2⟩ : _ ∧ k_ ≠ gb586))) (fun _ hk => hk.2) (.slice Ao15 t579.length co15)) (fun _ hk => hk.2) (.slice Ao18 t582.length co18)) (fun _ h_ => h_.1)))); (case side6 => exact (Kd.V_reads' HO581.out).2.1); (case side7 => refine (Kd.V_reads' (e := 4) (base := w.heap.size) (ok := fun k_ => (k_ ≠ gb578 ∧ k_ ≠ gb586)) (n := t582.length) (c := co18) ?_).2.2; exact (by exact (Kd.V_mono (Kd.V_far (p := ⟨gb586, 1, none⟩) (Kd.V_far (p := ⟨gb586, 0, none⟩) (Kd.V_mono HO584.out (fun k_ hk => (⟨hk, hk.2⟩ : _ ∧ k_ ≠ gb586))) (fun _ hk => hk.2) (.slice Ao15 t579.length co15)) (fun _ hk => hk.2) (.slice Ao18 t582.length co18)) (fun _ h_ => h_.1)))); (case side8 => exact (Kd.V_reads' HO584.out).2.1); rintro e w20 ⟨rfl, hb⟩; refine ⟨_, rfl, ?_⟩; replace HO573 := Aside0.mk (Kd.V_below (by exact (Kd.V_mono (Kd.V_far (p := ⟨gb586, 1, none⟩) (Kd.V_far (p := ⟨gb586, 0, none⟩) (Kd.V_mono HO573.out (fun k_ hk => (⟨hk, hk.2⟩ : _ ∧ k_ ≠ gb586))) (fun _ hk => hk.2) (.slice Ao15 t579.length co15)) (fun _ hk => hk.2) (.slice Ao18 t582.length co18)) (fun _ h_ => h_.1))) hb); replace HO576 := Aside0.mk (Kd.V_below (by exact (Kd.V_mono (Kd.V_far (p := ⟨gb586, 1, none⟩) (Kd.V_far (p := ⟨gb586, 0, none⟩) (Kd.V_mono HO576.out (fun k_ hk => (⟨hk, hk.2⟩ : _ ∧ k_ ≠ gb586))) (fun _ hk => hk.2) (.slice Ao15 t579.length co15)) (fun _ hk => hk.2) (.slice Ao18 t582.length co18)) (fun _ h_ => h_.1))) hb); replace HO581 := Aside0.mk (Kd.V_below (by exact (Kd.V_mono (Kd.V_far (p := ⟨gb586, 1, none⟩) (Kd.V_far (p := ⟨gb586, 0, none⟩) (Kd.V_mono HO581.out (fun k_ hk => (⟨hk, hk.2⟩ : _ ∧ k_ ≠ gb586))) (fun _ hk => hk.2) (.slice Ao15 t579.length co15)) (fun _ hk => hk.2) (.slice Ao18 t582.length co18)) (fun _ h_ => h_.1))) hb); replace HO584 := Aside0.mk (Kd.V_below (by exact (Kd.V_mono (Kd.V_far (p := ⟨gb586, 1, none⟩) (Kd.V_far (p := ⟨gb586, 0, none⟩) (Kd.V_mono HO584.out (fun k_ hk => (⟨hk, hk.2⟩ : _ ∧ k_ ≠ gb586))) (fun _ hk => hk.2) (.slice Ao15 t579.length co15)) (fun _ hk => hk.2) (.slice Ao18 t582.length co18)) (fun _ h_ => h_.1))) hb); replace BK578 := Aside0.mk (blk_below (g := gb578) (o := .cells #[.slice Ao10 t571.length co10, .slice Ao12 t574.length co12] 66 (0, 0)) (by refine blk_far ?_ NB578_586.out _; refine blk_far ?_ NB578_586.out _; exact BK578.out) hb); replace BK586 := Aside0.mk (blk_below (g := gb586) (o := .cells #[.slice Ao15 t579.length co15, .slice Ao18 t582.length co18] 66 (0, 0)) (by refine blk_put (cs := #[.slice Ao15 t579.length co15, .slice none 0 0]) ?_ 1 _ rfl; refine blk_put (cs := #[.slice none 0 0, .slice none 0 0]) ?_ 0 _ rfl; exact BK586.out) hb); replace HB := Aside0.mk (below_step (by repeat (first | (with_reducible first | exact HB.out | refine below_set ?_ GE586.out))) hb); (try clear hb)))
   go_ret2
   exact ⟨by first | rfl | (simp [*, errW_none, errW_some] <;> rfl), HB.out⟩
  ·replace c6 := Bool.eq_false_iff.mpr c6
   subst c6
   replace H : (some ((⟨#[]⟩ : ByteArray), false)) = some (r1, r2) := by rw [if_neg (show ¬ (false = true) by decide)] at H; exact H
   simp only [Option.some.injEq, Prod.mk.injEq] at H
   obtain ⟨rfl, rfl⟩ := H
   go_enter Try.func63, Try.ntmps63
   go_wp2_with (first | ((with_reducible refine gate_callee (f := 57) rfl ?_); refine goesL_ (some 12) rfl rfl Try.func57 (by kernel_rfl) rfl #[.string a0] rfl (by (try simp only [List.map_toArray, List.map_cons, List.map_nil]); rfl) ?_; (with_reducible refine (spec_l4Small.calls k a0 t571 t574 true _ A3.out).mono ?_); rintro e w21 ⟨v572, v575, rfl, ho0, ho1, hb⟩; refine ⟨_, rfl, ?_⟩; have HO573 := Aside0.mk (Kd.V_lower (Kd.V_mono (ok' := fun k_ => True) ho0 (fun k_ hk_ => trivial)) (below_size HB.out)); have HO576 := Aside0.mk (Kd.V_lower (Kd.V_mono (ok' := fun k_ => True) ho1 (fun k_ hk_ => trivial)) (below_size HB.out)); replace HB := Aside0.mk (below_step HB.out hb); (try clear hb); (try clear ho0); (try clear ho1)) | ((with_reducible refine gate_dst (N := 6) rfl ?_); refine box_event ?hg (N := 6) ?hd (cs := #[.slice none 0 0, .slice none 0 0]) (t := 66) ?hr ?_; (case hd => rfl); (case hg => rfl); (case hr => first | (go_simp; done)); intro gb578 hg w22 hbox hb; replace HO573 := Aside0.mk (Kd.V_below (Kd.V_elderB HO573.out gb578 (Nat.le_of_eq hg.symm)) hb); replace HO576 := Aside0.mk (Kd.V_below (Kd.V_elderB HO576.out gb578 (Nat.le_of_eq hg.symm)) hb); have BK578 := Aside0.mk hbox; have GW578 := Aside0.mk ((by rw [hg]; exact (below_size HB.out) : w.heap.size ≤ gb578)); have GE578 := Aside0.mk ((by rw [hg]; exact (below_size HB.out) : w.heap.size ≤ gb578)); replace HB := Aside0.mk (below_step HB.out hb); clear hb hbox hg; obtain ⟨Ao23, co23, eo23⟩ := Kd.V_slice HO573.out; subst eo23; have hcz24_0 : w22.cell? ⟨gb578, 0, none⟩ = some (.slice none 0 0) := (blk_cell BK578.out 0).trans rfl; have hcz24_1 : w22.cell? ⟨gb578, 1, none⟩ = some (.slice none 0 0) := (blk_cell BK578.out 1).trans rfl; have hfz24_0 := blk_frozen BK578.out 0; have hfz24_1 := blk_frozen BK578.out 1; obtain ⟨Ao25, co25, eo25⟩ := Kd.V_slice HO576.out; subst eo25) | ((with_reducible refine gate_callee (f := 57) rfl ?_); refine goesL_ (some 17) rfl rfl Try.func57 (by kernel_rfl) rfl #[.string a1] rfl (by (try simp only [List.map_toArray, List.map_cons, List.map_nil]); rfl) ?_; (with_reducible refine (spec_l4Small.calls k a1 t579 t582 false _ A4.out).mono ?_); rintro e w26 ⟨v580, v583, rfl, ho0, ho1, hb⟩; refine ⟨_, rfl, ?_⟩; replace HO573 := Aside0.mk (Kd.V_below (by exact (Kd.V_mono (Kd.V_far (p := ⟨gb578, 1, none⟩) (Kd.V_far (p := ⟨gb578, 0, none⟩) (Kd.V_mono HO573.out (fun k_ hk => (⟨hk, hk.2⟩ : _ ∧ k_ ≠ gb578))) (fun _ hk => hk.2) (.slice Ao23 t571.length co23)) (fun _ hk => hk.2) (.slice Ao25 t574.length co25)) (fun _ h_ => h_.1))) hb); replace HO576 := Aside0.mk (Kd.V_below (by exact (Kd.V_mono (Kd.V_far (p := ⟨gb578, 1, none⟩) (Kd.V_far (p := ⟨gb578, 0, none⟩) (Kd.V_mono HO576.out (fun k_ hk => (⟨hk, hk.2⟩ : _ ∧ k_ ≠ gb578))) (fun _ hk => hk.2) (.slice Ao23 t571.length co23)) (fun _ hk => hk.2) (.slice Ao25 t574.length co25)) (fun _ h_ => h_.1))) hb); have HO581 := Aside0.mk (Kd.V_lower (Kd.V_mono (ok' := fun k_ => k_ ≠ gb578) ho0 (fun k_ hk_ => (Kd.freshB (g := gb578) (o := .cells #[.slice Ao23 t571.length co23, .slice Ao25 t574.length co25] 66 (0, 0)) (by refine blk_put (cs := #[.slice Ao23 t571.length co23, .slice none 0 0]) ?_ 1 _ rfl; refine blk_put (cs := #[.slice none 0 0, .slice none 0 0]) ?_ 0 _ rfl; exact BK578.out) k_ hk_))) (below_size (by repeat (first | (with_reducible first | exact HB.out | refine below_set ?_ GE578.out))))); have HO584 := Aside0.mk (Kd.V_lower (Kd.V_mono (ok' := fun k_ => k_ ≠ gb578) ho1 (fun k_ hk_ => (Kd.freshB (g := gb578) (o := .cells #[.slice Ao23 t571.length co23, .slice Ao25 t574.length co25] 66 (0, 0)) (by refine blk_put (cs := #[.slice Ao23 t571.length co23, .slice none 0 0]) ?_ 1 _ rfl; refine blk_put (cs := #[.slice none 0 0, .slice none 0 0]) ?_ 0 _ rfl; exact BK578.out) k_ hk_))) (below_size (by repeat (first | (with_reducible first | exact HB.out | refine below_set ?_ GE578.out))))); replace BK578 := Aside0.mk (blk_below (g := gb578) (o := .cells #[.slice Ao23 t571.length co23, .slice Ao25 t574.length co25] 66 (0, 0)) (by refine blk_put (cs := #[.slice Ao23 t571.length co23, .slice none 0 0]) ?_ 1 _ rfl; refine blk_put (cs := #[.slice none 0 0, .slice none 0 0]) ?_ 0 _ rfl; exact BK578.out) hb); replace HB := Aside0.mk (below_step (by repeat (first | (with_reducible first | exact HB.out | refine below_set ?_ GE578.out))) hb); (try clear hb); (try clear ho0); (try clear ho1)) | ((with_reducible refine gate_dst (N := 8) rfl ?_); refine box_event ?hg (N := 8) ?hd (cs := #[.slice none 0 0, .slice none 0 0]) (t := 66) ?hr ?_; (case hd => rfl); (case hg => rfl); (case hr => first | (go_simp; done)); intro gb586 hg w27 hbox hb; replace HO573 := Aside0.mk (Kd.V_below (Kd.V_elderB HO573.out gb586 (Nat.le_of_eq hg.symm)) hb); replace HO576 := Aside0.mk (Kd.V_below (Kd.V_elderB HO576.out gb586 (Nat.le_of_eq hg.symm)) hb); replace HO581 := Aside0.mk (Kd.V_below (Kd.V_elderB HO581.out gb586 (Nat.le_of_eq hg.symm)) hb); replace HO584 := Aside0.mk (Kd.V_below (Kd.V_elderB HO584.out gb586 (Nat.le_of_eq hg.symm)) hb); have BK586 := Aside0.mk hbox; have GW586 := Aside0.mk ((by rw [hg]; exact (below_size HB.out) : w.heap.size ≤ gb586)); have GE586 := Aside0.mk ((by rw [hg]; exact (below_size HB.out) : w.heap.size ≤ gb586)); replace HB := Aside0.mk (below_step HB.out hb); have NB578_586 := Aside0.mk ((by rw [hg]; exact Nat.ne_of_lt (blk_lt (g := gb578) (o := .cells #[.slice Ao23 t571.length co23, .slice Ao25 t574.length co25] 66 (0, 0)) BK578.out) : gb578 ≠ gb586)); have NB586_578 := Aside0.mk ((by rw [hg]; exact Nat.ne_of_gt (blk_lt (g := gb578) (o := .cells #[.slice Ao23 t571.length co23, .slice Ao25 t574.length co25] 66 (0, 0)) BK578.out) : gb586 ≠ gb578)); replace BK578 := Aside0.mk (blk_below (g := gb578) (o := .cells #[.slice Ao23 t571.length co23, .slice Ao25 t574.length co25] 66 (0, 0)) BK578.out hb); clear hb hbox hg; obtain ⟨Ao28, co28, eo28⟩ := Kd.V_slice HO581.out; subst eo28; have hnb29 := NB586_578.out; have hnc29 := NB578_586.out; have hcz30_0 : w27.cell? ⟨gb586, 0, none⟩ = some (.slice none 0 0) := (blk_cell BK586.out 0).trans rfl; have hcz30_1 : w27.cell? ⟨gb586, 1, none⟩ = some (.slice none 0 0) := (blk_cell BK586.out 1).trans rfl; have hfz30_0 := blk_frozen BK586.out 0; have hfz30_1 := blk_frozen BK586.out 1; obtain ⟨Ao31, co31, eo31⟩ := Kd.V_slice HO584.out; subst eo31))
   go_ret2
   exact ⟨by first | rfl | (simp [*, errW_none, errW_some] <;> rfl), by repeat (first | (with_reducible first | exact HB.out | refine below_set ?_ GE586.out))⟩
 ·replace c5 := Bool.eq_false_iff.mpr c5
  subst c5
  replace H : (some ((⟨#[]⟩ : ByteArray), false)) = some (r1, r2) := by rw [if_neg (show ¬ (false = true) by decide)] at H; exact H
  simp only [Option.some.injEq, Prod.mk.injEq] at H
  obtain ⟨rfl, rfl⟩ := H
  go_enter Try.func63, Try.ntmps63
  go_wp2_with (first | ((with_reducible refine gate_callee (f := 57) rfl ?_); refine goesL_ (some 12) rfl rfl Try.func57 (by kernel_rfl) rfl #[.string a0] rfl (by (try simp only [List.map_toArray, List.map_cons, List.map_nil]); rfl) ?_; (with_reducible refine (spec_l4Small.calls k a0 t571 t574 false _ A3.out).mono ?_); rintro e w32 ⟨v572, v575, rfl, ho0, ho1, hb⟩; refine ⟨_, rfl, ?_⟩; have HO573 := Aside0.mk (Kd.V_lower (Kd.V_mono (ok' := fun k_ => True) ho0 (fun k_ hk_ => trivial)) (below_size HB.out)); have HO576 := Aside0.mk (Kd.V_lower (Kd.V_mono (ok' := fun k_ => True) ho1 (fun k_ hk_ => trivial)) (below_size HB.out)); replace HB := Aside0.mk (below_step HB.out hb); (try clear hb); (try clear ho0); (try clear ho1)) | ((with_reducible refine gate_dst (N := 6) rfl ?_); refine box_event ?hg (N := 6) ?hd (cs := #[.slice none 0 0, .slice none 0 0]) (t := 66) ?hr ?_; (case hd => rfl); (case hg => rfl); (case hr => first | (go_simp; done)); intro gb578 hg w33 hbox hb; replace HO573 := Aside0.mk (Kd.V_below (Kd.V_elderB HO573.out gb578 (Nat.le_of_eq hg.symm)) hb); replace HO576 := Aside0.mk (Kd.V_below (Kd.V_elderB HO576.out gb578 (Nat.le_of_eq hg.symm)) hb); have BK578 := Aside0.mk hbox; have GW578 := Aside0.mk ((by rw [hg]; exact (below_size HB.out) : w.heap.size ≤ gb578)); have GE578 := Aside0.mk ((by rw [hg]; exact (below_size HB.out) : w.heap.size ≤ gb578)); replace HB := Aside0.mk (below_step HB.out hb); clear hb hbox hg; obtain ⟨Ao34, co34, eo34⟩ := Kd.V_slice HO573.out; subst eo34; have hcz35_0 : w33.cell? ⟨gb578, 0, none⟩ = some (.slice none 0 0) := (blk_cell BK578.out 0).trans rfl; have hcz35_1 : w33.cell? ⟨gb578, 1, none⟩ = some (.slice none 0 0) := (blk_cell BK578.out 1).trans rfl; have hfz35_0 := blk_frozen BK578.out 0; have hfz35_1 := blk_frozen BK578.out 1; obtain ⟨Ao36, co36, eo36⟩ := Kd.V_slice HO576.out; subst eo36) | ((with_reducible refine gate_callee (f := 57) rfl ?_); refine goesL_ (some 17) rfl rfl Try.func57 (by kernel_rfl) rfl #[.string a1] rfl (by (try simp only [List.map_toArray, List.map_cons, List.map_nil]); rfl) ?_; (with_reducible refine (spec_l4Small.calls k a1 t579 t582 t585 _ A4.out).mono ?_); rintro e w37 ⟨v580, v583, rfl, ho0, ho1, hb⟩; refine ⟨_, rfl, ?_⟩; replace HO573 := Aside0.mk (Kd.V_below (by exact (Kd.V_mono (Kd.V_far (p := ⟨gb578, 1, none⟩) (Kd.V_far (p := ⟨gb578, 0, none⟩) (Kd.V_mono HO573.out (fun k_ hk => (⟨hk, hk.2⟩ : _ ∧ k_ ≠ gb578))) (fun _ hk => hk.2) (.slice Ao34 t571.length co34)) (fun _ hk => hk.2) (.slice Ao36 t574.length co36)) (fun _ h_ => h_.1))) hb); replace HO576 := Aside0.mk (Kd.V_below (by exact (Kd.V_mono (Kd.V_far (p := ⟨gb578, 1, none⟩) (Kd.V_far (p := ⟨gb578, 0, none⟩) (Kd.V_mono HO576.out (fun k_ hk => (⟨hk, hk.2⟩ : _ ∧ k_ ≠ gb578))) (fun _ hk => hk.2) (.slice Ao34 t571.length co34)) (fun _ hk => hk.2) (.slice Ao36 t574.length co36)) (fun _ h_ => h_.1))) hb); have HO581 := Aside0.mk (Kd.V_lower (Kd.V_mono (ok' := fun k_ => k_ ≠ gb578) ho0 (fun k_ hk_ => (Kd.freshB (g := gb578) (o := .cells #[.slice Ao34 t571.length co34, .slice Ao36 t574.length co36] 66 (0, 0)) (by refine blk_put (cs := #[.slice Ao34 t571.length co34, .slice none 0 0]) ?_ 1 _ rfl; refine blk_put (cs := #[.slice none 0 0, .slice none 0 0]) ?_ 0 _ rfl; exact BK578.out) k_ hk_))) (below_size (by repeat (first | (with_reducible first | exact HB.out | refine below_set ?_ GE578.out))))); have HO584 := Aside0.mk (Kd.V_lower (Kd.V_mono (ok' := fun k_ => k_ ≠ gb578) ho1 (fun k_ hk_ => (Kd.freshB (g := gb578) (o := .cells #[.slice Ao34 t571.length co34, .slice Ao36 t574.length co36] 66 (0, 0)) (by refine blk_put (cs := #[.slice Ao34 t571.length co34, .slice none 0 0]) ?_ 1 _ rfl; refine blk_put (cs := #[.slice none 0 0, .slice none 0 0]) ?_ 0 _ rfl; exact BK578.out) k_ hk_))) (below_size (by repeat (first | (with_reducible first | exact HB.out | refine below_set ?_ GE578.out))))); replace BK578 := Aside0.mk (blk_below (g := gb578) (o := .cells #[.slice Ao34 t571.length co34, .slice Ao36 t574.length co36] 66 (0, 0)) (by refine blk_put (cs := #[.slice Ao34 t571.length co34, .slice none 0 0]) ?_ 1 _ rfl; refine blk_put (cs := #[.slice none 0 0, .slice none 0 0]) ?_ 0 _ rfl; exact BK578.out) hb); replace HB := Aside0.mk (below_step (by repeat (first | (with_reducible first | exact HB.out | refine below_set ?_ GE578.out))) hb); (try clear hb); (try clear ho0); (try clear ho1)) | ((with_reducible refine gate_dst (N := 8) rfl ?_); refine box_event ?hg (N := 8) ?hd (cs := #[.slice none 0 0, .slice none 0 0]) (t := 66) ?hr ?_; (case hd => rfl); (case hg => rfl); (case hr => first | (go_simp; done)); intro gb586 hg w38 hbox hb; replace HO573 := Aside0.mk (Kd.V_below (Kd.V_elderB HO573.out gb586 (Nat.le_of_eq hg.symm)) hb); replace HO576 := Aside0.mk (Kd.V_below (Kd.V_elderB HO576.out gb586 (Nat.le_of_eq hg.symm)) hb); replace HO581 := Aside0.mk (Kd.V_below (Kd.V_elderB HO581.out gb586 (Nat.le_of_eq hg.symm)) hb); replace HO584 := Aside0.mk (Kd.V_below (Kd.V_elderB HO584.out gb586 (Nat.le_of_eq hg.symm)) hb); have BK586 := Aside0.mk hbox; have GW586 := Aside0.mk ((by rw [hg]; exact (below_size HB.out) : w.heap.size ≤ gb586)); have GE586 := Aside0.mk ((by rw [hg]; exact (below_size HB.out) : w.heap.size ≤ gb586)); replace HB := Aside0.mk (below_step HB.out hb); have NB578_586 := Aside0.mk ((by rw [hg]; exact Nat.ne_of_lt (blk_lt (g := gb578) (o := .cells #[.slice Ao34 t571.length co34, .slice Ao36 t574.length co36] 66 (0, 0)) BK578.out) : gb578 ≠ gb586)); have NB586_578 := Aside0.mk ((by rw [hg]; exact Nat.ne_of_gt (blk_lt (g := gb578) (o := .cells #[.slice Ao34 t571.length co34, .slice Ao36 t574.length co36] 66 (0, 0)) BK578.out) : gb586 ≠ gb578)); replace BK578 := Aside0.mk (blk_below (g := gb578) (o := .cells #[.slice Ao34 t571.length co34, .slice Ao36 t574.length co36] 66 (0, 0)) BK578.out hb); clear hb hbox hg; obtain ⟨Ao39, co39, eo39⟩ := Kd.V_slice HO581.out; subst eo39; have hnb40 := NB586_578.out; have hnc40 := NB578_586.out; have hcz41_0 : w38.cell? ⟨gb586, 0, none⟩ = some (.slice none 0 0) := (blk_cell BK586.out 0).trans rfl; have hcz41_1 : w38.cell? ⟨gb586, 1, none⟩ = some (.slice none 0 0) := (blk_cell BK586.out 1).trans rfl; have hfz41_0 := blk_frozen BK586.out 0; have hfz41_1 := blk_frozen BK586.out 1; obtain ⟨Ao42, co42, eo42⟩ := Kd.V_slice HO584.out; subst eo42))
  go_ret2
  exact ⟨by first | rfl | (simp [*, errW_none, errW_some] <;> rfl), by repeat (first | (with_reducible first | exact HB.out | refine below_set ?_ GE586.out))⟩


mutual
def spec_SumTimes.j0 : Nat → ByteArray → Int → Bool → Option (ByteArray × Bool)
 | 0, _, _, _ => none
 | k + 1, x0, x1, x23 => if x23 = true then (some ((⟨#[]⟩ : ByteArray), false)) else (spec_SumTimes.l0 k x0 x1 (⟨#[49, 40, 48, 41]⟩ : ByteArray) 0)
def spec_SumTimes.l0 : Nat → ByteArray → Int → ByteArray → Int → Option (ByteArray × Bool)
 | 0, _, _, _, _ => none
 | k + 1, x0, x1, x8, x9 => if x9 < x1 then ((spec_SumOf.f k x8 x0).bind fun bt908 => (if bt908.2 = true then (spec_SumTimes.l0 k x0 x1 bt908.1 (wrap64 (x9 + 1))) else (some ((⟨#[]⟩ : ByteArray), false)))) else (some (x8, true))
end
def spec_SumTimes.f (k : Nat) (a0 : ByteArray) (a1 : Int) : Option (ByteArray × Bool) := (spec_l4Small.f k a0).bind fun bt899 => (if bt899.2.2 = true then ((spec_l6In.f a1 0 6).bind fun t907 => (spec_SumTimes.j0 k a0 a1 (!t907))) else (spec_SumTimes.j0 k a0 a1 true))
theorem spec_SumTimes.mono_l : ∀ k, (∀ y0 y1 y2, LeO (spec_SumTimes.j0 k y0 y1 y2) (spec_SumTimes.j0 (k + 1) y0 y1 y2)) ∧ (∀ y0 y1 y2 y3, LeO (spec_SumTimes.l0 k y0 y1 y2 y3) (spec_SumTimes.l0 (k + 1) y0 y1 y2 y3))
 | 0 => ⟨fun _ _ _ r h => by simp [spec_SumTimes.j0] at h, fun _ _ _ _ r h => by simp [spec_SumTimes.l0] at h⟩
 | k + 1 => by
  obtain ⟨ih0, ih1⟩ := spec_SumTimes.mono_l k
  refine ⟨?_, ?_⟩
  ·intro y0 y1 y2
   unfold spec_SumTimes.j0
   repeat' first | (with_reducible exact ih1 _ _ _ _) | (with_reducible exact LeO.refl _) | (with_reducible refine LeO.ite ?_ ?_)
  ·intro y0 y1 y2 y3
   unfold spec_SumTimes.l0
   repeat' first | (with_reducible exact ih1 _ _ _ _) | (with_reducible exact spec_SumOf.mono _ _ _) | (with_reducible exact LeO.refl _) | (with_reducible refine LeO.ite ?_ ?_) | (with_reducible refine LeO.bind ?_ (fun _ => ?_))
theorem spec_SumTimes.mono : ∀ a0 a1 k, LeO (spec_SumTimes.f k a0 a1) (spec_SumTimes.f (k + 1) a0 a1) := by
 intro a0 a1 k
 obtain ⟨ih0, ih1⟩ := spec_SumTimes.mono_l k
 unfold spec_SumTimes.f
 repeat' first | (with_reducible exact ih0 _ _ _) | (with_reducible exact spec_l4Small.mono _ _) | (with_reducible exact LeO.refl _) | (with_reducible refine LeO.ite ?_ ?_) | (with_reducible refine LeO.bind ?_ (fun _ => ?_))
set_option maxHeartbeats 8000000 in
set_option maxRecDepth 100000 in
theorem spec_SumTimes.calls (k : Nat) (a0 : ByteArray) (a1 : Int) (r1 : ByteArray) (r2 : Bool) (w : World) (h : spec_SumTimes.f k a0 a1 = some (r1, r2)) :
  Calls Try.prog 36 #[.string a0, .int .i64 a1] w fun e w' => e = .returned (.tuple #[.string r1, .bool r2]) ∧ Below w.heap.size w w' := by
 have hu66 := Try.underlying66
 have HB := Aside0.mk (Below.refl w.heap.size w)
 have H : ((spec_l4Small.f k a0).bind fun bt899 => (if bt899.2.2 = true then ((spec_l6In.f a1 0 6).bind fun t907 => (spec_SumTimes.j0 k a0 a1 (!t907))) else (spec_SumTimes.j0 k a0 a1 true))) = some (r1, r2) := h
 clear h
 replace H := Option.bind_eq_some_iff.mp H
 obtain ⟨⟨t899, t902, t905⟩, A30, H⟩ := H
 replace H : (if t905 = true then ((spec_l6In.f a1 0 6).bind fun t907 => (spec_SumTimes.j0 k a0 a1 (!t907))) else (spec_SumTimes.j0 k a0 a1 true)) = some (r1, r2) := H
 have A3 := Aside0.mk A30
 clear A30
 have HC4 := Aside0.mk H
 clear H
 go_enter Try.func36, Try.ntmps36
 go_upto_region 2 with (first | ((with_reducible refine gate_callee (f := 57) rfl ?_); refine goesL_ (some 14) rfl rfl Try.func57 (by kernel_rfl) rfl #[.string a0] rfl (by (try simp only [List.map_toArray, List.map_cons, List.map_nil]); rfl) ?_; (with_reducible refine (spec_l4Small.calls k a0 t899 t902 t905 _ A3.out).mono ?_); rintro e w5 ⟨v900, v903, rfl, ho0, ho1, hb⟩; refine ⟨_, rfl, ?_⟩; have HO901 := Aside0.mk (Kd.V_lower (Kd.V_mono (ok' := fun k_ => True) ho0 (fun k_ hk_ => trivial)) (below_size HB.out)); have HO904 := Aside0.mk (Kd.V_lower (Kd.V_mono (ok' := fun k_ => True) ho1 (fun k_ hk_ => trivial)) (below_size HB.out)); replace HB := Aside0.mk (below_step HB.out hb); (try clear hb); (try clear ho0); (try clear ho1)) | ((with_reducible refine gate_dst (N := 6) rfl ?_); refine box_event ?hg (N := 6) ?hd (cs := #[.slice none 0 0, .slice none 0 0]) (t := 66) ?hr ?_; (case hd => rfl); (case hg => rfl); (case hr => first | (go_simp; done)); intro gb906 hg w6 hbox hb; replace HO901 := Aside0.mk (Kd.V_below (Kd.V_elderB HO901.out gb906 (Nat.le_of_eq hg.symm)) hb); replace HO904 := Aside0.mk (Kd.V_below (Kd.V_elderB HO904.out gb906 (Nat.le_of_eq hg.symm)) hb); have BK906 := Aside0.mk hbox; have GW906 := Aside0.mk ((by rw [hg]; exact (below_size HB.out) : w.heap.size ≤ gb906)); have GE906 := Aside0.mk ((by rw [hg]; exact (below_size HB.out) : w.heap.size ≤ gb906)); replace HB := Aside0.mk (below_step HB.out hb); clear hb hbox hg; obtain ⟨Ao7, co7, eo7⟩ := Kd.V_slice HO901.out; subst eo7; have hcz8_0 : w6.cell? ⟨gb906, 0, none⟩ = some (.slice none 0 0) := (blk_cell BK906.out 0).trans rfl; have hcz8_1 : w6.cell? ⟨gb906, 1, none⟩ = some (.slice none 0 0) := (blk_cell BK906.out 1).trans rfl; have hfz8_0 := blk_frozen BK906.out 0; have hfz8_1 := blk_frozen BK906.out 1; obtain ⟨Ao9, co9, eo9⟩ := Kd.V_slice HO904.out; subst eo9))
 go_cut [23] (fun v23 wc => ∃ (kq : Nat) (x23_3 : Bool), v23 = .bool x23_3 ∧ Aside0 (spec_SumTimes.j0 kq a0 a1 x23_3 = some (r1, r2)) ∧ Aside0 (kq ≤ k) ∧ Aside0 (Kd.V Kd.bool 4 wc w.heap.size (fun k_ => k_ ≠ gb906) (.slice Ao7 t899.length co7) t899) ∧ Aside0 (Kd.V Kd.bool 4 wc w.heap.size (fun k_ => k_ ≠ gb906) (.slice Ao9 t902.length co9) t902) ∧ Aside0 (wc.heap[gb906]? = some (.cells #[(.slice Ao7 t899.length co7), (.slice Ao9 t902.length co9)] 66 (0, 0))) ∧ Aside0 (Below w.heap.size w wc))
 case first =>
  have H := HC4.out
  clear HC4
  by_cases c10 : t905 = true
  ·subst c10
   replace H : ((spec_l6In.f a1 0 6).bind fun t907 => (spec_SumTimes.j0 k a0 a1 (!t907))) = some (r1, r2) := by rw [if_pos rfl] at H; exact H
   replace H := Option.bind_eq_some_iff.mp H
   obtain ⟨t907, A110, H⟩ := H
   replace H : (spec_SumTimes.j0 k a0 a1 (!t907)) = some (r1, r2) := H
   have A11 := Aside0.mk A110
   clear A110
   have H' := Aside0.mk H
   clear H
   go_wp2_with (first | (go_at_call 58; (with_reducible refine (spec_l6In.calls a1 0 6 t907 _ A11.out).mono ?_); rintro e w' ⟨rfl, ⟨nd, rfl⟩⟩))
   go_meet
   case rel => exact ⟨_, (!t907), (by rfl), H', ⟨by omega⟩, ⟨by (with_reducible repeat (apply Kd.V_drewN)); exact Kd.V_mono (Kd.V_far (p := ⟨gb906, 1, none⟩) (Kd.V_far (p := ⟨gb906, 0, none⟩) (Kd.V_mono HO901.out (fun k_ hk => (⟨hk, hk.2⟩ : _ ∧ k_ ≠ gb906))) (fun _ hk => hk.2) (.slice Ao7 t899.length co7)) (fun _ hk => hk.2) (.slice Ao9 t902.length co9)) (fun _ hk => hk.1.2)⟩, ⟨by (with_reducible repeat (apply Kd.V_drewN)); exact Kd.V_mono (Kd.V_far (p := ⟨gb906, 1, none⟩) (Kd.V_far (p := ⟨gb906, 0, none⟩) (Kd.V_mono HO904.out (fun k_ hk => (⟨hk, hk.2⟩ : _ ∧ k_ ≠ gb906))) (fun _ hk => hk.2) (.slice Ao7 t899.length co7)) (fun _ hk => hk.2) (.slice Ao9 t902.length co9)) (fun _ hk => hk.1.2)⟩, ⟨by (with_reducible repeat (refine blk_drewN ?_ _)); refine blk_put (cs := #[.slice Ao7 t899.length co7, .slice none 0 0]) ?_ 1 _ rfl; refine blk_put (cs := #[.slice none 0 0, .slice none 0 0]) ?_ 0 _ rfl; exact BK906.out⟩, ⟨by repeat (first | (with_reducible first | exact HB.out | apply pw_below_drewN | refine below_set ?_ GE906.out))⟩⟩
  ·replace c10 := Bool.eq_false_iff.mpr c10
   subst c10
   replace H : (spec_SumTimes.j0 k a0 a1 true) = some (r1, r2) := by rw [if_neg (show ¬ (false = true) by decide)] at H; exact H
   have H' := Aside0.mk H
   clear H
   go_wp2
   go_meet
   case rel => exact ⟨_, (true), (by rfl), H', ⟨by omega⟩, ⟨by exact Kd.V_mono (Kd.V_far (p := ⟨gb906, 1, none⟩) (Kd.V_far (p := ⟨gb906, 0, none⟩) (Kd.V_mono HO901.out (fun k_ hk => (⟨hk, hk.2⟩ : _ ∧ k_ ≠ gb906))) (fun _ hk => hk.2) (.slice Ao7 t899.length co7)) (fun _ hk => hk.2) (.slice Ao9 t902.length co9)) (fun _ hk => hk.1.2)⟩, ⟨by exact Kd.V_mono (Kd.V_far (p := ⟨gb906, 1, none⟩) (Kd.V_far (p := ⟨gb906, 0, none⟩) (Kd.V_mono HO904.out (fun k_ hk => (⟨hk, hk.2⟩ : _ ∧ k_ ≠ gb906))) (fun _ hk => hk.2) (.slice Ao7 t899.length co7)) (fun _ hk => hk.2) (.slice Ao9 t902.length co9)) (fun _ hk => hk.1.2)⟩, ⟨by refine blk_put (cs := #[.slice Ao7 t899.length co7, .slice none 0 0]) ?_ 1 _ rfl; refine blk_put (cs := #[.slice none 0 0, .slice none 0 0]) ?_ 0 _ rfl; exact BK906.out⟩, ⟨by repeat (first | (with_reducible first | exact HB.out | refine below_set ?_ GE906.out))⟩⟩
 case rest =>
  clear HC4
  try clear hcz8_0
  try clear hcz8_1
  try clear hfz8_0
  try clear hfz8_1
  obtain ⟨kq, x23_3, rfl, HA, HJ3, HO_907000, HO_907001, BK906, HB⟩ := hcut
  cases kq with
  | zero => exact absurd HA.out (by simp [spec_SumTimes.j0])
  | succ kj3 =>
   have H := HA.out
   clear HA
   simp only [spec_SumTimes.j0] at H
   by_cases c12 : x23_3 = true
   ·subst c12
    replace H : (some ((⟨#[]⟩ : ByteArray), false)) = some (r1, r2) := by rw [if_pos rfl] at H; exact H
    simp only [Option.some.injEq, Prod.mk.injEq] at H
    obtain ⟨rfl, rfl⟩ := H
    go_wp2
    go_ret2
    exact ⟨by first | rfl | (simp [*, errW_none, errW_some] <;> rfl), HB.out⟩
   ·replace c12 := Bool.eq_false_iff.mpr c12
    subst c12
    replace H : (spec_SumTimes.l0 kj3 a0 a1 (⟨#[49, 40, 48, 41]⟩ : ByteArray) 0) = some (r1, r2) := by rw [if_neg (show ¬ (false = true) by decide)] at H; exact H
    have H' := Aside0.mk H
    clear H
    go_wp2
    go_loopg [8, 9] kj3 (fun kq v8 v9 w' => ∃ (x8_2 : ByteArray) (x9_2 : Int), v8 = .string x8_2 ∧ v9 = .int .i64 x9_2 ∧ Aside0 (spec_SumTimes.l0 kq a0 a1 x8_2 x9_2 = some (r1, r2)) ∧ Aside0 (kq ≤ kj3) ∧ Aside0 (Kd.V Kd.bool 4 w' w.heap.size (fun k_ => k_ ≠ gb906) (.slice Ao7 t899.length co7) t899) ∧ Aside0 (Kd.V Kd.bool 4 w' w.heap.size (fun k_ => k_ ≠ gb906) (.slice Ao9 t902.length co9) t902) ∧ Aside0 (w'.heap[gb906]? = some (.cells #[(.slice Ao7 t899.length co7), (.slice Ao9 t902.length co9)] 66 (0, 0))) ∧ Aside0 (Below w.heap.size w w'))
    case atStart => exact ⟨((⟨#[49, 40, 48, 41]⟩ : ByteArray)), (0), (by rfl), (by rfl), H', ⟨Nat.le_refl _⟩, ⟨by exact HO_907000.out⟩, ⟨by exact HO_907001.out⟩, ⟨by exact BK906.out⟩, ⟨HB.out⟩⟩
    case round =>
     clear H'
     obtain ⟨x8_2, x9_2, rfl, rfl, HA, HK2, HO_907000, HO_907001, BK906, HB⟩ := hrel
     cases gk with
     | zero => exact absurd HA.out (by simp [spec_SumTimes.l0])
     | succ k2 =>
      have H := HA.out
      clear HA
      simp only [spec_SumTimes.l0] at H
      by_cases c13 : x9_2 < a1
      ·rw [if_pos c13] at H
       have c13b0 : decide (x9_2 < a1) = true := decide_eq_true c13
       clear c13
       replace H := Option.bind_eq_some_iff.mp H
       obtain ⟨⟨t908, t909⟩, A140, H⟩ := H
       replace H : (if t909 = true then (spec_SumTimes.l0 k2 a0 a1 t908 (wrap64 (x9_2 + 1))) else (some ((⟨#[]⟩ : ByteArray), false))) = some (r1, r2) := H
       have A14 := Aside0.mk A140
       clear A140
       by_cases c15 : t909 = true
       ·subst c15
        replace H : (spec_SumTimes.l0 k2 a0 a1 t908 (wrap64 (x9_2 + 1))) = some (r1, r2) := by rw [if_pos rfl] at H; exact H
        have H' := Aside0.mk H
        clear H
        go_wp2_with (first | ((with_reducible refine gate_callee (f := 63) rfl ?_); refine goesL_ (some 32) rfl rfl Try.func63 (by kernel_rfl) rfl #[.string x8_2, .string a0] rfl (by (try simp only [List.map_toArray, List.map_cons, List.map_nil]); rfl) ?_; (with_reducible refine (spec_SumOf.calls k2 x8_2 a0 t908 true _ A14.out).mono ?_); rintro e w16 ⟨rfl, hb⟩; refine ⟨_, rfl, ?_⟩; replace HO_907000 := Aside0.mk (Kd.V_below HO_907000.out hb); replace HO_907001 := Aside0.mk (Kd.V_below HO_907001.out hb); replace BK906 := Aside0.mk (blk_below (g := gb906) (o := .cells #[.slice Ao7 t899.length co7, .slice Ao9 t902.length co9] 66 (0, 0)) BK906.out hb); replace HB := Aside0.mk (below_step HB.out hb); (try clear hb)))
        go_roundg k2
        case measure => have := HJ3.out; have := HK2.out; omega
        case rel => exact ⟨(t908), (wrap64 (x9_2 + 1)), (by rfl), (by rfl), H', ⟨by have := HJ3.out; have := HK2.out; omega⟩, ⟨by exact HO_907000.out⟩, ⟨by exact HO_907001.out⟩, ⟨by exact BK906.out⟩, ⟨HB.out⟩⟩
       ·replace c15 := Bool.eq_false_iff.mpr c15
        subst c15
        replace H : (some ((⟨#[]⟩ : ByteArray), false)) = some (r1, r2) := by rw [if_neg (show ¬ (false = true) by decide)] at H; exact H
        simp only [Option.some.injEq, Prod.mk.injEq] at H
        obtain ⟨rfl, rfl⟩ := H
        go_wp2_with (first | ((with_reducible refine gate_callee (f := 63) rfl ?_); refine goesL_ (some 32) rfl rfl Try.func63 (by kernel_rfl) rfl #[.string x8_2, .string a0] rfl (by (try simp only [List.map_toArray, List.map_cons, List.map_nil]); rfl) ?_; (with_reducible refine (spec_SumOf.calls k2 x8_2 a0 t908 false _ A14.out).mono ?_); rintro e w17 ⟨rfl, hb⟩; refine ⟨_, rfl, ?_⟩; replace HO_907000 := Aside0.mk (Kd.V_below HO_907000.out hb); replace HO_907001 := Aside0.mk (Kd.V_below HO_907001.out hb); replace BK906 := Aside0.mk (blk_below (g := gb906) (o := .cells #[.slice Ao7 t899.length co7, .slice Ao9 t902.length co9] 66 (0, 0)) BK906.out hb); replace HB := Aside0.mk (below_step HB.out hb); (try clear hb)))
        go_ret2
        exact ⟨by first | rfl | (simp [*, errW_none, errW_some] <;> rfl), HB.out⟩
      ·rw [if_neg c13] at H
       have c13b0 : decide (x9_2 < a1) = false := decide_eq_false c13
       clear c13
       simp only [Option.some.injEq, Prod.mk.injEq] at H
       obtain ⟨rfl, rfl⟩ := H
       go_wp2
       go_ret2
       exact ⟨by first | rfl | (simp [*, errW_none, errW_some] <;> rfl), HB.out⟩


def impl_SetTidy.f (k : Nat) (a0 : ByteArray) : Option (ByteArray × Bool) := (impl_tidied.f k a0).bind fun bt910 => (if bt910.2.2 = true then ((impl_set_text.f k bt910.1 bt910.2.1).bind fun bt918 => (some (bt918.1, bt918.2))) else (some ((⟨#[]⟩ : ByteArray), false)))
theorem impl_SetTidy.mono : ∀ a0 k, LeO (impl_SetTidy.f k a0) (impl_SetTidy.f (k + 1) a0) := by
 intro a0 k
 unfold impl_SetTidy.f
 repeat' first | (with_reducible exact impl_set_text.mono _ _ _) | (with_reducible exact impl_tidied.mono _ _) | (with_reducible exact LeO.refl _) | (with_reducible refine LeO.ite ?_ ?_) | (with_reducible refine LeO.bind ?_ (fun _ => ?_))
set_option maxHeartbeats 8000000 in
set_option maxRecDepth 100000 in
theorem impl_SetTidy.calls (k : Nat) (a0 : ByteArray) (r1 : ByteArray) (r2 : Bool) (w : World) (h : impl_SetTidy.f k a0 = some (r1, r2)) :
  Calls Try.prog 45 #[.string a0] w fun e w' => e = .returned (.tuple #[.string r1, .bool r2]) ∧ Below w.heap.size w w' := by
 have hu60 := Try.underlying60
 have HB := Aside0.mk (Below.refl w.heap.size w)
 have H : ((impl_tidied.f k a0).bind fun bt910 => (if bt910.2.2 = true then ((impl_set_text.f k bt910.1 bt910.2.1).bind fun bt918 => (some (bt918.1, bt918.2))) else (some ((⟨#[]⟩ : ByteArray), false)))) = some (r1, r2) := h
 clear h
 replace H := Option.bind_eq_some_iff.mp H
 obtain ⟨⟨t910, t913, t916⟩, A20, H⟩ := H
 replace H : (if t916 = true then ((impl_set_text.f k t910 t913).bind fun bt918 => (some (bt918.1, bt918.2))) else (some ((⟨#[]⟩ : ByteArray), false))) = some (r1, r2) := H
 have A2 := Aside0.mk A20
 clear A20
 by_cases c3 : t916 = true
 ·subst c3
  replace H : ((impl_set_text.f k t910 t913).bind fun bt918 => (some (bt918.1, bt918.2))) = some (r1, r2) := by rw [if_pos rfl] at H; exact H
  replace H := Option.bind_eq_some_iff.mp H
  obtain ⟨⟨t918, t919⟩, A40, H⟩ := H
  replace H : (some (t918, t919)) = some (r1, r2) := H
  have A4 := Aside0.mk A40
  clear A40
  simp only [Option.some.injEq, Prod.mk.injEq] at H
  obtain ⟨rfl, rfl⟩ := H
  go_enter Try.func45, Try.ntmps45
  go_wp2_with (first | ((with_reducible refine gate_callee (f := 88) rfl ?_); refine goesL_ (some 8) rfl rfl Try.func88 (by kernel_rfl) rfl #[.string a0] rfl (by (try simp only [List.map_toArray, List.map_cons, List.map_nil]); rfl) ?_; (with_reducible refine (impl_tidied.calls k a0 t910 t913 true _ A2.out).mono ?_); rintro e w5 ⟨v911, v914, rfl, ho0, ho1, hb⟩; refine ⟨_, rfl, ?_⟩; have HO912 := Aside0.mk (Kd.R_lower ho0 (below_size HB.out)); have HO915 := Aside0.mk (Kd.R_lower ho1 (below_size HB.out)); replace HB := Aside0.mk (below_step HB.out hb); (try clear hb); (try clear ho0); (try clear ho1)) | ((with_reducible refine gate_dst (N := 4) rfl ?_); refine box_event ?hg (N := 4) ?hd (cs := #[.slice none 0 0, .slice none 0 0]) (t := 60) ?hr ?_; (case hd => rfl); (case hg => rfl); (case hr => first | (go_simp; done)); intro gb917 hg w6 hbox hb; replace HO912 := Aside0.mk (Kd.R_below HO912.out hb); replace HO915 := Aside0.mk (Kd.R_below HO915.out hb); have BK917 := Aside0.mk hbox; have GW917 := Aside0.mk ((by rw [hg]; exact (below_size HB.out) : w.heap.size ≤ gb917)); have GE917 := Aside0.mk ((by rw [hg]; exact (below_size HB.out) : w.heap.size ≤ gb917)); replace HB := Aside0.mk (below_step HB.out hb); clear hb hbox hg; obtain ⟨Ao7, co7, eo7⟩ := Kd.R_slice HO912.out; subst eo7; have hcz8_0 : w6.cell? ⟨gb917, 0, none⟩ = some (.slice none 0 0) := (blk_cell BK917.out 0).trans rfl; have hcz8_1 : w6.cell? ⟨gb917, 1, none⟩ = some (.slice none 0 0) := (blk_cell BK917.out 1).trans rfl; have hfz8_0 := blk_frozen BK917.out 0; have hfz8_1 := blk_frozen BK917.out 1; obtain ⟨Ao9, co9, eo9⟩ := Kd.R_slice HO915.out; subst eo9) | ((with_reducible refine gate_callee (f := 97) rfl ?_); refine goesL_ (some 14) rfl rfl Try.func97 (by kernel_rfl) rfl #[.agg #[.slice Ao7 t910.length co7, .slice Ao9 t913.length co9]] rfl (by (try simp only [List.map_toArray, List.map_cons, List.map_nil]); rfl) ?_; (with_reducible refine (impl_set_text.calls k _ _ t910 _ _ t913 t918 t919 _ ?side1 ?side2 ?side3 ?side4 A4.out).mono ?_); (case side1 => refine (Kd.R_reads' (e := 4) (base := w.heap.size) (ok := fun k_ => some k_ ≠ (.slice Ao9 t913.length co9 : Value).ownBlock) (n := t910.length) (c := co7) ?_).2.2; exact (by exact (Kd.R_mono (Kd.R_far (p := ⟨gb917, 1, none⟩) (Kd.R_far (p := ⟨gb917, 0, none⟩) (Kd.R_types HO912.out BK917.out (by decide)) (fun _ hk => hk.2) (.slice Ao7 t910.length co7)) (fun _ hk => hk.2) (.slice Ao9 t913.length co9)) (fun _ h_ => h_.1)))); (case side2 => exact (Kd.R_reads' HO912.out).2.1); (case side3 => refine (Kd.R_reads' (e := 4) (base := w.heap.size) (ok := fun k_ => some k_ ≠ (.slice Ao7 t910.length co7 : Value).ownBlock) (n := t913.length) (c := co9) ?_).2.2; exact (by exact (Kd.R_mono (Kd.R_far (p := ⟨gb917, 1, none⟩) (Kd.R_far (p := ⟨gb917, 0, none⟩) (Kd.R_types HO915.out BK917.out (by decide)) (fun _ hk => hk.2) (.slice Ao7 t910.length co7)) (fun _ hk => hk.2) (.slice Ao9 t913.length co9)) (fun _ h_ => h_.1)))); (case side4 => exact (Kd.R_reads' HO915.out).2.1); rintro e w10 ⟨rfl, hb⟩; refine ⟨_, rfl, ?_⟩; replace HO912 := Aside0.mk (Kd.R_below (by exact (Kd.R_mono (Kd.R_far (p := ⟨gb917, 1, none⟩) (Kd.R_far (p := ⟨gb917, 0, none⟩) (Kd.R_types HO912.out BK917.out (by decide)) (fun _ hk => hk.2) (.slice Ao7 t910.length co7)) (fun _ hk => hk.2) (.slice Ao9 t913.length co9)) (fun _ h_ => h_.1))) hb); replace HO915 := Aside0.mk (Kd.R_below (by exact (Kd.R_mono (Kd.R_far (p := ⟨gb917, 1, none⟩) (Kd.R_far (p := ⟨gb917, 0, none⟩) (Kd.R_types HO915.out BK917.out (by decide)) (fun _ hk => hk.2) (.slice Ao7 t910.length co7)) (fun _ hk => hk.2) (.slice Ao9 t913.length co9)) (fun _ h_ => h_.1))) hb); replace BK917 := Aside0.mk (blk_below (g := gb917) (o := .cells #[.slice Ao7 t910.length co7, .slice Ao9 t913.length co9] 60 (0, 0)) (by refine blk_put (cs := #[.slice Ao7 t910.length co7, .slice none 0 0]) ?_ 1 _ rfl; refine blk_put (cs := #[.slice none 0 0, .slice none 0 0]) ?_ 0 _ rfl; exact BK917.out) hb); replace HB := Aside0.mk (below_step (by repeat (first | (with_reducible first | exact HB.out | refine below_set ?_ GE917.out))) hb); (try clear hb)))
  go_ret2
  exact ⟨by first | rfl | (simp [*, errW_none, errW_some] <;> rfl), HB.out⟩
 ·replace c3 := Bool.eq_false_iff.mpr c3
  subst c3
  replace H : (some ((⟨#[]⟩ : ByteArray), false)) = some (r1, r2) := by rw [if_neg (show ¬ (false = true) by decide)] at H; exact H
  simp only [Option.some.injEq, Prod.mk.injEq] at H
  obtain ⟨rfl, rfl⟩ := H
  go_enter Try.func45, Try.ntmps45
  go_wp2_with (first | ((with_reducible refine gate_callee (f := 88) rfl ?_); refine goesL_ (some 8) rfl rfl Try.func88 (by kernel_rfl) rfl #[.string a0] rfl (by (try simp only [List.map_toArray, List.map_cons, List.map_nil]); rfl) ?_; (with_reducible refine (impl_tidied.calls k a0 t910 t913 false _ A2.out).mono ?_); rintro e w11 ⟨v911, v914, rfl, ho0, ho1, hb⟩; refine ⟨_, rfl, ?_⟩; have HO912 := Aside0.mk (Kd.R_lower ho0 (below_size HB.out)); have HO915 := Aside0.mk (Kd.R_lower ho1 (below_size HB.out)); replace HB := Aside0.mk (below_step HB.out hb); (try clear hb); (try clear ho0); (try clear ho1)) | ((with_reducible refine gate_dst (N := 4) rfl ?_); refine box_event ?hg (N := 4) ?hd (cs := #[.slice none 0 0, .slice none 0 0]) (t := 60) ?hr ?_; (case hd => rfl); (case hg => rfl); (case hr => first | (go_simp; done)); intro gb917 hg w12 hbox hb; replace HO912 := Aside0.mk (Kd.R_below HO912.out hb); replace HO915 := Aside0.mk (Kd.R_below HO915.out hb); have BK917 := Aside0.mk hbox; have GW917 := Aside0.mk ((by rw [hg]; exact (below_size HB.out) : w.heap.size ≤ gb917)); have GE917 := Aside0.mk ((by rw [hg]; exact (below_size HB.out) : w.heap.size ≤ gb917)); replace HB := Aside0.mk (below_step HB.out hb); clear hb hbox hg; obtain ⟨Ao13, co13, eo13⟩ := Kd.R_slice HO912.out; subst eo13; have hcz14_0 : w12.cell? ⟨gb917, 0, none⟩ = some (.slice none 0 0) := (blk_cell BK917.out 0).trans rfl; have hcz14_1 : w12.cell? ⟨gb917, 1, none⟩ = some (.slice none 0 0) := (blk_cell BK917.out 1).trans rfl; have hfz14_0 := blk_frozen BK917.out 0; have hfz14_1 := blk_frozen BK917.out 1; obtain ⟨Ao15, co15, eo15⟩ := Kd.R_slice HO915.out; subst eo15))
  go_ret2
  exact ⟨by first | rfl | (simp [*, errW_none, errW_some] <;> rfl), by repeat (first | (with_reducible first | exact HB.out | refine below_set ?_ GE917.out))⟩


def impl_SetSame.f (k : Nat) (a0 : ByteArray) (a1 : ByteArray) : Option (Bool) := (impl_SetTidy.f k a0).bind fun bt920 => ((impl_SetTidy.f k a1).bind fun bt922 => (if bt920.2 = true then (if bt922.2 = true then (some (bt920.1.toList == bt922.1.toList)) else (some false)) else (some false)))
theorem impl_SetSame.mono : ∀ a0 a1 k, LeO (impl_SetSame.f k a0 a1) (impl_SetSame.f (k + 1) a0 a1) := by
 intro a0 a1 k
 unfold impl_SetSame.f
 repeat' first | (with_reducible exact impl_SetTidy.mono _ _) | (with_reducible exact LeO.refl _) | (with_reducible refine LeO.bind ?_ (fun _ => ?_))
set_option maxHeartbeats 8000000 in
set_option maxRecDepth 100000 in
theorem impl_SetSame.calls (k : Nat) (a0 : ByteArray) (a1 : ByteArray) (r : Bool) (w : World) (h : impl_SetSame.f k a0 a1 = some r) :
  Calls Try.prog 38 #[.string a0, .string a1] w fun e w' => e = .returned (.bool r) ∧ Below w.heap.size w w' := by
 have HB := Aside0.mk (Below.refl w.heap.size w)
 have H : ((impl_SetTidy.f k a0).bind fun bt920 => ((impl_SetTidy.f k a1).bind fun bt922 => (if bt920.2 = true then (if bt922.2 = true then (some (bt920.1.toList == bt922.1.toList)) else (some false)) else (some false)))) = some r := h
 clear h
 replace H := Option.bind_eq_some_iff.mp H
 obtain ⟨⟨t920, t921⟩, A30, H⟩ := H
 replace H : ((impl_SetTidy.f k a1).bind fun bt922 => (if t921 = true then (if bt922.2 = true then (some (t920.toList == bt922.1.toList)) else (some false)) else (some false))) = some r := H
 have A3 := Aside0.mk A30
 clear A30
 replace H := Option.bind_eq_some_iff.mp H
 obtain ⟨⟨t922, t923⟩, A40, H⟩ := H
 replace H : (if t921 = true then (if t923 = true then (some (t920.toList == t922.toList)) else (some false)) else (some false)) = some r := H
 have A4 := Aside0.mk A40
 clear A40
 by_cases c5 : t921 = true
 ·subst c5
  replace H : (if t923 = true then (some (t920.toList == t922.toList)) else (some false)) = some r := by rw [if_pos rfl] at H; exact H
  by_cases c6 : t923 = true
  all_goals
   first
   |replace c6 := Bool.eq_false_iff.mpr c6
   |skip
   subst c6
   first
   |replace H : (some (t920.toList == t922.toList)) = some r := by rw [if_pos rfl] at H; exact H
   |replace H : (some false) = some r := by rw [if_neg (show ¬ (false = true) by decide)] at H; exact H
   obtain rfl := Option.some.inj H
   go_enter Try.func38, Try.ntmps38
   go_wp2_with (first | ((with_reducible refine gate_callee (f := 45) rfl ?_); refine goesL_ (some 11) rfl rfl Try.func45 (by kernel_rfl) rfl #[.string a0] rfl (by (try simp only [List.map_toArray, List.map_cons, List.map_nil]); rfl) ?_; (with_reducible refine (impl_SetTidy.calls k a0 t920 true _ A3.out).mono ?_); rintro e w7 ⟨rfl, hb⟩; refine ⟨_, rfl, ?_⟩; replace HB := Aside0.mk (below_step HB.out hb); (try clear hb)) | ((with_reducible refine gate_callee (f := 45) rfl ?_); refine goesL_ (some 16) rfl rfl Try.func45 (by kernel_rfl) rfl #[.string a1] rfl (by (try simp only [List.map_toArray, List.map_cons, List.map_nil]); rfl) ?_; (with_reducible refine (impl_SetTidy.calls k a1 t922 _ _ A4.out).mono ?_); rintro e w8 ⟨rfl, hb⟩; refine ⟨_, rfl, ?_⟩; replace HB := Aside0.mk (below_step HB.out hb); (try clear hb)))
   go_ret
   exact ⟨by first | rfl | (simp [*, errW_none, errW_some] <;> rfl), HB.out⟩
 ·replace c5 := Bool.eq_false_iff.mpr c5
  subst c5
  replace H : (some false) = some r := by rw [if_neg (show ¬ (false = true) by decide)] at H; exact H
  obtain rfl := Option.some.inj H
  go_enter Try.func38, Try.ntmps38
  go_wp2_with (first | ((with_reducible refine gate_callee (f := 45) rfl ?_); refine goesL_ (some 11) rfl rfl Try.func45 (by kernel_rfl) rfl #[.string a0] rfl (by (try simp only [List.map_toArray, List.map_cons, List.map_nil]); rfl) ?_; (with_reducible refine (impl_SetTidy.calls k a0 t920 false _ A3.out).mono ?_); rintro e w11 ⟨rfl, hb⟩; refine ⟨_, rfl, ?_⟩; replace HB := Aside0.mk (below_step HB.out hb); (try clear hb)) | ((with_reducible refine gate_callee (f := 45) rfl ?_); refine goesL_ (some 16) rfl rfl Try.func45 (by kernel_rfl) rfl #[.string a1] rfl (by (try simp only [List.map_toArray, List.map_cons, List.map_nil]); rfl) ?_; (with_reducible refine (impl_SetTidy.calls k a1 t922 t923 _ A4.out).mono ?_); rintro e w12 ⟨rfl, hb⟩; refine ⟨_, rfl, ?_⟩; replace HB := Aside0.mk (below_step HB.out hb); (try clear hb)))
  go_ret
  exact ⟨by first | rfl | (simp [*, errW_none, errW_some] <;> rfl), HB.out⟩


mutual
def laws_FnSumTimes.j0 : Nat → ByteArray → Int → ByteArray → Bool → Bool → Option (Bool)
 | 0, _, _, _, _, _ => none
 | k + 1, x3, x4, x5, x6, x9 => if x9 = true then (laws_FnSumTimes.j1 k x3 x4 x5 x9 (!x6)) else (laws_FnSumTimes.j1 k x3 x4 x5 x9 true)
def laws_FnSumTimes.j1 : Nat → ByteArray → Int → ByteArray → Bool → Bool → Option (Bool)
 | 0, _, _, _, _, _ => none
 | k + 1, x3, x4, x5, x9, x49 => if x49 = true then (some x9) else ((impl_SumTimes.f k x3 (wrap64 (x4 - 1))).bind fun bt930 => ((impl_SumOf.f k bt930.1 x3).bind fun bt932 => ((impl_SetOf.f k (([0] : List Int))).bind fun bt937 => (if bt930.2 = true then (if bt932.2 = true then (if bt932.1.toList = x5.toList then (if x4 = 0 then (if x5.toList = bt937.1.toList then (if x4 = 1 then ((impl_SetSame.f k x5 x3).bind fun t939 => (some t939)) else (some true)) else (some false)) else (if x4 = 1 then ((impl_SetSame.f k x5 x3).bind fun t940 => (some t940)) else (some true))) else (some false)) else (if x4 = 0 then (if x5.toList = bt937.1.toList then (if x4 = 1 then ((impl_SetSame.f k x5 x3).bind fun t941 => (some t941)) else (some true)) else (some false)) else (if x4 = 1 then ((impl_SetSame.f k x5 x3).bind fun t942 => (some t942)) else (some true)))) else (if x4 = 0 then (if x5.toList = bt937.1.toList then (if x4 = 1 then ((impl_SetSame.f k x5 x3).bind fun t943 => (some t943)) else (some true)) else (some false)) else (if x4 = 1 then ((impl_SetSame.f k x5 x3).bind fun t944 => (some t944)) else (some true)))))))
end
def laws_FnSumTimes.f (k : Nat) (l0 : List Int) : Option (Bool) := if (l0.length : Int) > 1048576 then (some true) else ((spec_DrawSumTimes.f k l0).bind fun bt924 => ((impl_SumTimes.f k bt924.1 bt924.2).bind fun bt926 => ((spec_SumTimes.f k bt924.1 bt924.2).bind fun bt928 => (if bt926.1.toList = bt928.1.toList then (laws_FnSumTimes.j0 k bt924.1 bt924.2 bt926.1 bt926.2 (bt926.2 == bt928.2)) else (laws_FnSumTimes.j0 k bt924.1 bt924.2 bt926.1 bt926.2 false)))))
theorem laws_FnSumTimes.mono_l : ∀ k, (∀ y0 y1 y2 y3 y4, LeO (laws_FnSumTimes.j0 k y0 y1 y2 y3 y4) (laws_FnSumTimes.j0 (k + 1) y0 y1 y2 y3 y4)) ∧ (∀ y0 y1 y2 y3 y4, LeO (laws_FnSumTimes.j1 k y0 y1 y2 y3 y4) (laws_FnSumTimes.j1 (k + 1) y0 y1 y2 y3 y4))
 | 0 => ⟨fun _ _ _ _ _ r h => by simp [laws_FnSumTimes.j0] at h, fun _ _ _ _ _ r h => by simp [laws_FnSumTimes.j1] at h⟩
 | k + 1 => by
  obtain ⟨ih0, ih1⟩ := laws_FnSumTimes.mono_l k
  refine ⟨?_, ?_⟩
  ·intro y0 y1 y2 y3 y4
   unfold laws_FnSumTimes.j0
   repeat' first | (with_reducible exact ih1 _ _ _ _ _) | (with_reducible refine LeO.ite ?_ ?_)
  ·intro y0 y1 y2 y3 y4
   unfold laws_FnSumTimes.j1
   repeat' first | (with_reducible exact impl_SetOf.mono _ _) | (with_reducible exact impl_SetSame.mono _ _ _) | (with_reducible exact impl_SumOf.mono _ _ _) | (with_reducible exact impl_SumTimes.mono _ _ _) | (with_reducible exact LeO.refl _) | (with_reducible refine LeO.ite ?_ ?_) | (with_reducible refine LeO.bind ?_ (fun _ => ?_))
theorem laws_FnSumTimes.mono : ∀ a0 k, LeO (laws_FnSumTimes.f k a0) (laws_FnSumTimes.f (k + 1) a0) := by
 intro a0 k
 obtain ⟨ih0, ih1⟩ := laws_FnSumTimes.mono_l k
 unfold laws_FnSumTimes.f
 repeat' first | (with_reducible exact ih0 _ _ _ _ _) | (with_reducible exact impl_SumTimes.mono _ _ _) | (with_reducible exact spec_DrawSumTimes.mono _ _) | (with_reducible exact spec_SumTimes.mono _ _ _) | (with_reducible exact LeO.refl _) | (with_reducible refine LeO.ite ?_ ?_) | (with_reducible refine LeO.bind ?_ (fun _ => ?_))
set_option maxHeartbeats 8000000 in
set_option maxRecDepth 100000 in
theorem laws_FnSumTimes.calls (k : Nat) (A0 : Option Addr) (c0 : Nat) (l0 : List Int) (r : Bool) (w : World) (hr0 : Kd.C (Kd.int .u8) w A0 l0.length l0) (hc0 : l0.length ≤ c0) (h : laws_FnSumTimes.f k l0 = some r) :
  Calls Try.prog 8 #[.slice A0 l0.length c0] w fun e w' => e = .returned (.bool r) ∧ Below w.heap.size w w' := by
 have HR0 := Aside0.mk hr0
 have HC0 := Aside0.mk hc0
 clear hr0 hc0
 have HB := Aside0.mk (Below.refl w.heap.size w)
 have H : (if (l0.length : Int) > 1048576 then (some true) else ((spec_DrawSumTimes.f k l0).bind fun bt924 => ((impl_SumTimes.f k bt924.1 bt924.2).bind fun bt926 => ((spec_SumTimes.f k bt924.1 bt924.2).bind fun bt928 => (if bt926.1.toList = bt928.1.toList then (laws_FnSumTimes.j0 k bt924.1 bt924.2 bt926.1 bt926.2 (bt926.2 == bt928.2)) else (laws_FnSumTimes.j0 k bt924.1 bt924.2 bt926.1 bt926.2 false)))))) = some r := h
 clear h
 by_cases c2 : (l0.length : Int) > 1048576
 ·rw [if_pos c2] at H
  have c2b0 : decide (1048576 < (l0.length : Int)) = true := decide_eq_true c2
  have c2b1 : decide (1048576 < l0.length) = true := decide_eq_true (by omega)
  clear c2
  obtain rfl := Option.some.inj H
  go_enter Try.func8, Try.ntmps8
  go_wp2
  go_ret
  exact ⟨by first | rfl | (simp [*, errW_none, errW_some] <;> rfl), HB.out⟩
 ·rw [if_neg c2] at H
  have c2b0 : decide (1048576 < (l0.length : Int)) = false := decide_eq_false c2
  have c2b1 : decide (1048576 < l0.length) = false := decide_eq_false (by omega)
  clear c2
  replace H := Option.bind_eq_some_iff.mp H
  obtain ⟨⟨t924, t925⟩, A30, H⟩ := H
  replace H : ((impl_SumTimes.f k t924 t925).bind fun bt926 => ((spec_SumTimes.f k t924 t925).bind fun bt928 => (if bt926.1.toList = bt928.1.toList then (laws_FnSumTimes.j0 k t924 t925 bt926.1 bt926.2 (bt926.2 == bt928.2)) else (laws_FnSumTimes.j0 k t924 t925 bt926.1 bt926.2 false)))) = some r := H
  have A3 := Aside0.mk A30
  clear A30
  replace H := Option.bind_eq_some_iff.mp H
  obtain ⟨⟨t926, t927⟩, A40, H⟩ := H
  replace H : ((spec_SumTimes.f k t924 t925).bind fun bt928 => (if t926.toList = bt928.1.toList then (laws_FnSumTimes.j0 k t924 t925 t926 t927 (t927 == bt928.2)) else (laws_FnSumTimes.j0 k t924 t925 t926 t927 false))) = some r := H
  have A4 := Aside0.mk A40
  clear A40
  replace H := Option.bind_eq_some_iff.mp H
  obtain ⟨⟨t928, t929⟩, A50, H⟩ := H
  replace H : (if t926.toList = t928.toList then (laws_FnSumTimes.j0 k t924 t925 t926 t927 (t927 == t929)) else (laws_FnSumTimes.j0 k t924 t925 t926 t927 false)) = some r := H
  have A5 := Aside0.mk A50
  clear A50
  have HC6 := Aside0.mk H
  clear H
  go_enter Try.func8, Try.ntmps8
  go_upto_region 6 with (first | ((with_reducible refine gate_callee (f := 34) rfl ?_); refine goesL_ (some 21) rfl rfl Try.func34 (by kernel_rfl) rfl #[.slice A0 l0.length c0] rfl (by (try simp only [List.map_toArray, List.map_cons, List.map_nil]); rfl) ?_; (with_reducible refine (spec_DrawSumTimes.calls k _ _ l0 t924 t925 _ ?side1 ?side2 A3.out).mono ?_); (case side1 => repeat (exact HR0.out)); (case side2 => exact HC0.out); rintro e w7 ⟨rfl, hb⟩; refine ⟨_, rfl, ?_⟩; replace HB := Aside0.mk (below_step HB.out hb); (try clear hb)) | ((with_reducible refine gate_callee (f := 35) rfl ?_); refine goesL_ (some 27) rfl rfl Try.func35 (by kernel_rfl) rfl #[.string t924, .int .i64 t925] rfl (by (try simp only [List.map_toArray, List.map_cons, List.map_nil]); rfl) ?_; (with_reducible refine (impl_SumTimes.calls k t924 t925 t926 t927 _ A4.out).mono ?_); rintro e w8 ⟨rfl, hb⟩; refine ⟨_, rfl, ?_⟩; replace HB := Aside0.mk (below_step HB.out hb); (try clear hb)) | ((with_reducible refine gate_callee (f := 36) rfl ?_); refine goesL_ (some 33) rfl rfl Try.func36 (by kernel_rfl) rfl #[.string t924, .int .i64 t925] rfl (by (try simp only [List.map_toArray, List.map_cons, List.map_nil]); rfl) ?_; (with_reducible refine (spec_SumTimes.calls k t924 t925 t928 t929 _ A5.out).mono ?_); rintro e w9 ⟨rfl, hb⟩; refine ⟨_, rfl, ?_⟩; replace HB := Aside0.mk (below_step HB.out hb); (try clear hb)))
  go_cut [9] (fun v9 wc => ∃ (kq : Nat) (x9_5 : Bool), v9 = .bool x9_5 ∧ Aside0 (laws_FnSumTimes.j0 kq t924 t925 t926 t927 x9_5 = some r) ∧ Aside0 (kq ≤ k) ∧ Aside0 (Below w.heap.size w wc))
  case first =>
   have H := HC6.out
   clear HC6
   by_cases c10 : t926.toList = t928.toList
   ·rw [if_pos c10] at H
    have c10b0 : (t926.toList == t928.toList) = true := beq_iff_eq.mpr c10
    have c10b1 : (t926.toList != t928.toList) = false := bne_eq_false_iff_eq.mpr c10
    clear c10
    have H' := Aside0.mk H
    clear H
    go_wp2
    go_meet
    case rel => exact ⟨_, ((t927 == t929)), (by rfl), H', ⟨by omega⟩, ⟨HB.out⟩⟩
   ·rw [if_neg c10] at H
    have c10b0 : (t926.toList == t928.toList) = false := beq_eq_false_iff_ne.mpr c10
    have c10b1 : (t926.toList != t928.toList) = true := bne_iff_ne.mpr c10
    have H' := Aside0.mk H
    clear H
    go_wp2
    go_meet
    case rel => exact ⟨_, (false), (by rfl), H', ⟨by omega⟩, ⟨HB.out⟩⟩
  case rest =>
   clear HC6
   try clear c2b0
   try clear c2b1
   obtain ⟨kq, x9_5, rfl, HA, HJ5, HB⟩ := hcut
   cases kq with
   | zero => exact absurd HA.out (by simp [laws_FnSumTimes.j0])
   | succ kj5 =>
    have H := HA.out
    clear HA
    simp only [laws_FnSumTimes.j0] at H
    have HC11 := Aside0.mk H
    clear H
    go_upto_region 7 with (fail)
    go_cut [49] (fun v49 wc => ∃ (kq : Nat) (x49_10 : Bool), v49 = .bool x49_10 ∧ Aside0 (laws_FnSumTimes.j1 kq t924 t925 t926 x9_5 x49_10 = some r) ∧ Aside0 (kq ≤ kj5) ∧ Aside0 (Below w.heap.size w wc))
    case first =>
     have H := HC11.out
     clear HC11
     by_cases c12 : x9_5 = true
     ·subst c12
      replace H : (laws_FnSumTimes.j1 kj5 t924 t925 t926 true (!t927)) = some r := by rw [if_pos rfl] at H; exact H
      have H' := Aside0.mk H
      clear H
      go_wp2
      go_meet
      case rel => exact ⟨_, (!t927), (by rfl), H', ⟨by have := HJ5.out; omega⟩, ⟨HB.out⟩⟩
     ·replace c12 := Bool.eq_false_iff.mpr c12
      subst c12
      replace H : (laws_FnSumTimes.j1 kj5 t924 t925 t926 false true) = some r := by rw [if_neg (show ¬ (false = true) by decide)] at H; exact H
      have H' := Aside0.mk H
      clear H
      go_wp2
      go_meet
      case rel => exact ⟨_, (true), (by rfl), H', ⟨by have := HJ5.out; omega⟩, ⟨HB.out⟩⟩
    case rest =>
     clear HC11
     obtain ⟨kq, x49_10, rfl, HA, HJ10, HB⟩ := hcut
     cases kq with
     | zero => exact absurd HA.out (by simp [laws_FnSumTimes.j1])
     | succ kj10 =>
      have H := HA.out
      clear HA
      simp only [laws_FnSumTimes.j1] at H
      by_cases c13 : x49_10 = true
      ·subst c13
       replace H : (some x9_5) = some r := by rw [if_pos rfl] at H; exact H
       obtain rfl := Option.some.inj H
       go_wp2
       go_ret
       exact ⟨by first | rfl | (simp [*, errW_none, errW_some] <;> rfl), HB.out⟩
      ·replace c13 := Bool.eq_false_iff.mpr c13
       subst c13
       replace H : ((impl_SumTimes.f kj10 t924 (wrap64 (t925 - 1))).bind fun bt930 => ((impl_SumOf.f kj10 bt930.1 t924).bind fun bt932 => ((impl_SetOf.f kj10 (([0] : List Int))).bind fun bt937 => (if bt930.2 = true then (if bt932.2 = true then (if bt932.1.toList = t926.toList then (if t925 = 0 then (if t926.toList = bt937.1.toList then (if t925 = 1 then ((impl_SetSame.f kj10 t926 t924).bind fun t939 => (some t939)) else (some true)) else (some false)) else (if t925 = 1 then ((impl_SetSame.f kj10 t926 t924).bind fun t940 => (some t940)) else (some true))) else (some false)) else (if t925 = 0 then (if t926.toList = bt937.1.toList then (if t925 = 1 then ((impl_SetSame.f kj10 t926 t924).bind fun t941 => (some t941)) else (some true)) else (some false)) else (if t925 = 1 then ((impl_SetSame.f kj10 t926 t924).bind fun t942 => (some t942)) else (some true)))) else (if t925 = 0 then (if t926.toList = bt937.1.toList then (if t925 = 1 then ((impl_SetSame.f kj10 t926 t924).bind fun t943 => (some t943)) else (some true)) else (some false)) else (if t925 = 1 then ((impl_SetSame.f kj10 t926 t924).bind fun t944 => (some t944)) else (some true))))))) = some r := by rw [if_neg (show ¬ (false = true) by decide)] at H; exact H
       replace H := Option.bind_eq_some_iff.mp H
       obtain ⟨⟨t930, t931⟩, A140, H⟩ := H
       replace H : ((impl_SumOf.f kj10 t930 t924).bind fun bt932 => ((impl_SetOf.f kj10 (([0] : List Int))).bind fun bt937 => (if t931 = true then (if bt932.2 = true then (if bt932.1.toList = t926.toList then (if t925 = 0 then (if t926.toList = bt937.1.toList then (if t925 = 1 then ((impl_SetSame.f kj10 t926 t924).bind fun t939 => (some t939)) else (some true)) else (some false)) else (if t925 = 1 then ((impl_SetSame.f kj10 t926 t924).bind fun t940 => (some t940)) else (some true))) else (some false)) else (if t925 = 0 then (if t926.toList = bt937.1.toList then (if t925 = 1 then ((impl_SetSame.f kj10 t926 t924).bind fun t941 => (some t941)) else (some true)) else (some false)) else (if t925 = 1 then ((impl_SetSame.f kj10 t926 t924).bind fun t942 => (some t942)) else (some true)))) else (if t925 = 0 then (if t926.toList = bt937.1.toList then (if t925 = 1 then ((impl_SetSame.f kj10 t926 t924).bind fun t943 => (some t943)) else (some true)) else (some false)) else (if t925 = 1 then ((impl_SetSame.f kj10 t926 t924).bind fun t944 => (some t944)) else (some true)))))) = some r := H
       have A14 := Aside0.mk A140
       clear A140
       replace H := Option.bind_eq_some_iff.mp H
       obtain ⟨⟨t932, t933⟩, A150, H⟩ := H
       replace H : ((impl_SetOf.f kj10 (([0] : List Int))).bind fun bt937 => (if t931 = true then (if t933 = true then (if t932.toList = t926.toList then (if t925 = 0 then (if t926.toList = bt937.1.toList then (if t925 = 1 then ((impl_SetSame.f kj10 t926 t924).bind fun t939 => (some t939)) else (some true)) else (some false)) else (if t925 = 1 then ((impl_SetSame.f kj10 t926 t924).bind fun t940 => (some t940)) else (some true))) else (some false)) else (if t925 = 0 then (if t926.toList = bt937.1.toList then (if t925 = 1 then ((impl_SetSame.f kj10 t926 t924).bind fun t941 => (some t941)) else (some true)) else (some false)) else (if t925 = 1 then ((impl_SetSame.f kj10 t926 t924).bind fun t942 => (some t942)) else (some true)))) else (if t925 = 0 then (if t926.toList = bt937.1.toList then (if t925 = 1 then ((impl_SetSame.f kj10 t926 t924).bind fun t943 => (some t943)) else (some true)) else (some false)) else (if t925 = 1 then ((impl_SetSame.f kj10 t926 t924).bind fun t944 => (some t944)) else (some true))))) = some r := H
       have A15 := Aside0.mk A150
       clear A150
       obtain ⟨y934, hy934⟩ : ∃ y_ : List Int, y_ = (([0] : List Int)) := ⟨_, rfl⟩
       replace H : ((impl_SetOf.f kj10 y934).bind fun bt937 => (if t931 = true then (if t933 = true then (if t932.toList = t926.toList then (if t925 = 0 then (if t926.toList = bt937.1.toList then (if t925 = 1 then ((impl_SetSame.f kj10 t926 t924).bind fun t939 => (some t939)) else (some true)) else (some false)) else (if t925 = 1 then ((impl_SetSame.f kj10 t926 t924).bind fun t940 => (some t940)) else (some true))) else (some false)) else (if t925 = 0 then (if t926.toList = bt937.1.toList then (if t925 = 1 then ((impl_SetSame.f kj10 t926 t924).bind fun t941 => (some t941)) else (some true)) else (some false)) else (if t925 = 1 then ((impl_SetSame.f kj10 t926 t924).bind fun t942 => (some t942)) else (some true)))) else (if t925 = 0 then (if t926.toList = bt937.1.toList then (if t925 = 1 then ((impl_SetSame.f kj10 t926 t924).bind fun t943 => (some t943)) else (some true)) else (some false)) else (if t925 = 1 then ((impl_SetSame.f kj10 t926 t924).bind fun t944 => (some t944)) else (some true))))) = some r := by first | (rw [hy934]; with_reducible exact H)
       have Ny934 := Aside0.mk hy934
       clear hy934
       replace H := Option.bind_eq_some_iff.mp H
       obtain ⟨⟨t937, t938⟩, A160, H⟩ := H
       replace H : (if t931 = true then (if t933 = true then (if t932.toList = t926.toList then (if t925 = 0 then (if t926.toList = t937.toList then (if t925 = 1 then ((impl_SetSame.f kj10 t926 t924).bind fun t939 => (some t939)) else (some true)) else (some false)) else (if t925 = 1 then ((impl_SetSame.f kj10 t926 t924).bind fun t940 => (some t940)) else (some true))) else (some false)) else (if t925 = 0 then (if t926.toList = t937.toList then (if t925 = 1 then ((impl_SetSame.f kj10 t926 t924).bind fun t941 => (some t941)) else (some true)) else (some false)) else (if t925 = 1 then ((impl_SetSame.f kj10 t926 t924).bind fun t942 => (some t942)) else (some true)))) else (if t925 = 0 then (if t926.toList = t937.toList then (if t925 = 1 then ((impl_SetSame.f kj10 t926 t924).bind fun t943 => (some t943)) else (some true)) else (some false)) else (if t925 = 1 then ((impl_SetSame.f kj10 t926 t924).bind fun t944 => (some t944)) else (some true)))) = some r := H
       have A16 := Aside0.mk A160
       clear A160
       by_cases c17 : t931 = true
       ·subst c17
        replace H : (if t933 = true then (if t932.toList = t926.toList then (if t925 = 0 then (if t926.toList = t937.toList then (if t925 = 1 then ((impl_SetSame.f kj10 t926 t924).bind fun t939 => (some t939)) else (some true)) else (some false)) else (if t925 = 1 then ((impl_SetSame.f kj10 t926 t924).bind fun t940 => (some t940)) else (some true))) else (some false)) else (if t925 = 0 then (if t926.toList = t937.toList then (if t925 = 1 then ((impl_SetSame.f kj10 t926 t924).bind fun t941 => (some t941)) else (some true)) else (some false)) else (if t925 = 1 then ((impl_SetSame.f kj10 t926 t924).bind fun t942 => (some t942)) else (some true)))) = some r := by rw [if_pos rfl] at H; exact H
        by_cases c18 : t933 = true
        ·subst c18
         replace H : (if t932.toList = t926.toList then (if t925 = 0 then (if t926.toList = t937.toList then (if t925 = 1 then ((impl_SetSame.f kj10 t926 t924).bind fun t939 => (some t939)) else (some true)) else (some false)) else (if t925 = 1 then ((impl_SetSame.f kj10 t926 t924).bind fun t940 => (some t940)) else (some true))) else (some false)) = some r := by rw [if_pos rfl] at H; exact H
         by_cases c19 : t932.toList = t926.toList
         ·rw [if_pos c19] at H
          have c19b0 : (t932.toList == t926.toList) = true := beq_iff_eq.mpr c19
          have c19b1 : (t932.toList != t926.toList) = false := bne_eq_false_iff_eq.mpr c19
          clear c19
          by_cases c20 : t925 = 0
          ·rw [if_pos c20] at H
           have c20b0 : (t925 == 0) = true := beq_iff_eq.mpr c20
           have c20b1 : (t925 != 0) = false := bne_eq_false_iff_eq.mpr c20
           clear c20
           by_cases c21 : t926.toList = t937.toList
           ·rw [if_pos c21] at H
            have c21b0 : (t926.toList == t937.toList) = true := beq_iff_eq.mpr c21
            have c21b1 : (t926.toList != t937.toList) = false := bne_eq_false_iff_eq.mpr c21
            clear c21
            by_cases c22 : t925 = 1
            ·rw [if_pos c22] at H
             have c22b0 : (t925 == 1) = true := beq_iff_eq.mpr c22
             have c22b1 : (t925 != 1) = false := bne_eq_false_iff_eq.mpr c22
             clear c22
             replace H := Option.bind_eq_some_iff.mp H
             obtain ⟨t939, A230, H⟩ := H
             replace H : (some t939) = some r := H
             have A23 := Aside0.mk A230
             clear A230
             obtain rfl := Option.some.inj H
             go_wp2_with (first | ((with_reducible refine gate_callee (f := 35) rfl ?_); refine goesL_ (some 55) rfl rfl Try.func35 (by kernel_rfl) rfl #[.string t924, .int .i64 (wrap64 (t925 - 1))] rfl (by (try simp only [List.map_toArray, List.map_cons, List.map_nil]); rfl) ?_; (with_reducible refine (impl_SumTimes.calls kj10 t924 (wrap64 (t925 - 1)) t930 true _ A14.out).mono ?_); rintro e w24 ⟨rfl, hb⟩; refine ⟨_, rfl, ?_⟩; replace HB := Aside0.mk (below_step HB.out hb); (try clear hb)) | ((with_reducible refine gate_callee (f := 37) rfl ?_); refine goesL_ (some 61) rfl rfl Try.func37 (by kernel_rfl) rfl #[.string t930, .string t924] rfl (by (try simp only [List.map_toArray, List.map_cons, List.map_nil]); rfl) ?_; (with_reducible refine (impl_SumOf.calls kj10 t930 t924 t932 true _ A15.out).mono ?_); rintro e w25 ⟨rfl, hb⟩; refine ⟨_, rfl, ?_⟩; replace HB := Aside0.mk (below_step HB.out hb); (try clear hb)) | ((with_reducible refine gate_dst (N := 65) rfl ?_); refine Kd.R_lit (Kd.int .i64) _ 3 ?hg (N := 65) ?hd (xs := ([0] : List Int)) (inner := [.int .i64 0]) (ok := fun _ => True) (okp := fun _ => True) ?hr ?hp (fun _ hk => hk) trivial (Below.refl _ _) (Nat.le_refl _) (by simp) ?_; (case hd => rfl); (case hg => rfl); (case hr => first | (go_simp; done)); (case hp => exact (Reps.one (show Kd.M (Kd.int .i64) _ _ _ 0 [.int .i64 0] from rfl) (Reps.none _ _))); intro v935 w26 ho27 hb hg_ hnew_; clear hg_ hnew_; (rw [← Ny934.out] at ho27); have HO936 := Aside0.mk (Kd.R_lower ho27 (below_size HB.out)); replace HB := Aside0.mk (below_step HB.out hb); clear hb ho27; obtain ⟨Ao28, co28, eo28⟩ := Kd.R_slice HO936.out; subst eo28) | ((with_reducible refine gate_callee (f := 31) rfl ?_); refine goesL_ (some 66) rfl rfl Try.func31 (by kernel_rfl) rfl #[.slice Ao28 y934.length co28] rfl (by (try simp only [List.map_toArray, List.map_cons, List.map_nil]); rfl) ?_; (with_reducible refine (impl_SetOf.calls kj10 _ _ y934 t937 t938 _ ?side1 ?side2 A16.out).mono ?_); (case side1 => repeat (exact (Kd.R_reads' HO936.out).2.2)); (case side2 => exact (Kd.R_reads' HO936.out).2.1); rintro e w29 ⟨rfl, hb⟩; refine ⟨_, rfl, ?_⟩; replace HO936 := Aside0.mk (Kd.R_below HO936.out hb); replace HB := Aside0.mk (below_step HB.out hb); (try clear hb)) | (go_at_call 38; (with_reducible refine (impl_SetSame.calls kj10 t926 t924 t939 _ A23.out).mono ?_); rintro e w30 ⟨rfl, hb⟩; replace HO936 := Aside0.mk (Kd.R_below HO936.out hb); replace HB := Aside0.mk (below_step HB.out hb); (try clear hb)))
             go_ret
             exact ⟨by first | rfl | (simp [*, errW_none, errW_some] <;> rfl), HB.out⟩
            ·rw [if_neg c22] at H
             have c22b0 : (t925 == 1) = false := beq_eq_false_iff_ne.mpr c22
             have c22b1 : (t925 != 1) = true := bne_iff_ne.mpr c22
             obtain rfl := Option.some.inj H
             go_wp2_with (first | ((with_reducible refine gate_callee (f := 35) rfl ?_); refine goesL_ (some 55) rfl rfl Try.func35 (by kernel_rfl) rfl #[.string t924, .int .i64 (wrap64 (t925 - 1))] rfl (by (try simp only [List.map_toArray, List.map_cons, List.map_nil]); rfl) ?_; (with_reducible refine (impl_SumTimes.calls kj10 t924 (wrap64 (t925 - 1)) t930 true _ A14.out).mono ?_); rintro e w31 ⟨rfl, hb⟩; refine ⟨_, rfl, ?_⟩; replace HB := Aside0.mk (below_step HB.out hb); (try clear hb)) | ((with_reducible refine gate_callee (f := 37) rfl ?_); refine goesL_ (some 61) rfl rfl Try.func37 (by kernel_rfl) rfl #[.string t930, .string t924] rfl (by (try simp only [List.map_toArray, List.map_cons, List.map_nil]); rfl) ?_; (with_reducible refine (impl_SumOf.calls kj10 t930 t924 t932 true _ A15.out).mono ?_); rintro e w32 ⟨rfl, hb⟩; refine ⟨_, rfl, ?_⟩; replace HB := Aside0.mk (below_step HB.out hb); (try clear hb)) | ((with_reducible refine gate_dst (N := 65) rfl ?_); refine Kd.R_lit (Kd.int .i64) _ 3 ?hg (N := 65) ?hd (xs := ([0] : List Int)) (inner := [.int .i64 0]) (ok := fun _ => True) (okp := fun _ => True) ?hr ?hp (fun _ hk => hk) trivial (Below.refl _ _) (Nat.le_refl _) (by simp) ?_; (case hd => rfl); (case hg => rfl); (case hr => first | (go_simp; done)); (case hp => exact (Reps.one (show Kd.M (Kd.int .i64) _ _ _ 0 [.int .i64 0] from rfl) (Reps.none _ _))); intro v935 w33 ho34 hb hg_ hnew_; clear hg_ hnew_; (rw [← Ny934.out] at ho34); have HO936 := Aside0.mk (Kd.R_lower ho34 (below_size HB.out)); replace HB := Aside0.mk (below_step HB.out hb); clear hb ho34; obtain ⟨Ao35, co35, eo35⟩ := Kd.R_slice HO936.out; subst eo35) | ((with_reducible refine gate_callee (f := 31) rfl ?_); refine goesL_ (some 66) rfl rfl Try.func31 (by kernel_rfl) rfl #[.slice Ao35 y934.length co35] rfl (by (try simp only [List.map_toArray, List.map_cons, List.map_nil]); rfl) ?_; (with_reducible refine (impl_SetOf.calls kj10 _ _ y934 t937 t938 _ ?side1 ?side2 A16.out).mono ?_); (case side1 => repeat (exact (Kd.R_reads' HO936.out).2.2)); (case side2 => exact (Kd.R_reads' HO936.out).2.1); rintro e w36 ⟨rfl, hb⟩; refine ⟨_, rfl, ?_⟩; replace HO936 := Aside0.mk (Kd.R_below HO936.out hb); replace HB := Aside0.mk (below_step HB.out hb); (try clear hb)))
             go_ret
             exact ⟨by first | rfl | (simp [*, errW_none, errW_some] <;> rfl), HB.out⟩
           ·rw [if_neg c21] at H
            have c21b0 : (t926.toList == t937.toList) = false := beq_eq_false_iff_ne.mpr c21
            have c21b1 : (t926.toList != t937.toList) = true := bne_iff_ne.mpr c21
            obtain rfl := Option.some.inj H
            go_wp2_with (first | ((with_reducible refine gate_callee (f := 35) rfl ?_); refine goesL_ (some 55) rfl rfl Try.func35 (by kernel_rfl) rfl #[.string t924, .int .i64 (wrap64 (t925 - 1))] rfl (by (try simp only [List.map_toArray, List.map_cons, List.map_nil]); rfl) ?_; (with_reducible refine (impl_SumTimes.calls kj10 t924 (wrap64 (t925 - 1)) t930 true _ A14.out).mono ?_); rintro e w37 ⟨rfl, hb⟩; refine ⟨_, rfl, ?_⟩; replace HB := Aside0.mk (below_step HB.out hb); (try clear hb)) | ((with_reducible refine gate_callee (f := 37) rfl ?_); refine goesL_ (some 61) rfl rfl Try.func37 (by kernel_rfl) rfl #[.string t930, .string t924] rfl (by (try simp only [List.map_toArray, List.map_cons, List.map_nil]); rfl) ?_; (with_reducible refine (impl_SumOf.calls kj10 t930 t924 t932 true _ A15.out).mono ?_); rintro e w38 ⟨rfl, hb⟩; refine ⟨_, rfl, ?_⟩; replace HB := Aside0.mk (below_step HB.out hb); (try clear hb)) | ((with_reducible refine gate_dst (N := 65) rfl ?_); refine Kd.R_lit (Kd.int .i64) _ 3 ?hg (N := 65) ?hd (xs := ([0] : List Int)) (inner := [.int .i64 0]) (ok := fun _ => True) (okp := fun _ => True) ?hr ?hp (fun _ hk => hk) trivial (Below.refl _ _) (Nat.le_refl _) (by simp) ?_; (case hd => rfl); (case hg => rfl); (case hr => first | (go_simp; done)); (case hp => exact (Reps.one (show Kd.M (Kd.int .i64) _ _ _ 0 [.int .i64 0] from rfl) (Reps.none _ _))); intro v935 w39 ho40 hb hg_ hnew_; clear hg_ hnew_; (rw [← Ny934.out] at ho40); have HO936 := Aside0.mk (Kd.R_lower ho40 (below_size HB.out)); replace HB := Aside0.mk (below_step HB.out hb); clear hb ho40; obtain ⟨Ao41, co41, eo41⟩ := Kd.R_slice HO936.out; subst eo41) | ((with_reducible refine gate_callee (f := 31) rfl ?_); refine goesL_ (some 66) rfl rfl Try.func31 (by kernel_rfl) rfl #[.slice Ao41 y934.length co41] rfl (by (try simp only [List.map_toArray, List.map_cons, List.map_nil]); rfl) ?_; (with_reducible refine (impl_SetOf.calls kj10 _ _ y934 t937 t938 _ ?side1 ?side2 A16.out).mono ?_); (case side1 => repeat (exact (Kd.R_reads' HO936.out).2.2)); (case side2 => exact (Kd.R_reads' HO936.out).2.1); rintro e w42 ⟨rfl, hb⟩; refine ⟨_, rfl, ?_⟩; replace HO936 := Aside0.mk (Kd.R_below HO936.out hb); replace HB := Aside0.mk (below_step HB.out hb); (try clear hb)))
            go_ret
            exact ⟨by first | rfl | (simp [*, errW_none, errW_some] <;> rfl), HB.out⟩
          ·rw [if_neg c20] at H
           have c20b0 : (t925 == 0) = false := beq_eq_false_iff_ne.mpr c20
           have c20b1 : (t925 != 0) = true := bne_iff_ne.mpr c20
           by_cases c43 : t925 = 1
           ·rw [if_pos c43] at H
            have c43b0 : (t925 == 1) = true := beq_iff_eq.mpr c43
            have c43b1 : (t925 != 1) = false := bne_eq_false_iff_eq.mpr c43
            clear c43
            replace H := Option.bind_eq_some_iff.mp H
            obtain ⟨t940, A440, H⟩ := H
            replace H : (some t940) = some r := H
            have A44 := Aside0.mk A440
            clear A440
            obtain rfl := Option.some.inj H
            go_wp2_with (first | ((with_reducible refine gate_callee (f := 35) rfl ?_); refine goesL_ (some 55) rfl rfl Try.func35 (by kernel_rfl) rfl #[.string t924, .int .i64 (wrap64 (t925 - 1))] rfl (by (try simp only [List.map_toArray, List.map_cons, List.map_nil]); rfl) ?_; (with_reducible refine (impl_SumTimes.calls kj10 t924 (wrap64 (t925 - 1)) t930 true _ A14.out).mono ?_); rintro e w45 ⟨rfl, hb⟩; refine ⟨_, rfl, ?_⟩; replace HB := Aside0.mk (below_step HB.out hb); (try clear hb)) | ((with_reducible refine gate_callee (f := 37) rfl ?_); refine goesL_ (some 61) rfl rfl Try.func37 (by kernel_rfl) rfl #[.string t930, .string t924] rfl (by (try simp only [List.map_toArray, List.map_cons, List.map_nil]); rfl) ?_; (with_reducible refine (impl_SumOf.calls kj10 t930 t924 t932 true _ A15.out).mono ?_); rintro e w46 ⟨rfl, hb⟩; refine ⟨_, rfl, ?_⟩; replace HB := Aside0.mk (below_step HB.out hb); (try clear hb)) | ((with_reducible refine gate_dst (N := 65) rfl ?_); refine Kd.R_lit (Kd.int .i64) _ 3 ?hg (N := 65) ?hd (xs := ([0] : List Int)) (inner := [.int .i64 0]) (ok := fun _ => True) (okp := fun _ => True) ?hr ?hp (fun _ hk => hk) trivial (Below.refl _ _) (Nat.le_refl _) (by simp) ?_; (case hd => rfl); (case hg => rfl); (case hr => first | (go_simp; done)); (case hp => exact (Reps.one (show Kd.M (Kd.int .i64) _ _ _ 0 [.int .i64 0] from rfl) (Reps.none _ _))); intro v935 w47 ho48 hb hg_ hnew_; clear hg_ hnew_; (rw [← Ny934.out] at ho48); have HO936 := Aside0.mk (Kd.R_lower ho48 (below_size HB.out)); replace HB := Aside0.mk (below_step HB.out hb); clear hb ho48; obtain ⟨Ao49, co49, eo49⟩ := Kd.R_slice HO936.out; subst eo49) | ((with_reducible refine gate_callee (f := 31) rfl ?_); refine goesL_ (some 66) rfl rfl Try.func31 (by kernel_rfl) rfl #[.slice Ao49 y934.length co49] rfl (by (try simp only [List.map_toArray, List.map_cons, List.map_nil]); rfl) ?_; (with_reducible refine (impl_SetOf.calls kj10 _ _ y934 t937 t938 _ ?side1 ?side2 A16.out).mono ?_); (case side1 => repeat (exact (Kd.R_reads' HO936.out).2.2)); (case side2 => exact (Kd.R_reads' HO936.out).2.1); rintro e w50 ⟨rfl, hb⟩; refine ⟨_, rfl, ?_⟩; replace HO936 := Aside0.mk (Kd.R_below HO936.out hb); replace HB := Aside0.mk (below_step HB.out hb); (try clear hb)) | (go_at_call 38; (with_reducible refine (impl_SetSame.calls kj10 t926 t924 t940 _ A44.out).mono ?_); rintro e w51 ⟨rfl, hb⟩; replace HO936 := Aside0.mk (Kd.R_below HO936.out hb); replace HB := Aside0.mk (below_step HB.out hb); (try clear hb)))
            go_ret
            exact ⟨by first | rfl | (simp [*, errW_none, errW_some] <;> rfl), HB.out⟩
           ·rw [if_neg c43] at H
            have c43b0 : (t925 == 1) = false := beq_eq_false_iff_ne.mpr c43
            have c43b1 : (t925 != 1) = true := bne_iff_ne.mpr c43
            obtain rfl := Option.some.inj H
            go_wp2_with (first | ((with_reducible refine gate_callee (f := 35) rfl ?_); refine goesL_ (some 55) rfl rfl Try.func35 (by kernel_rfl) rfl #[.string t924, .int .i64 (wrap64 (t925 - 1))] rfl (by (try simp only [List.map_toArray, List.map_cons, List.map_nil]); rfl) ?_; (with_reducible refine (impl_SumTimes.calls kj10 t924 (wrap64 (t925 - 1)) t930 true _ A14.out).mono ?_); rintro e w52 ⟨rfl, hb⟩; refine ⟨_, rfl, ?_⟩; replace HB := Aside0.mk (below_step HB.out hb); (try clear hb)) | ((with_reducible refine gate_callee (f := 37) rfl ?_); refine goesL_ (some 61) rfl rfl Try.func37 (by kernel_rfl) rfl #[.string t930, .string t924] rfl (by (try simp only [List.map_toArray, List.map_cons, List.map_nil]); rfl) ?_; (with_reducible refine (impl_SumOf.calls kj10 t930 t924 t932 true _ A15.out).mono ?_); rintro e w53 ⟨rfl, hb⟩; refine ⟨_, rfl, ?_⟩; replace HB := Aside0.mk (below_step HB.out hb); (try clear hb)) | ((with_reducible refine gate_dst (N := 65) rfl ?_); refine Kd.R_lit (Kd.int .i64) _ 3 ?hg (N := 65) ?hd (xs := ([0] : List Int)) (inner := [.int .i64 0]) (ok := fun _ => True) (okp := fun _ => True) ?hr ?hp (fun _ hk => hk) trivial (Below.refl _ _) (Nat.le_refl _) (by simp) ?_; (case hd => rfl); (case hg => rfl); (case hr => first | (go_simp; done)); (case hp => exact (Reps.one (show Kd.M (Kd.int .i64) _ _ _ 0 [.int .i64 0] from rfl) (Reps.none _ _))); intro v935 w54 ho55 hb hg_ hnew_; clear hg_ hnew_; (rw [← Ny934.out] at ho55); have HO936 := Aside0.mk (Kd.R_lower ho55 (below_size HB.out)); replace HB := Aside0.mk (below_step HB.out hb); clear hb ho55; obtain ⟨Ao56, co56, eo56⟩ := Kd.R_slice HO936.out; subst eo56) | ((with_reducible refine gate_callee (f := 31) rfl ?_); refine goesL_ (some 66) rfl rfl Try.func31 (by kernel_rfl) rfl #[.slice Ao56 y934.length co56] rfl (by (try simp only [List.map_toArray, List.map_cons, List.map_nil]); rfl) ?_; (with_reducible refine (impl_SetOf.calls kj10 _ _ y934 t937 t938 _ ?side1 ?side2 A16.out).mono ?_); (case side1 => repeat (exact (Kd.R_reads' HO936.out).2.2)); (case side2 => exact (Kd.R_reads' HO936.out).2.1); rintro e w57 ⟨rfl, hb⟩; refine ⟨_, rfl, ?_⟩; replace HO936 := Aside0.mk (Kd.R_below HO936.out hb); replace HB := Aside0.mk (below_step HB.out hb); (try clear hb)))
            go_ret
            exact ⟨by first | rfl | (simp [*, errW_none, errW_some] <;> rfl), HB.out⟩
         ·rw [if_neg c19] at H
          have c19b0 : (t932.toList == t926.toList) = false := beq_eq_false_iff_ne.mpr c19
          have c19b1 : (t932.toList != t926.toList) = true := bne_iff_ne.mpr c19
          obtain rfl := Option.some.inj H
          go_wp2_with (first | ((with_reducible refine gate_callee (f := 35) rfl ?_); refine goesL_ (some 55) rfl rfl Try.func35 (by kernel_rfl) rfl #[.string t924, .int .i64 (wrap64 (t925 - 1))] rfl (by (try simp only [List.map_toArray, List.map_cons, List.map_nil]); rfl) ?_; (with_reducible refine (impl_SumTimes.calls kj10 t924 (wrap64 (t925 - 1)) t930 true _ A14.out).mono ?_); rintro e w58 ⟨rfl, hb⟩; refine ⟨_, rfl, ?_⟩; replace HB := Aside0.mk (below_step HB.out hb); (try clear hb)) | ((with_reducible refine gate_callee (f := 37) rfl ?_); refine goesL_ (some 61) rfl rfl Try.func37 (by kernel_rfl) rfl #[.string t930, .string t924] rfl (by (try simp only [List.map_toArray, List.map_cons, List.map_nil]); rfl) ?_; (with_reducible refine (impl_SumOf.calls kj10 t930 t924 t932 true _ A15.out).mono ?_); rintro e w59 ⟨rfl, hb⟩; refine ⟨_, rfl, ?_⟩; replace HB := Aside0.mk (below_step HB.out hb); (try clear hb)) | ((with_reducible refine gate_dst (N := 65) rfl ?_); refine Kd.R_lit (Kd.int .i64) _ 3 ?hg (N := 65) ?hd (xs := ([0] : List Int)) (inner := [.int .i64 0]) (ok := fun _ => True) (okp := fun _ => True) ?hr ?hp (fun _ hk => hk) trivial (Below.refl _ _) (Nat.le_refl _) (by simp) ?_; (case hd => rfl); (case hg => rfl); (case hr => first | (go_simp; done)); (case hp => exact (Reps.one (show Kd.M (Kd.int .i64) _ _ _ 0 [.int .i64 0] from rfl) (Reps.none _ _))); intro v935 w60 ho61 hb hg_ hnew_; clear hg_ hnew_; (rw [← Ny934.out] at ho61); have HO936 := Aside0.mk (Kd.R_lower ho61 (below_size HB.out)); replace HB := Aside0.mk (below_step HB.out hb); clear hb ho61; obtain ⟨Ao62, co62, eo62⟩ := Kd.R_slice HO936.out; subst eo62) | ((with_reducible refine gate_callee (f := 31) rfl ?_); refine goesL_ (some 66) rfl rfl Try.func31 (by kernel_rfl) rfl #[.slice Ao62 y934.length co62] rfl (by (try simp only [List.map_toArray, List.map_cons, List.map_nil]); rfl) ?_; (with_reducible refine (impl_SetOf.calls kj10 _ _ y934 t937 t938 _ ?side1 ?side2 A16.out).mono ?_); (case side1 => repeat (exact (Kd.R_reads' HO936.out).2.2)); (case side2 => exact (Kd.R_reads' HO936.out).2.1); rintro e w63 ⟨rfl, hb⟩; refine ⟨_, rfl, ?_⟩; replace HO936 := Aside0.mk (Kd.R_below HO936.out hb); replace HB := Aside0.mk (below_step HB.out hb); (try clear hb)))
          go_ret
          exact ⟨by first | rfl | (simp [*, errW_none, errW_some] <;> rfl), HB.out⟩
        ·replace c18 := Bool.eq_false_iff.mpr c18
         subst c18
         replace H : (if t925 = 0 then (if t926.toList = t937.toList then (if t925 = 1 then ((impl_SetSame.f kj10 t926 t924).bind fun t941 => (some t941)) else (some true)) else (some false)) else (if t925 = 1 then ((impl_SetSame.f kj10 t926 t924).bind fun t942 => (some t942)) else (some true))) = some r := by rw [if_neg (show ¬ (false = true) by decide)] at H; exact H
         by_cases c64 : t925 = 0
         ·rw [if_pos c64] at H
          have c64b0 : (t925 == 0) = true := beq_iff_eq.mpr c64
          have c64b1 : (t925 != 0) = false := bne_eq_false_iff_eq.mpr c64
          clear c64
          by_cases c65 : t926.toList = t937.toList
          ·rw [if_pos c65] at H
           have c65b0 : (t926.toList == t937.toList) = true := beq_iff_eq.mpr c65
           have c65b1 : (t926.toList != t937.toList) = false := bne_eq_false_iff_eq.mpr c65
           clear c65
           by_cases c66 : t925 = 1
           ·rw [if_pos c66] at H
            have c66b0 : (t925 == 1) = true := beq_iff_eq.mpr c66
            have c66b1 : (t925 != 1) = false := bne_eq_false_iff_eq.mpr c66
            clear c66
            replace H := Option.bind_eq_some_iff.mp H
            obtain ⟨t941, A670, H⟩ := H
            replace H : (some t941) = some r := H
            have A67 := Aside0.mk A670
            clear A670
            obtain rfl := Option.some.inj H
            go_wp2_with (first | ((with_reducible refine gate_callee (f := 35) rfl ?_); refine goesL_ (some 55) rfl rfl Try.func35 (by kernel_rfl) rfl #[.string t924, .int .i64 (wrap64 (t925 - 1))] rfl (by (try simp only [List.map_toArray, List.map_cons, List.map_nil]); rfl) ?_; (with_reducible refine (impl_SumTimes.calls kj10 t924 (wrap64 (t925 - 1)) t930 true _ A14.out).mono ?_); rintro e w68 ⟨rfl, hb⟩; refine ⟨_, rfl, ?_⟩; replace HB := Aside0.mk (below_step HB.out hb); (try clear hb)) | ((with_reducible refine gate_callee (f := 37) rfl ?_); refine goesL_ (some 61) rfl rfl Try.func37 (by kernel_rfl) rfl #[.string t930, .string t924] rfl (by (try simp only [List.map_toArray, List.map_cons, List.map_nil]); rfl) ?_; (with_reducible refine (impl_SumOf.calls kj10 t930 t924 t932 false _ A15.out).mono ?_); rintro e w69 ⟨rfl, hb⟩; refine ⟨_, rfl, ?_⟩; replace HB := Aside0.mk (below_step HB.out hb); (try clear hb)) | ((with_reducible refine gate_dst (N := 65) rfl ?_); refine Kd.R_lit (Kd.int .i64) _ 3 ?hg (N := 65) ?hd (xs := ([0] : List Int)) (inner := [.int .i64 0]) (ok := fun _ => True) (okp := fun _ => True) ?hr ?hp (fun _ hk => hk) trivial (Below.refl _ _) (Nat.le_refl _) (by simp) ?_; (case hd => rfl); (case hg => rfl); (case hr => first | (go_simp; done)); (case hp => exact (Reps.one (show Kd.M (Kd.int .i64) _ _ _ 0 [.int .i64 0] from rfl) (Reps.none _ _))); intro v935 w70 ho71 hb hg_ hnew_; clear hg_ hnew_; (rw [← Ny934.out] at ho71); have HO936 := Aside0.mk (Kd.R_lower ho71 (below_size HB.out)); replace HB := Aside0.mk (below_step HB.out hb); clear hb ho71; obtain ⟨Ao72, co72, eo72⟩ := Kd.R_slice HO936.out; subst eo72) | ((with_reducible refine gate_callee (f := 31) rfl ?_); refine goesL_ (some 66) rfl rfl Try.func31 (by kernel_rfl) rfl #[.slice Ao72 y934.length co72] rfl (by (try simp only [List.map_toArray, List.map_cons, List.map_nil]); rfl) ?_; (with_reducible refine (impl_SetOf.calls kj10 _ _ y934 t937 t938 _ ?side1 ?side2 A16.out).mono ?_); (case side1 => repeat (exact (Kd.R_reads' HO936.out).2.2)); (case side2 => exact (Kd.R_reads' HO936.out).2.1); rintro e w73 ⟨rfl, hb⟩; refine ⟨_, rfl, ?_⟩; replace HO936 := Aside0.mk (Kd.R_below HO936.out hb); replace HB := Aside0.mk (below_step HB.out hb); (try clear hb)) | (go_at_call 38; (with_reducible refine (impl_SetSame.calls kj10 t926 t924 t941 _ A67.out).mono ?_); rintro e w74 ⟨rfl, hb⟩; replace HO936 := Aside0.mk (Kd.R_below HO936.out hb); replace HB := Aside0.mk (below_step HB.out hb); (try clear hb)))
            go_ret
            exact ⟨by first | rfl | (simp [*, errW_none, errW_some] <;> rfl), HB.out⟩
           ·rw [if_neg c66] at H
            have c66b0 : (t925 == 1) = false := beq_eq_false_iff_ne.mpr c66
            have c66b1 : (t925 != 1) = true := bne_iff_ne.mpr c66
            obtain rfl := Option.some.inj H
            go_wp2_with (first | ((with_reducible refine gate_callee (f := 35) rfl ?_); refine goesL_ (some 55) rfl rfl Try.func35 (by kernel_rfl) rfl #[.string t924, .int .i64 (wrap64 (t925 - 1))] rfl (by (try simp only [List.map_toArray, List.map_cons, List.map_nil]); rfl) ?_; (with_reducible refine (impl_SumTimes.calls kj10 t924 (wrap64 (t925 - 1)) t930 true _ A14.out).mono ?_); rintro e w75 ⟨rfl, hb⟩; refine ⟨_, rfl, ?_⟩; replace HB := Aside0.mk (below_step HB.out hb); (try clear hb)) | ((with_reducible refine gate_callee (f := 37) rfl ?_); refine goesL_ (some 61) rfl rfl Try.func37 (by kernel_rfl) rfl #[.string t930, .string t924] rfl (by (try simp only [List.map_toArray, List.map_cons, List.map_nil]); rfl) ?_; (with_reducible refine (impl_SumOf.calls kj10 t930 t924 t932 false _ A15.out).mono ?_); rintro e w76 ⟨rfl, hb⟩; refine ⟨_, rfl, ?_⟩; replace HB := Aside0.mk (below_step HB.out hb); (try clear hb)) | ((with_reducible refine gate_dst (N := 65) rfl ?_); refine Kd.R_lit (Kd.int .i64) _ 3 ?hg (N := 65) ?hd (xs := ([0] : List Int)) (inner := [.int .i64 0]) (ok := fun _ => True) (okp := fun _ => True) ?hr ?hp (fun _ hk => hk) trivial (Below.refl _ _) (Nat.le_refl _) (by simp) ?_; (case hd => rfl); (case hg => rfl); (case hr => first | (go_simp; done)); (case hp => exact (Reps.one (show Kd.M (Kd.int .i64) _ _ _ 0 [.int .i64 0] from rfl) (Reps.none _ _))); intro v935 w77 ho78 hb hg_ hnew_; clear hg_ hnew_; (rw [← Ny934.out] at ho78); have HO936 := Aside0.mk (Kd.R_lower ho78 (below_size HB.out)); replace HB := Aside0.mk (below_step HB.out hb); clear hb ho78; obtain ⟨Ao79, co79, eo79⟩ := Kd.R_slice HO936.out; subst eo79) | ((with_reducible refine gate_callee (f := 31) rfl ?_); refine goesL_ (some 66) rfl rfl Try.func31 (by kernel_rfl) rfl #[.slice Ao79 y934.length co79] rfl (by (try simp only [List.map_toArray, List.map_cons, List.map_nil]); rfl) ?_; (with_reducible refine (impl_SetOf.calls kj10 _ _ y934 t937 t938 _ ?side1 ?side2 A16.out).mono ?_); (case side1 => repeat (exact (Kd.R_reads' HO936.out).2.2)); (case side2 => exact (Kd.R_reads' HO936.out).2.1); rintro e w80 ⟨rfl, hb⟩; refine ⟨_, rfl, ?_⟩; replace HO936 := Aside0.mk (Kd.R_below HO936.out hb); replace HB := Aside0.mk (below_step HB.out hb); (try clear hb)))
            go_ret
            exact ⟨by first | rfl | (simp [*, errW_none, errW_some] <;> rfl), HB.out⟩
          ·rw [if_neg c65] at H
           have c65b0 : (t926.toList == t937.toList) = false := beq_eq_false_iff_ne.mpr c65
           have c65b1 : (t926.toList != t937.toList) = true := bne_iff_ne.mpr c65
           obtain rfl := Option.some.inj H
           go_wp2_with (first | ((with_reducible refine gate_callee (f := 35) rfl ?_); refine goesL_ (some 55) rfl rfl Try.func35 (by kernel_rfl) rfl #[.string t924, .int .i64 (wrap64 (t925 - 1))] rfl (by (try simp only [List.map_toArray, List.map_cons, List.map_nil]); rfl) ?_; (with_reducible refine (impl_SumTimes.calls kj10 t924 (wrap64 (t925 - 1)) t930 true _ A14.out).mono ?_); rintro e w81 ⟨rfl, hb⟩; refine ⟨_, rfl, ?_⟩; replace HB := Aside0.mk (below_step HB.out hb); (try clear hb)) | ((with_reducible refine gate_callee (f := 37) rfl ?_); refine goesL_ (some 61) rfl rfl Try.func37 (by kernel_rfl) rfl #[.string t930, .string t924] rfl (by (try simp only [List.map_toArray, List.map_cons, List.map_nil]); rfl) ?_; (with_reducible refine (impl_SumOf.calls kj10 t930 t924 t932 false _ A15.out).mono ?_); rintro e w82 ⟨rfl, hb⟩; refine ⟨_, rfl, ?_⟩; replace HB := Aside0.mk (below_step HB.out hb); (try clear hb)) | ((with_reducible refine gate_dst (N := 65) rfl ?_); refine Kd.R_lit (Kd.int .i64) _ 3 ?hg (N := 65) ?hd (xs := ([0] : List Int)) (inner := [.int .i64 0]) (ok := fun _ => True) (okp := fun _ => True) ?hr ?hp (fun _ hk => hk) trivial (Below.refl _ _) (Nat.le_refl _) (by simp) ?_; (case hd => rfl); (case hg => rfl); (case hr => first | (go_simp; done)); (case hp => exact (Reps.one (show Kd.M (Kd.int .i64) _ _ _ 0 [.int .i64 0] from rfl) (Reps.none _ _))); intro v935 w83 ho84 hb hg_ hnew_; clear hg_ hnew_; (rw [← Ny934.out] at ho84); have HO936 := Aside0.mk (Kd.R_lower ho84 (below_size HB.out)); replace HB := Aside0.mk (below_step HB.out hb); clear hb ho84; obtain ⟨Ao85, co85, eo85⟩ := Kd.R_slice HO936.out; subst eo85) | ((with_reducible refine gate_callee (f := 31) rfl ?_); refine goesL_ (some 66) rfl rfl Try.func31 (by kernel_rfl) rfl #[.slice Ao85 y934.length co85] rfl (by (try simp only [List.map_toArray, List.map_cons, List.map_nil]); rfl) ?_; (with_reducible refine (impl_SetOf.calls kj10 _ _ y934 t937 t938 _ ?side1 ?side2 A16.out).mono ?_); (case side1 => repeat (exact (Kd.R_reads' HO936.out).2.2)); (case side2 => exact (Kd.R_reads' HO936.out).2.1); rintro e w86 ⟨rfl, hb⟩; refine ⟨_, rfl, ?_⟩; replace HO936 := Aside0.mk (Kd.R_below HO936.out hb); replace HB := Aside0.mk (below_step HB.out hb); (try clear hb)))
           go_ret
           exact ⟨by first | rfl | (simp [*, errW_none, errW_some] <;> rfl), HB.out⟩
         ·rw [if_neg c64] at H
          have c64b0 : (t925 == 0) = false := beq_eq_false_iff_ne.mpr c64
          have c64b1 : (t925 != 0) = true := bne_iff_ne.mpr c64
          by_cases c87 : t925 = 1
          ·rw [if_pos c87] at H
           have c87b0 : (t925 == 1) = true := beq_iff_eq.mpr c87
           have c87b1 : (t925 != 1) = false := bne_eq_false_iff_eq.mpr c87
           clear c87
           replace H := Option.bind_eq_some_iff.mp H
           obtain ⟨t942, A880, H⟩ := H
           replace H : (some t942) = some r := H
           have A88 := Aside0.mk A880
           clear A880
           obtain rfl := Option.some.inj H
           go_wp2_with (first | ((with_reducible refine gate_callee (f := 35) rfl ?_); refine goesL_ (some 55) rfl rfl Try.func35 (by kernel_rfl) rfl #[.string t924, .int .i64 (wrap64 (t925 - 1))] rfl (by (try simp only [List.map_toArray, List.map_cons, List.map_nil]); rfl) ?_; (with_reducible refine (impl_SumTimes.calls kj10 t924 (wrap64 (t925 - 1)) t930 true _ A14.out).mono ?_); rintro e w89 ⟨rfl, hb⟩; refine ⟨_, rfl, ?_⟩; replace HB := Aside0.mk (below_step HB.out hb); (try clear hb)) | ((with_reducible refine gate_callee (f := 37) rfl ?_); refine goesL_ (some 61) rfl rfl Try.func37 (by kernel_rfl) rfl #[.string t930, .string t924] rfl (by (try simp only [List.map_toArray, List.map_cons, List.map_nil]); rfl) ?_; (with_reducible refine (impl_SumOf.calls kj10 t930 t924 t932 false _ A15.out).mono ?_); rintro e w90 ⟨rfl, hb⟩; refine ⟨_, rfl, ?_⟩; replace HB := Aside0.mk (below_step HB.out hb); (try clear hb)) | ((with_reducible refine gate_dst (N := 65) rfl ?_); refine Kd.R_lit (Kd.int .i64) _ 3 ?hg (N := 65) ?hd (xs := ([0] : List Int)) (inner := [.int .i64 0]) (ok := fun _ => True) (okp := fun _ => True) ?hr ?hp (fun _ hk => hk) trivial (Below.refl _ _) (Nat.le_refl _) (by simp) ?_; (case hd => rfl); (case hg => rfl); (case hr => first | (go_simp; done)); (case hp => exact (Reps.one (show Kd.M (Kd.int .i64) _ _ _ 0 [.int .i64 0] from rfl) (Reps.none _ _))); intro v935 w91 ho92 hb hg_ hnew_; clear hg_ hnew_; (rw [← Ny934.out] at ho92); have HO936 := Aside0.mk (Kd.R_lower ho92 (below_size HB.out)); replace HB := Aside0.mk (below_step HB.out hb); clear hb ho92; obtain ⟨Ao93, co93, eo93⟩ := Kd.R_slice HO936.out; subst eo93) | ((with_reducible refine gate_callee (f := 31) rfl ?_); refine goesL_ (some 66) rfl rfl Try.func31 (by kernel_rfl) rfl #[.slice Ao93 y934.length co93] rfl (by (try simp only [List.map_toArray, List.map_cons, List.map_nil]); rfl) ?_; (with_reducible refine (impl_SetOf.calls kj10 _ _ y934 t937 t938 _ ?side1 ?side2 A16.out).mono ?_); (case side1 => repeat (exact (Kd.R_reads' HO936.out).2.2)); (case side2 => exact (Kd.R_reads' HO936.out).2.1); rintro e w94 ⟨rfl, hb⟩; refine ⟨_, rfl, ?_⟩; replace HO936 := Aside0.mk (Kd.R_below HO936.out hb); replace HB := Aside0.mk (below_step HB.out hb); (try clear hb)) | (go_at_call 38; (with_reducible refine (impl_SetSame.calls kj10 t926 t924 t942 _ A88.out).mono ?_); rintro e w95 ⟨rfl, hb⟩; replace HO936 := Aside0.mk (Kd.R_below HO936.out hb); replace HB := Aside0.mk (below_step HB.out hb); (try clear hb)))
           go_ret
           exact ⟨by first | rfl | (simp [*, errW_none, errW_some] <;> rfl), HB.out⟩
          ·rw [if_neg c87] at H
           have c87b0 : (t925 == 1) = false := beq_eq_false_iff_ne.mpr c87
           have c87b1 : (t925 != 1) = true := bne_iff_ne.mpr c87
           obtain rfl := Option.some.inj H
           go_wp2_with (first | ((with_reducible refine gate_callee (f := 35) rfl ?_); refine goesL_ (some 55) rfl rfl Try.func35 (by kernel_rfl) rfl #[.string t924, .int .i64 (wrap64 (t925 - 1))] rfl (by (try simp only [List.map_toArray, List.map_cons, List.map_nil]); rfl) ?_; (with_reducible refine (impl_SumTimes.calls kj10 t924 (wrap64 (t925 - 1)) t930 true _ A14.out).mono ?_); rintro e w96 ⟨rfl, hb⟩; refine ⟨_, rfl, ?_⟩; replace HB := Aside0.mk (below_step HB.out hb); (try clear hb)) | ((with_reducible refine gate_callee (f := 37) rfl ?_); refine goesL_ (some 61) rfl rfl Try.func37 (by kernel_rfl) rfl #[.string t930, .string t924] rfl (by (try simp only [List.map_toArray, List.map_cons, List.map_nil]); rfl) ?_; (with_reducible refine (impl_SumOf.calls kj10 t930 t924 t932 false _ A15.out).mono ?_); rintro e w97 ⟨rfl, hb⟩; refine ⟨_, rfl, ?_⟩; replace HB := Aside0.mk (below_step HB.out hb); (try clear hb)) | ((with_reducible refine gate_dst (N := 65) rfl ?_); refine Kd.R_lit (Kd.int .i64) _ 3 ?hg (N := 65) ?hd (xs := ([0] : List Int)) (inner := [.int .i64 0]) (ok := fun _ => True) (okp := fun _ => True) ?hr ?hp (fun _ hk => hk) trivial (Below.refl _ _) (Nat.le_refl _) (by simp) ?_; (case hd => rfl); (case hg => rfl); (case hr => first | (go_simp; done)); (case hp => exact (Reps.one (show Kd.M (Kd.int .i64) _ _ _ 0 [.int .i64 0] from rfl) (Reps.none _ _))); intro v935 w98 ho99 hb hg_ hnew_; clear hg_ hnew_; (rw [← Ny934.out] at ho99); have HO936 := Aside0.mk (Kd.R_lower ho99 (below_size HB.out)); replace HB := Aside0.mk (below_step HB.out hb); clear hb ho99; obtain ⟨Ao100, co100, eo100⟩ := Kd.R_slice HO936.out; subst eo100) | ((with_reducible refine gate_callee (f := 31) rfl ?_); refine goesL_ (some 66) rfl rfl Try.func31 (by kernel_rfl) rfl #[.slice Ao100 y934.length co100] rfl (by (try simp only [List.map_toArray, List.map_cons, List.map_nil]); rfl) ?_; (with_reducible refine (impl_SetOf.calls kj10 _ _ y934 t937 t938 _ ?side1 ?side2 A16.out).mono ?_); (case side1 => repeat (exact (Kd.R_reads' HO936.out).2.2)); (case side2 => exact (Kd.R_reads' HO936.out).2.1); rintro e w101 ⟨rfl, hb⟩; refine ⟨_, rfl, ?_⟩; replace HO936 := Aside0.mk (Kd.R_below HO936.out hb); replace HB := Aside0.mk (below_step HB.out hb); (try clear hb)))
           go_ret
           exact ⟨by first | rfl | (simp [*, errW_none, errW_some] <;> rfl), HB.out⟩
       ·replace c17 := Bool.eq_false_iff.mpr c17
        subst c17
        replace H : (if t925 = 0 then (if t926.toList = t937.toList then (if t925 = 1 then ((impl_SetSame.f kj10 t926 t924).bind fun t943 => (some t943)) else (some true)) else (some false)) else (if t925 = 1 then ((impl_SetSame.f kj10 t926 t924).bind fun t944 => (some t944)) else (some true))) = some r := by rw [if_neg (show ¬ (false = true) by decide)] at H; exact H
        by_cases c102 : t925 = 0
        ·rw [if_pos c102] at H
         have c102b0 : (t925 == 0) = true := beq_iff_eq.mpr c102
         have c102b1 : (t925 != 0) = false := bne_eq_false_iff_eq.mpr c102
         clear c102
         by_cases c103 : t926.toList = t937.toList
         ·rw [if_pos c103] at H
          have c103b0 : (t926.toList == t937.toList) = true := beq_iff_eq.mpr c103
          have c103b1 : (t926.toList != t937.toList) = false := bne_eq_false_iff_eq.mpr c103
          clear c103
          by_cases c104 : t925 = 1
          ·rw [if_pos c104] at H
           have c104b0 : (t925 == 1) = true := beq_iff_eq.mpr c104
           have c104b1 : (t925 != 1) = false := bne_eq_false_iff_eq.mpr c104
           clear c104
           replace H := Option.bind_eq_some_iff.mp H
           obtain ⟨t943, A1050, H⟩ := H
           replace H : (some t943) = some r := H
           have A105 := Aside0.mk A1050
           clear A1050
           obtain rfl := Option.some.inj H
           go_wp2_with (first | ((with_reducible refine gate_callee (f := 35) rfl ?_); refine goesL_ (some 55) rfl rfl Try.func35 (by kernel_rfl) rfl #[.string t924, .int .i64 (wrap64 (t925 - 1))] rfl (by (try simp only [List.map_toArray, List.map_cons, List.map_nil]); rfl) ?_; (with_reducible refine (impl_SumTimes.calls kj10 t924 (wrap64 (t925 - 1)) t930 false _ A14.out).mono ?_); rintro e w106 ⟨rfl, hb⟩; refine ⟨_, rfl, ?_⟩; replace HB := Aside0.mk (below_step HB.out hb); (try clear hb)) | ((with_reducible refine gate_callee (f := 37) rfl ?_); refine goesL_ (some 61) rfl rfl Try.func37 (by kernel_rfl) rfl #[.string t930, .string t924] rfl (by (try simp only [List.map_toArray, List.map_cons, List.map_nil]); rfl) ?_; (with_reducible refine (impl_SumOf.calls kj10 t930 t924 t932 t933 _ A15.out).mono ?_); rintro e w107 ⟨rfl, hb⟩; refine ⟨_, rfl, ?_⟩; replace HB := Aside0.mk (below_step HB.out hb); (try clear hb)) | ((with_reducible refine gate_dst (N := 65) rfl ?_); refine Kd.R_lit (Kd.int .i64) _ 3 ?hg (N := 65) ?hd (xs := ([0] : List Int)) (inner := [.int .i64 0]) (ok := fun _ => True) (okp := fun _ => True) ?hr ?hp (fun _ hk => hk) trivial (Below.refl _ _) (Nat.le_refl _) (by simp) ?_; (case hd => rfl); (case hg => rfl); (case hr => first | (go_simp; done)); (case hp => exact (Reps.one (show Kd.M (Kd.int .i64) _ _ _ 0 [.int .i64 0] from rfl) (Reps.none _ _))); intro v935 w108 ho109 hb hg_ hnew_; clear hg_ hnew_; (rw [← Ny934.out] at ho109); have HO936 := Aside0.mk (Kd.R_lower ho109 (below_size HB.out)); replace HB := Aside0.mk (below_step HB.out hb); clear hb ho109; obtain ⟨Ao110, co110, eo110⟩ := Kd.R_slice HO936.out; subst eo110) | ((with_reducible refine gate_callee (f := 31) rfl ?_); refine goesL_ (some 66) rfl rfl Try.func31 (by kernel_rfl) rfl #[.slice Ao110 y934.length co110] rfl (by (try simp only [List.map_toArray, List.map_cons, List.map_nil]); rfl) ?_; (with_reducible refine (impl_SetOf.calls kj10 _ _ y934 t937 t938 _ ?side1 ?side2 A16.out).mono ?_); (case side1 => repeat (exact (Kd.R_reads' HO936.out).2.2)); (case side2 => exact (Kd.R_reads' HO936.out).2.1); rintro e w111 ⟨rfl, hb⟩; refine ⟨_, rfl, ?_⟩; replace HO936 := Aside0.mk (Kd.R_below HO936.out hb); replace HB := Aside0.mk (below_step HB.out hb); (try clear hb)) | (go_at_call 38; (with_reducible refine (impl_SetSame.calls kj10 t926 t924 t943 _ A105.out).mono ?_); rintro e w112 ⟨rfl, hb⟩; replace HO936 := Aside0.mk (Kd.R_below HO936.out hb); replace HB := Aside0.mk (below_step HB.out hb); (try clear hb)))
           go_ret
           exact ⟨by first | rfl | (simp [*, errW_none, errW_some] <;> rfl), HB.out⟩
          ·rw [if_neg c104] at H
           have c104b0 : (t925 == 1) = false := beq_eq_false_iff_ne.mpr c104
           have c104b1 : (t925 != 1) = true := bne_iff_ne.mpr c104
           obtain rfl := Option.some.inj H
           go_wp2_with (first | ((with_reducible refine gate_callee (f := 35) rfl ?_); refine goesL_ (some 55) rfl rfl Try.func35 (by kernel_rfl) rfl #[.string t924, .int .i64 (wrap64 (t925 - 1))] rfl (by (try simp only [List.map_toArray, List.map_cons, List.map_nil]); rfl) ?_; (with_reducible refine (impl_SumTimes.calls kj10 t924 (wrap64 (t925 - 1)) t930 false _ A14.out).mono ?_); rintro e w113 ⟨rfl, hb⟩; refine ⟨_, rfl, ?_⟩; replace HB := Aside0.mk (below_step HB.out hb); (try clear hb)) | ((with_reducible refine gate_callee (f := 37) rfl ?_); refine goesL_ (some 61) rfl rfl Try.func37 (by kernel_rfl) rfl #[.string t930, .string t924] rfl (by (try simp only [List.map_toArray, List.map_cons, List.map_nil]); rfl) ?_; (with_reducible refine (impl_SumOf.calls kj10 t930 t924 t932 t933 _ A15.out).mono ?_); rintro e w114 ⟨rfl, hb⟩; refine ⟨_, rfl, ?_⟩; replace HB := Aside0.mk (below_step HB.out hb); (try clear hb)) | ((with_reducible refine gate_dst (N := 65) rfl ?_); refine Kd.R_lit (Kd.int .i64) _ 3 ?hg (N := 65) ?hd (xs := ([0] : List Int)) (inner := [.int .i64 0]) (ok := fun _ => True) (okp := fun _ => True) ?hr ?hp (fun _ hk => hk) trivial (Below.refl _ _) (Nat.le_refl _) (by simp) ?_; (case hd => rfl); (case hg => rfl); (case hr => first | (go_simp; done)); (case hp => exact (Reps.one (show Kd.M (Kd.int .i64) _ _ _ 0 [.int .i64 0] from rfl) (Reps.none _ _))); intro v935 w115 ho116 hb hg_ hnew_; clear hg_ hnew_; (rw [← Ny934.out] at ho116); have HO936 := Aside0.mk (Kd.R_lower ho116 (below_size HB.out)); replace HB := Aside0.mk (below_step HB.out hb); clear hb ho116; obtain ⟨Ao117, co117, eo117⟩ := Kd.R_slice HO936.out; subst eo117) | ((with_reducible refine gate_callee (f := 31) rfl ?_); refine goesL_ (some 66) rfl rfl Try.func31 (by kernel_rfl) rfl #[.slice Ao117 y934.length co117] rfl (by (try simp only [List.map_toArray, List.map_cons, List.map_nil]); rfl) ?_; (with_reducible refine (impl_SetOf.calls kj10 _ _ y934 t937 t938 _ ?side1 ?side2 A16.out).mono ?_); (case side1 => repeat (exact (Kd.R_reads' HO936.out).2.2)); (case side2 => exact (Kd.R_reads' HO936.out).2.1); rintro e w118 ⟨rfl, hb⟩; refine ⟨_, rfl, ?_⟩; replace HO936 := Aside0.mk (Kd.R_below HO936.out hb); replace HB := Aside0.mk (below_step HB.out hb); (try clear hb)))
           go_ret
           exact ⟨by first | rfl | (simp [*, errW_none, errW_some] <;> rfl), HB.out⟩
         ·rw [if_neg c103] at H
          have c103b0 : (t926.toList == t937.toList) = false := beq_eq_false_iff_ne.mpr c103
          have c103b1 : (t926.toList != t937.toList) = true := bne_iff_ne.mpr c103
          obtain rfl := Option.some.inj H
          go_wp2_with (first | ((with_reducible refine gate_callee (f := 35) rfl ?_); refine goesL_ (some 55) rfl rfl Try.func35 (by kernel_rfl) rfl #[.string t924, .int .i64 (wrap64 (t925 - 1))] rfl (by (try simp only [List.map_toArray, List.map_cons, List.map_nil]); rfl) ?_; (with_reducible refine (impl_SumTimes.calls kj10 t924 (wrap64 (t925 - 1)) t930 false _ A14.out).mono ?_); rintro e w119 ⟨rfl, hb⟩; refine ⟨_, rfl, ?_⟩; replace HB := Aside0.mk (below_step HB.out hb); (try clear hb)) | ((with_reducible refine gate_callee (f := 37) rfl ?_); refine goesL_ (some 61) rfl rfl Try.func37 (by kernel_rfl) rfl #[.string t930, .string t924] rfl (by (try simp only [List.map_toArray, List.map_cons, List.map_nil]); rfl) ?_; (with_reducible refine (impl_SumOf.calls kj10 t930 t924 t932 t933 _ A15.out).mono ?_); rintro e w120 ⟨rfl, hb⟩; refine ⟨_, rfl, ?_⟩; replace HB := Aside0.mk (below_step HB.out hb); (try clear hb)) | ((with_reducible refine gate_dst (N := 65) rfl ?_); refine Kd.R_lit (Kd.int .i64) _ 3 ?hg (N := 65) ?hd (xs := ([0] : List Int)) (inner := [.int .i64 0]) (ok := fun _ => True) (okp := fun _ => True) ?hr ?hp (fun _ hk => hk) trivial (Below.refl _ _) (Nat.le_refl _) (by simp) ?_; (case hd => rfl); (case hg => rfl); (case hr => first | (go_simp; done)); (case hp => exact (Reps.one (show Kd.M (Kd.int .i64) _ _ _ 0 [.int .i64 0] from rfl) (Reps.none _ _))); intro v935 w121 ho122 hb hg_ hnew_; clear hg_ hnew_; (rw [← Ny934.out] at ho122); have HO936 := Aside0.mk (Kd.R_lower ho122 (below_size HB.out)); replace HB := Aside0.mk (below_step HB.out hb); clear hb ho122; obtain ⟨Ao123, co123, eo123⟩ := Kd.R_slice HO936.out; subst eo123) | ((with_reducible refine gate_callee (f := 31) rfl ?_); refine goesL_ (some 66) rfl rfl Try.func31 (by kernel_rfl) rfl #[.slice Ao123 y934.length co123] rfl (by (try simp only [List.map_toArray, List.map_cons, List.map_nil]); rfl) ?_; (with_reducible refine (impl_SetOf.calls kj10 _ _ y934 t937 t938 _ ?side1 ?side2 A16.out).mono ?_); (case side1 => repeat (exact (Kd.R_reads' HO936.out).2.2)); (case side2 => exact (Kd.R_reads' HO936.out).2.1); rintro e w124 ⟨rfl, hb⟩; refine ⟨_, rfl, ?_⟩; replace HO936 := Aside0.mk (Kd.R_below HO936.out hb); replace HB := Aside0.mk (below_step HB.out hb); (try clear hb)))
          go_ret
          exact ⟨by first | rfl | (simp [*, errW_none, errW_some] <;> rfl), HB.out⟩
        ·rw [if_neg c102] at H
         have c102b0 : (t925 == 0) = false := beq_eq_false_iff_ne.mpr c102
         have c102b1 : (t925 != 0) = true := bne_iff_ne.mpr c102
         by_cases c125 : t925 = 1
         ·rw [if_pos c125] at H
          have c125b0 : (t925 == 1) = true := beq_iff_eq.mpr c125
          have c125b1 : (t925 != 1) = false := bne_eq_false_iff_eq.mpr c125
          clear c125
          replace H := Option.bind_eq_some_iff.mp H
          obtain ⟨t944, A1260, H⟩ := H
          replace H : (some t944) = some r := H
          have A126 := Aside0.mk A1260
          clear A1260
          obtain rfl := Option.some.inj H
          go_wp2_with (first | ((with_reducible refine gate_callee (f := 35) rfl ?_); refine goesL_ (some 55) rfl rfl Try.func35 (by kernel_rfl) rfl #[.string t924, .int .i64 (wrap64 (t925 - 1))] rfl (by (try simp only [List.map_toArray, List.map_cons, List.map_nil]); rfl) ?_; (with_reducible refine (impl_SumTimes.calls kj10 t924 (wrap64 (t925 - 1)) t930 false _ A14.out).mono ?_); rintro e w127 ⟨rfl, hb⟩; refine ⟨_, rfl, ?_⟩; replace HB := Aside0.mk (below_step HB.out hb); (try clear hb)) | ((with_reducible refine gate_callee (f := 37) rfl ?_); refine goesL_ (some 61) rfl rfl Try.func37 (by kernel_rfl) rfl #[.string t930, .string t924] rfl (by (try simp only [List.map_toArray, List.map_cons, List.map_nil]); rfl) ?_; (with_reducible refine (impl_SumOf.calls kj10 t930 t924 t932 t933 _ A15.out).mono ?_); rintro e w128 ⟨rfl, hb⟩; refine ⟨_, rfl, ?_⟩; replace HB := Aside0.mk (below_step HB.out hb); (try clear hb)) | ((with_reducible refine gate_dst (N := 65) rfl ?_); refine Kd.R_lit (Kd.int .i64) _ 3 ?hg (N := 65) ?hd (xs := ([0] : List Int)) (inner := [.int .i64 0]) (ok := fun _ => True) (okp := fun _ => True) ?hr ?hp (fun _ hk => hk) trivial (Below.refl _ _) (Nat.le_refl _) (by simp) ?_; (case hd => rfl); (case hg => rfl); (case hr => first | (go_simp; done)); (case hp => exact (Reps.one (show Kd.M (Kd.int .i64) _ _ _ 0 [.int .i64 0] from rfl) (Reps.none _ _))); intro v935 w129 ho130 hb hg_ hnew_; clear hg_ hnew_; (rw [← Ny934.out] at ho130); have HO936 := Aside0.mk (Kd.R_lower ho130 (below_size HB.out)); replace HB := Aside0.mk (below_step HB.out hb); clear hb ho130; obtain ⟨Ao131, co131, eo131⟩ := Kd.R_slice HO936.out; subst eo131) | ((with_reducible refine gate_callee (f := 31) rfl ?_); refine goesL_ (some 66) rfl rfl Try.func31 (by kernel_rfl) rfl #[.slice Ao131 y934.length co131] rfl (by (try simp only [List.map_toArray, List.map_cons, List.map_nil]); rfl) ?_; (with_reducible refine (impl_SetOf.calls kj10 _ _ y934 t937 t938 _ ?side1 ?side2 A16.out).mono ?_); (case side1 => repeat (exact (Kd.R_reads' HO936.out).2.2)); (case side2 => exact (Kd.R_reads' HO936.out).2.1); rintro e w132 ⟨rfl, hb⟩; refine ⟨_, rfl, ?_⟩; replace HO936 := Aside0.mk (Kd.R_below HO936.out hb); replace HB := Aside0.mk (below_step HB.out hb); (try clear hb)) | (go_at_call 38; (with_reducible refine (impl_SetSame.calls kj10 t926 t924 t944 _ A126.out).mono ?_); rintro e w133 ⟨rfl, hb⟩; replace HO936 := Aside0.mk (Kd.R_below HO936.out hb); replace HB := Aside0.mk (below_step HB.out hb); (try clear hb)))
          go_ret
          exact ⟨by first | rfl | (simp [*, errW_none, errW_some] <;> rfl), HB.out⟩
         ·rw [if_neg c125] at H
          have c125b0 : (t925 == 1) = false := beq_eq_false_iff_ne.mpr c125
          have c125b1 : (t925 != 1) = true := bne_iff_ne.mpr c125
          obtain rfl := Option.some.inj H
          go_wp2_with (first | ((with_reducible refine gate_callee (f := 35) rfl ?_); refine goesL_ (some 55) rfl rfl Try.func35 (by kernel_rfl) rfl #[.string t924, .int .i64 (wrap64 (t925 - 1))] rfl (by (try simp only [List.map_toArray, List.map_cons, List.map_nil]); rfl) ?_; (with_reducible refine (impl_SumTimes.calls kj10 t924 (wrap64 (t925 - 1)) t930 false _ A14.out).mono ?_); rintro e w134 ⟨rfl, hb⟩; refine ⟨_, rfl, ?_⟩; replace HB := Aside0.mk (below_step HB.out hb); (try clear hb)) | ((with_reducible refine gate_callee (f := 37) rfl ?_); refine goesL_ (some 61) rfl rfl Try.func37 (by kernel_rfl) rfl #[.string t930, .string t924] rfl (by (try simp only [List.map_toArray, List.map_cons, List.map_nil]); rfl) ?_; (with_reducible refine (impl_SumOf.calls kj10 t930 t924 t932 t933 _ A15.out).mono ?_); rintro e w135 ⟨rfl, hb⟩; refine ⟨_, rfl, ?_⟩; replace HB := Aside0.mk (below_step HB.out hb); (try clear hb)) | ((with_reducible refine gate_dst (N := 65) rfl ?_); refine Kd.R_lit (Kd.int .i64) _ 3 ?hg (N := 65) ?hd (xs := ([0] : List Int)) (inner := [.int .i64 0]) (ok := fun _ => True) (okp := fun _ => True) ?hr ?hp (fun _ hk => hk) trivial (Below.refl _ _) (Nat.le_refl _) (by simp) ?_; (case hd => rfl); (case hg => rfl); (case hr => first | (go_simp; done)); (case hp => exact (Reps.one (show Kd.M (Kd.int .i64) _ _ _ 0 [.int .i64 0] from rfl) (Reps.none _ _))); intro v935 w136 ho137 hb hg_ hnew_; clear hg_ hnew_; (rw [← Ny934.out] at ho137); have HO936 := Aside0.mk (Kd.R_lower ho137 (below_size HB.out)); replace HB := Aside0.mk (below_step HB.out hb); clear hb ho137; obtain ⟨Ao138, co138, eo138⟩ := Kd.R_slice HO936.out; subst eo138) | ((with_reducible refine gate_callee (f := 31) rfl ?_); refine goesL_ (some 66) rfl rfl Try.func31 (by kernel_rfl) rfl #[.slice Ao138 y934.length co138] rfl (by (try simp only [List.map_toArray, List.map_cons, List.map_nil]); rfl) ?_; (with_reducible refine (impl_SetOf.calls kj10 _ _ y934 t937 t938 _ ?side1 ?side2 A16.out).mono ?_); (case side1 => repeat (exact (Kd.R_reads' HO936.out).2.2)); (case side2 => exact (Kd.R_reads' HO936.out).2.1); rintro e w139 ⟨rfl, hb⟩; refine ⟨_, rfl, ?_⟩; replace HO936 := Aside0.mk (Kd.R_below HO936.out hb); replace HB := Aside0.mk (below_step HB.out hb); (try clear hb)))
          go_ret
          exact ⟨by first | rfl | (simp [*, errW_none, errW_some] <;> rfl), HB.out⟩

/-- THE ONE PURE STATEMENT of laws_FnSumTimes: yours. -/
def laws_FnSumTimes.Pure : Prop := ∀ (l0 : List Int), l0.length ≤ maxLen → l0.length * 1 ≤ 140737488351232 → (∀ x ∈ l0, (Lit.int .u8 x).wf = true) → ∃ k, laws_FnSumTimes.f k l0 = some true
theorem laws_FnSumTimes.walk (P : laws_FnSumTimes.Pure) (a0 : Option Addr) (len0 cap0 : Nat) (z0 : List Int) (w : World) (w0 : (a0 = none ∧ len0 = 0 ∧ cap0 = 0 ∧ z0 = []) ∨ ∃ x, a0 = some x ∧ len0 ≤ cap0 ∧ cap0 ≤ maxLen ∧ z0.length = cap0 ∧ (∀ i, i < z0.length → w.cell? (x.add i) = some (.int .u8 (z0.getD i 0))) ∧ ∀ n ∈ z0, (Lit.int .u8 n).wf = true) (y0 : len0 * 1 ≤ 140737488351232) :
  Calls Try.prog 8 #[.slice a0 len0 cap0] w fun e w' => e = .returned (.bool true) ∧ Below w.heap.size w w' := by
 obtain ⟨l0, rfl, hr0, hm0, hw0, hc0⟩ := ReadsInt.ofRowC w0
 obtain ⟨k, h⟩ := P l0 hm0 y0 hw0
 refine (laws_FnSumTimes.calls k _ _ l0 true w (Kd.C_of_reads (d := (0 : Int)) (h1 := fun _ => rfl) hr0) hc0 h).mono ?_
 rintro e w' ⟨rfl, hd⟩
 exact ⟨rfl, hd⟩

end Go.Proofs.Ytpkpgdlbgcjloaa.Q

namespace Go.Proofs.Ytpkpgdlbgcjloaa.Q
open Go.RowKit Go.Proofs.YtpkpgdlbgcjloaaW.PrintWords Go.Proofs.YtpkpgdlbgcjloaaW.PrintLast Go.Proofs.YtpkpgdlbgcjloaaW.PrintMore
attribute [local go_sem] max2_int min2_int max_two min_two max_three min_three max_four min_four   -- for this text's walks alone
set_option linter.unusedVariables false
set_option linter.unusedSimpArgs false

end Go.Proofs.Ytpkpgdlbgcjloaa.Q

namespace Go.Proofs.Ytpkpgdlbgcjloaa.Q
open Go.RowKit Go.Proofs.YtpkpgdlbgcjloaaW.PrintWords Go.Proofs.YtpkpgdlbgcjloaaW.PrintLast Go.Proofs.YtpkpgdlbgcjloaaW.PrintMore
attribute [local go_sem] max2_int min2_int max_two min_two max_three min_three max_four min_four   -- for this text's walks alone
set_option linter.unusedVariables false
set_option linter.unusedSimpArgs false

end Go.Proofs.Ytpkpgdlbgcjloaa.Q

namespace Go.Proofs.Ytpkpgdlbgcjloaa.Q
open Go.RowKit Go.Proofs.YtpkpgdlbgcjloaaW.PrintWords Go.Proofs.YtpkpgdlbgcjloaaW.PrintLast Go.Proofs.YtpkpgdlbgcjloaaW.PrintMore
attribute [local go_sem] max2_int min2_int max_two min_two max_three min_three max_four min_four   -- for this text's walks alone
set_option linter.unusedVariables false
set_option linter.unusedSimpArgs false

end Go.Proofs.Ytpkpgdlbgcjloaa.Q

namespace Go.Proofs.Ytpkpgdlbgcjloaa.Q
open Go.RowKit Go.Proofs.YtpkpgdlbgcjloaaW.PrintWords Go.Proofs.YtpkpgdlbgcjloaaW.PrintLast Go.Proofs.YtpkpgdlbgcjloaaW.PrintMore
attribute [local go_sem] max2_int min2_int max_two min_two max_three min_three max_four min_four   -- for this text's walks alone
set_option linter.unusedVariables false
set_option linter.unusedSimpArgs false

end Go.Proofs.Ytpkpgdlbgcjloaa.Q
