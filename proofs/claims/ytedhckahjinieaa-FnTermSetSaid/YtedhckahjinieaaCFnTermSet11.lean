/- A term tells its set; no condition beyond the statement's own. -/
import Derived.Test.YtedhckahjinieaaCFnTermSet8
import Derived.Test.YtedhckahjinieaaCFnTermSet10
namespace Go.Proofs.Ytedhckahjinieaa.Q
open Go.RowKit Go.Proofs.YtedhckahjinieaaW.PrintWords Go.Proofs.YtedhckahjinieaaW.PrintLast Go.Proofs.YtedhckahjinieaaW.PrintMore
attribute [local go_sem] max2_int max_two
set_option linter.unusedVariables false
set_option linter.unusedSimpArgs false
def spec_l1Done.f (k : Nat) (l0_0 : List Bool) (l0_1 : List Bool) : Option (ByteArray × Bool) := (spec_l1Less.f k l0_0 l0_1).bind fun bt494 => (if (bt494.1.length : Int) > 60 then (some ((⟨#[]⟩ : ByteArray), false)) else (if (bt494.2.length : Int) > 60 then (some ((⟨#[]⟩ : ByteArray), false)) else ((spec_l1Write.f k bt494.1 bt494.2).bind fun t501 => (some (t501, true)))))
set_option maxHeartbeats 8000000 in
set_option maxRecDepth 100000 in
theorem spec_l1Done.calls (k : Nat) (A0_0 : Option Addr) (c0_0 : Nat) (l0_0 : List Bool) (A0_1 : Option Addr) (c0_1 : Nat) (l0_1 : List Bool) (r1 : ByteArray) (r2 : Bool) (w : World) (hr0_0 : Kd.C Kd.bool w A0_0 l0_0.length l0_0) (hc0_0 : l0_0.length ≤ c0_0) (hr0_1 : Kd.C Kd.bool w A0_1 l0_1.length l0_1) (hc0_1 : l0_1.length ≤ c0_1) (h : spec_l1Done.f k l0_0 l0_1 = some (r1, r2)) :
  Calls Try.prog 98 #[.agg #[.slice A0_0 l0_0.length c0_0, .slice A0_1 l0_1.length c0_1]] w fun e w' => e = .returned (.tuple #[.string r1, .bool r2]) ∧ Below w.heap.size w w' := by
 have HR0_0 := aM hr0_0
 have HC0_0 := aM hc0_0
 clear hr0_0 hc0_0
 have HR0_1 := aM hr0_1
 have HC0_1 := aM hc0_1
 clear hr0_1 hc0_1
 have HB := aM (cE w.heap.size w)
 have H : ((spec_l1Less.f k l0_0 l0_1).bind fun bt494 => (if (bt494.1.length : Int) > 60 then (some ((⟨#[]⟩ : ByteArray), false)) else (if (bt494.2.length : Int) > 60 then (some ((⟨#[]⟩ : ByteArray), false)) else ((spec_l1Write.f k bt494.1 bt494.2).bind fun t501 => (some (t501, true)))))) = some (r1, r2) := h
 clear h
 replace H := Option.bind_eq_some_iff.mp H
 obtain ⟨⟨t494, t497⟩, A20, H⟩ := H
 replace H : (if (t494.length : Int) > 60 then (some ((⟨#[]⟩ : ByteArray), false)) else (if (t497.length : Int) > 60 then (some ((⟨#[]⟩ : ByteArray), false)) else ((spec_l1Write.f k t494 t497).bind fun t501 => (some (t501, true))))) = some (r1, r2) := H
 have A2 := aM A20
 clear A20
 by_cases c3 : (t494.length : Int) > 60
 ·rw [if_pos c3] at H
  have c3b0 : decide (60 < (t494.length : Int)) = true := aH c3
  clear c3
  simp only [aV, aW] at H
  obtain ⟨rfl, rfl⟩ := H
  go_enter Try.func98, Try.ntmps98
  go_wp2_with (first | ((with_reducible refine aZ (N := 1) rfl ?_); (try (refine gate_guard (by rfl) ?_; dsimp only)); refine bB ?hg (N := 1) ?hd (cs := #[.slice A0_0 l0_0.length c0_0, .slice A0_1 l0_1.length c0_1]) (t := 94) ?hr ?_; (case hd => rfl); (case hg => rfl); (case hr => first | (go_simp; done)); intro gb493 hg w4 hbox hb; have BK493 := aM hbox; have GW493 := aM ((by rw [hg]; exact (aG HB.out) : w.heap.size ≤ gb493)); replace HB := aM (aE HB.out hb); clear hb hbox hg; have hcz5_0 : w4.cell? ⟨gb493, 0, none⟩ = some (.slice A0_0 l0_0.length c0_0) := (aA BK493.out 0).trans rfl; have hcz5_1 : w4.cell? ⟨gb493, 1, none⟩ = some (.slice A0_1 l0_1.length c0_1) := (aA BK493.out 1).trans rfl) | ((with_reducible refine aY (f := 92) rfl ?_); refine gL 6 Try.func92 #[.agg #[.slice A0_0 l0_0.length c0_0, .slice A0_1 l0_1.length c0_1]] ?_; (with_reducible refine (spec_l1Less.calls k (fun k_ => k_ < w.heap.size) _ _ l0_0 (fun k_ => k_ < w.heap.size) _ _ l0_1 t494 t497 _ ?side1 ?side2 A2.out).mono ?_); (case side1 => exact Kd.V_mk HC0_0.out (Kd.F_below (Kd.C_F Kd.heap_bool HR0_0.out) HB.out)); (case side2 => exact Kd.V_mk HC0_1.out (Kd.F_below (Kd.C_F Kd.heap_bool HR0_1.out) HB.out)); rintro e w6 ⟨v495, v498, rfl, ho0, ho1, hb⟩; refine ⟨_, rfl, ?_⟩; have HO496 := aM (bQ (bK (ok' := fun k_ => k_ ≠ gb493) ho0 (fun k_ hk_ => Or.elim hk_ (fun hs_ => Or.elim hs_ (fun hs_ => fun e_ => Nat.not_le.2 hs_ (by rw [e_]; exact GW493.out)) (fun hs_ => fun e_ => Nat.not_le.2 hs_ (by rw [e_]; exact GW493.out))) (fun hn_ => (Kd.freshB (g := gb493) (o := .cells #[.slice A0_0 l0_0.length c0_0, .slice A0_1 l0_1.length c0_1] 94 (0, 0)) BK493.out k_ hn_)))) (aG HB.out)); have HO499 := aM (bQ (bK (ok' := fun k_ => k_ ≠ gb493) ho1 (fun k_ hk_ => Or.elim hk_ (fun hs_ => Or.elim hs_ (fun hs_ => fun e_ => Nat.not_le.2 hs_ (by rw [e_]; exact GW493.out)) (fun hs_ => fun e_ => Nat.not_le.2 hs_ (by rw [e_]; exact GW493.out))) (fun hn_ => (Kd.freshB (g := gb493) (o := .cells #[.slice A0_0 l0_0.length c0_0, .slice A0_1 l0_1.length c0_1] 94 (0, 0)) BK493.out k_ hn_)))) (aG HB.out)); replace HB := aM (aE HB.out hb); (try clear hb); (try clear ho0); (try clear ho1)) | ((with_reducible refine aZ (N := 4) rfl ?_); (try (refine gate_guard (by rfl) ?_; dsimp only)); refine bB ?hg (N := 4) ?hd (cs := #[.slice none 0 0, .slice none 0 0]) (t := 94) ?hr ?_; (case hd => rfl); (case hg => rfl); (case hr => first | (go_simp; done)); intro gb500 hg w7 hbox hb; replace HO496 := aM (bH (Kd.V_elderB HO496.out gb500 (Nat.le_of_eq hg.symm)) hb); replace HO499 := aM (bH (Kd.V_elderB HO499.out gb500 (Nat.le_of_eq hg.symm)) hb); have BK500 := aM hbox; have GE500 := aM ((by rw [hg]; exact (aG HB.out) : w.heap.size ≤ gb500)); replace HB := aM (aE HB.out hb); clear hb hbox hg; obtain ⟨Ao8, co8, eo8⟩ := Kd.V_slice HO496.out; subst eo8; have hcz10_0 : w7.cell? ⟨gb500, 0, none⟩ = some (.slice none 0 0) := (aA BK500.out 0).trans rfl; have hcz10_1 : w7.cell? ⟨gb500, 1, none⟩ = some (.slice none 0 0) := (aA BK500.out 1).trans rfl; have hfz10_0 := aC BK500.out 0; have hfz10_1 := aC BK500.out 1; obtain ⟨Ao11, co11, eo11⟩ := Kd.V_slice HO499.out; subst eo11))
  go_ret2
  exact ⟨by first | rfl | (simp [*, errW_none, errW_some] <;> rfl), by repeat (first | (with_reducible first | exact HB.out | refine bS ?_ GE500.out))⟩
 ·rw [if_neg c3] at H
  have c3b0 : decide (60 < (t494.length : Int)) = false := aK c3
  have c3b1 : decide (60 < t494.length) = false := aK (by omega)
  clear c3
  by_cases c12 : (t497.length : Int) > 60
  ·rw [if_pos c12] at H
   have c12b0 : decide (60 < (t497.length : Int)) = true := aH c12
   clear c12
   simp only [aV, aW] at H
   obtain ⟨rfl, rfl⟩ := H
   go_enter Try.func98, Try.ntmps98
   go_wp2_with (first | ((with_reducible refine aZ (N := 1) rfl ?_); (try (refine gate_guard (by rfl) ?_; dsimp only)); refine bB ?hg (N := 1) ?hd (cs := #[.slice A0_0 l0_0.length c0_0, .slice A0_1 l0_1.length c0_1]) (t := 94) ?hr ?_; (case hd => rfl); (case hg => rfl); (case hr => first | (go_simp; done)); intro gb493 hg w13 hbox hb; have BK493 := aM hbox; have GW493 := aM ((by rw [hg]; exact (aG HB.out) : w.heap.size ≤ gb493)); replace HB := aM (aE HB.out hb); clear hb hbox hg; have hcz14_0 : w13.cell? ⟨gb493, 0, none⟩ = some (.slice A0_0 l0_0.length c0_0) := (aA BK493.out 0).trans rfl; have hcz14_1 : w13.cell? ⟨gb493, 1, none⟩ = some (.slice A0_1 l0_1.length c0_1) := (aA BK493.out 1).trans rfl) | ((with_reducible refine aY (f := 92) rfl ?_); refine gL 6 Try.func92 #[.agg #[.slice A0_0 l0_0.length c0_0, .slice A0_1 l0_1.length c0_1]] ?_; (with_reducible refine (spec_l1Less.calls k (fun k_ => k_ < w.heap.size) _ _ l0_0 (fun k_ => k_ < w.heap.size) _ _ l0_1 t494 t497 _ ?side1 ?side2 A2.out).mono ?_); (case side1 => exact Kd.V_mk HC0_0.out (Kd.F_below (Kd.C_F Kd.heap_bool HR0_0.out) HB.out)); (case side2 => exact Kd.V_mk HC0_1.out (Kd.F_below (Kd.C_F Kd.heap_bool HR0_1.out) HB.out)); rintro e w15 ⟨v495, v498, rfl, ho0, ho1, hb⟩; refine ⟨_, rfl, ?_⟩; have HO496 := aM (bQ (bK (ok' := fun k_ => k_ ≠ gb493) ho0 (fun k_ hk_ => Or.elim hk_ (fun hs_ => Or.elim hs_ (fun hs_ => fun e_ => Nat.not_le.2 hs_ (by rw [e_]; exact GW493.out)) (fun hs_ => fun e_ => Nat.not_le.2 hs_ (by rw [e_]; exact GW493.out))) (fun hn_ => (Kd.freshB (g := gb493) (o := .cells #[.slice A0_0 l0_0.length c0_0, .slice A0_1 l0_1.length c0_1] 94 (0, 0)) BK493.out k_ hn_)))) (aG HB.out)); have HO499 := aM (bQ (bK (ok' := fun k_ => k_ ≠ gb493) ho1 (fun k_ hk_ => Or.elim hk_ (fun hs_ => Or.elim hs_ (fun hs_ => fun e_ => Nat.not_le.2 hs_ (by rw [e_]; exact GW493.out)) (fun hs_ => fun e_ => Nat.not_le.2 hs_ (by rw [e_]; exact GW493.out))) (fun hn_ => (Kd.freshB (g := gb493) (o := .cells #[.slice A0_0 l0_0.length c0_0, .slice A0_1 l0_1.length c0_1] 94 (0, 0)) BK493.out k_ hn_)))) (aG HB.out)); replace HB := aM (aE HB.out hb); (try clear hb); (try clear ho0); (try clear ho1)) | ((with_reducible refine aZ (N := 4) rfl ?_); (try (refine gate_guard (by rfl) ?_; dsimp only)); refine bB ?hg (N := 4) ?hd (cs := #[.slice none 0 0, .slice none 0 0]) (t := 94) ?hr ?_; (case hd => rfl); (case hg => rfl); (case hr => first | (go_simp; done)); intro gb500 hg w16 hbox hb; replace HO496 := aM (bH (Kd.V_elderB HO496.out gb500 (Nat.le_of_eq hg.symm)) hb); replace HO499 := aM (bH (Kd.V_elderB HO499.out gb500 (Nat.le_of_eq hg.symm)) hb); have BK500 := aM hbox; have GE500 := aM ((by rw [hg]; exact (aG HB.out) : w.heap.size ≤ gb500)); replace HB := aM (aE HB.out hb); clear hb hbox hg; obtain ⟨Ao17, co17, eo17⟩ := Kd.V_slice HO496.out; subst eo17; have hcz19_0 : w16.cell? ⟨gb500, 0, none⟩ = some (.slice none 0 0) := (aA BK500.out 0).trans rfl; have hcz19_1 : w16.cell? ⟨gb500, 1, none⟩ = some (.slice none 0 0) := (aA BK500.out 1).trans rfl; have hfz19_0 := aC BK500.out 0; have hfz19_1 := aC BK500.out 1; obtain ⟨Ao20, co20, eo20⟩ := Kd.V_slice HO499.out; subst eo20))
   go_ret2
   exact ⟨by first | rfl | (simp [*, errW_none, errW_some] <;> rfl), by repeat (first | (with_reducible first | exact HB.out | refine bS ?_ GE500.out))⟩
  ·rw [if_neg c12] at H
   have c12b0 : decide (60 < (t497.length : Int)) = false := aK c12
   clear c12
   replace H := Option.bind_eq_some_iff.mp H
   obtain ⟨t501, A210, H⟩ := H
   replace H : (some (t501, true)) = some (r1, r2) := H
   have A21 := aM A210
   clear A210
   simp only [aV, aW] at H
   obtain ⟨rfl, rfl⟩ := H
   go_enter Try.func98, Try.ntmps98
   go_wp2_with (first | ((with_reducible refine aZ (N := 1) rfl ?_); (try (refine gate_guard (by rfl) ?_; dsimp only)); refine bB ?hg (N := 1) ?hd (cs := #[.slice A0_0 l0_0.length c0_0, .slice A0_1 l0_1.length c0_1]) (t := 94) ?hr ?_; (case hd => rfl); (case hg => rfl); (case hr => first | (go_simp; done)); intro gb493 hg w22 hbox hb; have BK493 := aM hbox; have GW493 := aM ((by rw [hg]; exact (aG HB.out) : w.heap.size ≤ gb493)); replace HB := aM (aE HB.out hb); clear hb hbox hg; have hcz23_0 : w22.cell? ⟨gb493, 0, none⟩ = some (.slice A0_0 l0_0.length c0_0) := (aA BK493.out 0).trans rfl; have hcz23_1 : w22.cell? ⟨gb493, 1, none⟩ = some (.slice A0_1 l0_1.length c0_1) := (aA BK493.out 1).trans rfl) | ((with_reducible refine aY (f := 92) rfl ?_); refine gL 6 Try.func92 #[.agg #[.slice A0_0 l0_0.length c0_0, .slice A0_1 l0_1.length c0_1]] ?_; (with_reducible refine (spec_l1Less.calls k (fun k_ => k_ < w.heap.size) _ _ l0_0 (fun k_ => k_ < w.heap.size) _ _ l0_1 t494 t497 _ ?side1 ?side2 A2.out).mono ?_); (case side1 => exact Kd.V_mk HC0_0.out (Kd.F_below (Kd.C_F Kd.heap_bool HR0_0.out) HB.out)); (case side2 => exact Kd.V_mk HC0_1.out (Kd.F_below (Kd.C_F Kd.heap_bool HR0_1.out) HB.out)); rintro e w24 ⟨v495, v498, rfl, ho0, ho1, hb⟩; refine ⟨_, rfl, ?_⟩; have HO496 := aM (bQ (bK (ok' := fun k_ => k_ ≠ gb493) ho0 (fun k_ hk_ => Or.elim hk_ (fun hs_ => Or.elim hs_ (fun hs_ => fun e_ => Nat.not_le.2 hs_ (by rw [e_]; exact GW493.out)) (fun hs_ => fun e_ => Nat.not_le.2 hs_ (by rw [e_]; exact GW493.out))) (fun hn_ => (Kd.freshB (g := gb493) (o := .cells #[.slice A0_0 l0_0.length c0_0, .slice A0_1 l0_1.length c0_1] 94 (0, 0)) BK493.out k_ hn_)))) (aG HB.out)); have HO499 := aM (bQ (bK (ok' := fun k_ => k_ ≠ gb493) ho1 (fun k_ hk_ => Or.elim hk_ (fun hs_ => Or.elim hs_ (fun hs_ => fun e_ => Nat.not_le.2 hs_ (by rw [e_]; exact GW493.out)) (fun hs_ => fun e_ => Nat.not_le.2 hs_ (by rw [e_]; exact GW493.out))) (fun hn_ => (Kd.freshB (g := gb493) (o := .cells #[.slice A0_0 l0_0.length c0_0, .slice A0_1 l0_1.length c0_1] 94 (0, 0)) BK493.out k_ hn_)))) (aG HB.out)); replace HB := aM (aE HB.out hb); (try clear hb); (try clear ho0); (try clear ho1)) | ((with_reducible refine aZ (N := 4) rfl ?_); (try (refine gate_guard (by rfl) ?_; dsimp only)); refine bB ?hg (N := 4) ?hd (cs := #[.slice none 0 0, .slice none 0 0]) (t := 94) ?hr ?_; (case hd => rfl); (case hg => rfl); (case hr => first | (go_simp; done)); intro gb500 hg w25 hbox hb; replace HO496 := aM (bH (Kd.V_elderB HO496.out gb500 (Nat.le_of_eq hg.symm)) hb); replace HO499 := aM (bH (Kd.V_elderB HO499.out gb500 (Nat.le_of_eq hg.symm)) hb); have BK500 := aM hbox; have GE500 := aM ((by rw [hg]; exact (aG HB.out) : w.heap.size ≤ gb500)); replace HB := aM (aE HB.out hb); clear hb hbox hg; obtain ⟨Ao26, co26, eo26⟩ := Kd.V_slice HO496.out; subst eo26; have hcz28_0 : w25.cell? ⟨gb500, 0, none⟩ = some (.slice none 0 0) := (aA BK500.out 0).trans rfl; have hcz28_1 : w25.cell? ⟨gb500, 1, none⟩ = some (.slice none 0 0) := (aA BK500.out 1).trans rfl; have hfz28_0 := aC BK500.out 0; have hfz28_1 := aC BK500.out 1; obtain ⟨Ao29, co29, eo29⟩ := Kd.V_slice HO499.out; subst eo29) | ((with_reducible refine aY (f := 106) rfl ?_); refine gL 18 Try.func106 #[.agg #[.slice Ao26 t494.length co26, .slice Ao29 t497.length co29]] ?_; (with_reducible refine (spec_l1Write.calls k _ _ t494 _ _ t497 t501 _ ?side1 ?side2 ?side3 ?side4 A21.out).mono ?_); (case side1 => refine (Kd.V_reads' (e := 4) (base := w.heap.size) (ok := fun k_ => (k_ ≠ gb493 ∧ k_ ≠ gb500)) (n := t494.length) (c := co26) ?_).2.2; exact (by exact (bK (bD (p := ⟨gb500, 1, none⟩) (bD (p := ⟨gb500, 0, none⟩) (bK HO496.out (fun k_ hk => (⟨hk, hk.2⟩ : _ ∧ k_ ≠ gb500))) (fun _ hk => hk.2) (.slice Ao26 t494.length co26)) (fun _ hk => hk.2) (.slice Ao29 t497.length co29)) (fun _ h_ => h_.1)))); (case side2 => exact (Kd.V_reads' HO496.out).2.1); (case side3 => refine (Kd.V_reads' (e := 4) (base := w.heap.size) (ok := fun k_ => (k_ ≠ gb493 ∧ k_ ≠ gb500)) (n := t497.length) (c := co29) ?_).2.2; exact (by exact (bK (bD (p := ⟨gb500, 1, none⟩) (bD (p := ⟨gb500, 0, none⟩) (bK HO499.out (fun k_ hk => (⟨hk, hk.2⟩ : _ ∧ k_ ≠ gb500))) (fun _ hk => hk.2) (.slice Ao26 t494.length co26)) (fun _ hk => hk.2) (.slice Ao29 t497.length co29)) (fun _ h_ => h_.1)))); (case side4 => exact (Kd.V_reads' HO499.out).2.1); rintro e w30 ⟨rfl, hb⟩; refine ⟨_, rfl, ?_⟩; replace HB := aM (aE (by repeat (first | (with_reducible first | exact HB.out | refine bS ?_ GE500.out))) hb); (try clear hb)))
   go_ret2
   exact ⟨by first | rfl | (simp [*, errW_none, errW_some] <;> rfl), HB.out⟩


def spec_l2Fill.f (k : Nat) (l0 : List Bool) (a1 : Int) : Option (ByteArray × Bool) := if 0 ≤ a1 then (if a1 ≤ (l0.length : Int) then ((spec_l1Done.f k (l0.take (a1 : Int).toNat) (l0.drop (a1 : Int).toNat)).bind fun bt504 => (some (bt504.1, bt504.2))) else (none)) else (none)
def spec_l2Fill.T1 : Bool × List (List Nat × List Nat) := (true, [([], []), ([], []), ([0, 1], [0, 1]), ([], []), ([], []), ([3, 4], [3, 4]), ([2, 5], [2, 5]), ([6], [6]), ([7], [7]), ([7], [7]), ([8, 7, 0, 1, 2, 3, 4, 5, 6, 7, 8, 9], [8]), ([9, 10, 0, 1, 2, 3, 4, 5, 6, 7, 8, 9, 10], [9])])
def spec_l2Fill.B1 : List Nat := [0, 0, 3, 0, 0, 24, 63, 127, 255, 255, 1023, 2047]
theorem spec_l2Fill.tab1 : rtab .any (opsOf Try.f94 1) = spec_l2Fill.T1 := by kernel_rfl
theorem spec_l2Fill.bits1 : waitsOk spec_l2Fill.T1.2 spec_l2Fill.B1 = true := by kernel_rfl
set_option maxHeartbeats 8000000 in
set_option maxRecDepth 100000 in
theorem spec_l2Fill.calls (k : Nat) (A0 : Option Addr) (c0 : Nat) (l0 : List Bool) (a1 : Int) (r1 : ByteArray) (r2 : Bool) (w : World) (hr0 : Kd.C Kd.bool w A0 l0.length l0) (hc0 : l0.length ≤ c0) (h : spec_l2Fill.f k l0 a1 = some (r1, r2)) :
  Calls Try.prog 94 #[.slice A0 l0.length c0, .int .i64 a1] w fun e w' => e = .returned (.tuple #[.string r1, .bool r2]) ∧ Below w.heap.size w w' := by
 have HR0 := aM hr0
 have HC0 := aM hc0
 clear hr0 hc0
 have HB := aM (cE w.heap.size w)
 have H : (if 0 ≤ a1 then (if a1 ≤ (l0.length : Int) then ((spec_l1Done.f k (l0.take (a1 : Int).toNat) (l0.drop (a1 : Int).toNat)).bind fun bt504 => (some (bt504.1, bt504.2))) else (none)) else (none)) = some (r1, r2) := h
 clear h
 by_cases c3 : 0 ≤ a1
 ·rw [if_pos c3] at H
  have c3b0 := eq_true c3
  have c3b1 : decide (0 ≤ a1) = true := aH c3
  clear c3
  by_cases c4 : a1 ≤ (l0.length : Int)
  ·rw [if_pos c4] at H
   have c4b0 := eq_true c4
   have c4b1 : decide (a1 ≤ (l0.length : Int)) = true := aH c4
   clear c4
   replace H := Option.bind_eq_some_iff.mp H
   obtain ⟨⟨t504, t505⟩, A70, H⟩ := H
   replace H : (some (t504, t505)) = some (r1, r2) := H
   have A7 := aM A70
   clear A70
   simp only [aV, aW] at H
   obtain ⟨rfl, rfl⟩ := H
   go_enter Try.func94, Try.ntmps94
   try go_wp2
   replace HB := aM (b1 HB.out)
   obtain ⟨i09, hi09, _, hsz9, _⟩ := info_parts info4
   obtain ⟨hcut9, hA9, hC9⟩ := print_take_of (P := Try.prog) Value.bool false 52 4 .i64 Try.underlying52 hi09 hsz9 A0 c0 l0 a1 (aJ (by (with_reducible assumption))) (aJ (by (with_reducible assumption))) HC0.out
   have HR502 := aM (cP (h1 := fun _ => rfl) (hA9 _ (Kd.reads_of_C HR0.out)))
   have HC502 := aM hC9
   clear hA9 hC9 hi09 hsz9
   obtain ⟨i010, hi010, _, hsz10, _⟩ := info_parts info4
   obtain ⟨A10, hcut10, hA10, hC10⟩ := print_drop_of (P := Try.prog) Value.bool false 52 4 .i64 Try.underlying52 hi010 hsz10 A0 c0 l0 a1 (aJ (by (with_reducible assumption))) (aJ (by (with_reducible assumption))) HC0.out
   have HR503 := aM (cP (h1 := fun _ => rfl) (hA10 _ (Kd.reads_of_C HR0.out)))
   have HC503 := aM hC10
   clear hA10 hC10 hi010 hsz10
   refine start_ (n := 12) (S := fun w' => True) (ds := []) #[false, false, false, false, false, false, false, false, false, false, false, false] (by kernel_rfl) rfl rfl trivial (fun hHeld => ?_); refine with_tabW spec_l2Fill.tab1 spec_l2Fill.bits1 (fun HT_ HW_ => ?_)
   generalize w.drew = w8 at HB HR502 HR503 hHeld ⊢
   refine pQ 0 6 HT_ ?_
   refine pQ 1 7 HT_ ?_
   refine pQ 2 8 HT_ ?_
   refine pQ 3 9 HT_ ?_
   refine pQ 4 10 HT_ ?_
   refine pQ 5 11 HT_ ?_
   refine pQ 6 12 HT_ ?_
   refine oQ 7 13 HT_ (fun K hK => ?_)
   refine gO Try.func98 #[.agg #[.slice A0 (l0.take (a1 : Int).toNat).length c0, .slice A10 (l0.drop (a1 : Int).toNat).length (c0 - a1.toNat)]] (hargs := (by (try simp only [aN, aQ, aT]); first | (rw [show (l0.take (a1 : Int).toNat).length = a1.toNat from (by rw [List.length_take]; have h_ : (a1 : Int) ≤ (l0.length : Int) := aJ (by (with_reducible assumption)); omega), show (l0.drop (a1 : Int).toNat).length = (l0.length - a1.toNat) from List.length_drop] <;> rfl))) ?_
   with_reducible refine (spec_l1Done.calls k _ _ (l0.take (a1 : Int).toNat) _ _ (l0.drop (a1 : Int).toNat) t504 t505 _ ?side1 ?side2 ?side3 ?side4 A7.out).mono ?_
   (case side1 => repeat (exact (bF HR502.out HB.out)))
   (case side2 => exact HC502.out)
   (case side3 => repeat (exact (bF HR503.out HB.out)))
   (case side4 => exact HC503.out)
   rintro e w11 ⟨rfl, hb⟩
   refine ⟨_, rfl, ?_⟩
   replace HB := aM (aE HB.out hb)
   (try clear hb)
   refine hK.out _ _ trivial (fun hHeld => ?_)
   clear hK K
   refine nQ ?_
   refine pQ 8 14 HT_ ?_
   refine pQ 9 15 HT_ ?_
   refine pQ 10 4 HT_ ?_
   refine pQ 11 5 HT_ ?_
   refine done_ (done_of HT_.out (by kernel_rfl)) ?_
   try go_wp2
   go_ret2
   exact ⟨by first | rfl | (simp [*, errW_none, errW_some] <;> rfl), HB.out⟩
  ·rw [if_neg c4] at H
   exact absurd H (by simp)
 ·rw [if_neg c3] at H
  exact absurd H (by simp)


mutual
def spec_l4Star.l0 : Nat → Int → List Bool → List Int → Int → List Bool → List Bool → Option (List Bool)
 | 0, _, _, _, _, _, _ => none
 | k + 1, x1, x5, x6, x7, x507000, x507001 => if x7 < x1 then (spec_l4Star.l1 k x1 x5 x6 x7 0 x507000 x507001) else (some x5)
def spec_l4Star.j2 : Nat → Int → List Bool → List Int → Int → List Bool → List Bool → Option (List Bool)
 | 0, _, _, _, _, _, _ => none
 | k + 1, x1, x5, x6, x7, x507000, x507001 => if x7 = 0 then (if 0 < (x5.length : Int) then (spec_l4Star.l0 k x1 (x5.set (0 : Int).toNat true) x6 (wrap64 (x7 + 1)) x507000 x507001) else (none)) else (if 0 ≤ x7 then (if x7 < (x5.length : Int) then (if rdOf false x5 x7 = true then (spec_l4Star.l0 k x1 x5 x6 (wrap64 (x7 + 1)) x507000 x507001) else ((spec_l1Has.f x507000 x507001 x7).bind fun t519 => (if t519 = true then (if x6.length < 17592186044416 then (spec_l4Star.l0 k x1 (x5.set (x7 : Int).toNat true) (x6 ++ [x7]) (wrap64 (x7 + 1)) x507000 x507001) else (none)) else (spec_l4Star.l0 k x1 x5 x6 (wrap64 (x7 + 1)) x507000 x507001)))) else (none)) else (none))
def spec_l4Star.l1 : Nat → Int → List Bool → List Int → Int → Int → List Bool → List Bool → Option (List Bool)
 | 0, _, _, _, _, _, _, _ => none
 | k + 1, x1, x5, x6, x7, x8, x507000, x507001 => if x8 < (x6.length : Int) then (if 0 ≤ x7 then (if x7 < (x5.length : Int) then (if rdOf false x5 x7 = true then (spec_l4Star.j2 k x1 x5 x6 x7 x507000 x507001) else (if 0 ≤ x8 then (if 0 ≤ (wrap64 (x7 - (rd x6 x8))) then (if (wrap64 (x7 - (rd x6 x8))) < (x5.length : Int) then (spec_l4Star.l1 k x1 (x5.set (x7 : Int).toNat (rdOf false x5 (wrap64 (x7 - (rd x6 x8))))) x6 x7 (wrap64 (x8 + 1)) x507000 x507001) else (none)) else (none)) else (none))) else (none)) else (none)) else (spec_l4Star.j2 k x1 x5 x6 x7 x507000 x507001)
end
def spec_l4Star.f (k : Nat) (l0_0 : List Bool) (l0_1 : List Bool) (a1 : Int) : Option (List Bool) := if 0 ≤ a1 then (if (a1 : Int).toNat ≤ 281474976710656 then (spec_l4Star.l0 k a1 (List.replicate (a1 : Int).toNat false) (([] : List Int)) 0 l0_0 l0_1) else (none)) else (none)
set_option maxHeartbeats 8000000 in
set_option maxRecDepth 100000 in
theorem spec_l4Star.calls (k : Nat) (A0_0 : Option Addr) (c0_0 : Nat) (l0_0 : List Bool) (A0_1 : Option Addr) (c0_1 : Nat) (l0_1 : List Bool) (a1 : Int) (r : List Bool) (w : World) (hr0_0 : Kd.C Kd.bool w A0_0 l0_0.length l0_0) (hc0_0 : l0_0.length ≤ c0_0) (hr0_1 : Kd.C Kd.bool w A0_1 l0_1.length l0_1) (hc0_1 : l0_1.length ≤ c0_1) (h : spec_l4Star.f k l0_0 l0_1 a1 = some r) :
  Calls Try.prog 95 #[.agg #[.slice A0_0 l0_0.length c0_0, .slice A0_1 l0_1.length c0_1], .int .i64 a1] w fun e w' => ∃ v0_ : Value, e = .returned (v0_) ∧ Kd.R Kd.bool 4 w' w.heap.size (fun _ => True) v0_ r ∧ Below w.heap.size w w' := by
 have HR0_0 := aM hr0_0
 have HC0_0 := aM hc0_0
 clear hr0_0 hc0_0
 have HR0_1 := aM hr0_1
 have HC0_1 := aM hc0_1
 clear hr0_1 hc0_1
 have HB := aM (cE w.heap.size w)
 have H : (if 0 ≤ a1 then (if (a1 : Int).toNat ≤ 281474976710656 then (spec_l4Star.l0 k a1 (List.replicate (a1 : Int).toNat false) (([] : List Int)) 0 l0_0 l0_1) else (none)) else (none)) = some r := h
 clear h
 by_cases c3 : 0 ≤ a1
 ·rw [if_pos c3] at H
  have c3b0 := eq_true c3
  have c3b1 : decide (0 ≤ a1) = true := aH c3
  clear c3
  by_cases c4 : (a1 : Int).toNat ≤ 281474976710656
  ·rw [if_pos c4] at H
   have c4b0 := eq_true c4
   have c4b1 : decide ((a1 : Int).toNat ≤ 281474976710656) = true := aH c4
   clear c4
   obtain ⟨y507, hy507⟩ : ∃ y_ : List Bool, y_ = (List.replicate (a1 : Int).toNat false) := ⟨_, rfl⟩
   replace H : (spec_l4Star.l0 k a1 y507 (([] : List Int)) 0 l0_0 l0_1) = some r := by first | (rw [hy507]; with_reducible exact H)
   have Ny507 := aM hy507
   clear hy507
   obtain ⟨y510, hy510⟩ : ∃ y_ : List Int, y_ = (([] : List Int)) := ⟨_, rfl⟩
   replace H : (spec_l4Star.l0 k a1 y507 y510 0 l0_0 l0_1) = some r := by first | (rw [hy510]; with_reducible exact H)
   have Ny510 := aM hy510
   clear hy510
   have H' := aM H
   clear H
   go_enter Try.func95, Try.ntmps95
   go_wp2_with (first | ((with_reducible refine aZ (N := 2) rfl ?_); refine bB ?hg (N := 2) ?hd (cs := #[.slice A0_0 l0_0.length c0_0, .slice A0_1 l0_1.length c0_1]) (t := 94) ?hr ?_; (case hd => rfl); (case hg => rfl); (case hr => first | (go_simp; done)); intro gb506 hg w5 hbox hb; have BK506 := aM hbox; replace HB := aM (aE HB.out hb); clear hb hbox hg) | ((with_reducible refine aZ (N := 10) rfl ?_); refine Kd.R_make Kd.bool _ 4 rfl (N := 10) rfl 52 _ _ rfl a1 rfl rfl Try.underlying52 (.bool false) 1 info4 rfl (by decide) (by omega) false (ok := fun _ => True) (okp := fun _ => True) rfl (fun _ hk => hk) trivial (aJ (by (with_reducible assumption))) (Nat.le_trans (Nat.mul_le_mul_right _ (aJ (by (with_reducible assumption)) : a1.toNat ≤ 281474976710656)) (by omega)) (cE _ _) (cD _) ?_; intro v508 w6 ho7 hb hg_ hnew_; clear hg_ hnew_; (rw [← Ny507.out] at ho7); have HO509 := aM (bP ho7 (aG HB.out)); replace BK506 := aM (aD (g := gb506) (o := .cells #[.slice A0_0 l0_0.length c0_0, .slice A0_1 l0_1.length c0_1] 94 (0, 0)) BK506.out hb); replace HB := aM (aE HB.out hb); clear hb ho7) | ((with_reducible refine aZ (N := 11) rfl ?_); refine Kd.R_lit (Kd.int .i64) _ 3 ?hg (N := 11) ?hd (xs := ([] : List Int)) (inner := []) (ok := fun _ => True) (okp := fun _ => True) ?hr ?hp (fun _ hk => hk) trivial (cE _ _) (cD _) (by simp) ?_; (case hd => rfl); (case hg => rfl); (case hr => first | (go_simp; done)); (case hp => exact (Reps.none _ _)); intro v511 w8 ho9 hb hg_ hnew_; clear hg_ hnew_; (rw [← Ny510.out] at ho9); replace HO509 := aM (bG HO509.out hb); have HO512 := aM (bP ho9 (aG HB.out)); replace BK506 := aM (aD (g := gb506) (o := .cells #[.slice A0_0 l0_0.length c0_0, .slice A0_1 l0_1.length c0_1] 94 (0, 0)) BK506.out hb); replace HB := aM (aE HB.out hb); clear hb ho9))
   go_loopg [6, 7] k (fun kq v6 v7 w' => ∃ (x5_1 : List Bool) (x6_1 : List Int) (x7_1 : Int), v7 = .int .i64 x7_1 ∧ Aside0 (spec_l4Star.l0 kq a1 x5_1 x6_1 x7_1 l0_0 l0_1 = some r) ∧ Aside0 (kq ≤ k) ∧ Aside0 (Kd.R Kd.bool 4 w' w.heap.size (fun _ => True) v508 x5_1) ∧ Aside0 (Kd.R (Kd.int .i64) 3 w' w.heap.size (fun _ => True) v6 x6_1) ∧ Aside0 (w'.heap[gb506]? = some (.cells #[(.slice A0_0 l0_0.length c0_0), (.slice A0_1 l0_1.length c0_1)] 94 (0, 0))) ∧ Aside0 (Below w.heap.size w w'))
   case atStart => exact ⟨(y507), (y510), (0), (by rfl), H', ⟨cD _⟩, ⟨by exact HO509.out⟩, ⟨by exact HO512.out⟩, ⟨by exact BK506.out⟩, ⟨HB.out⟩⟩
   case round =>
    clear H'
    try clear c3b0
    try clear c3b1
    try clear c4b0
    try clear c4b1
    obtain ⟨x5_1, x6_1, x7_1, rfl, HA, HK1, HO_5, HO_6, BK506, HB⟩ := hrel
    cases gk with
    | zero => exact absurd HA.out (by simp [spec_l4Star.l0])
    | succ k1 =>
     have H := HA.out
     clear HA
     simp only [spec_l4Star.l0] at H
     by_cases c10 : x7_1 < a1
     ·rw [if_pos c10] at H
      have c10b0 : decide (x7_1 < a1) = true := aH c10
      clear c10
      have HC11 := aM H
      clear H
      go_upto_block 2 with (fail)
      go_cut [] (fun wc => ∃ (kq : Nat) (x5_10 : List Bool), Aside0 (spec_l4Star.j2 kq a1 x5_10 x6_1 x7_1 l0_0 l0_1 = some r) ∧ Aside0 (kq ≤ k1) ∧ Aside0 (Kd.R Kd.bool 4 wc w.heap.size (fun _ => True) v508 x5_10) ∧ Aside0 (Kd.R (Kd.int .i64) 3 wc w.heap.size (fun _ => True) u6 x6_1) ∧ Aside0 (wc.heap[gb506]? = some (.cells #[(.slice A0_0 l0_0.length c0_0), (.slice A0_1 l0_1.length c0_1)] 94 (0, 0))) ∧ Aside0 (Below w.heap.size w wc))
      case first =>
       have H := HC11.out
       clear HC11
       have H' := aM H
       clear H
       go_wp2
       go_loopg [8] k1 (fun kq v8 w' => ∃ (x5_2 : List Bool) (x8_2 : Int), v8 = .int .i64 x8_2 ∧ Aside0 (spec_l4Star.l1 kq a1 x5_2 x6_1 x7_1 x8_2 l0_0 l0_1 = some r) ∧ Aside0 (kq ≤ k1) ∧ Aside0 (Kd.R Kd.bool 4 w' w.heap.size (fun _ => True) v508 x5_2) ∧ Aside0 (Kd.R (Kd.int .i64) 3 w' w.heap.size (fun _ => True) u6 x6_1) ∧ Aside0 (w'.heap[gb506]? = some (.cells #[(.slice A0_0 l0_0.length c0_0), (.slice A0_1 l0_1.length c0_1)] 94 (0, 0))) ∧ Aside0 (Below w.heap.size w w'))
       case atStart => exact ⟨(x5_1), (0), (by rfl), H', ⟨cD _⟩, ⟨by exact HO_5.out⟩, ⟨by exact HO_6.out⟩, ⟨by exact BK506.out⟩, ⟨HB.out⟩⟩
       case round =>
        clear H'
        try clear c10b0
        obtain ⟨x5_2, x8_2, rfl, HA, HK2, HO_5, HO_6, BK506, HB⟩ := hrel
        cases gk with
        | zero => exact absurd HA.out (by simp [spec_l4Star.l1])
        | succ k2 =>
         have H := HA.out
         clear HA
         simp only [spec_l4Star.l1] at H
         by_cases c12 : x8_2 < (x6_1.length : Int)
         ·rw [if_pos c12] at H
          have c12b0 : decide (x8_2 < (x6_1.length : Int)) = true := aH c12
          clear c12
          by_cases c13 : 0 ≤ x7_1
          ·rw [if_pos c13] at H
           have c13b0 : decide (0 ≤ x7_1) = true := aH c13
           clear c13
           by_cases c14 : x7_1 < (x5_2.length : Int)
           ·rw [if_pos c14] at H
            have c14b0 : decide (x7_1 < (x5_2.length : Int)) = true := aH c14
            clear c14
            obtain ⟨bq15, hbq15⟩ : ∃ b_ : Bool, b_ = (rdOf false x5_2 x7_1) := ⟨_, rfl⟩
            replace H : (if bq15 = true then (spec_l4Star.j2 k2 a1 x5_2 x6_1 x7_1 l0_0 l0_1) else (if 0 ≤ x8_2 then (if 0 ≤ (wrap64 (x7_1 - (rd x6_1 x8_2))) then (if (wrap64 (x7_1 - (rd x6_1 x8_2))) < (x5_2.length : Int) then (spec_l4Star.l1 k2 a1 (x5_2.set (x7_1 : Int).toNat (rdOf false x5_2 (wrap64 (x7_1 - (rd x6_1 x8_2))))) x6_1 x7_1 (wrap64 (x8_2 + 1)) l0_0 l0_1) else (none)) else (none)) else (none))) = some r := by rw [← hbq15] at H; exact H
            have Nbq15 := aM hbq15
            clear hbq15
            by_cases c16 : bq15 = true
            ·subst c16
             replace H : (spec_l4Star.j2 k2 a1 x5_2 x6_1 x7_1 l0_0 l0_1) = some r := by rw [if_pos rfl] at H; exact H
             have H' := aM H
             clear H
             obtain ⟨Ao17, co17, eo17⟩ := bL HO_6.out
             subst eo17
             obtain ⟨Ao18, co18, eo18⟩ := bL HO_5.out
             subst eo18
             have p513 : 0 ≤ (x7_1 : Int) := aJ (by (with_reducible assumption))
             have q513 : x7_1 < (x5_2.length : Int) := aJ (by (with_reducible assumption))
             obtain ⟨ad513, e513, hx513_0⟩ := Kd.at_bool (bM HO_5.out).2.2 x7_1 p513 q513
             (try rw [← Nbq15.out] at hx513_0)
             cases e513
             replace p513 := eq_true p513
             replace q513 := eq_true q513
             go_wp2
             go_meet
             case rel => exact ⟨_, (x5_2), H', ⟨by have := HK1.out; have := HK2.out; omega⟩, ⟨by exact HO_5.out⟩, ⟨by exact HO_6.out⟩, ⟨by exact BK506.out⟩, ⟨HB.out⟩⟩
            ·replace c16 := Bool.eq_false_iff.mpr c16
             subst c16
             replace H : (if 0 ≤ x8_2 then (if 0 ≤ (wrap64 (x7_1 - (rd x6_1 x8_2))) then (if (wrap64 (x7_1 - (rd x6_1 x8_2))) < (x5_2.length : Int) then (spec_l4Star.l1 k2 a1 (x5_2.set (x7_1 : Int).toNat (rdOf false x5_2 (wrap64 (x7_1 - (rd x6_1 x8_2))))) x6_1 x7_1 (wrap64 (x8_2 + 1)) l0_0 l0_1) else (none)) else (none)) else (none)) = some r := by rw [if_neg (show ¬ (false = true) by decide)] at H; exact H
             by_cases c19 : 0 ≤ x8_2
             ·rw [if_pos c19] at H
              have c19b0 : decide (0 ≤ x8_2) = true := aH c19
              clear c19
              obtain ⟨ji20, hji20⟩ : ∃ j_ : Int, (wrap64 (x7_1 - (rd x6_1 x8_2))) = j_ := ⟨_, rfl⟩
              replace H : (if 0 ≤ (ji20) then (if (ji20) < (x5_2.length : Int) then (spec_l4Star.l1 k2 a1 (x5_2.set (x7_1 : Int).toNat (rdOf false x5_2 (ji20))) x6_1 x7_1 (wrap64 (x8_2 + 1)) l0_0 l0_1) else (none)) else (none)) = some r := by first | (rw [hji20] at H; exact H)
              have hji20w : (IntKind.i64.wrap (x7_1 - (rd x6_1 x8_2))) = ji20 := (cS _).trans hji20
              by_cases c21 : 0 ≤ (ji20)
              ·rw [if_pos c21] at H
               have c21b0 : decide (0 ≤ (ji20)) = true := aH c21
               clear c21
               by_cases c22 : (ji20) < (x5_2.length : Int)
               ·rw [if_pos c22] at H
                have c22b0 : decide ((ji20) < (x5_2.length : Int)) = true := aH c22
                clear c22
                obtain ⟨y516, hy516⟩ : ∃ y_ : List Bool, y_ = (x5_2.set (x7_1 : Int).toNat (rdOf false x5_2 (ji20))) := ⟨_, rfl⟩
                replace H : (spec_l4Star.l1 k2 a1 y516 x6_1 x7_1 (wrap64 (x8_2 + 1)) l0_0 l0_1) = some r := by first | (rw [hy516]; with_reducible exact H)
                have Ny516 := aM hy516
                clear hy516
                have H' := aM H
                clear H
                obtain ⟨Ao24, co24, eo24⟩ := bL HO_6.out
                subst eo24
                obtain ⟨Ao25, co25, eo25⟩ := bL HO_5.out
                subst eo25
                have p513 : 0 ≤ (x7_1 : Int) := aJ (by (with_reducible assumption))
                have q513 : x7_1 < (x5_2.length : Int) := aJ (by (with_reducible assumption))
                obtain ⟨ad513, e513, hx513_0⟩ := Kd.at_bool (bM HO_5.out).2.2 x7_1 p513 q513
                (try rw [← Nbq15.out] at hx513_0)
                cases e513
                replace p513 := eq_true p513
                replace q513 := eq_true q513
                have p514 : 0 ≤ (x8_2 : Int) := aJ (by (with_reducible assumption))
                have q514 : x8_2 < (x6_1.length : Int) := aJ (by (with_reducible assumption))
                obtain ⟨ad514, e514, hx514_0⟩ := Kd.at_int (bM HO_6.out).2.2 x8_2 p514 q514
                cases e514
                replace p514 := eq_true p514
                replace q514 := eq_true q514
                have p515 : 0 ≤ ((ji20) : Int) := aJ (by (with_reducible assumption))
                have q515 : (ji20) < (x5_2.length : Int) := aJ (by (with_reducible assumption))
                obtain ⟨ad515, e515, hx515_0⟩ := Kd.at_bool (bM HO_5.out).2.2 (ji20) p515 q515
                obtain rfl : ad513 = ad515 := (by injection e515)
                replace p515 := eq_true p515
                replace q515 := eq_true q515
                have p23 : 0 ≤ (x7_1 : Int) := aJ (by (with_reducible assumption))
                have q23 : (x7_1 : Int) < ((x5_2.length : Int) : Int) := aJ (by (with_reducible assumption))
                obtain ⟨go23, co23, eo23, gb23, gl23, cl23, HG23⟩ := cQ HO_5.out (by omega)
                (cases eo23)
                have GB23 := aM gb23
                clear gb23 gl23 HG23
                (simp only [add_plain] at hx513_0)
                (simp only [add_plain] at hx515_0)
                obtain ⟨hx23_0, hf23_0⟩ := Kd.R_celln false HO_5.out (x7_1 : Int) p23 q23
                have HP26 := Kd.R_putg HO_5.out (x7_1 : Int) (rdOf false x5_2 (ji20))
                go_wp2_with (first | ((with_reducible refine gate_store (t := 4) (p := 41) rfl ?_); refine store_event (t := 4) (p := 41) (v := ?vo_w27) (w1 := (wr.setCell ⟨go23, (x7_1 : Int).toNat, none⟩ (.bool (rdOf false x5_2 (ji20))))) ?hg ?ho ?hn ?hr ?_; (case ho => rfl); (case hg => rfl); (case hn => rfl); (case hr => first | (go_simp; done)); intro w27 hw; have hg : wr.grownBy w27 (some go23) := (by rw [hw]; exact HP26.2); have hp_ : Kd.R Kd.bool 4 w27 w.heap.size (fun _ => True) (.slice (some ⟨go23, 0, none⟩) x5_2.length co25) y516 := (by rw [hw, Ny516.out]; exact HP26.1); clear HP26; replace HO_6 := aM (Kd.R_over' (v := (.slice (some ⟨go23, 0, none⟩) x5_2.length co25)) HO_6.out (Kd.R_typed HO_5.out) (by decide) hg); replace BK506 := aM (blk_grown (g := gb506) (o := .cells #[.slice A0_0 l0_0.length c0_0, .slice A0_1 l0_1.length c0_1] 94 (0, 0)) BK506.out hg (Kd.R_ne HO_5.out BK506.out (by decide))); replace HO_5 := aM hp_; replace HB := aM ((by rw [hw]; exact bS (HB.out) GB23.out : Below w.heap.size w w27)); clear hg hw hp_))
                go_roundg k2
                case measure => have := HK1.out; have := HK2.out; omega
                case rel => exact ⟨(y516), (wrap64 (x8_2 + 1)), (by rfl), H', ⟨by have := HK1.out; have := HK2.out; omega⟩, ⟨by exact HO_5.out⟩, ⟨by exact HO_6.out⟩, ⟨by exact BK506.out⟩, ⟨HB.out⟩⟩
               ·rw [if_neg c22] at H
                exact absurd H (by simp)
              ·rw [if_neg c21] at H
               exact absurd H (by simp)
             ·rw [if_neg c19] at H
              exact absurd H (by simp)
           ·rw [if_neg c14] at H
            exact absurd H (by simp)
          ·rw [if_neg c13] at H
           exact absurd H (by simp)
         ·rw [if_neg c12] at H
          have c12b0 : decide (x8_2 < (x6_1.length : Int)) = false := aK c12
          clear c12
          have H' := aM H
          clear H
          obtain ⟨Ao28, co28, eo28⟩ := bL HO_6.out
          subst eo28
          go_wp2
          go_meet
          case rel => exact ⟨_, (x5_2), H', ⟨by have := HK1.out; have := HK2.out; omega⟩, ⟨by exact HO_5.out⟩, ⟨by exact HO_6.out⟩, ⟨by exact BK506.out⟩, ⟨HB.out⟩⟩
      case rest =>
       clear HC11
       try clear c10b0
       obtain ⟨kq, x5_10, HA, HJ10, HO_5, HO_6, BK506, HB⟩ := hcut
       cases kq with
       | zero => exact absurd HA.out (by simp [spec_l4Star.j2])
       | succ kj10 =>
        have H := HA.out
        clear HA
        simp only [spec_l4Star.j2] at H
        by_cases c29 : x7_1 = 0
        ·rw [if_pos c29] at H
         have c29b0 : (x7_1 == 0) = true := beq_iff_eq.mpr c29
         have c29b1 : (x7_1 != 0) = false := bne_eq_false_iff_eq.mpr c29
         clear c29
         by_cases c30 : 0 < (x5_10.length : Int)
         ·rw [if_pos c30] at H
          have c30b0 : decide (0 < (x5_10.length : Int)) = true := aH c30
          clear c30
          obtain ⟨y517, hy517⟩ : ∃ y_ : List Bool, y_ = (x5_10.set (0 : Int).toNat true) := ⟨_, rfl⟩
          replace H : (spec_l4Star.l0 kj10 a1 y517 x6_1 (wrap64 (x7_1 + 1)) l0_0 l0_1) = some r := by first | (rw [hy517]; with_reducible exact H)
          have Ny517 := aM hy517
          clear hy517
          have H' := aM H
          clear H
          have p31 : 0 ≤ (0 : Int) := (by omega)
          have q31 : (0 : Int) < ((x5_10.length : Int) : Int) := aJ (by (with_reducible assumption))
          have qi31 : (0 < x5_10.length) = True := eq_true (by omega)
          obtain ⟨go31, co31, eo31, gb31, gl31, cl31, HG31⟩ := cQ HO_5.out (by omega)
          (cases eo31)
          have GB31 := aM gb31
          clear gb31 gl31 HG31
          obtain ⟨hx31_0, hf31_0⟩ := Kd.R_celln false HO_5.out (0 : Int) p31 q31
          (try rw [show ((0 : Int)).toNat = 0 from rfl] at hx31_0)
          (try rw [show ((0 : Int)).toNat = 0 from rfl] at hf31_0)
          have HP32 := Kd.R_putg HO_5.out (0 : Int) true
          go_wp2_with (first | ((with_reducible refine gate_store (t := 4) (p := 45) rfl ?_); refine store_event (t := 4) (p := 45) (v := ?vo_w33) (w1 := (wc.setCell ⟨go31, (0 : Int).toNat, none⟩ (.bool true))) ?hg ?ho ?hn ?hr ?_; (case ho => rfl); (case hg => rfl); (case hn => rfl); (case hr => first | (go_simp; done)); intro w33 hw; have hg : wc.grownBy w33 (some go31) := (by rw [hw]; exact HP32.2); have hp_ : Kd.R Kd.bool 4 w33 w.heap.size (fun _ => True) (.slice (some ⟨go31, 0, none⟩) x5_10.length co31) y517 := (by rw [hw, Ny517.out]; exact HP32.1); clear HP32; replace HO_6 := aM (Kd.R_over' (v := (.slice (some ⟨go31, 0, none⟩) x5_10.length co31)) HO_6.out (Kd.R_typed HO_5.out) (by decide) hg); replace BK506 := aM (blk_grown (g := gb506) (o := .cells #[.slice A0_0 l0_0.length c0_0, .slice A0_1 l0_1.length c0_1] 94 (0, 0)) BK506.out hg (Kd.R_ne HO_5.out BK506.out (by decide))); replace HO_5 := aM hp_; replace HB := aM ((by rw [hw]; exact bS (HB.out) GB31.out : Below w.heap.size w w33)); clear hg hw hp_))
          go_roundg kj10
          case measure => have := HK1.out; have := HJ10.out; omega
          case rel => exact ⟨(y517), (x6_1), (wrap64 (x7_1 + 1)), (by rfl), H', ⟨by have := HK1.out; have := HJ10.out; omega⟩, ⟨by exact HO_5.out⟩, ⟨by exact HO_6.out⟩, ⟨by exact BK506.out⟩, ⟨HB.out⟩⟩
         ·rw [if_neg c30] at H
          exact absurd H (by simp)
        ·rw [if_neg c29] at H
         have c29b0 : (x7_1 == 0) = false := beq_eq_false_iff_ne.mpr c29
         have c29b1 : (x7_1 != 0) = true := bne_iff_ne.mpr c29
         by_cases c34 : 0 ≤ x7_1
         ·rw [if_pos c34] at H
          have c34b0 : decide (0 ≤ x7_1) = true := aH c34
          clear c34
          by_cases c35 : x7_1 < (x5_10.length : Int)
          ·rw [if_pos c35] at H
           have c35b0 : decide (x7_1 < (x5_10.length : Int)) = true := aH c35
           clear c35
           obtain ⟨bq36, hbq36⟩ : ∃ b_ : Bool, b_ = (rdOf false x5_10 x7_1) := ⟨_, rfl⟩
           replace H : (if bq36 = true then (spec_l4Star.l0 kj10 a1 x5_10 x6_1 (wrap64 (x7_1 + 1)) l0_0 l0_1) else ((spec_l1Has.f l0_0 l0_1 x7_1).bind fun t519 => (if t519 = true then (if x6_1.length < 17592186044416 then (spec_l4Star.l0 kj10 a1 (x5_10.set (x7_1 : Int).toNat true) (x6_1 ++ [x7_1]) (wrap64 (x7_1 + 1)) l0_0 l0_1) else (none)) else (spec_l4Star.l0 kj10 a1 x5_10 x6_1 (wrap64 (x7_1 + 1)) l0_0 l0_1)))) = some r := by rw [← hbq36] at H; exact H
           have Nbq36 := aM hbq36
           clear hbq36
           by_cases c37 : bq36 = true
           ·subst c37
            replace H : (spec_l4Star.l0 kj10 a1 x5_10 x6_1 (wrap64 (x7_1 + 1)) l0_0 l0_1) = some r := by rw [if_pos rfl] at H; exact H
            have H' := aM H
            clear H
            obtain ⟨Ao38, co38, eo38⟩ := bL HO_5.out
            subst eo38
            have p518 : 0 ≤ (x7_1 : Int) := aJ (by (with_reducible assumption))
            have q518 : x7_1 < (x5_10.length : Int) := aJ (by (with_reducible assumption))
            obtain ⟨ad518, e518, hx518_0⟩ := Kd.at_bool (bM HO_5.out).2.2 x7_1 p518 q518
            (try rw [← Nbq36.out] at hx518_0)
            cases e518
            replace p518 := eq_true p518
            replace q518 := eq_true q518
            go_wp2
            go_roundg kj10
            case measure => have := HK1.out; have := HJ10.out; omega
            case rel => exact ⟨(x5_10), (x6_1), (wrap64 (x7_1 + 1)), (by rfl), H', ⟨by have := HK1.out; have := HJ10.out; omega⟩, ⟨by exact HO_5.out⟩, ⟨by exact HO_6.out⟩, ⟨by exact BK506.out⟩, ⟨HB.out⟩⟩
           ·replace c37 := Bool.eq_false_iff.mpr c37
            subst c37
            replace H : ((spec_l1Has.f l0_0 l0_1 x7_1).bind fun t519 => (if t519 = true then (if x6_1.length < 17592186044416 then (spec_l4Star.l0 kj10 a1 (x5_10.set (x7_1 : Int).toNat true) (x6_1 ++ [x7_1]) (wrap64 (x7_1 + 1)) l0_0 l0_1) else (none)) else (spec_l4Star.l0 kj10 a1 x5_10 x6_1 (wrap64 (x7_1 + 1)) l0_0 l0_1))) = some r := by rw [if_neg (show ¬ (false = true) by decide)] at H; exact H
            replace H := Option.bind_eq_some_iff.mp H
            obtain ⟨t519, A390, H⟩ := H
            replace H : (if t519 = true then (if x6_1.length < 17592186044416 then (spec_l4Star.l0 kj10 a1 (x5_10.set (x7_1 : Int).toNat true) (x6_1 ++ [x7_1]) (wrap64 (x7_1 + 1)) l0_0 l0_1) else (none)) else (spec_l4Star.l0 kj10 a1 x5_10 x6_1 (wrap64 (x7_1 + 1)) l0_0 l0_1)) = some r := H
            have A39 := aM A390
            clear A390
            by_cases c40 : t519 = true
            ·subst c40
             replace H : (if x6_1.length < 17592186044416 then (spec_l4Star.l0 kj10 a1 (x5_10.set (x7_1 : Int).toNat true) (x6_1 ++ [x7_1]) (wrap64 (x7_1 + 1)) l0_0 l0_1) else (none)) = some r := by rw [if_pos rfl] at H; exact H
             obtain ⟨y520, hy520⟩ : ∃ y_ : List Bool, y_ = (x5_10.set (x7_1 : Int).toNat true) := ⟨_, rfl⟩
             replace H : (if x6_1.length < 17592186044416 then (spec_l4Star.l0 kj10 a1 y520 (x6_1 ++ [x7_1]) (wrap64 (x7_1 + 1)) l0_0 l0_1) else (none)) = some r := by first | (rw [hy520]; with_reducible exact H)
             have Ny520 := aM hy520
             clear hy520
             by_cases c42 : x6_1.length < 17592186044416
             ·rw [if_pos c42] at H
              have LMc42 := aM c42
              clear c42
              obtain ⟨y521, hy521⟩ : ∃ y_ : List Int, y_ = (x6_1 ++ [x7_1]) := ⟨_, rfl⟩
              replace H : (spec_l4Star.l0 kj10 a1 y520 y521 (wrap64 (x7_1 + 1)) l0_0 l0_1) = some r := by first | (rw [hy521]; with_reducible exact H)
              have Ny521 := aM hy521
              clear hy521
              have H' := aM H
              clear H
              obtain ⟨Ao43, co43, eo43⟩ := bL HO_5.out
              subst eo43
              have p518 : 0 ≤ (x7_1 : Int) := aJ (by (with_reducible assumption))
              have q518 : x7_1 < (x5_10.length : Int) := aJ (by (with_reducible assumption))
              obtain ⟨ad518, e518, hx518_0⟩ := Kd.at_bool (bM HO_5.out).2.2 x7_1 p518 q518
              (try rw [← Nbq36.out] at hx518_0)
              cases e518
              replace p518 := eq_true p518
              replace q518 := eq_true q518
              have hcz44_0 : wc.cell? ⟨gb506, 0, none⟩ = some (.slice A0_0 l0_0.length c0_0) := (aA BK506.out 0).trans rfl
              have hcz44_1 : wc.cell? ⟨gb506, 1, none⟩ = some (.slice A0_1 l0_1.length c0_1) := (aA BK506.out 1).trans rfl
              go_wp2_with (first | (go_at_call 97; (with_reducible refine (spec_l1Has.calls _ _ l0_0 _ _ l0_1 x7_1 true _ ?side1 ?side2 ?side3 ?side4 A39.out).mono ?_); (case side1 => repeat (exact (bF HR0_0.out HB.out))); (case side2 => exact HC0_0.out); (case side3 => repeat (exact (bF HR0_1.out HB.out))); (case side4 => exact HC0_1.out); rintro e w45 ⟨rfl, hb⟩; replace HO_5 := aM (bG HO_5.out hb); replace HO_6 := aM (bG HO_6.out hb); replace BK506 := aM (aD (g := gb506) (o := .cells #[.slice A0_0 l0_0.length c0_0, .slice A0_1 l0_1.length c0_1] 94 (0, 0)) BK506.out hb); replace HB := aM (aE HB.out hb); (try clear hb); have p41 : 0 ≤ (x7_1 : Int) := aJ (by (with_reducible assumption)); have q41 : (x7_1 : Int) < ((x5_10.length : Int) : Int) := aJ (by (with_reducible assumption)); obtain ⟨go41, co41, eo41, gb41, gl41, cl41, HG41⟩ := cQ HO_5.out (by omega); (cases eo41); have GB41 := aM gb41; clear gb41 gl41 HG41; (simp only [add_plain] at hx518_0); obtain ⟨hx41_0, hf41_0⟩ := Kd.R_celln false HO_5.out (x7_1 : Int) p41 q41; obtain ⟨hy46_, hz46_⟩ := Kd.R_celln false HO_5.out (x7_1 : Int) (aJ (by (with_reducible assumption))) (aJ (by (with_reducible assumption))); have HP46 := Kd.R_putg HO_5.out (x7_1 : Int) true) | ((with_reducible refine gate_store (t := 4) (p := 58) rfl ?_); refine store_event (t := 4) (p := 58) (v := ?vo_w47) (w1 := (w45.setCell ⟨go41, (x7_1 : Int).toNat, none⟩ (.bool true))) ?hg ?ho ?hn ?hr ?_; (case ho => rfl); (case hg => rfl); (case hn => rfl); (case hr => first | (go_simp; done)); intro w47 hw; have hg : w45.grownBy w47 (some go41) := (by rw [hw]; exact HP46.2); have hp_ : Kd.R Kd.bool 4 w47 w.heap.size (fun _ => True) (.slice (some ⟨go41, 0, none⟩) x5_10.length co43) y520 := (by rw [hw, Ny520.out]; exact HP46.1); clear HP46; replace HO_6 := aM (Kd.R_over' (v := (.slice (some ⟨go41, 0, none⟩) x5_10.length co43)) HO_6.out (Kd.R_typed HO_5.out) (by decide) hg); replace BK506 := aM (blk_grown (g := gb506) (o := .cells #[.slice A0_0 l0_0.length c0_0, .slice A0_1 l0_1.length c0_1] 94 (0, 0)) BK506.out hg (Kd.R_ne HO_5.out BK506.out (by decide))); replace HO_5 := aM hp_; replace HB := aM ((by rw [hw]; exact bS (HB.out) GB41.out : Below w.heap.size w w47)); clear hg hw hp_) | ((with_reducible refine gate_builtin (b := .append) (xs := #[.tmp 59, .tmp 61]) rfl ?_); at_builtin; refine Kd.R_append (Kd.int .i64) (w0 := w) w.heap.size rfl (.tmp 59) (.tmp 61) 33 3 (.int .i64 0) 8 rfl Try.underlying33 info3 rfl (by decide) (by omega) u6 x6_1 x7_1 [.int .i64 x7_1] (fun _ => True) (fun _ => False) rfl rfl ?aP (fun _ hk => hk.elim) ?aF ?aO ?aB ?aS ?aL ?_; (case aP => exact rfl); (case aB => exact HB.out); (case aF => exact (fun _ _ => trivial)); (case aO => exact HO_6.out); (case aS => exact (aG HB.out)); (case aL => have := LMc42.out; omega); intro v522 w48 ho hb hg hat; rw [← Ny521.out] at ho; replace HO_5 := aM (Kd.R_over' HO_5.out (Kd.R_typed HO_6.out) (by decide) hg); replace BK506 := aM (blk_grown (g := gb506) (o := .cells #[.slice A0_0 l0_0.length c0_0, .slice A0_1 l0_1.length c0_1] 94 (0, 0)) BK506.out hg (Kd.R_ne HO_6.out BK506.out (by decide))); replace HB := aM hb; have HO523 := aM ho; clear HO_6; clear ho hb hg hat))
              go_roundg kj10
              case measure => have := HK1.out; have := HJ10.out; omega
              case rel => exact ⟨(y520), (y521), (wrap64 (x7_1 + 1)), (by rfl), H', ⟨by have := HK1.out; have := HJ10.out; omega⟩, ⟨by exact HO_5.out⟩, ⟨by exact HO523.out⟩, ⟨by exact BK506.out⟩, ⟨HB.out⟩⟩
             ·rw [if_neg c42] at H
              exact absurd H (by simp)
            ·replace c40 := Bool.eq_false_iff.mpr c40
             subst c40
             replace H : (spec_l4Star.l0 kj10 a1 x5_10 x6_1 (wrap64 (x7_1 + 1)) l0_0 l0_1) = some r := by rw [if_neg (show ¬ (false = true) by decide)] at H; exact H
             have H' := aM H
             clear H
             obtain ⟨Ao49, co49, eo49⟩ := bL HO_5.out
             subst eo49
             have p518 : 0 ≤ (x7_1 : Int) := aJ (by (with_reducible assumption))
             have q518 : x7_1 < (x5_10.length : Int) := aJ (by (with_reducible assumption))
             obtain ⟨ad518, e518, hx518_0⟩ := Kd.at_bool (bM HO_5.out).2.2 x7_1 p518 q518
             (try rw [← Nbq36.out] at hx518_0)
             cases e518
             replace p518 := eq_true p518
             replace q518 := eq_true q518
             have hcz50_0 : wc.cell? ⟨gb506, 0, none⟩ = some (.slice A0_0 l0_0.length c0_0) := (aA BK506.out 0).trans rfl
             have hcz50_1 : wc.cell? ⟨gb506, 1, none⟩ = some (.slice A0_1 l0_1.length c0_1) := (aA BK506.out 1).trans rfl
             go_wp2_with (first | (go_at_call 97; (with_reducible refine (spec_l1Has.calls _ _ l0_0 _ _ l0_1 x7_1 false _ ?side1 ?side2 ?side3 ?side4 A39.out).mono ?_); (case side1 => repeat (exact (bF HR0_0.out HB.out))); (case side2 => exact HC0_0.out); (case side3 => repeat (exact (bF HR0_1.out HB.out))); (case side4 => exact HC0_1.out); rintro e w51 ⟨rfl, hb⟩; replace HO_5 := aM (bG HO_5.out hb); replace HO_6 := aM (bG HO_6.out hb); replace BK506 := aM (aD (g := gb506) (o := .cells #[.slice A0_0 l0_0.length c0_0, .slice A0_1 l0_1.length c0_1] 94 (0, 0)) BK506.out hb); replace HB := aM (aE HB.out hb); (try clear hb)))
             go_roundg kj10
             case measure => have := HK1.out; have := HJ10.out; omega
             case rel => exact ⟨(x5_10), (x6_1), (wrap64 (x7_1 + 1)), (by rfl), H', ⟨by have := HK1.out; have := HJ10.out; omega⟩, ⟨by exact HO_5.out⟩, ⟨by exact HO_6.out⟩, ⟨by exact BK506.out⟩, ⟨HB.out⟩⟩
          ·rw [if_neg c35] at H
           exact absurd H (by simp)
         ·rw [if_neg c34] at H
          exact absurd H (by simp)
     ·rw [if_neg c10] at H
      have c10b0 : decide (x7_1 < a1) = false := aK c10
      clear c10
      obtain rfl := bU H
      go_wp2
      go_ret
      exact ⟨_, by first | rfl | (simp [*, errW_none, errW_some] <;> rfl), by exact HO_5.out, HB.out⟩
  ·rw [if_neg c4] at H
   exact absurd H (by simp)
 ·rw [if_neg c3] at H
  exact absurd H (by simp)


def spec_l4Whole.f (k : Nat) (l0_0 : List Bool) (l0_1 : List Bool) : Option (ByteArray × Bool) := (spec_l4Least.f k l0_0 l0_1).bind fun t525 => (if t525 = 0 then (some ((⟨#[49, 40, 48, 41]⟩ : ByteArray), true)) else ((spec_l4Star.f k l0_0 l0_1 (wrap64 (2400 + t525))).bind fun t526 => ((spec_l2Fill.f k t526 2400).bind fun bt529 => (some (bt529.1, bt529.2)))))
set_option maxHeartbeats 8000000 in
set_option maxRecDepth 100000 in
theorem spec_l4Whole.calls (k : Nat) (A0_0 : Option Addr) (c0_0 : Nat) (l0_0 : List Bool) (A0_1 : Option Addr) (c0_1 : Nat) (l0_1 : List Bool) (r1 : ByteArray) (r2 : Bool) (w : World) (hr0_0 : Kd.C Kd.bool w A0_0 l0_0.length l0_0) (hc0_0 : l0_0.length ≤ c0_0) (hr0_1 : Kd.C Kd.bool w A0_1 l0_1.length l0_1) (hc0_1 : l0_1.length ≤ c0_1) (h : spec_l4Whole.f k l0_0 l0_1 = some (r1, r2)) :
  Calls Try.prog 75 #[.agg #[.slice A0_0 l0_0.length c0_0, .slice A0_1 l0_1.length c0_1]] w fun e w' => e = .returned (.tuple #[.string r1, .bool r2]) ∧ Below w.heap.size w w' := by
 have HR0_0 := aM hr0_0
 have HC0_0 := aM hc0_0
 clear hr0_0 hc0_0
 have HR0_1 := aM hr0_1
 have HC0_1 := aM hc0_1
 clear hr0_1 hc0_1
 have HB := aM (cE w.heap.size w)
 have H : ((spec_l4Least.f k l0_0 l0_1).bind fun t525 => (if t525 = 0 then (some ((⟨#[49, 40, 48, 41]⟩ : ByteArray), true)) else ((spec_l4Star.f k l0_0 l0_1 (wrap64 (2400 + t525))).bind fun t526 => ((spec_l2Fill.f k t526 2400).bind fun bt529 => (some (bt529.1, bt529.2)))))) = some (r1, r2) := h
 clear h
 replace H := Option.bind_eq_some_iff.mp H
 obtain ⟨t525, A20, H⟩ := H
 replace H : (if t525 = 0 then (some ((⟨#[49, 40, 48, 41]⟩ : ByteArray), true)) else ((spec_l4Star.f k l0_0 l0_1 (wrap64 (2400 + t525))).bind fun t526 => ((spec_l2Fill.f k t526 2400).bind fun bt529 => (some (bt529.1, bt529.2))))) = some (r1, r2) := H
 have A2 := aM A20
 clear A20
 by_cases c3 : t525 = 0
 ·rw [if_pos c3] at H
  have c3b0 : (t525 == 0) = true := beq_iff_eq.mpr c3
  clear c3
  simp only [aV, aW] at H
  obtain ⟨rfl, rfl⟩ := H
  go_enter Try.func75, Try.ntmps75
  go_wp2_with (first | ((with_reducible refine aZ (N := 1) rfl ?_); refine bB ?hg (N := 1) ?hd (cs := #[.slice A0_0 l0_0.length c0_0, .slice A0_1 l0_1.length c0_1]) (t := 94) ?hr ?_; (case hd => rfl); (case hg => rfl); (case hr => first | (go_simp; done)); intro gb524 hg w4 hbox hb; have BK524 := aM hbox; replace HB := aM (aE HB.out hb); clear hb hbox hg; have hcz5_0 : w4.cell? ⟨gb524, 0, none⟩ = some (.slice A0_0 l0_0.length c0_0) := (aA BK524.out 0).trans rfl; have hcz5_1 : w4.cell? ⟨gb524, 1, none⟩ = some (.slice A0_1 l0_1.length c0_1) := (aA BK524.out 1).trans rfl) | ((with_reducible refine aY (f := 93) rfl ?_); refine gL 6 Try.func93 #[.agg #[.slice A0_0 l0_0.length c0_0, .slice A0_1 l0_1.length c0_1]] ?_; (with_reducible refine (spec_l4Least.calls k _ _ l0_0 _ _ l0_1 t525 _ ?side1 ?side2 ?side3 ?side4 A2.out).mono ?_); (case side1 => repeat (exact (bF HR0_0.out HB.out))); (case side2 => exact HC0_0.out); (case side3 => repeat (exact (bF HR0_1.out HB.out))); (case side4 => exact HC0_1.out); rintro e w6 ⟨rfl, hb⟩; refine ⟨_, rfl, ?_⟩; replace HB := aM (aE HB.out hb); (try clear hb)))
  go_ret2
  exact ⟨by first | rfl | (simp [*, errW_none, errW_some] <;> rfl), HB.out⟩
 ·rw [if_neg c3] at H
  have c3b0 : (t525 == 0) = false := beq_eq_false_iff_ne.mpr c3
  replace H := Option.bind_eq_some_iff.mp H
  obtain ⟨t526, A70, H⟩ := H
  replace H : ((spec_l2Fill.f k t526 2400).bind fun bt529 => (some (bt529.1, bt529.2))) = some (r1, r2) := H
  have A7 := aM A70
  clear A70
  replace H := Option.bind_eq_some_iff.mp H
  obtain ⟨⟨t529, t530⟩, A80, H⟩ := H
  replace H : (some (t529, t530)) = some (r1, r2) := H
  have A8 := aM A80
  clear A80
  simp only [aV, aW] at H
  obtain ⟨rfl, rfl⟩ := H
  go_enter Try.func75, Try.ntmps75
  go_wp2_with (first | ((with_reducible refine aZ (N := 1) rfl ?_); refine bB ?hg (N := 1) ?hd (cs := #[.slice A0_0 l0_0.length c0_0, .slice A0_1 l0_1.length c0_1]) (t := 94) ?hr ?_; (case hd => rfl); (case hg => rfl); (case hr => first | (go_simp; done)); intro gb524 hg w9 hbox hb; have BK524 := aM hbox; replace HB := aM (aE HB.out hb); clear hb hbox hg; have hcz10_0 : w9.cell? ⟨gb524, 0, none⟩ = some (.slice A0_0 l0_0.length c0_0) := (aA BK524.out 0).trans rfl; have hcz10_1 : w9.cell? ⟨gb524, 1, none⟩ = some (.slice A0_1 l0_1.length c0_1) := (aA BK524.out 1).trans rfl) | ((with_reducible refine aY (f := 93) rfl ?_); refine gL 6 Try.func93 #[.agg #[.slice A0_0 l0_0.length c0_0, .slice A0_1 l0_1.length c0_1]] ?_; (with_reducible refine (spec_l4Least.calls k _ _ l0_0 _ _ l0_1 t525 _ ?side1 ?side2 ?side3 ?side4 A2.out).mono ?_); (case side1 => repeat (exact (bF HR0_0.out HB.out))); (case side2 => exact HC0_0.out); (case side3 => repeat (exact (bF HR0_1.out HB.out))); (case side4 => exact HC0_1.out); rintro e w11 ⟨rfl, hb⟩; refine ⟨_, rfl, ?_⟩; replace BK524 := aM (aD (g := gb524) (o := .cells #[.slice A0_0 l0_0.length c0_0, .slice A0_1 l0_1.length c0_1] 94 (0, 0)) BK524.out hb); replace HB := aM (aE HB.out hb); (try clear hb); have hcz12_0 : w11.cell? ⟨gb524, 0, none⟩ = some (.slice A0_0 l0_0.length c0_0) := (aA BK524.out 0).trans rfl; have hcz12_1 : w11.cell? ⟨gb524, 1, none⟩ = some (.slice A0_1 l0_1.length c0_1) := (aA BK524.out 1).trans rfl) | ((with_reducible refine aY (f := 95) rfl ?_); refine gL 12 Try.func95 #[.agg #[.slice A0_0 l0_0.length c0_0, .slice A0_1 l0_1.length c0_1], .int .i64 (wrap64 (2400 + t525))] ?_; (with_reducible refine (spec_l4Star.calls k _ _ l0_0 _ _ l0_1 (wrap64 (2400 + t525)) t526 _ ?side1 ?side2 ?side3 ?side4 A7.out).mono ?_); (case side1 => repeat (exact (bF HR0_0.out HB.out))); (case side2 => exact HC0_0.out); (case side3 => repeat (exact (bF HR0_1.out HB.out))); (case side4 => exact HC0_1.out); rintro e w13 ⟨v527, rfl, ho0, hb⟩; refine ⟨_, rfl, ?_⟩; have HO528 := aM (bP ho0 (aG HB.out)); replace HB := aM (aE HB.out hb); (try clear hb); (try clear ho0); obtain ⟨Ao14, co14, eo14⟩ := bL HO528.out; subst eo14) | ((with_reducible refine aY (f := 94) rfl ?_); refine gL 13 Try.func94 #[.slice Ao14 t526.length co14, .int .i64 2400] ?_; (with_reducible refine (spec_l2Fill.calls k _ _ t526 2400 t529 t530 _ ?side1 ?side2 A8.out).mono ?_); (case side1 => repeat (exact (bM HO528.out).2.2)); (case side2 => exact (bM HO528.out).2.1); rintro e w15 ⟨rfl, hb⟩; refine ⟨_, rfl, ?_⟩; replace HB := aM (aE HB.out hb); (try clear hb)))
  go_ret2
  exact ⟨by first | rfl | (simp [*, errW_none, errW_some] <;> rfl), HB.out⟩


def spec_StarOf.f (k : Nat) (a0 : ByteArray) : Option (ByteArray × Bool) := (spec_l4Small.f k a0).bind fun bt531 => (if bt531.2.2 = true then ((spec_l4Whole.f k bt531.1 bt531.2.1).bind fun bt539 => (some (bt539.1, bt539.2))) else (some ((⟨#[]⟩ : ByteArray), false)))
set_option maxHeartbeats 8000000 in
set_option maxRecDepth 100000 in
theorem spec_StarOf.calls (k : Nat) (a0 : ByteArray) (r1 : ByteArray) (r2 : Bool) (w : World) (h : spec_StarOf.f k a0 = some (r1, r2)) :
  Calls Try.prog 54 #[.string a0] w fun e w' => e = .returned (.tuple #[.string r1, .bool r2]) ∧ Below w.heap.size w w' := by
 have HB := aM (cE w.heap.size w)
 have H : ((spec_l4Small.f k a0).bind fun bt531 => (if bt531.2.2 = true then ((spec_l4Whole.f k bt531.1 bt531.2.1).bind fun bt539 => (some (bt539.1, bt539.2))) else (some ((⟨#[]⟩ : ByteArray), false)))) = some (r1, r2) := h
 clear h
 replace H := Option.bind_eq_some_iff.mp H
 obtain ⟨⟨t531, t534, t537⟩, A20, H⟩ := H
 replace H : (if t537 = true then ((spec_l4Whole.f k t531 t534).bind fun bt539 => (some (bt539.1, bt539.2))) else (some ((⟨#[]⟩ : ByteArray), false))) = some (r1, r2) := H
 have A2 := aM A20
 clear A20
 by_cases c3 : t537 = true
 ·subst c3
  replace H : ((spec_l4Whole.f k t531 t534).bind fun bt539 => (some (bt539.1, bt539.2))) = some (r1, r2) := by rw [if_pos rfl] at H; exact H
  replace H := Option.bind_eq_some_iff.mp H
  obtain ⟨⟨t539, t540⟩, A40, H⟩ := H
  replace H : (some (t539, t540)) = some (r1, r2) := H
  have A4 := aM A40
  clear A40
  simp only [aV, aW] at H
  obtain ⟨rfl, rfl⟩ := H
  go_enter Try.func54, Try.ntmps54
  go_wp2_with (first | ((with_reducible refine aY (f := 74) rfl ?_); refine gL 8 Try.func74 #[.string a0] ?_; (with_reducible refine (spec_l4Small.calls k a0 t531 t534 true _ A2.out).mono ?_); rintro e w5 ⟨v532, v535, rfl, ho0, ho1, hb⟩; refine ⟨_, rfl, ?_⟩; have HO533 := aM (bQ (bK (ok' := fun k_ => True) ho0 (fun k_ hk_ => trivial)) (aG HB.out)); have HO536 := aM (bQ (bK (ok' := fun k_ => True) ho1 (fun k_ hk_ => trivial)) (aG HB.out)); replace HB := aM (aE HB.out hb); (try clear hb); (try clear ho0); (try clear ho1)) | ((with_reducible refine aZ (N := 4) rfl ?_); refine bB ?hg (N := 4) ?hd (cs := #[.slice none 0 0, .slice none 0 0]) (t := 94) ?hr ?_; (case hd => rfl); (case hg => rfl); (case hr => first | (go_simp; done)); intro gb538 hg w6 hbox hb; replace HO533 := aM (bH (Kd.V_elderB HO533.out gb538 (Nat.le_of_eq hg.symm)) hb); replace HO536 := aM (bH (Kd.V_elderB HO536.out gb538 (Nat.le_of_eq hg.symm)) hb); have BK538 := aM hbox; have GE538 := aM ((by rw [hg]; exact (aG HB.out) : w.heap.size ≤ gb538)); replace HB := aM (aE HB.out hb); clear hb hbox hg; obtain ⟨Ao7, co7, eo7⟩ := Kd.V_slice HO533.out; subst eo7; have hcz8_0 : w6.cell? ⟨gb538, 0, none⟩ = some (.slice none 0 0) := (aA BK538.out 0).trans rfl; have hcz8_1 : w6.cell? ⟨gb538, 1, none⟩ = some (.slice none 0 0) := (aA BK538.out 1).trans rfl; have hfz8_0 := aC BK538.out 0; have hfz8_1 := aC BK538.out 1; obtain ⟨Ao9, co9, eo9⟩ := Kd.V_slice HO536.out; subst eo9) | ((with_reducible refine aY (f := 75) rfl ?_); refine gL 14 Try.func75 #[.agg #[.slice Ao7 t531.length co7, .slice Ao9 t534.length co9]] ?_; (with_reducible refine (spec_l4Whole.calls k _ _ t531 _ _ t534 t539 t540 _ ?side1 ?side2 ?side3 ?side4 A4.out).mono ?_); (case side1 => refine (Kd.V_reads' (e := 4) (base := w.heap.size) (ok := fun k_ => (True ∧ k_ ≠ gb538)) (n := t531.length) (c := co7) ?_).2.2; exact (by exact (bK (bD (p := ⟨gb538, 1, none⟩) (bD (p := ⟨gb538, 0, none⟩) (bK HO533.out (fun k_ hk => (⟨hk, hk.2⟩ : _ ∧ k_ ≠ gb538))) (fun _ hk => hk.2) (.slice Ao7 t531.length co7)) (fun _ hk => hk.2) (.slice Ao9 t534.length co9)) (fun _ h_ => h_.1)))); (case side2 => exact (Kd.V_reads' HO533.out).2.1); (case side3 => refine (Kd.V_reads' (e := 4) (base := w.heap.size) (ok := fun k_ => (True ∧ k_ ≠ gb538)) (n := t534.length) (c := co9) ?_).2.2; exact (by exact (bK (bD (p := ⟨gb538, 1, none⟩) (bD (p := ⟨gb538, 0, none⟩) (bK HO536.out (fun k_ hk => (⟨hk, hk.2⟩ : _ ∧ k_ ≠ gb538))) (fun _ hk => hk.2) (.slice Ao7 t531.length co7)) (fun _ hk => hk.2) (.slice Ao9 t534.length co9)) (fun _ h_ => h_.1)))); (case side4 => exact (Kd.V_reads' HO536.out).2.1); rintro e w10 ⟨rfl, hb⟩; refine ⟨_, rfl, ?_⟩; replace HB := aM (aE (by repeat (first | (with_reducible first | exact HB.out | refine bS ?_ GE538.out))) hb); (try clear hb)))
  go_ret2
  exact ⟨by first | rfl | (simp [*, errW_none, errW_some] <;> rfl), HB.out⟩
 ·replace c3 := Bool.eq_false_iff.mpr c3
  subst c3
  replace H : (some ((⟨#[]⟩ : ByteArray), false)) = some (r1, r2) := by rw [if_neg (show ¬ (false = true) by decide)] at H; exact H
  simp only [aV, aW] at H
  obtain ⟨rfl, rfl⟩ := H
  go_enter Try.func54, Try.ntmps54
  go_wp2_with (first | ((with_reducible refine aY (f := 74) rfl ?_); refine gL 8 Try.func74 #[.string a0] ?_; (with_reducible refine (spec_l4Small.calls k a0 t531 t534 false _ A2.out).mono ?_); rintro e w11 ⟨v532, v535, rfl, ho0, ho1, hb⟩; refine ⟨_, rfl, ?_⟩; have HO533 := aM (bQ (bK (ok' := fun k_ => True) ho0 (fun k_ hk_ => trivial)) (aG HB.out)); have HO536 := aM (bQ (bK (ok' := fun k_ => True) ho1 (fun k_ hk_ => trivial)) (aG HB.out)); replace HB := aM (aE HB.out hb); (try clear hb); (try clear ho0); (try clear ho1)) | ((with_reducible refine aZ (N := 4) rfl ?_); refine bB ?hg (N := 4) ?hd (cs := #[.slice none 0 0, .slice none 0 0]) (t := 94) ?hr ?_; (case hd => rfl); (case hg => rfl); (case hr => first | (go_simp; done)); intro gb538 hg w12 hbox hb; replace HO533 := aM (bH (Kd.V_elderB HO533.out gb538 (Nat.le_of_eq hg.symm)) hb); replace HO536 := aM (bH (Kd.V_elderB HO536.out gb538 (Nat.le_of_eq hg.symm)) hb); have BK538 := aM hbox; have GE538 := aM ((by rw [hg]; exact (aG HB.out) : w.heap.size ≤ gb538)); replace HB := aM (aE HB.out hb); clear hb hbox hg; obtain ⟨Ao13, co13, eo13⟩ := Kd.V_slice HO533.out; subst eo13; have hcz14_0 : w12.cell? ⟨gb538, 0, none⟩ = some (.slice none 0 0) := (aA BK538.out 0).trans rfl; have hcz14_1 : w12.cell? ⟨gb538, 1, none⟩ = some (.slice none 0 0) := (aA BK538.out 1).trans rfl; have hfz14_0 := aC BK538.out 0; have hfz14_1 := aC BK538.out 1; obtain ⟨Ao15, co15, eo15⟩ := Kd.V_slice HO536.out; subst eo15))
  go_ret2
  exact ⟨by first | rfl | (simp [*, errW_none, errW_some] <;> rfl), by repeat (first | (with_reducible first | exact HB.out | refine bS ?_ GE538.out))⟩


def spec_l1Divisor.l0 : Nat → Int → Int → Option (Int)
 | 0, _, _ => none
 | k + 1, x0, x1 => if x1 > 0 then (if x1 = 0 then (none) else (spec_l1Divisor.l0 k x1 (Int.tmod x0 x1))) else (some x0)
def spec_l1Divisor.f (k : Nat) (a0 : Int) (a1 : Int) : Option (Int) := spec_l1Divisor.l0 k a0 a1
set_option maxHeartbeats 8000000 in
set_option maxRecDepth 100000 in
theorem spec_l1Divisor.calls (k : Nat) (a0 : Int) (a1 : Int) (r : Int) (w : World) (h : spec_l1Divisor.f k a0 a1 = some r) :
  Calls Try.prog 105 #[.int .i64 a0, .int .i64 a1] w fun e w' => e = .returned (.int .i64 r) ∧ Drawn0 w w' := by
 have H : (spec_l1Divisor.l0 k a0 a1) = some r := h
 clear h
 have H' := aM H
 clear H
 go_enter Try.func105, Try.ntmps105
 go_wp2
 go_loopg [0, 1] k (fun kq v0 v1 w' => ∃ (x0_1 : Int) (x1_1 : Int), v0 = .int .i64 x0_1 ∧ v1 = .int .i64 x1_1 ∧ Aside0 (spec_l1Divisor.l0 kq x0_1 x1_1 = some r) ∧ Aside0 (kq ≤ k) ∧ Drawn0 w w')
 case atStart => exact ⟨(a0), (a1), (by rfl), (by rfl), H', ⟨cD _⟩, by repeat (exact Drawn0.refl _)⟩
 case round =>
  clear H'
  obtain ⟨x0_1, x1_1, rfl, rfl, HA, HK1, ⟨m1, rfl⟩⟩ := hrel
  cases gk with
  | zero => exact absurd HA.out (by simp [spec_l1Divisor.l0])
  | succ k1 =>
   have H := HA.out
   clear HA
   simp only [spec_l1Divisor.l0] at H
   by_cases c3 : x1_1 > 0
   ·rw [if_pos c3] at H
    have c3b0 : decide (0 < x1_1) = true := aH c3
    clear c3
    by_cases c4 : x1_1 = 0
    ·rw [if_pos c4] at H
     exact absurd H (by simp)
    ·rw [if_neg c4] at H
     have H' := aM H
     clear H
     go_wp2
     go_roundg k1
     case measure => have := HK1.out; omega
     case rel => exact ⟨(x1_1), (Int.tmod x0_1 x1_1), (by rfl), (by rfl), H', ⟨by have := HK1.out; omega⟩, by repeat (first | exact Drawn0.refl _ | apply Drawn0.step)⟩
   ·rw [if_neg c3] at H
    have c3b0 : decide (0 < x1_1) = false := aK c3
    clear c3
    obtain rfl := bU H
    go_wp2
    go_ret
    exact ⟨by first | rfl | (simp [*]; done), by repeat (first | exact Drawn0.refl _ | apply Drawn0.step)⟩


def spec_l1Shape.f (k : Nat) (l0_0 : List Bool) (l0_1 : List Bool) (l1_0 : List Bool) (l1_1 : List Bool) : Option (Int × Int) := (spec_l1Divisor.f k (l0_1.length : Int) (l1_1.length : Int)).bind fun t543 => (if t543 = 0 then (none) else (some (mx (l0_0.length : Int) (l1_0.length : Int), wrap64 ((wrap64 ((l0_1.length : Int) / t543)) * (l1_1.length : Int)))))
set_option maxHeartbeats 8000000 in
set_option maxRecDepth 100000 in
theorem spec_l1Shape.calls (k : Nat) (A0_0 : Option Addr) (c0_0 : Nat) (l0_0 : List Bool) (A0_1 : Option Addr) (c0_1 : Nat) (l0_1 : List Bool) (A1_0 : Option Addr) (c1_0 : Nat) (l1_0 : List Bool) (A1_1 : Option Addr) (c1_1 : Nat) (l1_1 : List Bool) (r1 : Int) (r2 : Int) (w : World) (hr0_0 : Kd.C Kd.bool w A0_0 l0_0.length l0_0) (hc0_0 : l0_0.length ≤ c0_0) (hr0_1 : Kd.C Kd.bool w A0_1 l0_1.length l0_1) (hc0_1 : l0_1.length ≤ c0_1) (hr1_0 : Kd.C Kd.bool w A1_0 l1_0.length l1_0) (hc1_0 : l1_0.length ≤ c1_0) (hr1_1 : Kd.C Kd.bool w A1_1 l1_1.length l1_1) (hc1_1 : l1_1.length ≤ c1_1) (h : spec_l1Shape.f k l0_0 l0_1 l1_0 l1_1 = some (r1, r2)) :
  Calls Try.prog 96 #[.agg #[.slice A0_0 l0_0.length c0_0, .slice A0_1 l0_1.length c0_1], .agg #[.slice A1_0 l1_0.length c1_0, .slice A1_1 l1_1.length c1_1]] w fun e w' => e = .returned (.tuple #[.int .i64 r1, .int .i64 r2]) ∧ Below w.heap.size w w' := by
 clear hr0_0 hc0_0
 clear hr0_1 hc0_1
 clear hr1_0 hc1_0
 clear hr1_1 hc1_1
 have HB := aM (cE w.heap.size w)
 have H : ((spec_l1Divisor.f k (l0_1.length : Int) (l1_1.length : Int)).bind fun t543 => (if t543 = 0 then (none) else (some (mx (l0_0.length : Int) (l1_0.length : Int), wrap64 ((wrap64 ((l0_1.length : Int) / t543)) * (l1_1.length : Int)))))) = some (r1, r2) := h
 clear h
 replace H := Option.bind_eq_some_iff.mp H
 obtain ⟨t543, A30, H⟩ := H
 replace H : (if t543 = 0 then (none) else (some (mx (l0_0.length : Int) (l1_0.length : Int), wrap64 ((wrap64 ((l0_1.length : Int) / t543)) * (l1_1.length : Int))))) = some (r1, r2) := H
 have A3 := aM A30
 clear A30
 by_cases c4 : t543 = 0
 ·rw [if_pos c4] at H
  exact absurd H (by simp)
 ·rw [if_neg c4] at H
  obtain ⟨ji5, hji5⟩ : ∃ j_ : Int, (mx (l0_0.length : Int) (l1_0.length : Int)) = j_ := ⟨_, rfl⟩
  replace H : (some (ji5, wrap64 ((wrap64 ((l0_1.length : Int) / t543)) * (l1_1.length : Int)))) = some (r1, r2) := by first | (rw [hji5] at H; exact H) | (simp only [hji5] at H ⊢; exact H)
  (try rw [hji5] at A3)
  (try (have hji5l : 0 ≤ ji5 := by (rw [← hji5]; unfold mx; (repeat' split) <;> omega)))
  (try (have hji5m : 0 ≤ ji5 := by omega))
  have hji5_ : (if (l0_0.length : Int) < (l1_0.length : Int) then (l1_0.length : Int) else (l0_0.length : Int)) = ji5 := hji5
  have hji5n : (if l0_0.length < l1_0.length then (l1_0.length : Int) else (l0_0.length : Int)) = ji5 := by rw [← hji5_]; split <;> split <;> omega
  simp only [aV, aW] at H
  obtain ⟨rfl, rfl⟩ := H
  go_enter Try.func96, Try.ntmps96
  go_wp2_with (first | ((with_reducible refine aZ (N := 2) rfl ?_); refine bB ?hg (N := 2) ?hd (cs := #[.slice A0_0 l0_0.length c0_0, .slice A0_1 l0_1.length c0_1]) (t := 94) ?hr ?_; (case hd => rfl); (case hg => rfl); (case hr => first | (go_simp; done) | (go_simp; rfl)); intro gb541 hg w6 hbox hb; have BK541 := aM hbox; replace HB := aM (aE (by repeat (first | (with_reducible first | exact HB.out | apply bA | apply bN | apply b1) | exact HB.out)) hb); clear hb hbox hg) | ((with_reducible refine aZ (N := 3) rfl ?_); refine bB ?hg (N := 3) ?hd (cs := #[.slice A1_0 l1_0.length c1_0, .slice A1_1 l1_1.length c1_1]) (t := 94) ?hr ?_; (case hd => rfl); (case hg => rfl); (case hr => first | (go_simp; done) | (go_simp; rfl)); intro gb542 hg w7 hbox hb; have BK542 := aM hbox; replace HB := aM (aE (by repeat (first | (with_reducible first | exact HB.out | apply bA | apply bN | apply b1 | refine bS ?_ GE541.out) | exact HB.out)) hb); replace BK541 := aM (aD (g := gb541) (o := .cells #[.slice A0_0 l0_0.length c0_0, .slice A0_1 l0_1.length c0_1] 94 (0, 0)) (by (with_reducible repeat (first | refine kN ?_ _ | refine kD ?_ | refine kA ?_ _)); exact BK541.out) hb); clear hb hbox hg; have hcz9_0 : w7.cell? ⟨gb541, 0, none⟩ = some (.slice A0_0 l0_0.length c0_0) := (aA BK541.out 0).trans rfl; have hcz9_1 : w7.cell? ⟨gb541, 1, none⟩ = some (.slice A0_1 l0_1.length c0_1) := (aA BK541.out 1).trans rfl; have hcz10_0 : w7.cell? ⟨gb542, 0, none⟩ = some (.slice A1_0 l1_0.length c1_0) := (aA BK542.out 0).trans rfl; have hcz10_1 : w7.cell? ⟨gb542, 1, none⟩ = some (.slice A1_1 l1_1.length c1_1) := (aA BK542.out 1).trans rfl) | (go_at_call 105; (with_reducible refine (spec_l1Divisor.calls k (l0_1.length : Int) (l1_1.length : Int) t543 _ A3.out).mono ?_); rintro e w' ⟨rfl, ⟨nd, rfl⟩⟩; (try first | exact ⟨rfl, _, World.drewN_drewN _ _ _⟩ | exact ⟨rfl, _, Eq.trans (World.drewN_drewN _ _ _) (congrArg (World.drewN _) (Nat.add_assoc _ _ _))⟩)))
  repeat (go_quiet (first | ((with_reducible refine aZ (N := 2) rfl ?_); refine bB ?hg (N := 2) ?hd (cs := #[.slice A0_0 l0_0.length c0_0, .slice A0_1 l0_1.length c0_1]) (t := 94) ?hr ?_; (case hd => rfl); (case hg => rfl); (case hr => first | (go_simp; done) | (go_simp; rfl)); intro gb541 hg w6 hbox hb; have BK541 := aM hbox; have GW541 := aM ((by rw [hg]; exact (aG (by repeat (first | (with_reducible first | exact HB.out | apply bA | apply bN | apply b1) | exact HB.out))) : w.heap.size ≤ gb541)); have GE541 := aM ((by rw [hg]; exact (aG (by repeat (first | (with_reducible first | exact HB.out | apply bA | apply bN | apply b1) | exact HB.out))) : w.heap.size ≤ gb541)); replace HB := aM (aE (by repeat (first | (with_reducible first | exact HB.out | apply bA | apply bN | apply b1) | exact HB.out)) hb); clear hb hbox hg) | ((with_reducible refine aZ (N := 3) rfl ?_); refine bB ?hg (N := 3) ?hd (cs := #[.slice A1_0 l1_0.length c1_0, .slice A1_1 l1_1.length c1_1]) (t := 94) ?hr ?_; (case hd => rfl); (case hg => rfl); (case hr => first | (go_simp; done) | (go_simp; rfl)); intro gb542 hg w7 hbox hb; have BK542 := aM hbox; have GW542 := aM ((by rw [hg]; exact (aG (by repeat (first | (with_reducible first | exact HB.out | apply bA | apply bN | apply b1 | refine bS ?_ GE541.out) | exact HB.out))) : w.heap.size ≤ gb542)); have GE542 := aM ((by rw [hg]; exact (aG (by repeat (first | (with_reducible first | exact HB.out | apply bA | apply bN | apply b1 | refine bS ?_ GE541.out) | exact HB.out))) : w.heap.size ≤ gb542)); replace HB := aM (aE (by repeat (first | (with_reducible first | exact HB.out | apply bA | apply bN | apply b1 | refine bS ?_ GE541.out) | exact HB.out)) hb); have NB541_542 := aM ((by rw [hg]; exact Nat.ne_of_lt (blk_lt (g := gb541) (o := .cells #[.slice A0_0 l0_0.length c0_0, .slice A0_1 l0_1.length c0_1] 94 (0, 0)) (by (with_reducible repeat (first | refine kN ?_ _ | refine kD ?_ | refine kA ?_ _)); exact BK541.out)) : gb541 ≠ gb542)); have NB542_541 := aM ((by rw [hg]; exact Nat.ne_of_gt (blk_lt (g := gb541) (o := .cells #[.slice A0_0 l0_0.length c0_0, .slice A0_1 l0_1.length c0_1] 94 (0, 0)) (by (with_reducible repeat (first | refine kN ?_ _ | refine kD ?_ | refine kA ?_ _)); exact BK541.out)) : gb542 ≠ gb541)); replace BK541 := aM (aD (g := gb541) (o := .cells #[.slice A0_0 l0_0.length c0_0, .slice A0_1 l0_1.length c0_1] 94 (0, 0)) (by (with_reducible repeat (first | refine kN ?_ _ | refine kD ?_ | refine kA ?_ _)); exact BK541.out) hb); clear hb hbox hg; have hnb8 := NB541_542.out; have hnc8 := NB542_541.out; have hcz9_0 : w7.cell? ⟨gb541, 0, none⟩ = some (.slice A0_0 l0_0.length c0_0) := (aA BK541.out 0).trans rfl; have hcz9_1 : w7.cell? ⟨gb541, 1, none⟩ = some (.slice A0_1 l0_1.length c0_1) := (aA BK541.out 1).trans rfl; have hfz9_0 := aC BK541.out 0; have hfz9_1 := aC BK541.out 1; have hcz10_0 : w7.cell? ⟨gb542, 0, none⟩ = some (.slice A1_0 l1_0.length c1_0) := (aA BK542.out 0).trans rfl; have hcz10_1 : w7.cell? ⟨gb542, 1, none⟩ = some (.slice A1_1 l1_1.length c1_1) := (aA BK542.out 1).trans rfl; have hfz10_0 := aC BK542.out 0; have hfz10_1 := aC BK542.out 1) | (go_at_call 105; (with_reducible refine (spec_l1Divisor.calls k (l0_1.length : Int) (l1_1.length : Int) t543 _ A3.out).mono ?_); rintro e w' ⟨rfl, ⟨nd, rfl⟩⟩; (try first | exact ⟨rfl, _, World.drewN_drewN _ _ _⟩ | exact ⟨rfl, _, Eq.trans (World.drewN_drewN _ _ _) (congrArg (World.drewN _) (Nat.add_assoc _ _ _))⟩))); try go_wp2_with (first | ((with_reducible refine aZ (N := 2) rfl ?_); refine bB ?hg (N := 2) ?hd (cs := #[.slice A0_0 l0_0.length c0_0, .slice A0_1 l0_1.length c0_1]) (t := 94) ?hr ?_; (case hd => rfl); (case hg => rfl); (case hr => first | (go_simp; done) | (go_simp; rfl)); intro gb541 hg w6 hbox hb; have BK541 := aM hbox; have GW541 := aM ((by rw [hg]; exact (aG (by repeat (first | (with_reducible first | exact HB.out | apply bA | apply bN | apply b1) | exact HB.out))) : w.heap.size ≤ gb541)); have GE541 := aM ((by rw [hg]; exact (aG (by repeat (first | (with_reducible first | exact HB.out | apply bA | apply bN | apply b1) | exact HB.out))) : w.heap.size ≤ gb541)); replace HB := aM (aE (by repeat (first | (with_reducible first | exact HB.out | apply bA | apply bN | apply b1) | exact HB.out)) hb); clear hb hbox hg) | ((with_reducible refine aZ (N := 3) rfl ?_); refine bB ?hg (N := 3) ?hd (cs := #[.slice A1_0 l1_0.length c1_0, .slice A1_1 l1_1.length c1_1]) (t := 94) ?hr ?_; (case hd => rfl); (case hg => rfl); (case hr => first | (go_simp; done) | (go_simp; rfl)); intro gb542 hg w7 hbox hb; have BK542 := aM hbox; have GW542 := aM ((by rw [hg]; exact (aG (by repeat (first | (with_reducible first | exact HB.out | apply bA | apply bN | apply b1 | refine bS ?_ GE541.out) | exact HB.out))) : w.heap.size ≤ gb542)); have GE542 := aM ((by rw [hg]; exact (aG (by repeat (first | (with_reducible first | exact HB.out | apply bA | apply bN | apply b1 | refine bS ?_ GE541.out) | exact HB.out))) : w.heap.size ≤ gb542)); replace HB := aM (aE (by repeat (first | (with_reducible first | exact HB.out | apply bA | apply bN | apply b1 | refine bS ?_ GE541.out) | exact HB.out)) hb); have NB541_542 := aM ((by rw [hg]; exact Nat.ne_of_lt (blk_lt (g := gb541) (o := .cells #[.slice A0_0 l0_0.length c0_0, .slice A0_1 l0_1.length c0_1] 94 (0, 0)) (by (with_reducible repeat (first | refine kN ?_ _ | refine kD ?_ | refine kA ?_ _)); exact BK541.out)) : gb541 ≠ gb542)); have NB542_541 := aM ((by rw [hg]; exact Nat.ne_of_gt (blk_lt (g := gb541) (o := .cells #[.slice A0_0 l0_0.length c0_0, .slice A0_1 l0_1.length c0_1] 94 (0, 0)) (by (with_reducible repeat (first | refine kN ?_ _ | refine kD ?_ | refine kA ?_ _)); exact BK541.out)) : gb542 ≠ gb541)); replace BK541 := aM (aD (g := gb541) (o := .cells #[.slice A0_0 l0_0.length c0_0, .slice A0_1 l0_1.length c0_1] 94 (0, 0)) (by (with_reducible repeat (first | refine kN ?_ _ | refine kD ?_ | refine kA ?_ _)); exact BK541.out) hb); clear hb hbox hg; have hnb8 := NB541_542.out; have hnc8 := NB542_541.out; have hcz9_0 : w7.cell? ⟨gb541, 0, none⟩ = some (.slice A0_0 l0_0.length c0_0) := (aA BK541.out 0).trans rfl; have hcz9_1 : w7.cell? ⟨gb541, 1, none⟩ = some (.slice A0_1 l0_1.length c0_1) := (aA BK541.out 1).trans rfl; have hfz9_0 := aC BK541.out 0; have hfz9_1 := aC BK541.out 1; have hcz10_0 : w7.cell? ⟨gb542, 0, none⟩ = some (.slice A1_0 l1_0.length c1_0) := (aA BK542.out 0).trans rfl; have hcz10_1 : w7.cell? ⟨gb542, 1, none⟩ = some (.slice A1_1 l1_1.length c1_1) := (aA BK542.out 1).trans rfl; have hfz10_0 := aC BK542.out 0; have hfz10_1 := aC BK542.out 1) | (go_at_call 105; (with_reducible refine (spec_l1Divisor.calls k (l0_1.length : Int) (l1_1.length : Int) t543 _ A3.out).mono ?_); rintro e w' ⟨rfl, ⟨nd, rfl⟩⟩; (try first | exact ⟨rfl, _, World.drewN_drewN _ _ _⟩ | exact ⟨rfl, _, Eq.trans (World.drewN_drewN _ _ _) (congrArg (World.drewN _) (Nat.add_assoc _ _ _))⟩))))
  go_ret2
  exact ⟨by first | rfl | (simp [errW_none, errW_some] <;> rfl) | (simp [errW_none, errW_some]; exact ⟨rfl, rfl⟩) | (simp [errW_none, errW_some]; exact ⟨rfl, rfl, rfl⟩) | (simp only [← hji5]; first | rfl | (simp [errW_none, errW_some] <;> rfl) | (simp [errW_none, errW_some]; exact ⟨rfl, rfl⟩) | (simp [errW_none, errW_some]; exact ⟨rfl, rfl, rfl⟩)) | (simp [*, errW_none, errW_some] <;> rfl), by repeat (first | (with_reducible first | exact HB.out | apply bA | apply bN | apply b1 | refine bS ?_ GE541.out | refine bS ?_ GE542.out) | exact HB.out)⟩


mutual
def spec_l4Sum.l0 : Nat → Bool → Int → Int → List Bool → Int → List Bool → List Bool → List Bool → List Bool → Option (ByteArray × Bool)
 | 0, _, _, _, _, _, _, _, _, _ => none
 | k + 1, x2, x8, x9, x10, x11, x545000, x545001, x546000, x546001 => if x11 < (wrap64 (x8 + x9)) then (spec_l4Sum.l1 k x2 x8 x9 x10 x11 false 0 x545000 x545001 x546000 x546001) else ((spec_l2Fill.f k x10 x8).bind fun bt551 => (some (bt551.1, bt551.2)))
def spec_l4Sum.l1 : Nat → Bool → Int → Int → List Bool → Int → Bool → Int → List Bool → List Bool → List Bool → List Bool → Option (ByteArray × Bool)
 | 0, _, _, _, _, _, _, _, _, _, _, _ => none
 | k + 1, x2, x8, x9, x10, x11, x12, x13, x545000, x545001, x546000, x546001 => if x13 ≤ x11 then (if x12 = true then (spec_l4Sum.l1 k x2 x8 x9 x10 x11 true (wrap64 (x13 + 1)) x545000 x545001 x546000 x546001) else ((spec_l1Has.f x545000 x545001 x13).bind fun t553 => (if t553 = true then ((spec_l1Has.f x546000 x546001 (wrap64 (x11 - x13))).bind fun t554 => (if t554 = true then (if x2 = true then (spec_l4Sum.l1 k x2 x8 x9 x10 x11 (x13 != (wrap64 (x11 - x13))) (wrap64 (x13 + 1)) x545000 x545001 x546000 x546001) else (spec_l4Sum.l1 k x2 x8 x9 x10 x11 true (wrap64 (x13 + 1)) x545000 x545001 x546000 x546001)) else (spec_l4Sum.l1 k x2 x8 x9 x10 x11 false (wrap64 (x13 + 1)) x545000 x545001 x546000 x546001))) else (spec_l4Sum.l1 k x2 x8 x9 x10 x11 false (wrap64 (x13 + 1)) x545000 x545001 x546000 x546001)))) else (if x10.length < 140737488355328 then (spec_l4Sum.l0 k x2 x8 x9 (x10 ++ [x12]) (wrap64 (x11 + 1)) x545000 x545001 x546000 x546001) else (none))
end
def spec_l4Sum.f (k : Nat) (l0_0 : List Bool) (l0_1 : List Bool) (l1_0 : List Bool) (l1_1 : List Bool) (a2 : Bool) : Option (ByteArray × Bool) := (spec_l1Shape.f k l0_0 l0_1 l1_0 l1_1).bind fun bt546 => (spec_l4Sum.l0 k a2 (wrap64 ((wrap64 ((wrap64 (2 * bt546.1)) + (wrap64 (3 * bt546.2)))) + 2)) bt546.2 (([] : List Bool)) 0 l0_0 l0_1 l1_0 l1_1)
set_option maxHeartbeats 8000000 in
set_option maxRecDepth 100000 in
theorem spec_l4Sum.calls (k : Nat) (A0_0 : Option Addr) (c0_0 : Nat) (l0_0 : List Bool) (A0_1 : Option Addr) (c0_1 : Nat) (l0_1 : List Bool) (A1_0 : Option Addr) (c1_0 : Nat) (l1_0 : List Bool) (A1_1 : Option Addr) (c1_1 : Nat) (l1_1 : List Bool) (a2 : Bool) (r1 : ByteArray) (r2 : Bool) (w : World) (hr0_0 : Kd.C Kd.bool w A0_0 l0_0.length l0_0) (hc0_0 : l0_0.length ≤ c0_0) (hr0_1 : Kd.C Kd.bool w A0_1 l0_1.length l0_1) (hc0_1 : l0_1.length ≤ c0_1) (hr1_0 : Kd.C Kd.bool w A1_0 l1_0.length l1_0) (hc1_0 : l1_0.length ≤ c1_0) (hr1_1 : Kd.C Kd.bool w A1_1 l1_1.length l1_1) (hc1_1 : l1_1.length ≤ c1_1) (h : spec_l4Sum.f k l0_0 l0_1 l1_0 l1_1 a2 = some (r1, r2)) :
  Calls Try.prog 77 #[.agg #[.slice A0_0 l0_0.length c0_0, .slice A0_1 l0_1.length c0_1], .agg #[.slice A1_0 l1_0.length c1_0, .slice A1_1 l1_1.length c1_1], .bool a2] w fun e w' => e = .returned (.tuple #[.string r1, .bool r2]) ∧ Below w.heap.size w w' := by
 have HR0_0 := aM hr0_0
 have HC0_0 := aM hc0_0
 clear hr0_0 hc0_0
 have HR0_1 := aM hr0_1
 have HC0_1 := aM hc0_1
 clear hr0_1 hc0_1
 have HR1_0 := aM hr1_0
 have HC1_0 := aM hc1_0
 clear hr1_0 hc1_0
 have HR1_1 := aM hr1_1
 have HC1_1 := aM hc1_1
 clear hr1_1 hc1_1
 have HB := aM (cE w.heap.size w)
 have H : ((spec_l1Shape.f k l0_0 l0_1 l1_0 l1_1).bind fun bt546 => (spec_l4Sum.l0 k a2 (wrap64 ((wrap64 ((wrap64 (2 * bt546.1)) + (wrap64 (3 * bt546.2)))) + 2)) bt546.2 (([] : List Bool)) 0 l0_0 l0_1 l1_0 l1_1)) = some (r1, r2) := h
 clear h
 replace H := Option.bind_eq_some_iff.mp H
 obtain ⟨⟨t546, t547⟩, A40, H⟩ := H
 replace H : (spec_l4Sum.l0 k a2 (wrap64 ((wrap64 ((wrap64 (2 * t546)) + (wrap64 (3 * t547)))) + 2)) t547 (([] : List Bool)) 0 l0_0 l0_1 l1_0 l1_1) = some (r1, r2) := H
 have A4 := aM A40
 clear A40
 obtain ⟨y548, hy548⟩ : ∃ y_ : List Bool, y_ = (([] : List Bool)) := ⟨_, rfl⟩
 replace H : (spec_l4Sum.l0 k a2 (wrap64 ((wrap64 ((wrap64 (2 * t546)) + (wrap64 (3 * t547)))) + 2)) t547 y548 0 l0_0 l0_1 l1_0 l1_1) = some (r1, r2) := by first | (rw [hy548]; with_reducible exact H)
 have Ny548 := aM hy548
 clear hy548
 have H' := aM H
 clear H
 go_enter Try.func77, Try.ntmps77
 go_wp2_with (first | ((with_reducible refine aZ (N := 3) rfl ?_); refine bB ?hg (N := 3) ?hd (cs := #[.slice A0_0 l0_0.length c0_0, .slice A0_1 l0_1.length c0_1]) (t := 94) ?hr ?_; (case hd => rfl); (case hg => rfl); (case hr => first | (go_simp; done)); intro gb544 hg w5 hbox hb; have BK544 := aM hbox; replace HB := aM (aE HB.out hb); clear hb hbox hg) | ((with_reducible refine aZ (N := 4) rfl ?_); refine bB ?hg (N := 4) ?hd (cs := #[.slice A1_0 l1_0.length c1_0, .slice A1_1 l1_1.length c1_1]) (t := 94) ?hr ?_; (case hd => rfl); (case hg => rfl); (case hr => first | (go_simp; done)); intro gb545 hg w6 hbox hb; have BK545 := aM hbox; replace HB := aM (aE HB.out hb); replace BK544 := aM (aD (g := gb544) (o := .cells #[.slice A0_0 l0_0.length c0_0, .slice A0_1 l0_1.length c0_1] 94 (0, 0)) BK544.out hb); clear hb hbox hg; have hcz8_0 : w6.cell? ⟨gb544, 0, none⟩ = some (.slice A0_0 l0_0.length c0_0) := (aA BK544.out 0).trans rfl; have hcz8_1 : w6.cell? ⟨gb544, 1, none⟩ = some (.slice A0_1 l0_1.length c0_1) := (aA BK544.out 1).trans rfl; have hfz8_0 := aC BK544.out 0; have hfz8_1 := aC BK544.out 1; have hcz9_0 : w6.cell? ⟨gb545, 0, none⟩ = some (.slice A1_0 l1_0.length c1_0) := (aA BK545.out 0).trans rfl; have hcz9_1 : w6.cell? ⟨gb545, 1, none⟩ = some (.slice A1_1 l1_1.length c1_1) := (aA BK545.out 1).trans rfl; have hfz9_0 := aC BK545.out 0; have hfz9_1 := aC BK545.out 1) | ((with_reducible refine aY (f := 96) rfl ?_); refine gL 17 Try.func96 #[.agg #[.slice A0_0 l0_0.length c0_0, .slice A0_1 l0_1.length c0_1], .agg #[.slice A1_0 l1_0.length c1_0, .slice A1_1 l1_1.length c1_1]] ?_; (with_reducible refine (spec_l1Shape.calls k _ _ l0_0 _ _ l0_1 _ _ l1_0 _ _ l1_1 t546 t547 _ ?side1 ?side2 ?side3 ?side4 ?side5 ?side6 ?side7 ?side8 A4.out).mono ?_); (case side1 => repeat (exact (bF HR0_0.out HB.out))); (case side2 => exact HC0_0.out); (case side3 => repeat (exact (bF HR0_1.out HB.out))); (case side4 => exact HC0_1.out); (case side5 => repeat (exact (bF HR1_0.out HB.out))); (case side6 => exact HC1_0.out); (case side7 => repeat (exact (bF HR1_1.out HB.out))); (case side8 => exact HC1_1.out); rintro e w10 ⟨rfl, hb⟩; refine ⟨_, rfl, ?_⟩; replace BK544 := aM (aD (g := gb544) (o := .cells #[.slice A0_0 l0_0.length c0_0, .slice A0_1 l0_1.length c0_1] 94 (0, 0)) BK544.out hb); replace BK545 := aM (aD (g := gb545) (o := .cells #[.slice A1_0 l1_0.length c1_0, .slice A1_1 l1_1.length c1_1] 94 (0, 0)) BK545.out hb); replace HB := aM (aE HB.out hb); (try clear hb)) | ((with_reducible refine aZ (N := 26) rfl ?_); refine Kd.R_lit Kd.bool _ 4 ?hg (N := 26) ?hd (xs := ([] : List Bool)) (inner := []) (ok := fun _ => True) (okp := fun _ => True) ?hr ?hp (fun _ hk => hk) trivial (cE _ _) (cD _) (by simp) ?_; (case hd => rfl); (case hg => rfl); (case hr => first | (go_simp; done)); (case hp => exact (Reps.none _ _)); intro v549 w11 ho12 hb hg_ hnew_; clear hg_ hnew_; (rw [← Ny548.out] at ho12); have HO550 := aM (bP ho12 (aG HB.out)); replace BK544 := aM (aD (g := gb544) (o := .cells #[.slice A0_0 l0_0.length c0_0, .slice A0_1 l0_1.length c0_1] 94 (0, 0)) BK544.out hb); replace BK545 := aM (aD (g := gb545) (o := .cells #[.slice A1_0 l1_0.length c1_0, .slice A1_1 l1_1.length c1_1] 94 (0, 0)) BK545.out hb); replace HB := aM (aE HB.out hb); clear hb ho12))
 go_loopg [10, 11] k (fun kq v10 v11 w' => ∃ (x10_1 : List Bool) (x11_1 : Int), v11 = .int .i64 x11_1 ∧ Aside0 (spec_l4Sum.l0 kq a2 (wrap64 ((wrap64 ((wrap64 (2 * t546)) + (wrap64 (3 * t547)))) + 2)) t547 x10_1 x11_1 l0_0 l0_1 l1_0 l1_1 = some (r1, r2)) ∧ Aside0 (kq ≤ k) ∧ Aside0 (Kd.R Kd.bool 4 w' w.heap.size (fun _ => True) v10 x10_1) ∧ Aside0 (w'.heap[gb544]? = some (.cells #[(.slice A0_0 l0_0.length c0_0), (.slice A0_1 l0_1.length c0_1)] 94 (0, 0))) ∧ Aside0 (w'.heap[gb545]? = some (.cells #[(.slice A1_0 l1_0.length c1_0), (.slice A1_1 l1_1.length c1_1)] 94 (0, 0))) ∧ Aside0 (Below w.heap.size w w'))
 case atStart => exact ⟨(y548), (0), (by rfl), H', ⟨cD _⟩, ⟨by exact HO550.out⟩, ⟨by exact BK544.out⟩, ⟨by exact BK545.out⟩, ⟨HB.out⟩⟩
 case round =>
  clear H'
  try clear hcz8_0
  try clear hcz8_1
  try clear hcz9_0
  try clear hcz9_1
  try clear hfz8_0
  try clear hfz8_1
  try clear hfz9_0
  try clear hfz9_1
  obtain ⟨x10_1, x11_1, rfl, HA, HK1, HO_10, BK544, BK545, HB⟩ := hrel
  cases gk with
  | zero => exact absurd HA.out (by simp [spec_l4Sum.l0])
  | succ k1 =>
   have H := HA.out
   clear HA
   simp only [spec_l4Sum.l0] at H
   by_cases c13 : x11_1 < (wrap64 ((wrap64 ((wrap64 ((wrap64 (2 * t546)) + (wrap64 (3 * t547)))) + 2)) + t547))
   ·rw [if_pos c13] at H
    have c13b0 : decide (x11_1 < (wrap64 ((wrap64 ((wrap64 ((wrap64 (2 * t546)) + (wrap64 (3 * t547)))) + 2)) + t547))) = true := aH c13
    clear c13
    have H' := aM H
    clear H
    go_wp2
    go_loopg [12, 13] k1 (fun kq v12 v13 w' => ∃ (x12_2 : Bool) (x13_2 : Int), v12 = .bool x12_2 ∧ v13 = .int .i64 x13_2 ∧ Aside0 (spec_l4Sum.l1 kq a2 (wrap64 ((wrap64 ((wrap64 (2 * t546)) + (wrap64 (3 * t547)))) + 2)) t547 x10_1 x11_1 x12_2 x13_2 l0_0 l0_1 l1_0 l1_1 = some (r1, r2)) ∧ Aside0 (kq ≤ k1) ∧ Aside0 (Kd.R Kd.bool 4 w' w.heap.size (fun _ => True) u10 x10_1) ∧ Aside0 (w'.heap[gb544]? = some (.cells #[(.slice A0_0 l0_0.length c0_0), (.slice A0_1 l0_1.length c0_1)] 94 (0, 0))) ∧ Aside0 (w'.heap[gb545]? = some (.cells #[(.slice A1_0 l1_0.length c1_0), (.slice A1_1 l1_1.length c1_1)] 94 (0, 0))) ∧ Aside0 (Below w.heap.size w w'))
    case atStart => exact ⟨(false), (0), (by rfl), (by rfl), H', ⟨cD _⟩, ⟨by exact HO_10.out⟩, ⟨by exact BK544.out⟩, ⟨by exact BK545.out⟩, ⟨HB.out⟩⟩
    case round =>
     clear H'
     try clear c13b0
     obtain ⟨x12_2, x13_2, rfl, rfl, HA, HK2, HO_10, BK544, BK545, HB⟩ := hrel
     cases gk with
     | zero => exact absurd HA.out (by simp [spec_l4Sum.l1])
     | succ k2 =>
      have H := HA.out
      clear HA
      simp only [spec_l4Sum.l1] at H
      by_cases c14 : x13_2 ≤ x11_1
      ·rw [if_pos c14] at H
       have c14b0 : decide (x13_2 ≤ x11_1) = true := aH c14
       clear c14
       by_cases c15 : x12_2 = true
       ·subst c15
        replace H : (spec_l4Sum.l1 k2 a2 (wrap64 ((wrap64 ((wrap64 (2 * t546)) + (wrap64 (3 * t547)))) + 2)) t547 x10_1 x11_1 true (wrap64 (x13_2 + 1)) l0_0 l0_1 l1_0 l1_1) = some (r1, r2) := by rw [if_pos rfl] at H; exact H
        have H' := aM H
        clear H
        go_wp2
        go_roundg k2
        case measure => have := HK1.out; have := HK2.out; omega
        case rel => exact ⟨(true), (wrap64 (x13_2 + 1)), (by rfl), (by rfl), H', ⟨by have := HK1.out; have := HK2.out; omega⟩, ⟨by exact HO_10.out⟩, ⟨by exact BK544.out⟩, ⟨by exact BK545.out⟩, ⟨HB.out⟩⟩
       ·replace c15 := Bool.eq_false_iff.mpr c15
        subst c15
        replace H : ((spec_l1Has.f l0_0 l0_1 x13_2).bind fun t553 => (if t553 = true then ((spec_l1Has.f l1_0 l1_1 (wrap64 (x11_1 - x13_2))).bind fun t554 => (if t554 = true then (if a2 = true then (spec_l4Sum.l1 k2 a2 (wrap64 ((wrap64 ((wrap64 (2 * t546)) + (wrap64 (3 * t547)))) + 2)) t547 x10_1 x11_1 (x13_2 != (wrap64 (x11_1 - x13_2))) (wrap64 (x13_2 + 1)) l0_0 l0_1 l1_0 l1_1) else (spec_l4Sum.l1 k2 a2 (wrap64 ((wrap64 ((wrap64 (2 * t546)) + (wrap64 (3 * t547)))) + 2)) t547 x10_1 x11_1 true (wrap64 (x13_2 + 1)) l0_0 l0_1 l1_0 l1_1)) else (spec_l4Sum.l1 k2 a2 (wrap64 ((wrap64 ((wrap64 (2 * t546)) + (wrap64 (3 * t547)))) + 2)) t547 x10_1 x11_1 false (wrap64 (x13_2 + 1)) l0_0 l0_1 l1_0 l1_1))) else (spec_l4Sum.l1 k2 a2 (wrap64 ((wrap64 ((wrap64 (2 * t546)) + (wrap64 (3 * t547)))) + 2)) t547 x10_1 x11_1 false (wrap64 (x13_2 + 1)) l0_0 l0_1 l1_0 l1_1))) = some (r1, r2) := by rw [if_neg (show ¬ (false = true) by decide)] at H; exact H
        replace H := Option.bind_eq_some_iff.mp H
        obtain ⟨t553, A160, H⟩ := H
        replace H : (if t553 = true then ((spec_l1Has.f l1_0 l1_1 (wrap64 (x11_1 - x13_2))).bind fun t554 => (if t554 = true then (if a2 = true then (spec_l4Sum.l1 k2 a2 (wrap64 ((wrap64 ((wrap64 (2 * t546)) + (wrap64 (3 * t547)))) + 2)) t547 x10_1 x11_1 (x13_2 != (wrap64 (x11_1 - x13_2))) (wrap64 (x13_2 + 1)) l0_0 l0_1 l1_0 l1_1) else (spec_l4Sum.l1 k2 a2 (wrap64 ((wrap64 ((wrap64 (2 * t546)) + (wrap64 (3 * t547)))) + 2)) t547 x10_1 x11_1 true (wrap64 (x13_2 + 1)) l0_0 l0_1 l1_0 l1_1)) else (spec_l4Sum.l1 k2 a2 (wrap64 ((wrap64 ((wrap64 (2 * t546)) + (wrap64 (3 * t547)))) + 2)) t547 x10_1 x11_1 false (wrap64 (x13_2 + 1)) l0_0 l0_1 l1_0 l1_1))) else (spec_l4Sum.l1 k2 a2 (wrap64 ((wrap64 ((wrap64 (2 * t546)) + (wrap64 (3 * t547)))) + 2)) t547 x10_1 x11_1 false (wrap64 (x13_2 + 1)) l0_0 l0_1 l1_0 l1_1)) = some (r1, r2) := H
        have A16 := aM A160
        clear A160
        by_cases c17 : t553 = true
        ·subst c17
         replace H : ((spec_l1Has.f l1_0 l1_1 (wrap64 (x11_1 - x13_2))).bind fun t554 => (if t554 = true then (if a2 = true then (spec_l4Sum.l1 k2 a2 (wrap64 ((wrap64 ((wrap64 (2 * t546)) + (wrap64 (3 * t547)))) + 2)) t547 x10_1 x11_1 (x13_2 != (wrap64 (x11_1 - x13_2))) (wrap64 (x13_2 + 1)) l0_0 l0_1 l1_0 l1_1) else (spec_l4Sum.l1 k2 a2 (wrap64 ((wrap64 ((wrap64 (2 * t546)) + (wrap64 (3 * t547)))) + 2)) t547 x10_1 x11_1 true (wrap64 (x13_2 + 1)) l0_0 l0_1 l1_0 l1_1)) else (spec_l4Sum.l1 k2 a2 (wrap64 ((wrap64 ((wrap64 (2 * t546)) + (wrap64 (3 * t547)))) + 2)) t547 x10_1 x11_1 false (wrap64 (x13_2 + 1)) l0_0 l0_1 l1_0 l1_1))) = some (r1, r2) := by rw [if_pos rfl] at H; exact H
         replace H := Option.bind_eq_some_iff.mp H
         obtain ⟨t554, A180, H⟩ := H
         replace H : (if t554 = true then (if a2 = true then (spec_l4Sum.l1 k2 a2 (wrap64 ((wrap64 ((wrap64 (2 * t546)) + (wrap64 (3 * t547)))) + 2)) t547 x10_1 x11_1 (x13_2 != (wrap64 (x11_1 - x13_2))) (wrap64 (x13_2 + 1)) l0_0 l0_1 l1_0 l1_1) else (spec_l4Sum.l1 k2 a2 (wrap64 ((wrap64 ((wrap64 (2 * t546)) + (wrap64 (3 * t547)))) + 2)) t547 x10_1 x11_1 true (wrap64 (x13_2 + 1)) l0_0 l0_1 l1_0 l1_1)) else (spec_l4Sum.l1 k2 a2 (wrap64 ((wrap64 ((wrap64 (2 * t546)) + (wrap64 (3 * t547)))) + 2)) t547 x10_1 x11_1 false (wrap64 (x13_2 + 1)) l0_0 l0_1 l1_0 l1_1)) = some (r1, r2) := H
         have A18 := aM A180
         clear A180
         by_cases c19 : t554 = true
         ·subst c19
          replace H : (if a2 = true then (spec_l4Sum.l1 k2 a2 (wrap64 ((wrap64 ((wrap64 (2 * t546)) + (wrap64 (3 * t547)))) + 2)) t547 x10_1 x11_1 (x13_2 != (wrap64 (x11_1 - x13_2))) (wrap64 (x13_2 + 1)) l0_0 l0_1 l1_0 l1_1) else (spec_l4Sum.l1 k2 a2 (wrap64 ((wrap64 ((wrap64 (2 * t546)) + (wrap64 (3 * t547)))) + 2)) t547 x10_1 x11_1 true (wrap64 (x13_2 + 1)) l0_0 l0_1 l1_0 l1_1)) = some (r1, r2) := by rw [if_pos rfl] at H; exact H
          by_cases c20 : a2 = true
          all_goals
           first
           |replace c20 := Bool.eq_false_iff.mpr c20
           |skip
           subst c20
           first
           |have H1 : (spec_l4Sum.l1 k2 true (wrap64 ((wrap64 ((wrap64 (2 * t546)) + (wrap64 (3 * t547)))) + 2)) t547 x10_1 x11_1 (x13_2 != (wrap64 (x11_1 - x13_2))) (wrap64 (x13_2 + 1)) l0_0 l0_1 l1_0 l1_1) = some (r1, r2) := by rw [if_pos rfl] at H; exact H
           |have H1 : (spec_l4Sum.l1 k2 false (wrap64 ((wrap64 ((wrap64 (2 * t546)) + (wrap64 (3 * t547)))) + 2)) t547 x10_1 x11_1 true (wrap64 (x13_2 + 1)) l0_0 l0_1 l1_0 l1_1) = some (r1, r2) := by rw [if_neg (show ¬ (false = true) by decide)] at H; exact H
           clear H
           have H := H1
           clear H1
           have H' := aM H
           clear H
           have hcz22_0 : wr.cell? ⟨gb544, 0, none⟩ = some (.slice A0_0 l0_0.length c0_0) := (aA BK544.out 0).trans rfl
           have hcz22_1 : wr.cell? ⟨gb544, 1, none⟩ = some (.slice A0_1 l0_1.length c0_1) := (aA BK544.out 1).trans rfl
           go_wp2_with (first | (go_at_call 97; (with_reducible refine (spec_l1Has.calls _ _ l0_0 _ _ l0_1 x13_2 true _ ?side1 ?side2 ?side3 ?side4 A16.out).mono ?_); (case side1 => repeat (exact (bF HR0_0.out HB.out))); (case side2 => exact HC0_0.out); (case side3 => repeat (exact (bF HR0_1.out HB.out))); (case side4 => exact HC0_1.out); rintro e w23 ⟨rfl, hb⟩; replace HO_10 := aM (bG HO_10.out hb); replace BK544 := aM (aD (g := gb544) (o := .cells #[.slice A0_0 l0_0.length c0_0, .slice A0_1 l0_1.length c0_1] 94 (0, 0)) BK544.out hb); replace BK545 := aM (aD (g := gb545) (o := .cells #[.slice A1_0 l1_0.length c1_0, .slice A1_1 l1_1.length c1_1] 94 (0, 0)) BK545.out hb); replace HB := aM (aE HB.out hb); (try clear hb); have hcz24_0 : w23.cell? ⟨gb545, 0, none⟩ = some (.slice A1_0 l1_0.length c1_0) := (aA BK545.out 0).trans rfl; have hcz24_1 : w23.cell? ⟨gb545, 1, none⟩ = some (.slice A1_1 l1_1.length c1_1) := (aA BK545.out 1).trans rfl) | (go_at_call 97; (with_reducible refine (spec_l1Has.calls _ _ l1_0 _ _ l1_1 (wrap64 (x11_1 - x13_2)) true _ ?side1 ?side2 ?side3 ?side4 A18.out).mono ?_); (case side1 => repeat (exact (bF HR1_0.out HB.out))); (case side2 => exact HC1_0.out); (case side3 => repeat (exact (bF HR1_1.out HB.out))); (case side4 => exact HC1_1.out); rintro e w25 ⟨rfl, hb⟩; replace HO_10 := aM (bG HO_10.out hb); replace BK544 := aM (aD (g := gb544) (o := .cells #[.slice A0_0 l0_0.length c0_0, .slice A0_1 l0_1.length c0_1] 94 (0, 0)) BK544.out hb); replace BK545 := aM (aD (g := gb545) (o := .cells #[.slice A1_0 l1_0.length c1_0, .slice A1_1 l1_1.length c1_1] 94 (0, 0)) BK545.out hb); replace HB := aM (aE HB.out hb); (try clear hb)))
           go_roundg k2
           case measure => have := HK1.out; have := HK2.out; omega
           first
           |case rel => exact ⟨((x13_2 != (wrap64 (x11_1 - x13_2)))), (wrap64 (x13_2 + 1)), (by rfl), (by rfl), H', ⟨by have := HK1.out; have := HK2.out; omega⟩, ⟨by exact HO_10.out⟩, ⟨by exact BK544.out⟩, ⟨by exact BK545.out⟩, ⟨HB.out⟩⟩
           |case rel => exact ⟨(true), (wrap64 (x13_2 + 1)), (by rfl), (by rfl), H', ⟨by have := HK1.out; have := HK2.out; omega⟩, ⟨by exact HO_10.out⟩, ⟨by exact BK544.out⟩, ⟨by exact BK545.out⟩, ⟨HB.out⟩⟩
         ·replace c19 := Bool.eq_false_iff.mpr c19
          subst c19
          replace H : (spec_l4Sum.l1 k2 a2 (wrap64 ((wrap64 ((wrap64 (2 * t546)) + (wrap64 (3 * t547)))) + 2)) t547 x10_1 x11_1 false (wrap64 (x13_2 + 1)) l0_0 l0_1 l1_0 l1_1) = some (r1, r2) := by rw [if_neg (show ¬ (false = true) by decide)] at H; exact H
          have H' := aM H
          clear H
          have hcz32_0 : wr.cell? ⟨gb544, 0, none⟩ = some (.slice A0_0 l0_0.length c0_0) := (aA BK544.out 0).trans rfl
          have hcz32_1 : wr.cell? ⟨gb544, 1, none⟩ = some (.slice A0_1 l0_1.length c0_1) := (aA BK544.out 1).trans rfl
          go_wp2_with (first | (go_at_call 97; (with_reducible refine (spec_l1Has.calls _ _ l0_0 _ _ l0_1 x13_2 true _ ?side1 ?side2 ?side3 ?side4 A16.out).mono ?_); (case side1 => repeat (exact (bF HR0_0.out HB.out))); (case side2 => exact HC0_0.out); (case side3 => repeat (exact (bF HR0_1.out HB.out))); (case side4 => exact HC0_1.out); rintro e w33 ⟨rfl, hb⟩; replace HO_10 := aM (bG HO_10.out hb); replace BK544 := aM (aD (g := gb544) (o := .cells #[.slice A0_0 l0_0.length c0_0, .slice A0_1 l0_1.length c0_1] 94 (0, 0)) BK544.out hb); replace BK545 := aM (aD (g := gb545) (o := .cells #[.slice A1_0 l1_0.length c1_0, .slice A1_1 l1_1.length c1_1] 94 (0, 0)) BK545.out hb); replace HB := aM (aE HB.out hb); (try clear hb); have hcz34_0 : w33.cell? ⟨gb545, 0, none⟩ = some (.slice A1_0 l1_0.length c1_0) := (aA BK545.out 0).trans rfl; have hcz34_1 : w33.cell? ⟨gb545, 1, none⟩ = some (.slice A1_1 l1_1.length c1_1) := (aA BK545.out 1).trans rfl) | (go_at_call 97; (with_reducible refine (spec_l1Has.calls _ _ l1_0 _ _ l1_1 (wrap64 (x11_1 - x13_2)) false _ ?side1 ?side2 ?side3 ?side4 A18.out).mono ?_); (case side1 => repeat (exact (bF HR1_0.out HB.out))); (case side2 => exact HC1_0.out); (case side3 => repeat (exact (bF HR1_1.out HB.out))); (case side4 => exact HC1_1.out); rintro e w35 ⟨rfl, hb⟩; replace HO_10 := aM (bG HO_10.out hb); replace BK544 := aM (aD (g := gb544) (o := .cells #[.slice A0_0 l0_0.length c0_0, .slice A0_1 l0_1.length c0_1] 94 (0, 0)) BK544.out hb); replace BK545 := aM (aD (g := gb545) (o := .cells #[.slice A1_0 l1_0.length c1_0, .slice A1_1 l1_1.length c1_1] 94 (0, 0)) BK545.out hb); replace HB := aM (aE HB.out hb); (try clear hb)))
          go_roundg k2
          case measure => have := HK1.out; have := HK2.out; omega
          case rel => exact ⟨(false), (wrap64 (x13_2 + 1)), (by rfl), (by rfl), H', ⟨by have := HK1.out; have := HK2.out; omega⟩, ⟨by exact HO_10.out⟩, ⟨by exact BK544.out⟩, ⟨by exact BK545.out⟩, ⟨HB.out⟩⟩
        ·replace c17 := Bool.eq_false_iff.mpr c17
         subst c17
         replace H : (spec_l4Sum.l1 k2 a2 (wrap64 ((wrap64 ((wrap64 (2 * t546)) + (wrap64 (3 * t547)))) + 2)) t547 x10_1 x11_1 false (wrap64 (x13_2 + 1)) l0_0 l0_1 l1_0 l1_1) = some (r1, r2) := by rw [if_neg (show ¬ (false = true) by decide)] at H; exact H
         have H' := aM H
         clear H
         have hcz37_0 : wr.cell? ⟨gb544, 0, none⟩ = some (.slice A0_0 l0_0.length c0_0) := (aA BK544.out 0).trans rfl
         have hcz37_1 : wr.cell? ⟨gb544, 1, none⟩ = some (.slice A0_1 l0_1.length c0_1) := (aA BK544.out 1).trans rfl
         go_wp2_with (first | (go_at_call 97; (with_reducible refine (spec_l1Has.calls _ _ l0_0 _ _ l0_1 x13_2 false _ ?side1 ?side2 ?side3 ?side4 A16.out).mono ?_); (case side1 => repeat (exact (bF HR0_0.out HB.out))); (case side2 => exact HC0_0.out); (case side3 => repeat (exact (bF HR0_1.out HB.out))); (case side4 => exact HC0_1.out); rintro e w38 ⟨rfl, hb⟩; replace HO_10 := aM (bG HO_10.out hb); replace BK544 := aM (aD (g := gb544) (o := .cells #[.slice A0_0 l0_0.length c0_0, .slice A0_1 l0_1.length c0_1] 94 (0, 0)) BK544.out hb); replace BK545 := aM (aD (g := gb545) (o := .cells #[.slice A1_0 l1_0.length c1_0, .slice A1_1 l1_1.length c1_1] 94 (0, 0)) BK545.out hb); replace HB := aM (aE HB.out hb); (try clear hb)))
         go_roundg k2
         case measure => have := HK1.out; have := HK2.out; omega
         case rel => exact ⟨(false), (wrap64 (x13_2 + 1)), (by rfl), (by rfl), H', ⟨by have := HK1.out; have := HK2.out; omega⟩, ⟨by exact HO_10.out⟩, ⟨by exact BK544.out⟩, ⟨by exact BK545.out⟩, ⟨HB.out⟩⟩
      ·rw [if_neg c14] at H
       have c14b0 : decide (x13_2 ≤ x11_1) = false := aK c14
       clear c14
       by_cases c39 : x10_1.length < 140737488355328
       ·rw [if_pos c39] at H
        have LMc39 := aM c39
        clear c39
        obtain ⟨y555, hy555⟩ : ∃ y_ : List Bool, y_ = (x10_1 ++ [x12_2]) := ⟨_, rfl⟩
        replace H : (spec_l4Sum.l0 k2 a2 (wrap64 ((wrap64 ((wrap64 (2 * t546)) + (wrap64 (3 * t547)))) + 2)) t547 y555 (wrap64 (x11_1 + 1)) l0_0 l0_1 l1_0 l1_1) = some (r1, r2) := by first | (rw [hy555]; with_reducible exact H)
        have Ny555 := aM hy555
        clear hy555
        have H' := aM H
        clear H
        go_wp2_with (first | ((with_reducible refine gate_builtin (b := .append) (xs := #[.tmp 63, .tmp 65]) rfl ?_); at_builtin; refine Kd.R_append Kd.bool (w0 := w) w.heap.size rfl (.tmp 63) (.tmp 65) 52 4 (.bool false) 1 rfl Try.underlying52 info4 rfl (by decide) (by omega) u10 x10_1 x12_2 [.bool x12_2] (fun _ => True) (fun _ => False) rfl rfl ?aP (fun _ hk => hk.elim) ?aF ?aO ?aB ?aS ?aL ?_; (case aP => exact rfl); (case aB => exact HB.out); (case aF => exact (fun _ _ => trivial)); (case aO => exact HO_10.out); (case aS => exact (aG HB.out)); (case aL => have := LMc39.out; omega); intro v556 w40 ho hb hg hat; rw [← Ny555.out] at ho; replace BK544 := aM (blk_grown (g := gb544) (o := .cells #[.slice A0_0 l0_0.length c0_0, .slice A0_1 l0_1.length c0_1] 94 (0, 0)) BK544.out hg (Kd.R_ne HO_10.out BK544.out (by decide))); replace BK545 := aM (blk_grown (g := gb545) (o := .cells #[.slice A1_0 l1_0.length c1_0, .slice A1_1 l1_1.length c1_1] 94 (0, 0)) BK545.out hg (Kd.R_ne HO_10.out BK545.out (by decide))); replace HB := aM hb; have HO557 := aM ho; clear HO_10; clear ho hb hg hat))
        go_roundg k2
        case measure => have := HK1.out; have := HK2.out; omega
        case rel => exact ⟨(y555), (wrap64 (x11_1 + 1)), (by rfl), H', ⟨by have := HK1.out; have := HK2.out; omega⟩, ⟨by exact HO557.out⟩, ⟨by exact BK544.out⟩, ⟨by exact BK545.out⟩, ⟨HB.out⟩⟩
       ·rw [if_neg c39] at H
        exact absurd H (by simp)
   ·rw [if_neg c13] at H
    have c13b0 : decide (x11_1 < (wrap64 ((wrap64 ((wrap64 ((wrap64 (2 * t546)) + (wrap64 (3 * t547)))) + 2)) + t547))) = false := aK c13
    clear c13
    replace H := Option.bind_eq_some_iff.mp H
    obtain ⟨⟨t551, t552⟩, A410, H⟩ := H
    replace H : (some (t551, t552)) = some (r1, r2) := H
    have A41 := aM A410
    clear A410
    simp only [aV, aW] at H
    obtain ⟨rfl, rfl⟩ := H
    obtain ⟨Ao42, co42, eo42⟩ := bL HO_10.out
    subst eo42
    go_wp2_with (first | ((with_reducible refine aY (f := 94) rfl ?_); refine gL 69 Try.func94 #[.slice Ao42 x10_1.length co42, .int .i64 (wrap64 ((wrap64 ((wrap64 (2 * t546)) + (wrap64 (3 * t547)))) + 2))] ?_; (with_reducible refine (spec_l2Fill.calls k1 _ _ x10_1 (wrap64 ((wrap64 ((wrap64 (2 * t546)) + (wrap64 (3 * t547)))) + 2)) t551 t552 _ ?side1 ?side2 A41.out).mono ?_); (case side1 => repeat (exact (bM HO_10.out).2.2)); (case side2 => exact (bM HO_10.out).2.1); rintro e w43 ⟨rfl, hb⟩; refine ⟨_, rfl, ?_⟩; replace HB := aM (aE HB.out hb); (try clear hb)))
    go_ret2
    exact ⟨by first | rfl | (simp [*, errW_none, errW_some] <;> rfl), HB.out⟩


def spec_SumOf.f (k : Nat) (a0 : ByteArray) (a1 : ByteArray) : Option (ByteArray × Bool) := (spec_l4Small.f k a0).bind fun bt558 => ((spec_l4Small.f k a1).bind fun bt566 => (if bt558.2.2 = true then (if bt566.2.2 = true then ((spec_l4Sum.f k bt558.1 bt558.2.1 bt566.1 bt566.2.1 false).bind fun bt574 => (some (bt574.1, bt574.2))) else (some ((⟨#[]⟩ : ByteArray), false))) else (some ((⟨#[]⟩ : ByteArray), false))))
set_option maxHeartbeats 8000000 in
set_option maxRecDepth 100000 in
theorem spec_SumOf.calls (k : Nat) (a0 : ByteArray) (a1 : ByteArray) (r1 : ByteArray) (r2 : Bool) (w : World) (h : spec_SumOf.f k a0 a1 = some (r1, r2)) :
  Calls Try.prog 57 #[.string a0, .string a1] w fun e w' => e = .returned (.tuple #[.string r1, .bool r2]) ∧ Below w.heap.size w w' := by
 have HB := aM (cE w.heap.size w)
 have H : ((spec_l4Small.f k a0).bind fun bt558 => ((spec_l4Small.f k a1).bind fun bt566 => (if bt558.2.2 = true then (if bt566.2.2 = true then ((spec_l4Sum.f k bt558.1 bt558.2.1 bt566.1 bt566.2.1 false).bind fun bt574 => (some (bt574.1, bt574.2))) else (some ((⟨#[]⟩ : ByteArray), false))) else (some ((⟨#[]⟩ : ByteArray), false))))) = some (r1, r2) := h
 clear h
 replace H := Option.bind_eq_some_iff.mp H
 obtain ⟨⟨t558, t561, t564⟩, A30, H⟩ := H
 replace H : ((spec_l4Small.f k a1).bind fun bt566 => (if t564 = true then (if bt566.2.2 = true then ((spec_l4Sum.f k t558 t561 bt566.1 bt566.2.1 false).bind fun bt574 => (some (bt574.1, bt574.2))) else (some ((⟨#[]⟩ : ByteArray), false))) else (some ((⟨#[]⟩ : ByteArray), false)))) = some (r1, r2) := H
 have A3 := aM A30
 clear A30
 replace H := Option.bind_eq_some_iff.mp H
 obtain ⟨⟨t566, t569, t572⟩, A40, H⟩ := H
 replace H : (if t564 = true then (if t572 = true then ((spec_l4Sum.f k t558 t561 t566 t569 false).bind fun bt574 => (some (bt574.1, bt574.2))) else (some ((⟨#[]⟩ : ByteArray), false))) else (some ((⟨#[]⟩ : ByteArray), false))) = some (r1, r2) := H
 have A4 := aM A40
 clear A40
 by_cases c5 : t564 = true
 ·subst c5
  replace H : (if t572 = true then ((spec_l4Sum.f k t558 t561 t566 t569 false).bind fun bt574 => (some (bt574.1, bt574.2))) else (some ((⟨#[]⟩ : ByteArray), false))) = some (r1, r2) := by rw [if_pos rfl] at H; exact H
  by_cases c6 : t572 = true
  ·subst c6
   replace H : ((spec_l4Sum.f k t558 t561 t566 t569 false).bind fun bt574 => (some (bt574.1, bt574.2))) = some (r1, r2) := by rw [if_pos rfl] at H; exact H
   replace H := Option.bind_eq_some_iff.mp H
   obtain ⟨⟨t574, t575⟩, A70, H⟩ := H
   replace H : (some (t574, t575)) = some (r1, r2) := H
   have A7 := aM A70
   clear A70
   simp only [aV, aW] at H
   obtain ⟨rfl, rfl⟩ := H
   go_enter Try.func57, Try.ntmps57
   go_wp2_with (first | ((with_reducible refine aY (f := 74) rfl ?_); refine gL 12 Try.func74 #[.string a0] ?_; (with_reducible refine (spec_l4Small.calls k a0 t558 t561 true _ A3.out).mono ?_); rintro e w8 ⟨v559, v562, rfl, ho0, ho1, hb⟩; refine ⟨_, rfl, ?_⟩; have HO560 := aM (bQ (bK (ok' := fun k_ => True) ho0 (fun k_ hk_ => trivial)) (aG HB.out)); have HO563 := aM (bQ (bK (ok' := fun k_ => True) ho1 (fun k_ hk_ => trivial)) (aG HB.out)); replace HB := aM (aE HB.out hb); (try clear hb); (try clear ho0); (try clear ho1)) | ((with_reducible refine aZ (N := 6) rfl ?_); refine bB ?hg (N := 6) ?hd (cs := #[.slice none 0 0, .slice none 0 0]) (t := 94) ?hr ?_; (case hd => rfl); (case hg => rfl); (case hr => first | (go_simp; done)); intro gb565 hg w9 hbox hb; replace HO560 := aM (bH (Kd.V_elderB HO560.out gb565 (Nat.le_of_eq hg.symm)) hb); replace HO563 := aM (bH (Kd.V_elderB HO563.out gb565 (Nat.le_of_eq hg.symm)) hb); have BK565 := aM hbox; have GE565 := aM ((by rw [hg]; exact (aG HB.out) : w.heap.size ≤ gb565)); replace HB := aM (aE HB.out hb); clear hb hbox hg; obtain ⟨Ao10, co10, eo10⟩ := Kd.V_slice HO560.out; subst eo10; have hcz11_0 : w9.cell? ⟨gb565, 0, none⟩ = some (.slice none 0 0) := (aA BK565.out 0).trans rfl; have hcz11_1 : w9.cell? ⟨gb565, 1, none⟩ = some (.slice none 0 0) := (aA BK565.out 1).trans rfl; have hfz11_0 := aC BK565.out 0; have hfz11_1 := aC BK565.out 1; obtain ⟨Ao12, co12, eo12⟩ := Kd.V_slice HO563.out; subst eo12) | ((with_reducible refine aY (f := 74) rfl ?_); refine gL 17 Try.func74 #[.string a1] ?_; (with_reducible refine (spec_l4Small.calls k a1 t566 t569 true _ A4.out).mono ?_); rintro e w13 ⟨v567, v570, rfl, ho0, ho1, hb⟩; refine ⟨_, rfl, ?_⟩; replace HO560 := aM (bH (by exact (bK (bD (p := ⟨gb565, 1, none⟩) (bD (p := ⟨gb565, 0, none⟩) (bK HO560.out (fun k_ hk => (⟨hk, hk.2⟩ : _ ∧ k_ ≠ gb565))) (fun _ hk => hk.2) (.slice Ao10 t558.length co10)) (fun _ hk => hk.2) (.slice Ao12 t561.length co12)) (fun _ h_ => h_.1))) hb); replace HO563 := aM (bH (by exact (bK (bD (p := ⟨gb565, 1, none⟩) (bD (p := ⟨gb565, 0, none⟩) (bK HO563.out (fun k_ hk => (⟨hk, hk.2⟩ : _ ∧ k_ ≠ gb565))) (fun _ hk => hk.2) (.slice Ao10 t558.length co10)) (fun _ hk => hk.2) (.slice Ao12 t561.length co12)) (fun _ h_ => h_.1))) hb); have HO568 := aM (bQ (bK (ok' := fun k_ => k_ ≠ gb565) ho0 (fun k_ hk_ => (Kd.freshB (g := gb565) (o := .cells #[.slice Ao10 t558.length co10, .slice Ao12 t561.length co12] 94 (0, 0)) (by refine bV (cs := #[.slice Ao10 t558.length co10, .slice none 0 0]) ?_ 1 _ rfl; refine bV (cs := #[.slice none 0 0, .slice none 0 0]) ?_ 0 _ rfl; exact BK565.out) k_ hk_))) (aG (by repeat (first | (with_reducible first | exact HB.out | refine bS ?_ GE565.out))))); have HO571 := aM (bQ (bK (ok' := fun k_ => k_ ≠ gb565) ho1 (fun k_ hk_ => (Kd.freshB (g := gb565) (o := .cells #[.slice Ao10 t558.length co10, .slice Ao12 t561.length co12] 94 (0, 0)) (by refine bV (cs := #[.slice Ao10 t558.length co10, .slice none 0 0]) ?_ 1 _ rfl; refine bV (cs := #[.slice none 0 0, .slice none 0 0]) ?_ 0 _ rfl; exact BK565.out) k_ hk_))) (aG (by repeat (first | (with_reducible first | exact HB.out | refine bS ?_ GE565.out))))); replace BK565 := aM (aD (g := gb565) (o := .cells #[.slice Ao10 t558.length co10, .slice Ao12 t561.length co12] 94 (0, 0)) (by refine bV (cs := #[.slice Ao10 t558.length co10, .slice none 0 0]) ?_ 1 _ rfl; refine bV (cs := #[.slice none 0 0, .slice none 0 0]) ?_ 0 _ rfl; exact BK565.out) hb); replace HB := aM (aE (by repeat (first | (with_reducible first | exact HB.out | refine bS ?_ GE565.out))) hb); (try clear hb); (try clear ho0); (try clear ho1)) | ((with_reducible refine aZ (N := 8) rfl ?_); refine bB ?hg (N := 8) ?hd (cs := #[.slice none 0 0, .slice none 0 0]) (t := 94) ?hr ?_; (case hd => rfl); (case hg => rfl); (case hr => first | (go_simp; done)); intro gb573 hg w14 hbox hb; replace HO560 := aM (bH (Kd.V_elderB HO560.out gb573 (Nat.le_of_eq hg.symm)) hb); replace HO563 := aM (bH (Kd.V_elderB HO563.out gb573 (Nat.le_of_eq hg.symm)) hb); replace HO568 := aM (bH (Kd.V_elderB HO568.out gb573 (Nat.le_of_eq hg.symm)) hb); replace HO571 := aM (bH (Kd.V_elderB HO571.out gb573 (Nat.le_of_eq hg.symm)) hb); have BK573 := aM hbox; have GE573 := aM ((by rw [hg]; exact (aG HB.out) : w.heap.size ≤ gb573)); replace HB := aM (aE HB.out hb); have NB565_573 := aM ((by rw [hg]; exact Nat.ne_of_lt (blk_lt (g := gb565) (o := .cells #[.slice Ao10 t558.length co10, .slice Ao12 t561.length co12] 94 (0, 0)) BK565.out) : gb565 ≠ gb573)); replace BK565 := aM (aD (g := gb565) (o := .cells #[.slice Ao10 t558.length co10, .slice Ao12 t561.length co12] 94 (0, 0)) BK565.out hb); clear hb hbox hg; obtain ⟨Ao15, co15, eo15⟩ := Kd.V_slice HO568.out; subst eo15; have hnc16 := NB565_573.out; have hcz17_0 : w14.cell? ⟨gb573, 0, none⟩ = some (.slice none 0 0) := (aA BK573.out 0).trans rfl; have hcz17_1 : w14.cell? ⟨gb573, 1, none⟩ = some (.slice none 0 0) := (aA BK573.out 1).trans rfl; have hfz17_0 := aC BK573.out 0; have hfz17_1 := aC BK573.out 1; obtain ⟨Ao18, co18, eo18⟩ := Kd.V_slice HO571.out; subst eo18; have hcz19_0 : w14.cell? ⟨gb565, 0, none⟩ = some (.slice Ao10 t558.length co10) := (aA BK565.out 0).trans rfl; have hcz19_1 : w14.cell? ⟨gb565, 1, none⟩ = some (.slice Ao12 t561.length co12) := (aA BK565.out 1).trans rfl) | ((with_reducible refine aY (f := 77) rfl ?_); refine gL 28 Try.func77 #[.agg #[.slice Ao10 t558.length co10, .slice Ao12 t561.length co12], .agg #[.slice Ao15 t566.length co15, .slice Ao18 t569.length co18], .bool false] ?_; (with_reducible refine (spec_l4Sum.calls k _ _ t558 _ _ t561 _ _ t566 _ _ t569 false t574 t575 _ ?side1 ?side2 ?side3 ?side4 ?side5 ?side6 ?side7 ?side8 A7.out).mono ?_); (case side1 => refine (Kd.V_reads' (e := 4) (base := w.heap.size) (ok := fun k_ => ((True ∧ k_ ≠ gb565) ∧ k_ ≠ gb573)) (n := t558.length) (c := co10) ?_).2.2; exact (by exact (bK (bD (p := ⟨gb573, 1, none⟩) (bD (p := ⟨gb573, 0, none⟩) (bK HO560.out (fun k_ hk => (⟨hk, hk.2⟩ : _ ∧ k_ ≠ gb573))) (fun _ hk => hk.2) (.slice Ao15 t566.length co15)) (fun _ hk => hk.2) (.slice Ao18 t569.length co18)) (fun _ h_ => h_.1)))); (case side2 => exact (Kd.V_reads' HO560.out).2.1); (case side3 => refine (Kd.V_reads' (e := 4) (base := w.heap.size) (ok := fun k_ => ((True ∧ k_ ≠ gb565) ∧ k_ ≠ gb573)) (n := t561.length) (c := co12) ?_).2.2; exact (by exact (bK (bD (p := ⟨gb573, 1, none⟩) (bD (p := ⟨gb573, 0, none⟩) (bK HO563.out (fun k_ hk => (⟨hk, hk.2⟩ : _ ∧ k_ ≠ gb573))) (fun _ hk => hk.2) (.slice Ao15 t566.length co15)) (fun _ hk => hk.2) (.slice Ao18 t569.length co18)) (fun _ h_ => h_.1)))); (case side4 => exact (Kd.V_reads' HO563.out).2.1); (case side5 => refine (Kd.V_reads' (e := 4) (base := w.heap.size) (ok := fun k_ => (k_ ≠ gb565 ∧ k_ ≠ gb573)) (n := t566.length) (c := co15) ?_).2.2; exact (by exact (bK (bD (p := ⟨gb573, 1, none⟩) (bD (p := ⟨gb573, 0, none⟩) (bK HO568.out (fun k_ hk => (⟨hk, hk.2⟩ : _ ∧ k_ ≠ gb573))) (fun _ hk => hk.2) (.slice Ao15 t566.length co15)) (fun _ hk => hk.2) (.slice Ao18 t569.length co18)) (fun _ h_ => h_.1)))); (case side6 => exact (Kd.V_reads' HO568.out).2.1); (case side7 => refine (Kd.V_reads' (e := 4) (base := w.heap.size) (ok := fun k_ => (k_ ≠ gb565 ∧ k_ ≠ gb573)) (n := t569.length) (c := co18) ?_).2.2; exact (by exact (bK (bD (p := ⟨gb573, 1, none⟩) (bD (p := ⟨gb573, 0, none⟩) (bK HO571.out (fun k_ hk => (⟨hk, hk.2⟩ : _ ∧ k_ ≠ gb573))) (fun _ hk => hk.2) (.slice Ao15 t566.length co15)) (fun _ hk => hk.2) (.slice Ao18 t569.length co18)) (fun _ h_ => h_.1)))); (case side8 => exact (Kd.V_reads' HO571.out).2.1); rintro e w20 ⟨rfl, hb⟩; refine ⟨_, rfl, ?_⟩; replace HB := aM (aE (by repeat (first | (with_reducible first | exact HB.out | refine bS ?_ GE573.out))) hb); (try clear hb)))
   go_ret2
   exact ⟨by first | rfl | (simp [*, errW_none, errW_some] <;> rfl), HB.out⟩
  ·replace c6 := Bool.eq_false_iff.mpr c6
   subst c6
   replace H : (some ((⟨#[]⟩ : ByteArray), false)) = some (r1, r2) := by rw [if_neg (show ¬ (false = true) by decide)] at H; exact H
   simp only [aV, aW] at H
   obtain ⟨rfl, rfl⟩ := H
   go_enter Try.func57, Try.ntmps57
   go_wp2_with (first | ((with_reducible refine aY (f := 74) rfl ?_); refine gL 12 Try.func74 #[.string a0] ?_; (with_reducible refine (spec_l4Small.calls k a0 t558 t561 true _ A3.out).mono ?_); rintro e w21 ⟨v559, v562, rfl, ho0, ho1, hb⟩; refine ⟨_, rfl, ?_⟩; have HO560 := aM (bQ (bK (ok' := fun k_ => True) ho0 (fun k_ hk_ => trivial)) (aG HB.out)); have HO563 := aM (bQ (bK (ok' := fun k_ => True) ho1 (fun k_ hk_ => trivial)) (aG HB.out)); replace HB := aM (aE HB.out hb); (try clear hb); (try clear ho0); (try clear ho1)) | ((with_reducible refine aZ (N := 6) rfl ?_); refine bB ?hg (N := 6) ?hd (cs := #[.slice none 0 0, .slice none 0 0]) (t := 94) ?hr ?_; (case hd => rfl); (case hg => rfl); (case hr => first | (go_simp; done)); intro gb565 hg w22 hbox hb; replace HO560 := aM (bH (Kd.V_elderB HO560.out gb565 (Nat.le_of_eq hg.symm)) hb); replace HO563 := aM (bH (Kd.V_elderB HO563.out gb565 (Nat.le_of_eq hg.symm)) hb); have BK565 := aM hbox; have GE565 := aM ((by rw [hg]; exact (aG HB.out) : w.heap.size ≤ gb565)); replace HB := aM (aE HB.out hb); clear hb hbox hg; obtain ⟨Ao23, co23, eo23⟩ := Kd.V_slice HO560.out; subst eo23; have hcz24_0 : w22.cell? ⟨gb565, 0, none⟩ = some (.slice none 0 0) := (aA BK565.out 0).trans rfl; have hcz24_1 : w22.cell? ⟨gb565, 1, none⟩ = some (.slice none 0 0) := (aA BK565.out 1).trans rfl; have hfz24_0 := aC BK565.out 0; have hfz24_1 := aC BK565.out 1; obtain ⟨Ao25, co25, eo25⟩ := Kd.V_slice HO563.out; subst eo25) | ((with_reducible refine aY (f := 74) rfl ?_); refine gL 17 Try.func74 #[.string a1] ?_; (with_reducible refine (spec_l4Small.calls k a1 t566 t569 false _ A4.out).mono ?_); rintro e w26 ⟨v567, v570, rfl, ho0, ho1, hb⟩; refine ⟨_, rfl, ?_⟩; have HO568 := aM (bQ (bK (ok' := fun k_ => k_ ≠ gb565) ho0 (fun k_ hk_ => (Kd.freshB (g := gb565) (o := .cells #[.slice Ao23 t558.length co23, .slice Ao25 t561.length co25] 94 (0, 0)) (by refine bV (cs := #[.slice Ao23 t558.length co23, .slice none 0 0]) ?_ 1 _ rfl; refine bV (cs := #[.slice none 0 0, .slice none 0 0]) ?_ 0 _ rfl; exact BK565.out) k_ hk_))) (aG (by repeat (first | (with_reducible first | exact HB.out | refine bS ?_ GE565.out))))); have HO571 := aM (bQ (bK (ok' := fun k_ => k_ ≠ gb565) ho1 (fun k_ hk_ => (Kd.freshB (g := gb565) (o := .cells #[.slice Ao23 t558.length co23, .slice Ao25 t561.length co25] 94 (0, 0)) (by refine bV (cs := #[.slice Ao23 t558.length co23, .slice none 0 0]) ?_ 1 _ rfl; refine bV (cs := #[.slice none 0 0, .slice none 0 0]) ?_ 0 _ rfl; exact BK565.out) k_ hk_))) (aG (by repeat (first | (with_reducible first | exact HB.out | refine bS ?_ GE565.out))))); replace HB := aM (aE (by repeat (first | (with_reducible first | exact HB.out | refine bS ?_ GE565.out))) hb); (try clear hb); (try clear ho0); (try clear ho1)) | ((with_reducible refine aZ (N := 8) rfl ?_); refine bB ?hg (N := 8) ?hd (cs := #[.slice none 0 0, .slice none 0 0]) (t := 94) ?hr ?_; (case hd => rfl); (case hg => rfl); (case hr => first | (go_simp; done)); intro gb573 hg w27 hbox hb; replace HO568 := aM (bH (Kd.V_elderB HO568.out gb573 (Nat.le_of_eq hg.symm)) hb); replace HO571 := aM (bH (Kd.V_elderB HO571.out gb573 (Nat.le_of_eq hg.symm)) hb); have BK573 := aM hbox; have GE573 := aM ((by rw [hg]; exact (aG HB.out) : w.heap.size ≤ gb573)); replace HB := aM (aE HB.out hb); clear hb hbox hg; obtain ⟨Ao28, co28, eo28⟩ := Kd.V_slice HO568.out; subst eo28; have hcz30_0 : w27.cell? ⟨gb573, 0, none⟩ = some (.slice none 0 0) := (aA BK573.out 0).trans rfl; have hcz30_1 : w27.cell? ⟨gb573, 1, none⟩ = some (.slice none 0 0) := (aA BK573.out 1).trans rfl; have hfz30_0 := aC BK573.out 0; have hfz30_1 := aC BK573.out 1; obtain ⟨Ao31, co31, eo31⟩ := Kd.V_slice HO571.out; subst eo31))
   go_ret2
   exact ⟨by first | rfl | (simp [*, errW_none, errW_some] <;> rfl), by repeat (first | (with_reducible first | exact HB.out | refine bS ?_ GE573.out))⟩
 ·replace c5 := Bool.eq_false_iff.mpr c5
  subst c5
  replace H : (some ((⟨#[]⟩ : ByteArray), false)) = some (r1, r2) := by rw [if_neg (show ¬ (false = true) by decide)] at H; exact H
  simp only [aV, aW] at H
  obtain ⟨rfl, rfl⟩ := H
  go_enter Try.func57, Try.ntmps57
  go_wp2_with (first | ((with_reducible refine aY (f := 74) rfl ?_); refine gL 12 Try.func74 #[.string a0] ?_; (with_reducible refine (spec_l4Small.calls k a0 t558 t561 false _ A3.out).mono ?_); rintro e w32 ⟨v559, v562, rfl, ho0, ho1, hb⟩; refine ⟨_, rfl, ?_⟩; have HO560 := aM (bQ (bK (ok' := fun k_ => True) ho0 (fun k_ hk_ => trivial)) (aG HB.out)); have HO563 := aM (bQ (bK (ok' := fun k_ => True) ho1 (fun k_ hk_ => trivial)) (aG HB.out)); replace HB := aM (aE HB.out hb); (try clear hb); (try clear ho0); (try clear ho1)) | ((with_reducible refine aZ (N := 6) rfl ?_); refine bB ?hg (N := 6) ?hd (cs := #[.slice none 0 0, .slice none 0 0]) (t := 94) ?hr ?_; (case hd => rfl); (case hg => rfl); (case hr => first | (go_simp; done)); intro gb565 hg w33 hbox hb; replace HO560 := aM (bH (Kd.V_elderB HO560.out gb565 (Nat.le_of_eq hg.symm)) hb); replace HO563 := aM (bH (Kd.V_elderB HO563.out gb565 (Nat.le_of_eq hg.symm)) hb); have BK565 := aM hbox; have GE565 := aM ((by rw [hg]; exact (aG HB.out) : w.heap.size ≤ gb565)); replace HB := aM (aE HB.out hb); clear hb hbox hg; obtain ⟨Ao34, co34, eo34⟩ := Kd.V_slice HO560.out; subst eo34; have hcz35_0 : w33.cell? ⟨gb565, 0, none⟩ = some (.slice none 0 0) := (aA BK565.out 0).trans rfl; have hcz35_1 : w33.cell? ⟨gb565, 1, none⟩ = some (.slice none 0 0) := (aA BK565.out 1).trans rfl; have hfz35_0 := aC BK565.out 0; have hfz35_1 := aC BK565.out 1; obtain ⟨Ao36, co36, eo36⟩ := Kd.V_slice HO563.out; subst eo36) | ((with_reducible refine aY (f := 74) rfl ?_); refine gL 17 Try.func74 #[.string a1] ?_; (with_reducible refine (spec_l4Small.calls k a1 t566 t569 t572 _ A4.out).mono ?_); rintro e w37 ⟨v567, v570, rfl, ho0, ho1, hb⟩; refine ⟨_, rfl, ?_⟩; have HO568 := aM (bQ (bK (ok' := fun k_ => k_ ≠ gb565) ho0 (fun k_ hk_ => (Kd.freshB (g := gb565) (o := .cells #[.slice Ao34 t558.length co34, .slice Ao36 t561.length co36] 94 (0, 0)) (by refine bV (cs := #[.slice Ao34 t558.length co34, .slice none 0 0]) ?_ 1 _ rfl; refine bV (cs := #[.slice none 0 0, .slice none 0 0]) ?_ 0 _ rfl; exact BK565.out) k_ hk_))) (aG (by repeat (first | (with_reducible first | exact HB.out | refine bS ?_ GE565.out))))); have HO571 := aM (bQ (bK (ok' := fun k_ => k_ ≠ gb565) ho1 (fun k_ hk_ => (Kd.freshB (g := gb565) (o := .cells #[.slice Ao34 t558.length co34, .slice Ao36 t561.length co36] 94 (0, 0)) (by refine bV (cs := #[.slice Ao34 t558.length co34, .slice none 0 0]) ?_ 1 _ rfl; refine bV (cs := #[.slice none 0 0, .slice none 0 0]) ?_ 0 _ rfl; exact BK565.out) k_ hk_))) (aG (by repeat (first | (with_reducible first | exact HB.out | refine bS ?_ GE565.out))))); replace HB := aM (aE (by repeat (first | (with_reducible first | exact HB.out | refine bS ?_ GE565.out))) hb); (try clear hb); (try clear ho0); (try clear ho1)) | ((with_reducible refine aZ (N := 8) rfl ?_); refine bB ?hg (N := 8) ?hd (cs := #[.slice none 0 0, .slice none 0 0]) (t := 94) ?hr ?_; (case hd => rfl); (case hg => rfl); (case hr => first | (go_simp; done)); intro gb573 hg w38 hbox hb; replace HO568 := aM (bH (Kd.V_elderB HO568.out gb573 (Nat.le_of_eq hg.symm)) hb); replace HO571 := aM (bH (Kd.V_elderB HO571.out gb573 (Nat.le_of_eq hg.symm)) hb); have BK573 := aM hbox; have GE573 := aM ((by rw [hg]; exact (aG HB.out) : w.heap.size ≤ gb573)); replace HB := aM (aE HB.out hb); clear hb hbox hg; obtain ⟨Ao39, co39, eo39⟩ := Kd.V_slice HO568.out; subst eo39; have hcz41_0 : w38.cell? ⟨gb573, 0, none⟩ = some (.slice none 0 0) := (aA BK573.out 0).trans rfl; have hcz41_1 : w38.cell? ⟨gb573, 1, none⟩ = some (.slice none 0 0) := (aA BK573.out 1).trans rfl; have hfz41_0 := aC BK573.out 0; have hfz41_1 := aC BK573.out 1; obtain ⟨Ao42, co42, eo42⟩ := Kd.V_slice HO571.out; subst eo42))
  go_ret2
  exact ⟨by first | rfl | (simp [*, errW_none, errW_some] <;> rfl), by repeat (first | (with_reducible first | exact HB.out | refine bS ?_ GE573.out))⟩


def spec_l6In.f (a0 : Int) (a1 : Int) (a2 : Int) : Option (Bool) := if a0 ≥ a1 then (some (decide (a0 ≤ a2))) else (some false)
set_option maxHeartbeats 8000000 in
set_option maxRecDepth 100000 in
theorem spec_l6In.calls (a0 : Int) (a1 : Int) (a2 : Int) (r : Bool) (w : World) (h : spec_l6In.f a0 a1 a2 = some r) :
  Calls Try.prog 29 #[.int .i64 a0, .int .i64 a1, .int .i64 a2] w fun e w' => e = .returned (.bool r) ∧ Drawn0 w w' := by
 have H : (if a0 ≥ a1 then (some (decide (a0 ≤ a2))) else (some false)) = some r := h
 clear h
 by_cases c4 : a0 ≥ a1
 ·rw [if_pos c4] at H
  have c4b0 : decide (a1 ≤ a0) = true := aH c4
  clear c4
  obtain rfl := bU H
  go_enter Try.func29, Try.ntmps29
  go_wp2
  go_ret
  exact ⟨by first | rfl | (simp [*]; done), by repeat (exact Drawn0.refl _)⟩
 ·rw [if_neg c4] at H
  have c4b0 : decide (a1 ≤ a0) = false := aK c4
  clear c4
  obtain rfl := bU H
  go_enter Try.func29, Try.ntmps29
  go_wp2
  go_ret
  exact ⟨by first | rfl | (simp [*]; done), by repeat (exact Drawn0.refl _)⟩


mutual
def spec_SumTimes.j0 : Nat → ByteArray → Int → Bool → Option (ByteArray × Bool)
 | 0, _, _, _ => none
 | k + 1, x0, x1, x23 => if x23 = true then (some ((⟨#[]⟩ : ByteArray), false)) else (spec_SumTimes.l0 k x0 x1 (⟨#[49, 40, 48, 41]⟩ : ByteArray) 0)
def spec_SumTimes.l0 : Nat → ByteArray → Int → ByteArray → Int → Option (ByteArray × Bool)
 | 0, _, _, _, _ => none
 | k + 1, x0, x1, x8, x9 => if x9 < x1 then ((spec_SumOf.f k x8 x0).bind fun bt585 => (if bt585.2 = true then (spec_SumTimes.l0 k x0 x1 bt585.1 (wrap64 (x9 + 1))) else (some ((⟨#[]⟩ : ByteArray), false)))) else (some (x8, true))
end
def spec_SumTimes.f (k : Nat) (a0 : ByteArray) (a1 : Int) : Option (ByteArray × Bool) := (spec_l4Small.f k a0).bind fun bt576 => (if bt576.2.2 = true then ((spec_l6In.f a1 0 6).bind fun t584 => (spec_SumTimes.j0 k a0 a1 (!t584))) else (spec_SumTimes.j0 k a0 a1 true))
set_option maxHeartbeats 8000000 in
set_option maxRecDepth 100000 in
theorem spec_SumTimes.calls (k : Nat) (a0 : ByteArray) (a1 : Int) (r1 : ByteArray) (r2 : Bool) (w : World) (h : spec_SumTimes.f k a0 a1 = some (r1, r2)) :
  Calls Try.prog 55 #[.string a0, .int .i64 a1] w fun e w' => e = .returned (.tuple #[.string r1, .bool r2]) ∧ Below w.heap.size w w' := by
 have HB := aM (cE w.heap.size w)
 have H : ((spec_l4Small.f k a0).bind fun bt576 => (if bt576.2.2 = true then ((spec_l6In.f a1 0 6).bind fun t584 => (spec_SumTimes.j0 k a0 a1 (!t584))) else (spec_SumTimes.j0 k a0 a1 true))) = some (r1, r2) := h
 clear h
 replace H := Option.bind_eq_some_iff.mp H
 obtain ⟨⟨t576, t579, t582⟩, A30, H⟩ := H
 replace H : (if t582 = true then ((spec_l6In.f a1 0 6).bind fun t584 => (spec_SumTimes.j0 k a0 a1 (!t584))) else (spec_SumTimes.j0 k a0 a1 true)) = some (r1, r2) := H
 have A3 := aM A30
 clear A30
 have HC4 := aM H
 clear H
 go_enter Try.func55, Try.ntmps55
 go_upto_region 2 with (first | ((with_reducible refine aY (f := 74) rfl ?_); refine gL 14 Try.func74 #[.string a0] ?_; (with_reducible refine (spec_l4Small.calls k a0 t576 t579 t582 _ A3.out).mono ?_); rintro e w5 ⟨v577, v580, rfl, ho0, ho1, hb⟩; refine ⟨_, rfl, ?_⟩; have HO578 := aM (bQ (bK (ok' := fun k_ => True) ho0 (fun k_ hk_ => trivial)) (aG HB.out)); have HO581 := aM (bQ (bK (ok' := fun k_ => True) ho1 (fun k_ hk_ => trivial)) (aG HB.out)); replace HB := aM (aE HB.out hb); (try clear hb); (try clear ho0); (try clear ho1)) | ((with_reducible refine aZ (N := 6) rfl ?_); refine bB ?hg (N := 6) ?hd (cs := #[.slice none 0 0, .slice none 0 0]) (t := 94) ?hr ?_; (case hd => rfl); (case hg => rfl); (case hr => first | (go_simp; done)); intro gb583 hg w6 hbox hb; replace HO578 := aM (bH (Kd.V_elderB HO578.out gb583 (Nat.le_of_eq hg.symm)) hb); replace HO581 := aM (bH (Kd.V_elderB HO581.out gb583 (Nat.le_of_eq hg.symm)) hb); have BK583 := aM hbox; have GE583 := aM ((by rw [hg]; exact (aG HB.out) : w.heap.size ≤ gb583)); replace HB := aM (aE HB.out hb); clear hb hbox hg; obtain ⟨Ao7, co7, eo7⟩ := Kd.V_slice HO578.out; subst eo7; have hcz8_0 : w6.cell? ⟨gb583, 0, none⟩ = some (.slice none 0 0) := (aA BK583.out 0).trans rfl; have hcz8_1 : w6.cell? ⟨gb583, 1, none⟩ = some (.slice none 0 0) := (aA BK583.out 1).trans rfl; have hfz8_0 := aC BK583.out 0; have hfz8_1 := aC BK583.out 1; obtain ⟨Ao9, co9, eo9⟩ := Kd.V_slice HO581.out; subst eo9))
 go_cut [23] (fun v23 wc => ∃ (kq : Nat) (x23_3 : Bool), v23 = .bool x23_3 ∧ Aside0 (spec_SumTimes.j0 kq a0 a1 x23_3 = some (r1, r2)) ∧ Aside0 (kq ≤ k) ∧ Aside0 (Kd.V Kd.bool 4 wc w.heap.size (fun k_ => k_ ≠ gb583) (.slice Ao7 t576.length co7) t576) ∧ Aside0 (Kd.V Kd.bool 4 wc w.heap.size (fun k_ => k_ ≠ gb583) (.slice Ao9 t579.length co9) t579) ∧ Aside0 (wc.heap[gb583]? = some (.cells #[(.slice Ao7 t576.length co7), (.slice Ao9 t579.length co9)] 94 (0, 0))) ∧ Aside0 (Below w.heap.size w wc))
 case first =>
  have H := HC4.out
  clear HC4
  by_cases c10 : t582 = true
  ·subst c10
   replace H : ((spec_l6In.f a1 0 6).bind fun t584 => (spec_SumTimes.j0 k a0 a1 (!t584))) = some (r1, r2) := by rw [if_pos rfl] at H; exact H
   replace H := Option.bind_eq_some_iff.mp H
   obtain ⟨t584, A110, H⟩ := H
   replace H : (spec_SumTimes.j0 k a0 a1 (!t584)) = some (r1, r2) := H
   have A11 := aM A110
   clear A110
   have H' := aM H
   clear H
   go_wp2_with (first | (go_at_call 29; (with_reducible refine (spec_l6In.calls a1 0 6 t584 _ A11.out).mono ?_); rintro e w' ⟨rfl, ⟨nd, rfl⟩⟩))
   go_meet
   case rel => exact ⟨_, (!t584), (by rfl), H', ⟨by omega⟩, ⟨by (with_reducible repeat (apply vN)); exact bK (bD (p := ⟨gb583, 1, none⟩) (bD (p := ⟨gb583, 0, none⟩) (bK HO578.out (fun k_ hk => (⟨hk, hk.2⟩ : _ ∧ k_ ≠ gb583))) (fun _ hk => hk.2) (.slice Ao7 t576.length co7)) (fun _ hk => hk.2) (.slice Ao9 t579.length co9)) (fun _ hk => hk.1.2)⟩, ⟨by (with_reducible repeat (apply vN)); exact bK (bD (p := ⟨gb583, 1, none⟩) (bD (p := ⟨gb583, 0, none⟩) (bK HO581.out (fun k_ hk => (⟨hk, hk.2⟩ : _ ∧ k_ ≠ gb583))) (fun _ hk => hk.2) (.slice Ao7 t576.length co7)) (fun _ hk => hk.2) (.slice Ao9 t579.length co9)) (fun _ hk => hk.1.2)⟩, ⟨by (with_reducible repeat (refine kN ?_ _)); refine bV (cs := #[.slice Ao7 t576.length co7, .slice none 0 0]) ?_ 1 _ rfl; refine bV (cs := #[.slice none 0 0, .slice none 0 0]) ?_ 0 _ rfl; exact BK583.out⟩, ⟨by repeat (first | (with_reducible first | exact HB.out | apply bN | refine bS ?_ GE583.out))⟩⟩
  ·replace c10 := Bool.eq_false_iff.mpr c10
   subst c10
   replace H : (spec_SumTimes.j0 k a0 a1 true) = some (r1, r2) := by rw [if_neg (show ¬ (false = true) by decide)] at H; exact H
   have H' := aM H
   clear H
   go_wp2
   go_meet
   case rel => exact ⟨_, (true), (by rfl), H', ⟨by omega⟩, ⟨by exact bK (bD (p := ⟨gb583, 1, none⟩) (bD (p := ⟨gb583, 0, none⟩) (bK HO578.out (fun k_ hk => (⟨hk, hk.2⟩ : _ ∧ k_ ≠ gb583))) (fun _ hk => hk.2) (.slice Ao7 t576.length co7)) (fun _ hk => hk.2) (.slice Ao9 t579.length co9)) (fun _ hk => hk.1.2)⟩, ⟨by exact bK (bD (p := ⟨gb583, 1, none⟩) (bD (p := ⟨gb583, 0, none⟩) (bK HO581.out (fun k_ hk => (⟨hk, hk.2⟩ : _ ∧ k_ ≠ gb583))) (fun _ hk => hk.2) (.slice Ao7 t576.length co7)) (fun _ hk => hk.2) (.slice Ao9 t579.length co9)) (fun _ hk => hk.1.2)⟩, ⟨by refine bV (cs := #[.slice Ao7 t576.length co7, .slice none 0 0]) ?_ 1 _ rfl; refine bV (cs := #[.slice none 0 0, .slice none 0 0]) ?_ 0 _ rfl; exact BK583.out⟩, ⟨by repeat (first | (with_reducible first | exact HB.out | refine bS ?_ GE583.out))⟩⟩
 case rest =>
  clear HC4
  try clear hcz8_0
  try clear hcz8_1
  try clear hfz8_0
  try clear hfz8_1
  obtain ⟨kq, x23_3, rfl, HA, HJ3, HO_584000, HO_584001, BK583, HB⟩ := hcut
  cases kq with
  | zero => exact absurd HA.out (by simp [spec_SumTimes.j0])
  | succ kj3 =>
   have H := HA.out
   clear HA
   simp only [spec_SumTimes.j0] at H
   by_cases c12 : x23_3 = true
   ·subst c12
    replace H : (some ((⟨#[]⟩ : ByteArray), false)) = some (r1, r2) := by rw [if_pos rfl] at H; exact H
    simp only [aV, aW] at H
    obtain ⟨rfl, rfl⟩ := H
    go_wp2
    go_ret2
    exact ⟨by first | rfl | (simp [*, errW_none, errW_some] <;> rfl), HB.out⟩
   ·replace c12 := Bool.eq_false_iff.mpr c12
    subst c12
    replace H : (spec_SumTimes.l0 kj3 a0 a1 (⟨#[49, 40, 48, 41]⟩ : ByteArray) 0) = some (r1, r2) := by rw [if_neg (show ¬ (false = true) by decide)] at H; exact H
    have H' := aM H
    clear H
    go_wp2
    go_loopg [8, 9] kj3 (fun kq v8 v9 w' => ∃ (x8_2 : ByteArray) (x9_2 : Int), v8 = .string x8_2 ∧ v9 = .int .i64 x9_2 ∧ Aside0 (spec_SumTimes.l0 kq a0 a1 x8_2 x9_2 = some (r1, r2)) ∧ Aside0 (kq ≤ kj3) ∧ Aside0 (Kd.V Kd.bool 4 w' w.heap.size (fun k_ => k_ ≠ gb583) (.slice Ao7 t576.length co7) t576) ∧ Aside0 (Kd.V Kd.bool 4 w' w.heap.size (fun k_ => k_ ≠ gb583) (.slice Ao9 t579.length co9) t579) ∧ Aside0 (w'.heap[gb583]? = some (.cells #[(.slice Ao7 t576.length co7), (.slice Ao9 t579.length co9)] 94 (0, 0))) ∧ Aside0 (Below w.heap.size w w'))
    case atStart => exact ⟨((⟨#[49, 40, 48, 41]⟩ : ByteArray)), (0), (by rfl), (by rfl), H', ⟨cD _⟩, ⟨by exact HO_584000.out⟩, ⟨by exact HO_584001.out⟩, ⟨by exact BK583.out⟩, ⟨HB.out⟩⟩
    case round =>
     clear H'
     obtain ⟨x8_2, x9_2, rfl, rfl, HA, HK2, HO_584000, HO_584001, BK583, HB⟩ := hrel
     cases gk with
     | zero => exact absurd HA.out (by simp [spec_SumTimes.l0])
     | succ k2 =>
      have H := HA.out
      clear HA
      simp only [spec_SumTimes.l0] at H
      by_cases c13 : x9_2 < a1
      ·rw [if_pos c13] at H
       have c13b0 : decide (x9_2 < a1) = true := aH c13
       clear c13
       replace H := Option.bind_eq_some_iff.mp H
       obtain ⟨⟨t585, t586⟩, A140, H⟩ := H
       replace H : (if t586 = true then (spec_SumTimes.l0 k2 a0 a1 t585 (wrap64 (x9_2 + 1))) else (some ((⟨#[]⟩ : ByteArray), false))) = some (r1, r2) := H
       have A14 := aM A140
       clear A140
       by_cases c15 : t586 = true
       ·subst c15
        replace H : (spec_SumTimes.l0 k2 a0 a1 t585 (wrap64 (x9_2 + 1))) = some (r1, r2) := by rw [if_pos rfl] at H; exact H
        have H' := aM H
        clear H
        go_wp2_with (first | ((with_reducible refine aY (f := 57) rfl ?_); refine gL 32 Try.func57 #[.string x8_2, .string a0] ?_; (with_reducible refine (spec_SumOf.calls k2 x8_2 a0 t585 true _ A14.out).mono ?_); rintro e w16 ⟨rfl, hb⟩; refine ⟨_, rfl, ?_⟩; replace HO_584000 := aM (bH HO_584000.out hb); replace HO_584001 := aM (bH HO_584001.out hb); replace BK583 := aM (aD (g := gb583) (o := .cells #[.slice Ao7 t576.length co7, .slice Ao9 t579.length co9] 94 (0, 0)) BK583.out hb); replace HB := aM (aE HB.out hb); (try clear hb)))
        go_roundg k2
        case measure => have := HJ3.out; have := HK2.out; omega
        case rel => exact ⟨(t585), (wrap64 (x9_2 + 1)), (by rfl), (by rfl), H', ⟨by have := HJ3.out; have := HK2.out; omega⟩, ⟨by exact HO_584000.out⟩, ⟨by exact HO_584001.out⟩, ⟨by exact BK583.out⟩, ⟨HB.out⟩⟩
       ·replace c15 := Bool.eq_false_iff.mpr c15
        subst c15
        replace H : (some ((⟨#[]⟩ : ByteArray), false)) = some (r1, r2) := by rw [if_neg (show ¬ (false = true) by decide)] at H; exact H
        simp only [aV, aW] at H
        obtain ⟨rfl, rfl⟩ := H
        go_wp2_with (first | ((with_reducible refine aY (f := 57) rfl ?_); refine gL 32 Try.func57 #[.string x8_2, .string a0] ?_; (with_reducible refine (spec_SumOf.calls k2 x8_2 a0 t585 false _ A14.out).mono ?_); rintro e w17 ⟨rfl, hb⟩; refine ⟨_, rfl, ?_⟩; replace HB := aM (aE HB.out hb); (try clear hb)))
        go_ret2
        exact ⟨by first | rfl | (simp [*, errW_none, errW_some] <;> rfl), HB.out⟩
      ·rw [if_neg c13] at H
       have c13b0 : decide (x9_2 < a1) = false := aK c13
       clear c13
       simp only [aV, aW] at H
       obtain ⟨rfl, rfl⟩ := H
       go_wp2
       go_ret2
       exact ⟨by first | rfl | (simp [*, errW_none, errW_some] <;> rfl), HB.out⟩


mutual
def spec_l2Two.j0 : Nat → Int → Bool → List Bool → List Bool → List Bool → List Bool → Option (ByteArray × Bool)
 | 0, _, _, _, _, _, _ => none
 | k + 1, x2, x32, x595000, x595001, x603000, x603001 => if x32 = true then (some ((⟨#[]⟩ : ByteArray), false)) else ((spec_l1Shape.f k x595000 x595001 x603000 x603001).bind fun bt603 => (spec_l2Two.l0 k x2 bt603.1 bt603.2 0 x595000 x595001 x603000 x603001 (([] : List Bool)) (([] : List Bool))))
def spec_l2Two.l0 : Nat → Int → Int → Int → Int → List Bool → List Bool → List Bool → List Bool → List Bool → List Bool → Option (ByteArray × Bool)
 | 0, _, _, _, _, _, _, _, _, _, _ => none
 | k + 1, x2, x12, x13, x15, x595000, x595001, x603000, x603001, x612000, x612001 => if x15 < (wrap64 (x12 + x13)) then ((spec_l1Has.f x595000 x595001 x15).bind fun t614 => ((spec_l1Bit.f t614).bind fun t615 => ((spec_l1Has.f x603000 x603001 x15).bind fun t616 => ((spec_l1Bit.f t616).bind fun t617 => (if 0 ≤ (wrap64 ((wrap64 (2 * t615)) + t617)) then (if x15 < x12 then (if x612000.length < 140737488355328 then (spec_l2Two.l0 k x2 x12 x13 (wrap64 (x15 + 1)) x595000 x595001 x603000 x603001 (x612000 ++ [((Go.bits .and .i64 (shr .i64 x2 (wrap64 ((wrap64 (2 * t615)) + t617))) 1) == 1)]) x612001) else (none)) else (if x612001.length < 140737488355328 then (spec_l2Two.l0 k x2 x12 x13 (wrap64 (x15 + 1)) x595000 x595001 x603000 x603001 x612000 (x612001 ++ [((Go.bits .and .i64 (shr .i64 x2 (wrap64 ((wrap64 (2 * t615)) + t617))) 1) == 1)])) else (none))) else (none)))))) else ((spec_l1Done.f k x612000 x612001).bind fun bt612 => (some (bt612.1, bt612.2)))
end
def spec_l2Two.f (k : Nat) (a0 : ByteArray) (a1 : ByteArray) (a2 : Int) : Option (ByteArray × Bool) := (spec_l1Read.f k a0).bind fun bt587 => ((spec_l1Read.f k a1).bind fun bt595 => (if bt587.2.2 = true then (spec_l2Two.j0 k a2 (!bt595.2.2) bt587.1 bt587.2.1 bt595.1 bt595.2.1) else (spec_l2Two.j0 k a2 true bt587.1 bt587.2.1 bt595.1 bt595.2.1)))
def spec_l2Two.T10 : Bool × List (List Nat × List Nat) := (true, [([], []), ([], []), ([], []), ([1, 2], [1, 2]), ([3, 3], [3]), ([4], [4]), ([], []), ([], []), ([6, 7, 4], [6, 7]), ([8, 8], [8]), ([5, 9], [5, 9]), ([0, 10], [0, 10]), ([11], [11]), ([12], [12]), ([13, 9, 0, 1, 2, 3, 4, 5, 6, 7, 8, 9, 10, 11, 12, 13], [13])])
def spec_l2Two.B10 : List Nat := [0, 0, 0, 6, 14, 30, 0, 0, 222, 478, 1022, 2047, 4095, 8191, 16383]
theorem spec_l2Two.tab10 : rtab .any (opsOf Try.f76 10) = spec_l2Two.T10 := by kernel_rfl
theorem spec_l2Two.bits10 : waitsOk spec_l2Two.T10.2 spec_l2Two.B10 = true := by kernel_rfl
set_option maxHeartbeats 8000000 in
set_option maxRecDepth 100000 in
theorem spec_l2Two.calls (k : Nat) (a0 : ByteArray) (a1 : ByteArray) (a2 : Int) (r1 : ByteArray) (r2 : Bool) (w : World) (h : spec_l2Two.f k a0 a1 a2 = some (r1, r2)) :
  Calls Try.prog 76 #[.string a0, .string a1, .int .i64 a2] w fun e w' => e = .returned (.tuple #[.string r1, .bool r2]) ∧ Below w.heap.size w w' := by
 have HB := aM (cE w.heap.size w)
 have H : ((spec_l1Read.f k a0).bind fun bt587 => ((spec_l1Read.f k a1).bind fun bt595 => (if bt587.2.2 = true then (spec_l2Two.j0 k a2 (!bt595.2.2) bt587.1 bt587.2.1 bt595.1 bt595.2.1) else (spec_l2Two.j0 k a2 true bt587.1 bt587.2.1 bt595.1 bt595.2.1)))) = some (r1, r2) := h
 clear h
 replace H := Option.bind_eq_some_iff.mp H
 obtain ⟨⟨t587, t590, t593⟩, A40, H⟩ := H
 replace H : ((spec_l1Read.f k a1).bind fun bt595 => (if t593 = true then (spec_l2Two.j0 k a2 (!bt595.2.2) t587 t590 bt595.1 bt595.2.1) else (spec_l2Two.j0 k a2 true t587 t590 bt595.1 bt595.2.1))) = some (r1, r2) := H
 have A4 := aM A40
 clear A40
 replace H := Option.bind_eq_some_iff.mp H
 obtain ⟨⟨t595, t598, t601⟩, A50, H⟩ := H
 replace H : (if t593 = true then (spec_l2Two.j0 k a2 (!t601) t587 t590 t595 t598) else (spec_l2Two.j0 k a2 true t587 t590 t595 t598)) = some (r1, r2) := H
 have A5 := aM A50
 clear A50
 have HC6 := aM H
 clear H
 go_enter Try.func76, Try.ntmps76
 go_upto_region 3 with (first | ((with_reducible refine aY (f := 91) rfl ?_); refine gL 19 Try.func91 #[.string a0] ?_; (with_reducible refine (spec_l1Read.calls k a0 t587 t590 t593 _ A4.out).mono ?_); rintro e w7 ⟨v588, v591, rfl, ho0, ho1, hb⟩; refine ⟨_, rfl, ?_⟩; have HO589 := aM (bP ho0 (aG HB.out)); have HO592 := aM (bP ho1 (aG HB.out)); replace HB := aM (aE HB.out hb); (try clear hb); (try clear ho0); (try clear ho1)) | ((with_reducible refine aZ (N := 8) rfl ?_); refine bB ?hg (N := 8) ?hd (cs := #[.slice none 0 0, .slice none 0 0]) (t := 94) ?hr ?_; (case hd => rfl); (case hg => rfl); (case hr => first | (go_simp; done)); intro gb594 hg w8 hbox hb; replace HO589 := aM (bG HO589.out hb); replace HO592 := aM (bG HO592.out hb); have BK594 := aM hbox; have GE594 := aM ((by rw [hg]; exact (aG HB.out) : w.heap.size ≤ gb594)); replace HB := aM (aE HB.out hb); clear hb hbox hg; obtain ⟨Ao9, co9, eo9⟩ := bL HO589.out; subst eo9; have hcz10_0 : w8.cell? ⟨gb594, 0, none⟩ = some (.slice none 0 0) := (aA BK594.out 0).trans rfl; have hcz10_1 : w8.cell? ⟨gb594, 1, none⟩ = some (.slice none 0 0) := (aA BK594.out 1).trans rfl; have hfz10_0 := aC BK594.out 0; have hfz10_1 := aC BK594.out 1; obtain ⟨Ao11, co11, eo11⟩ := bL HO592.out; subst eo11) | ((with_reducible refine aY (f := 91) rfl ?_); refine gL 24 Try.func91 #[.string a1] ?_; (with_reducible refine (spec_l1Read.calls k a1 t595 t598 t601 _ A5.out).mono ?_); rintro e w12 ⟨v596, v599, rfl, ho0, ho1, hb⟩; refine ⟨_, rfl, ?_⟩; have HO597 := aM (bP (Kd.R_new' (Kd.R_new' ho0 (Kd.R_lt (by exact (bJ (bC (p := ⟨gb594, 1, none⟩) (bC (p := ⟨gb594, 0, none⟩) (bE HO589.out BK594.out (by decide)) (fun _ hk => hk.2) (.slice Ao9 t587.length co9)) (fun _ hk => hk.2) (.slice Ao11 t590.length co11)) (fun _ h_ => h_.1))))) (Kd.R_lt (by exact (bJ (bC (p := ⟨gb594, 1, none⟩) (bC (p := ⟨gb594, 0, none⟩) (bE HO592.out BK594.out (by decide)) (fun _ hk => hk.2) (.slice Ao9 t587.length co9)) (fun _ hk => hk.2) (.slice Ao11 t590.length co11)) (fun _ h_ => h_.1))))) (aG (by repeat (first | (with_reducible first | exact HB.out | refine bS ?_ GE594.out))))); have HO600 := aM (bP (Kd.R_new' (Kd.R_new' ho1 (Kd.R_lt (by exact (bJ (bC (p := ⟨gb594, 1, none⟩) (bC (p := ⟨gb594, 0, none⟩) (bE HO589.out BK594.out (by decide)) (fun _ hk => hk.2) (.slice Ao9 t587.length co9)) (fun _ hk => hk.2) (.slice Ao11 t590.length co11)) (fun _ h_ => h_.1))))) (Kd.R_lt (by exact (bJ (bC (p := ⟨gb594, 1, none⟩) (bC (p := ⟨gb594, 0, none⟩) (bE HO592.out BK594.out (by decide)) (fun _ hk => hk.2) (.slice Ao9 t587.length co9)) (fun _ hk => hk.2) (.slice Ao11 t590.length co11)) (fun _ h_ => h_.1))))) (aG (by repeat (first | (with_reducible first | exact HB.out | refine bS ?_ GE594.out))))); replace HO589 := aM (bJ (Kd.R_told (Kd.R_told (Kd.R_old (by exact (bJ (bC (p := ⟨gb594, 1, none⟩) (bC (p := ⟨gb594, 0, none⟩) (bE HO589.out BK594.out (by decide)) (fun _ hk => hk.2) (.slice Ao9 t587.length co9)) (fun _ hk => hk.2) (.slice Ao11 t590.length co11)) (fun _ h_ => h_.1))) hb) (Kd.R_base ho0)) (Kd.R_base ho1)) (fun _ h_ => h_.1)); replace HO592 := aM (bJ (Kd.R_told (Kd.R_told (Kd.R_old (by exact (bJ (bC (p := ⟨gb594, 1, none⟩) (bC (p := ⟨gb594, 0, none⟩) (bE HO592.out BK594.out (by decide)) (fun _ hk => hk.2) (.slice Ao9 t587.length co9)) (fun _ hk => hk.2) (.slice Ao11 t590.length co11)) (fun _ h_ => h_.1))) hb) (Kd.R_base ho0)) (Kd.R_base ho1)) (fun _ h_ => h_.1)); replace BK594 := aM (aD (g := gb594) (o := .cells #[.slice Ao9 t587.length co9, .slice Ao11 t590.length co11] 94 (0, 0)) (by refine bV (cs := #[.slice Ao9 t587.length co9, .slice none 0 0]) ?_ 1 _ rfl; refine bV (cs := #[.slice none 0 0, .slice none 0 0]) ?_ 0 _ rfl; exact BK594.out) hb); replace HB := aM (aE (by repeat (first | (with_reducible first | exact HB.out | refine bS ?_ GE594.out))) hb); (try clear hb); (try clear ho0); (try clear ho1)) | ((with_reducible refine aZ (N := 10) rfl ?_); refine bB ?hg (N := 10) ?hd (cs := #[.slice none 0 0, .slice none 0 0]) (t := 94) ?hr ?_; (case hd => rfl); (case hg => rfl); (case hr => first | (go_simp; done)); intro gb602 hg w13 hbox hb; replace HO589 := aM (bG HO589.out hb); replace HO592 := aM (bG HO592.out hb); replace HO597 := aM (bG HO597.out hb); replace HO600 := aM (bG HO600.out hb); have BK602 := aM hbox; have GE602 := aM ((by rw [hg]; exact (aG HB.out) : w.heap.size ≤ gb602)); replace HB := aM (aE HB.out hb); have NB594_602 := aM ((by rw [hg]; exact Nat.ne_of_lt (blk_lt (g := gb594) (o := .cells #[.slice Ao9 t587.length co9, .slice Ao11 t590.length co11] 94 (0, 0)) BK594.out) : gb594 ≠ gb602)); replace BK594 := aM (aD (g := gb594) (o := .cells #[.slice Ao9 t587.length co9, .slice Ao11 t590.length co11] 94 (0, 0)) BK594.out hb); clear hb hbox hg; obtain ⟨Ao14, co14, eo14⟩ := bL HO597.out; subst eo14; have hcz16_0 : w13.cell? ⟨gb602, 0, none⟩ = some (.slice none 0 0) := (aA BK602.out 0).trans rfl; have hcz16_1 : w13.cell? ⟨gb602, 1, none⟩ = some (.slice none 0 0) := (aA BK602.out 1).trans rfl; have hfz16_0 := aC BK602.out 0; have hfz16_1 := aC BK602.out 1; obtain ⟨Ao17, co17, eo17⟩ := bL HO600.out; subst eo17))
 go_cut [32] (fun v32 wc => ∃ (kq : Nat) (x32_5 : Bool), v32 = .bool x32_5 ∧ Aside0 (spec_l2Two.j0 kq a2 x32_5 t587 t590 t595 t598 = some (r1, r2)) ∧ Aside0 (kq ≤ k) ∧ Aside0 (Kd.R Kd.bool 4 wc w.heap.size (fun k_ => some k_ ≠ ((.slice Ao11 t590.length co11) : Value).ownBlock ∧ some k_ ≠ ((.slice Ao14 t595.length co14) : Value).ownBlock ∧ some k_ ≠ ((.slice Ao17 t598.length co17) : Value).ownBlock) (.slice Ao9 t587.length co9) t587) ∧ Aside0 (Kd.R Kd.bool 4 wc w.heap.size (fun k_ => some k_ ≠ ((.slice Ao9 t587.length co9) : Value).ownBlock ∧ some k_ ≠ ((.slice Ao14 t595.length co14) : Value).ownBlock ∧ some k_ ≠ ((.slice Ao17 t598.length co17) : Value).ownBlock) (.slice Ao11 t590.length co11) t590) ∧ Aside0 (Kd.R Kd.bool 4 wc w.heap.size (fun k_ => some k_ ≠ ((.slice Ao9 t587.length co9) : Value).ownBlock ∧ some k_ ≠ ((.slice Ao11 t590.length co11) : Value).ownBlock ∧ some k_ ≠ ((.slice Ao17 t598.length co17) : Value).ownBlock) (.slice Ao14 t595.length co14) t595) ∧ Aside0 (Kd.R Kd.bool 4 wc w.heap.size (fun k_ => some k_ ≠ ((.slice Ao9 t587.length co9) : Value).ownBlock ∧ some k_ ≠ ((.slice Ao11 t590.length co11) : Value).ownBlock ∧ some k_ ≠ ((.slice Ao14 t595.length co14) : Value).ownBlock) (.slice Ao17 t598.length co17) t598) ∧ Aside0 (wc.heap[gb594]? = some (.cells #[(.slice Ao9 t587.length co9), (.slice Ao11 t590.length co11)] 94 (0, 0))) ∧ Aside0 (wc.heap[gb602]? = some (.cells #[(.slice Ao14 t595.length co14), (.slice Ao17 t598.length co17)] 94 (0, 0))) ∧ Aside0 (Below w.heap.size w wc))
 case first =>
  have H := HC6.out
  clear HC6
  by_cases c18 : t593 = true
  ·subst c18
   replace H : (spec_l2Two.j0 k a2 (!t601) t587 t590 t595 t598) = some (r1, r2) := by rw [if_pos rfl] at H; exact H
   have H' := aM H
   clear H
   go_wp2
   go_meet
   case rel => exact ⟨_, (!t601), (by rfl), H', ⟨by omega⟩, ⟨by exact bJ (bC (p := ⟨gb602, 1, none⟩) (bC (p := ⟨gb602, 0, none⟩) (bE HO589.out BK602.out (by decide)) (fun _ hk => hk.2) (.slice Ao14 t595.length co14)) (fun _ hk => hk.2) (.slice Ao17 t598.length co17)) (fun _ hk => ⟨hk.1.1.1, ⟨hk.1.1.2, hk.1.2⟩⟩)⟩, ⟨by exact bJ (bC (p := ⟨gb602, 1, none⟩) (bC (p := ⟨gb602, 0, none⟩) (bE HO592.out BK602.out (by decide)) (fun _ hk => hk.2) (.slice Ao14 t595.length co14)) (fun _ hk => hk.2) (.slice Ao17 t598.length co17)) (fun _ hk => ⟨hk.1.1.1, ⟨hk.1.1.2, hk.1.2⟩⟩)⟩, ⟨by exact bJ (bC (p := ⟨gb602, 1, none⟩) (bC (p := ⟨gb602, 0, none⟩) (bE HO597.out BK602.out (by decide)) (fun _ hk => hk.2) (.slice Ao14 t595.length co14)) (fun _ hk => hk.2) (.slice Ao17 t598.length co17)) (fun _ hk => ⟨hk.1.1.2, ⟨hk.1.2, hk.1.1.1⟩⟩)⟩, ⟨by exact bJ (bC (p := ⟨gb602, 1, none⟩) (bC (p := ⟨gb602, 0, none⟩) (bE HO600.out BK602.out (by decide)) (fun _ hk => hk.2) (.slice Ao14 t595.length co14)) (fun _ hk => hk.2) (.slice Ao17 t598.length co17)) (fun _ hk => ⟨hk.1.1.2, ⟨hk.1.2, hk.1.1.1⟩⟩)⟩, ⟨by refine cL ?_ NB594_602.out _; refine cL ?_ NB594_602.out _; exact BK594.out⟩, ⟨by refine bV (cs := #[.slice Ao14 t595.length co14, .slice none 0 0]) ?_ 1 _ rfl; refine bV (cs := #[.slice none 0 0, .slice none 0 0]) ?_ 0 _ rfl; exact BK602.out⟩, ⟨by repeat (first | (with_reducible first | exact HB.out | refine bS ?_ GE602.out))⟩⟩
  ·replace c18 := Bool.eq_false_iff.mpr c18
   subst c18
   replace H : (spec_l2Two.j0 k a2 true t587 t590 t595 t598) = some (r1, r2) := by rw [if_neg (show ¬ (false = true) by decide)] at H; exact H
   have H' := aM H
   clear H
   go_wp2
   go_meet
   case rel => exact ⟨_, (true), (by rfl), H', ⟨by omega⟩, ⟨by exact bJ (bC (p := ⟨gb602, 1, none⟩) (bC (p := ⟨gb602, 0, none⟩) (bE HO589.out BK602.out (by decide)) (fun _ hk => hk.2) (.slice Ao14 t595.length co14)) (fun _ hk => hk.2) (.slice Ao17 t598.length co17)) (fun _ hk => ⟨hk.1.1.1, ⟨hk.1.1.2, hk.1.2⟩⟩)⟩, ⟨by exact bJ (bC (p := ⟨gb602, 1, none⟩) (bC (p := ⟨gb602, 0, none⟩) (bE HO592.out BK602.out (by decide)) (fun _ hk => hk.2) (.slice Ao14 t595.length co14)) (fun _ hk => hk.2) (.slice Ao17 t598.length co17)) (fun _ hk => ⟨hk.1.1.1, ⟨hk.1.1.2, hk.1.2⟩⟩)⟩, ⟨by exact bJ (bC (p := ⟨gb602, 1, none⟩) (bC (p := ⟨gb602, 0, none⟩) (bE HO597.out BK602.out (by decide)) (fun _ hk => hk.2) (.slice Ao14 t595.length co14)) (fun _ hk => hk.2) (.slice Ao17 t598.length co17)) (fun _ hk => ⟨hk.1.1.2, ⟨hk.1.2, hk.1.1.1⟩⟩)⟩, ⟨by exact bJ (bC (p := ⟨gb602, 1, none⟩) (bC (p := ⟨gb602, 0, none⟩) (bE HO600.out BK602.out (by decide)) (fun _ hk => hk.2) (.slice Ao14 t595.length co14)) (fun _ hk => hk.2) (.slice Ao17 t598.length co17)) (fun _ hk => ⟨hk.1.1.2, ⟨hk.1.2, hk.1.1.1⟩⟩)⟩, ⟨by refine cL ?_ NB594_602.out _; refine cL ?_ NB594_602.out _; exact BK594.out⟩, ⟨by refine bV (cs := #[.slice Ao14 t595.length co14, .slice none 0 0]) ?_ 1 _ rfl; refine bV (cs := #[.slice none 0 0, .slice none 0 0]) ?_ 0 _ rfl; exact BK602.out⟩, ⟨by repeat (first | (with_reducible first | exact HB.out | refine bS ?_ GE602.out))⟩⟩
 case rest =>
  clear HC6
  try clear hcz10_0
  try clear hcz10_1
  try clear hcz16_0
  try clear hcz16_1
  try clear hfz10_0
  try clear hfz10_1
  try clear hfz16_0
  try clear hfz16_1
  obtain ⟨kq, x32_5, rfl, HA, HJ5, HO_595000, HO_595001, HO_603000, HO_603001, BK594, BK602, HB⟩ := hcut
  cases kq with
  | zero => exact absurd HA.out (by simp [spec_l2Two.j0])
  | succ kj5 =>
   have H := HA.out
   clear HA
   simp only [spec_l2Two.j0] at H
   by_cases c19 : x32_5 = true
   ·subst c19
    replace H : (some ((⟨#[]⟩ : ByteArray), false)) = some (r1, r2) := by rw [if_pos rfl] at H; exact H
    simp only [aV, aW] at H
    obtain ⟨rfl, rfl⟩ := H
    go_wp2
    go_ret2
    exact ⟨by first | rfl | (simp [*, errW_none, errW_some] <;> rfl), HB.out⟩
   ·replace c19 := Bool.eq_false_iff.mpr c19
    subst c19
    replace H : ((spec_l1Shape.f kj5 t587 t590 t595 t598).bind fun bt603 => (spec_l2Two.l0 kj5 a2 bt603.1 bt603.2 0 t587 t590 t595 t598 (([] : List Bool)) (([] : List Bool)))) = some (r1, r2) := by rw [if_neg (show ¬ (false = true) by decide)] at H; exact H
    replace H := Option.bind_eq_some_iff.mp H
    obtain ⟨⟨t603, t604⟩, A200, H⟩ := H
    replace H : (spec_l2Two.l0 kj5 a2 t603 t604 0 t587 t590 t595 t598 (([] : List Bool)) (([] : List Bool))) = some (r1, r2) := H
    have A20 := aM A200
    clear A200
    obtain ⟨y605, hy605⟩ : ∃ y_ : List Bool, y_ = (([] : List Bool)) := ⟨_, rfl⟩
    replace H : (spec_l2Two.l0 kj5 a2 t603 t604 0 t587 t590 t595 t598 y605 (([] : List Bool))) = some (r1, r2) := by first | (rw [hy605]; with_reducible exact H)
    have Ny605 := aM hy605
    clear hy605
    obtain ⟨y608, hy608⟩ : ∃ y_ : List Bool, y_ = (([] : List Bool)) := ⟨_, rfl⟩
    replace H : (spec_l2Two.l0 kj5 a2 t603 t604 0 t587 t590 t595 t598 y605 y608) = some (r1, r2) := by first | (rw [hy608]; with_reducible exact H)
    have Ny608 := aM hy608
    clear hy608
    have H' := aM H
    clear H
    have hcz22_0 : wc.cell? ⟨gb594, 0, none⟩ = some (.slice Ao9 t587.length co9) := (aA BK594.out 0).trans rfl
    have hcz22_1 : wc.cell? ⟨gb594, 1, none⟩ = some (.slice Ao11 t590.length co11) := (aA BK594.out 1).trans rfl
    have hfz22_0 := aC BK594.out 0
    have hfz22_1 := aC BK594.out 1
    have hcz23_0 : wc.cell? ⟨gb602, 0, none⟩ = some (.slice Ao14 t595.length co14) := (aA BK602.out 0).trans rfl
    have hcz23_1 : wc.cell? ⟨gb602, 1, none⟩ = some (.slice Ao17 t598.length co17) := (aA BK602.out 1).trans rfl
    have hfz23_0 := aC BK602.out 0
    have hfz23_1 := aC BK602.out 1
    go_wp2_with (first | ((with_reducible refine aY (f := 96) rfl ?_); refine gL 36 Try.func96 #[.agg #[.slice Ao9 t587.length co9, .slice Ao11 t590.length co11], .agg #[.slice Ao14 t595.length co14, .slice Ao17 t598.length co17]] ?_; (with_reducible refine (spec_l1Shape.calls kj5 _ _ t587 _ _ t590 _ _ t595 _ _ t598 t603 t604 _ ?side1 ?side2 ?side3 ?side4 ?side5 ?side6 ?side7 ?side8 A20.out).mono ?_); (case side1 => repeat (exact (bM HO_595000.out).2.2)); (case side2 => exact (bM HO_595000.out).2.1); (case side3 => repeat (exact (bM HO_595001.out).2.2)); (case side4 => exact (bM HO_595001.out).2.1); (case side5 => repeat (exact (bM HO_603000.out).2.2)); (case side6 => exact (bM HO_603000.out).2.1); (case side7 => repeat (exact (bM HO_603001.out).2.2)); (case side8 => exact (bM HO_603001.out).2.1); rintro e w24 ⟨rfl, hb⟩; refine ⟨_, rfl, ?_⟩; replace HO_595000 := aM (bG HO_595000.out hb); replace HO_595001 := aM (bG HO_595001.out hb); replace HO_603000 := aM (bG HO_603000.out hb); replace HO_603001 := aM (bG HO_603001.out hb); replace BK594 := aM (aD (g := gb594) (o := .cells #[.slice Ao9 t587.length co9, .slice Ao11 t590.length co11] 94 (0, 0)) BK594.out hb); replace BK602 := aM (aD (g := gb602) (o := .cells #[.slice Ao14 t595.length co14, .slice Ao17 t598.length co17] 94 (0, 0)) BK602.out hb); replace HB := aM (aE HB.out hb); (try clear hb)) | ((with_reducible refine aZ (N := 39) rfl ?_); refine Kd.R_lit Kd.bool _ 4 ?hg (N := 39) ?hd (xs := ([] : List Bool)) (inner := []) (ok := fun _ => True) (okp := fun _ => True) ?hr ?hp (fun _ hk => hk) trivial (cE _ _) (cD _) (by simp) ?_; (case hd => rfl); (case hg => rfl); (case hr => first | (go_simp; done)); (case hp => exact (Reps.none _ _)); intro v606 w25 ho26 hb hg_ hnew_; clear hg_ hnew_; (rw [← Ny605.out] at ho26); have HO607 := aM (bP (Kd.R_new' (Kd.R_new' (Kd.R_new' (Kd.R_new' ho26 (Kd.R_lt HO_595000.out)) (Kd.R_lt HO_595001.out)) (Kd.R_lt HO_603000.out)) (Kd.R_lt HO_603001.out)) (aG HB.out)); replace HO_595000 := aM (Kd.R_elder' HO_595000.out (Kd.R_base ho26) hb); replace HO_595001 := aM (Kd.R_elder' HO_595001.out (Kd.R_base ho26) hb); replace HO_603000 := aM (Kd.R_elder' HO_603000.out (Kd.R_base ho26) hb); replace HO_603001 := aM (Kd.R_elder' HO_603001.out (Kd.R_base ho26) hb); replace BK594 := aM (aD (g := gb594) (o := .cells #[.slice Ao9 t587.length co9, .slice Ao11 t590.length co11] 94 (0, 0)) BK594.out hb); replace BK602 := aM (aD (g := gb602) (o := .cells #[.slice Ao14 t595.length co14, .slice Ao17 t598.length co17] 94 (0, 0)) BK602.out hb); replace HB := aM (aE HB.out hb); clear hb ho26) | ((with_reducible refine aZ (N := 40) rfl ?_); refine Kd.R_lit Kd.bool _ 4 ?hg (N := 40) ?hd (xs := ([] : List Bool)) (inner := []) (ok := fun _ => True) (okp := fun _ => True) ?hr ?hp (fun _ hk => hk) trivial (cE _ _) (cD _) (by simp) ?_; (case hd => rfl); (case hg => rfl); (case hr => first | (go_simp; done)); (case hp => exact (Reps.none _ _)); intro v609 w27 ho28 hb hg_ hnew_; clear hg_ hnew_; (rw [← Ny608.out] at ho28); have HO610 := aM (bP (Kd.R_new' (Kd.R_new' (Kd.R_new' (Kd.R_new' (Kd.R_new' ho28 (Kd.R_lt HO_595000.out)) (Kd.R_lt HO_595001.out)) (Kd.R_lt HO_603000.out)) (Kd.R_lt HO_603001.out)) (Kd.R_lt HO607.out)) (aG HB.out)); replace HO_595000 := aM (Kd.R_elder' HO_595000.out (Kd.R_base ho28) hb); replace HO_595001 := aM (Kd.R_elder' HO_595001.out (Kd.R_base ho28) hb); replace HO_603000 := aM (Kd.R_elder' HO_603000.out (Kd.R_base ho28) hb); replace HO_603001 := aM (Kd.R_elder' HO_603001.out (Kd.R_base ho28) hb); replace HO607 := aM (Kd.R_elder' HO607.out (Kd.R_base ho28) hb); replace BK594 := aM (aD (g := gb594) (o := .cells #[.slice Ao9 t587.length co9, .slice Ao11 t590.length co11] 94 (0, 0)) BK594.out hb); replace BK602 := aM (aD (g := gb602) (o := .cells #[.slice Ao14 t595.length co14, .slice Ao17 t598.length co17] 94 (0, 0)) BK602.out hb); replace HB := aM (aE HB.out hb); clear hb ho28; obtain ⟨Ao29, co29, eo29⟩ := bL HO610.out; subst eo29; obtain ⟨Ao30, co30, eo30⟩ := bL HO607.out; subst eo30) | ((with_reducible refine aZ (N := 14) rfl ?_); refine bB ?hg (N := 14) ?hd (cs := #[.slice none 0 0, .slice none 0 0]) (t := 94) ?hr ?_; (case hd => rfl); (case hg => rfl); (case hr => first | (go_simp; done)); intro gb611 hg w31 hbox hb; replace HO_595000 := aM (bG HO_595000.out hb); replace HO_595001 := aM (bG HO_595001.out hb); replace HO_603000 := aM (bG HO_603000.out hb); replace HO_603001 := aM (bG HO_603001.out hb); replace HO607 := aM (bG HO607.out hb); replace HO610 := aM (bG HO610.out hb); have BK611 := aM hbox; have GE611 := aM ((by rw [hg]; exact (aG HB.out) : w.heap.size ≤ gb611)); replace HB := aM (aE HB.out hb); have NB594_611 := aM ((by rw [hg]; exact Nat.ne_of_lt (blk_lt (g := gb594) (o := .cells #[.slice Ao9 t587.length co9, .slice Ao11 t590.length co11] 94 (0, 0)) BK594.out) : gb594 ≠ gb611)); replace BK594 := aM (aD (g := gb594) (o := .cells #[.slice Ao9 t587.length co9, .slice Ao11 t590.length co11] 94 (0, 0)) BK594.out hb); have NB602_611 := aM ((by rw [hg]; exact Nat.ne_of_lt (blk_lt (g := gb602) (o := .cells #[.slice Ao14 t595.length co14, .slice Ao17 t598.length co17] 94 (0, 0)) BK602.out) : gb602 ≠ gb611)); replace BK602 := aM (aD (g := gb602) (o := .cells #[.slice Ao14 t595.length co14, .slice Ao17 t598.length co17] 94 (0, 0)) BK602.out hb); clear hb hbox hg; have hcz34_0 : w31.cell? ⟨gb611, 0, none⟩ = some (.slice none 0 0) := (aA BK611.out 0).trans rfl; have hcz34_1 : w31.cell? ⟨gb611, 1, none⟩ = some (.slice none 0 0) := (aA BK611.out 1).trans rfl; have hfz34_0 := aC BK611.out 0; have hfz34_1 := aC BK611.out 1))
    go_loopg [15] kj5 (fun kq v15 w' => ∃ (x15_2 : Int) (x612000_2 : List Bool) (x612001_2 : List Bool) (u612000 : Value) (u612001 : Value), v15 = .int .i64 x15_2 ∧ Aside0 (spec_l2Two.l0 kq a2 t603 t604 x15_2 t587 t590 t595 t598 x612000_2 x612001_2 = some (r1, r2)) ∧ Aside0 (kq ≤ kj5) ∧ Aside0 (Kd.R Kd.bool 4 w' w.heap.size (fun k_ => some k_ ≠ ((.slice Ao11 t590.length co11) : Value).ownBlock ∧ some k_ ≠ ((.slice Ao14 t595.length co14) : Value).ownBlock ∧ some k_ ≠ ((.slice Ao17 t598.length co17) : Value).ownBlock ∧ some k_ ≠ (u612000 : Value).ownBlock ∧ some k_ ≠ (u612001 : Value).ownBlock) (.slice Ao9 t587.length co9) t587) ∧ Aside0 (Kd.R Kd.bool 4 w' w.heap.size (fun k_ => some k_ ≠ ((.slice Ao9 t587.length co9) : Value).ownBlock ∧ some k_ ≠ ((.slice Ao14 t595.length co14) : Value).ownBlock ∧ some k_ ≠ ((.slice Ao17 t598.length co17) : Value).ownBlock ∧ some k_ ≠ (u612000 : Value).ownBlock ∧ some k_ ≠ (u612001 : Value).ownBlock) (.slice Ao11 t590.length co11) t590) ∧ Aside0 (Kd.R Kd.bool 4 w' w.heap.size (fun k_ => some k_ ≠ ((.slice Ao9 t587.length co9) : Value).ownBlock ∧ some k_ ≠ ((.slice Ao11 t590.length co11) : Value).ownBlock ∧ some k_ ≠ ((.slice Ao17 t598.length co17) : Value).ownBlock ∧ some k_ ≠ (u612000 : Value).ownBlock ∧ some k_ ≠ (u612001 : Value).ownBlock) (.slice Ao14 t595.length co14) t595) ∧ Aside0 (Kd.R Kd.bool 4 w' w.heap.size (fun k_ => some k_ ≠ ((.slice Ao9 t587.length co9) : Value).ownBlock ∧ some k_ ≠ ((.slice Ao11 t590.length co11) : Value).ownBlock ∧ some k_ ≠ ((.slice Ao14 t595.length co14) : Value).ownBlock ∧ some k_ ≠ (u612000 : Value).ownBlock ∧ some k_ ≠ (u612001 : Value).ownBlock) (.slice Ao17 t598.length co17) t598) ∧ Aside0 (Kd.R Kd.bool 4 w' w.heap.size (fun k_ => some k_ ≠ ((.slice Ao9 t587.length co9) : Value).ownBlock ∧ some k_ ≠ ((.slice Ao11 t590.length co11) : Value).ownBlock ∧ some k_ ≠ ((.slice Ao14 t595.length co14) : Value).ownBlock ∧ some k_ ≠ ((.slice Ao17 t598.length co17) : Value).ownBlock ∧ some k_ ≠ (u612001 : Value).ownBlock) u612000 x612000_2) ∧ Aside0 (Kd.R Kd.bool 4 w' w.heap.size (fun k_ => some k_ ≠ ((.slice Ao9 t587.length co9) : Value).ownBlock ∧ some k_ ≠ ((.slice Ao11 t590.length co11) : Value).ownBlock ∧ some k_ ≠ ((.slice Ao14 t595.length co14) : Value).ownBlock ∧ some k_ ≠ ((.slice Ao17 t598.length co17) : Value).ownBlock ∧ some k_ ≠ (u612000 : Value).ownBlock) u612001 x612001_2) ∧ Aside0 (w'.heap[gb594]? = some (.cells #[(.slice Ao9 t587.length co9), (.slice Ao11 t590.length co11)] 94 (0, 0))) ∧ Aside0 (w'.heap[gb602]? = some (.cells #[(.slice Ao14 t595.length co14), (.slice Ao17 t598.length co17)] 94 (0, 0))) ∧ Aside0 (w'.heap[gb611]? = some (.cells #[u612000, u612001] 94 (0, 0))) ∧ Aside0 (Below w.heap.size w w'))
    case atStart => exact ⟨(0), (y605), (y608), (.slice Ao30 y605.length co30), (.slice Ao29 y608.length co29), (by rfl), H', ⟨cD _⟩, ⟨by exact bJ (bC (p := ⟨gb611, 1, none⟩) (bC (p := ⟨gb611, 0, none⟩) (bE HO_595000.out BK611.out (by decide)) (fun _ hk => hk.2) (.slice Ao30 y605.length co30)) (fun _ hk => hk.2) (.slice Ao29 y608.length co29)) (fun _ hk => ⟨hk.1.1.1.1, ⟨hk.1.1.1.2.1, ⟨hk.1.1.1.2.2, ⟨hk.1.1.2, hk.1.2⟩⟩⟩⟩)⟩, ⟨by exact bJ (bC (p := ⟨gb611, 1, none⟩) (bC (p := ⟨gb611, 0, none⟩) (bE HO_595001.out BK611.out (by decide)) (fun _ hk => hk.2) (.slice Ao30 y605.length co30)) (fun _ hk => hk.2) (.slice Ao29 y608.length co29)) (fun _ hk => ⟨hk.1.1.1.1, ⟨hk.1.1.1.2.1, ⟨hk.1.1.1.2.2, ⟨hk.1.1.2, hk.1.2⟩⟩⟩⟩)⟩, ⟨by exact bJ (bC (p := ⟨gb611, 1, none⟩) (bC (p := ⟨gb611, 0, none⟩) (bE HO_603000.out BK611.out (by decide)) (fun _ hk => hk.2) (.slice Ao30 y605.length co30)) (fun _ hk => hk.2) (.slice Ao29 y608.length co29)) (fun _ hk => ⟨hk.1.1.1.1, ⟨hk.1.1.1.2.1, ⟨hk.1.1.1.2.2, ⟨hk.1.1.2, hk.1.2⟩⟩⟩⟩)⟩, ⟨by exact bJ (bC (p := ⟨gb611, 1, none⟩) (bC (p := ⟨gb611, 0, none⟩) (bE HO_603001.out BK611.out (by decide)) (fun _ hk => hk.2) (.slice Ao30 y605.length co30)) (fun _ hk => hk.2) (.slice Ao29 y608.length co29)) (fun _ hk => ⟨hk.1.1.1.1, ⟨hk.1.1.1.2.1, ⟨hk.1.1.1.2.2, ⟨hk.1.1.2, hk.1.2⟩⟩⟩⟩)⟩, ⟨by exact bJ (bC (p := ⟨gb611, 1, none⟩) (bC (p := ⟨gb611, 0, none⟩) (bE HO607.out BK611.out (by decide)) (fun _ hk => hk.2) (.slice Ao30 y605.length co30)) (fun _ hk => hk.2) (.slice Ao29 y608.length co29)) (fun _ hk => ⟨hk.1.1.1.1.1.2, ⟨hk.1.1.1.1.2, ⟨hk.1.1.1.2, ⟨hk.1.1.2, hk.1.2⟩⟩⟩⟩)⟩, ⟨by exact bJ (bC (p := ⟨gb611, 1, none⟩) (bC (p := ⟨gb611, 0, none⟩) (bE HO610.out BK611.out (by decide)) (fun _ hk => hk.2) (.slice Ao30 y605.length co30)) (fun _ hk => hk.2) (.slice Ao29 y608.length co29)) (fun _ hk => ⟨hk.1.1.1.1.1.2, ⟨hk.1.1.1.1.2, ⟨hk.1.1.1.2, ⟨hk.1.1.2, hk.1.2⟩⟩⟩⟩)⟩, ⟨by refine cL ?_ NB594_611.out _; refine cL ?_ NB594_611.out _; exact BK594.out⟩, ⟨by refine cL ?_ NB602_611.out _; refine cL ?_ NB602_611.out _; exact BK602.out⟩, ⟨by refine bV (cs := #[.slice Ao30 y605.length co30, .slice none 0 0]) ?_ 1 _ rfl; refine bV (cs := #[.slice none 0 0, .slice none 0 0]) ?_ 0 _ rfl; exact BK611.out⟩, ⟨by repeat (first | (with_reducible first | exact HB.out | refine bS ?_ GE611.out))⟩⟩
    case round =>
     clear H'
     try clear hcz22_0
     try clear hcz22_1
     try clear hcz23_0
     try clear hcz23_1
     try clear hcz34_0
     try clear hcz34_1
     try clear hfz22_0
     try clear hfz22_1
     try clear hfz23_0
     try clear hfz23_1
     try clear hfz34_0
     try clear hfz34_1
     obtain ⟨x15_2, x612000_2, x612001_2, u612000, u612001, rfl, HA, HK2, HO_595000, HO_595001, HO_603000, HO_603001, HO_612000, HO_612001, BK594, BK602, BK611, HB⟩ := hrel
     cases gk with
     | zero => exact absurd HA.out (by simp [spec_l2Two.l0])
     | succ k2 =>
      have H := HA.out
      clear HA
      simp only [spec_l2Two.l0] at H
      by_cases c35 : x15_2 < (wrap64 (t603 + t604))
      ·rw [if_pos c35] at H
       have c35b0 : decide (x15_2 < (wrap64 (t603 + t604))) = true := aH c35
       clear c35
       replace H := Option.bind_eq_some_iff.mp H
       obtain ⟨t614, A360, H⟩ := H
       replace H : ((spec_l1Bit.f t614).bind fun t615 => ((spec_l1Has.f t595 t598 x15_2).bind fun t616 => ((spec_l1Bit.f t616).bind fun t617 => (if 0 ≤ (wrap64 ((wrap64 (2 * t615)) + t617)) then (if x15_2 < t603 then (if x612000_2.length < 140737488355328 then (spec_l2Two.l0 k2 a2 t603 t604 (wrap64 (x15_2 + 1)) t587 t590 t595 t598 (x612000_2 ++ [((Go.bits .and .i64 (shr .i64 a2 (wrap64 ((wrap64 (2 * t615)) + t617))) 1) == 1)]) x612001_2) else (none)) else (if x612001_2.length < 140737488355328 then (spec_l2Two.l0 k2 a2 t603 t604 (wrap64 (x15_2 + 1)) t587 t590 t595 t598 x612000_2 (x612001_2 ++ [((Go.bits .and .i64 (shr .i64 a2 (wrap64 ((wrap64 (2 * t615)) + t617))) 1) == 1)])) else (none))) else (none))))) = some (r1, r2) := H
       have A36 := aM A360
       clear A360
       replace H := Option.bind_eq_some_iff.mp H
       obtain ⟨t615, A370, H⟩ := H
       replace H : ((spec_l1Has.f t595 t598 x15_2).bind fun t616 => ((spec_l1Bit.f t616).bind fun t617 => (if 0 ≤ (wrap64 ((wrap64 (2 * t615)) + t617)) then (if x15_2 < t603 then (if x612000_2.length < 140737488355328 then (spec_l2Two.l0 k2 a2 t603 t604 (wrap64 (x15_2 + 1)) t587 t590 t595 t598 (x612000_2 ++ [((Go.bits .and .i64 (shr .i64 a2 (wrap64 ((wrap64 (2 * t615)) + t617))) 1) == 1)]) x612001_2) else (none)) else (if x612001_2.length < 140737488355328 then (spec_l2Two.l0 k2 a2 t603 t604 (wrap64 (x15_2 + 1)) t587 t590 t595 t598 x612000_2 (x612001_2 ++ [((Go.bits .and .i64 (shr .i64 a2 (wrap64 ((wrap64 (2 * t615)) + t617))) 1) == 1)])) else (none))) else (none)))) = some (r1, r2) := H
       have A37 := aM A370
       clear A370
       replace H := Option.bind_eq_some_iff.mp H
       obtain ⟨t616, A380, H⟩ := H
       replace H : ((spec_l1Bit.f t616).bind fun t617 => (if 0 ≤ (wrap64 ((wrap64 (2 * t615)) + t617)) then (if x15_2 < t603 then (if x612000_2.length < 140737488355328 then (spec_l2Two.l0 k2 a2 t603 t604 (wrap64 (x15_2 + 1)) t587 t590 t595 t598 (x612000_2 ++ [((Go.bits .and .i64 (shr .i64 a2 (wrap64 ((wrap64 (2 * t615)) + t617))) 1) == 1)]) x612001_2) else (none)) else (if x612001_2.length < 140737488355328 then (spec_l2Two.l0 k2 a2 t603 t604 (wrap64 (x15_2 + 1)) t587 t590 t595 t598 x612000_2 (x612001_2 ++ [((Go.bits .and .i64 (shr .i64 a2 (wrap64 ((wrap64 (2 * t615)) + t617))) 1) == 1)])) else (none))) else (none))) = some (r1, r2) := H
       have A38 := aM A380
       clear A380
       replace H := Option.bind_eq_some_iff.mp H
       obtain ⟨t617, A390, H⟩ := H
       replace H : (if 0 ≤ (wrap64 ((wrap64 (2 * t615)) + t617)) then (if x15_2 < t603 then (if x612000_2.length < 140737488355328 then (spec_l2Two.l0 k2 a2 t603 t604 (wrap64 (x15_2 + 1)) t587 t590 t595 t598 (x612000_2 ++ [((Go.bits .and .i64 (shr .i64 a2 (wrap64 ((wrap64 (2 * t615)) + t617))) 1) == 1)]) x612001_2) else (none)) else (if x612001_2.length < 140737488355328 then (spec_l2Two.l0 k2 a2 t603 t604 (wrap64 (x15_2 + 1)) t587 t590 t595 t598 x612000_2 (x612001_2 ++ [((Go.bits .and .i64 (shr .i64 a2 (wrap64 ((wrap64 (2 * t615)) + t617))) 1) == 1)])) else (none))) else (none)) = some (r1, r2) := H
       have A39 := aM A390
       clear A390
       obtain ⟨ji40, hji40⟩ : ∃ j_ : Int, (wrap64 ((wrap64 (2 * t615)) + t617)) = j_ := ⟨_, rfl⟩
       replace H : (if 0 ≤ (ji40) then (if x15_2 < t603 then (if x612000_2.length < 140737488355328 then (spec_l2Two.l0 k2 a2 t603 t604 (wrap64 (x15_2 + 1)) t587 t590 t595 t598 (x612000_2 ++ [((Go.bits .and .i64 (shr .i64 a2 (ji40)) 1) == 1)]) x612001_2) else (none)) else (if x612001_2.length < 140737488355328 then (spec_l2Two.l0 k2 a2 t603 t604 (wrap64 (x15_2 + 1)) t587 t590 t595 t598 x612000_2 (x612001_2 ++ [((Go.bits .and .i64 (shr .i64 a2 (ji40)) 1) == 1)])) else (none))) else (none)) = some (r1, r2) := by first | (rw [hji40] at H; exact H)
       have hji40w : (IntKind.i64.wrap ((wrap64 (2 * t615)) + t617)) = ji40 := (cS _).trans hji40
       by_cases c41 : 0 ≤ (ji40)
       ·rw [if_pos c41] at H
        have c41b0 := eq_true c41
        clear c41
        obtain ⟨ji42, hji42⟩ : ∃ j_ : Int, (shr .i64 a2 (ji40)) = j_ := ⟨_, rfl⟩
        replace H : (if x15_2 < t603 then (if x612000_2.length < 140737488355328 then (spec_l2Two.l0 k2 a2 t603 t604 (wrap64 (x15_2 + 1)) t587 t590 t595 t598 (x612000_2 ++ [((Go.bits .and .i64 (ji42) 1) == 1)]) x612001_2) else (none)) else (if x612001_2.length < 140737488355328 then (spec_l2Two.l0 k2 a2 t603 t604 (wrap64 (x15_2 + 1)) t587 t590 t595 t598 x612000_2 (x612001_2 ++ [((Go.bits .and .i64 (ji42) 1) == 1)])) else (none))) = some (r1, r2) := by first | (rw [hji42] at H; exact H)
        have hji42_ : (a2 / 2 ^ min (ji40).toNat 64) = ji42 := hji42
        have hji42z : (ji40) ≤ 64 → (a2 / 2 ^ (ji40).toNat) = ji42 := shr_small hji42
        by_cases c43 : x15_2 < t603
        ·rw [if_pos c43] at H
         have c43b0 : decide (x15_2 < t603) = true := aH c43
         clear c43
         by_cases c44 : x612000_2.length < 140737488355328
         ·rw [if_pos c44] at H
          have LMc44 := aM c44
          clear c44
          obtain ⟨y618, hy618⟩ : ∃ y_ : List Bool, y_ = (x612000_2 ++ [((Go.bits .and .i64 (ji42) 1) == 1)]) := ⟨_, rfl⟩
          replace H : (spec_l2Two.l0 k2 a2 t603 t604 (wrap64 (x15_2 + 1)) t587 t590 t595 t598 y618 x612001_2) = some (r1, r2) := by first | (rw [hy618]; with_reducible exact H)
          have Ny618 := aM hy618
          clear hy618
          have H' := aM H
          clear H
          try go_wp2
          replace HO_595000 := aM (rD HO_595000.out)
          replace HO_595001 := aM (rD HO_595001.out)
          replace HO_603000 := aM (rD HO_603000.out)
          replace HO_603001 := aM (rD HO_603001.out)
          replace HO_612000 := aM (rD HO_612000.out)
          replace HO_612001 := aM (rD HO_612001.out)
          replace BK594 := aM (kD BK594.out)
          replace BK602 := aM (kD BK602.out)
          replace BK611 := aM (kD BK611.out)
          replace HB := aM (b1 HB.out)
          refine start_ (n := 15) (S := fun w' => w'.cell? ⟨gb594, 0, none⟩ = some (.slice Ao9 t587.length co9) ∧ w'.cell? ⟨gb594, 1, none⟩ = some (.slice Ao11 t590.length co11) ∧ w'.cell? ⟨gb602, 0, none⟩ = some (.slice Ao14 t595.length co14) ∧ w'.cell? ⟨gb602, 1, none⟩ = some (.slice Ao17 t598.length co17)) (ds := []) #[false, false, false, false, false, false, false, false, false, false, false, false, false, false, false] (by kernel_rfl) rfl rfl ⟨(aA BK594.out 0).trans rfl, (aA BK594.out 1).trans rfl, (aA BK602.out 0).trans rfl, (aA BK602.out 1).trans rfl⟩ (fun hHeld => ?_); refine with_tabW spec_l2Two.tab10 spec_l2Two.bits10 (fun HT_ HW_ => ?_)
          generalize wr.drew = w45 at HO_595000 HO_595001 HO_603000 HO_603001 HO_612000 HO_612001 BK594 BK602 BK611 HB hHeld ⊢
          refine pQ 0 49 HT_ ?_
          refine pQ 2 51 HT_ ?_
          refine pQ 7 56 HT_ ?_
          refine tQ 1 50 HT_ HW_ hHeld ?_
          refine tQ 6 55 HT_ HW_ hHeld ?_
          refine oQ 3 52 HT_ (fun K hK => ?_)
          refine gO Try.func97 #[.agg #[.slice Ao9 t587.length co9, .slice Ao11 t590.length co11], .int .i64 x15_2] ?_
          with_reducible refine (spec_l1Has.calls _ _ t587 _ _ t590 x15_2 t614 _ ?side1 ?side2 ?side3 ?side4 A36.out).mono ?_
          (case side1 => repeat (exact (bM HO_595000.out).2.2))
          (case side2 => exact (bM HO_595000.out).2.1)
          (case side3 => repeat (exact (bM HO_595001.out).2.2))
          (case side4 => exact (bM HO_595001.out).2.1)
          rintro e w46 ⟨rfl, hb⟩
          refine ⟨_, rfl, ?_⟩
          replace HO_595000 := aM (bG HO_595000.out hb)
          replace HO_595001 := aM (bG HO_595001.out hb)
          replace HO_603000 := aM (bG HO_603000.out hb)
          replace HO_603001 := aM (bG HO_603001.out hb)
          replace HO_612000 := aM (bG HO_612000.out hb)
          replace HO_612001 := aM (bG HO_612001.out hb)
          replace BK594 := aM (aD (g := gb594) (o := .cells #[.slice Ao9 t587.length co9, .slice Ao11 t590.length co11] 94 (0, 0)) BK594.out hb)
          replace BK602 := aM (aD (g := gb602) (o := .cells #[.slice Ao14 t595.length co14, .slice Ao17 t598.length co17] 94 (0, 0)) BK602.out hb)
          replace BK611 := aM (aD (g := gb611) (o := .cells #[u612000, u612001] 94 (0, 0)) BK611.out hb)
          replace HB := aM (aE HB.out hb)
          (try clear hb)
          refine hK.out _ _ ⟨(aA BK594.out 0).trans rfl, (aA BK594.out 1).trans rfl, (aA BK602.out 0).trans rfl, (aA BK602.out 1).trans rfl⟩ (fun hHeld => ?_)
          clear hK K
          refine nQ ?_
          refine oQ 4 53 HT_ (fun K hK => ?_)
          refine gO Try.func44 #[.bool t614] ?_
          with_reducible refine (spec_l1Bit.calls t614 t615 _ A37.out).mono ?_
          rintro e w' ⟨rfl, ⟨nd, rfl⟩⟩
          refine ⟨_, rfl, ?_⟩
          refine hK.out _ _ ⟨(aA BK594.out 0).trans rfl, (aA BK594.out 1).trans rfl, (aA BK602.out 0).trans rfl, (aA BK602.out 1).trans rfl⟩ (fun hHeld => ?_)
          clear hK K
          refine nQ ?_
          refine pQ 5 54 HT_ ?_
          refine oQ 8 57 HT_ (fun K hK => ?_)
          refine gO Try.func97 #[.agg #[.slice Ao14 t595.length co14, .slice Ao17 t598.length co17], .int .i64 x15_2] ?_
          with_reducible refine (spec_l1Has.calls _ _ t595 _ _ t598 x15_2 t616 _ ?side1 ?side2 ?side3 ?side4 A38.out).mono ?_
          (case side1 => repeat (exact (bM HO_603000.out).2.2))
          (case side2 => exact (bM HO_603000.out).2.1)
          (case side3 => repeat (exact (bM HO_603001.out).2.2))
          (case side4 => exact (bM HO_603001.out).2.1)
          rintro e w47 ⟨rfl, hb⟩
          refine ⟨_, rfl, ?_⟩
          replace HO_595000 := aM (bG (by (with_reducible repeat (apply rN)); exact HO_595000.out) hb)
          replace HO_595001 := aM (bG (by (with_reducible repeat (apply rN)); exact HO_595001.out) hb)
          replace HO_603000 := aM (bG (by (with_reducible repeat (apply rN)); exact HO_603000.out) hb)
          replace HO_603001 := aM (bG (by (with_reducible repeat (apply rN)); exact HO_603001.out) hb)
          replace HO_612000 := aM (bG (by (with_reducible repeat (apply rN)); exact HO_612000.out) hb)
          replace HO_612001 := aM (bG (by (with_reducible repeat (apply rN)); exact HO_612001.out) hb)
          replace BK594 := aM (aD (g := gb594) (o := .cells #[.slice Ao9 t587.length co9, .slice Ao11 t590.length co11] 94 (0, 0)) (by (with_reducible repeat (refine kN ?_ _)); exact BK594.out) hb)
          replace BK602 := aM (aD (g := gb602) (o := .cells #[.slice Ao14 t595.length co14, .slice Ao17 t598.length co17] 94 (0, 0)) (by (with_reducible repeat (refine kN ?_ _)); exact BK602.out) hb)
          replace BK611 := aM (aD (g := gb611) (o := .cells #[u612000, u612001] 94 (0, 0)) (by (with_reducible repeat (refine kN ?_ _)); exact BK611.out) hb)
          replace HB := aM (aE (by repeat (first | (with_reducible first | exact HB.out | apply bN))) hb)
          (try clear hb)
          refine hK.out _ _ ⟨(aA BK594.out 0).trans rfl, (aA BK594.out 1).trans rfl, (aA BK602.out 0).trans rfl, (aA BK602.out 1).trans rfl⟩ (fun hHeld => ?_)
          clear hK K
          refine nQ ?_
          refine oQ 9 58 HT_ (fun K hK => ?_)
          refine gO Try.func44 #[.bool t616] ?_
          with_reducible refine (spec_l1Bit.calls t616 t617 _ A39.out).mono ?_
          rintro e w' ⟨rfl, ⟨nd, rfl⟩⟩
          refine ⟨_, rfl, ?_⟩
          refine hK.out _ _ ⟨(aA BK594.out 0).trans rfl, (aA BK594.out 1).trans rfl, (aA BK602.out 0).trans rfl, (aA BK602.out 1).trans rfl⟩ (fun hHeld => ?_)
          clear hK K
          refine nQ ?_
          refine pQ 10 59 HT_ ?_
          refine pQ 11 60 HT_ ?_
          refine pQ 12 61 HT_ ?_
          refine pQ 13 62 HT_ ?_
          refine pQ 14 16 HT_ ?_
          refine done_ (done_of HT_.out (by kernel_rfl)) ?_
          have hcz50_0 : w47.cell? ⟨gb611, 0, none⟩ = some (u612000) := (aA BK611.out 0).trans rfl
          try go_wp2_with (first | ((with_reducible refine gate_builtin (b := .append) (xs := #[.tmp 67, .tmp 69]) rfl ?_); at_builtin; refine Kd.R_append Kd.bool (w0 := w) w.heap.size rfl (.tmp 67) (.tmp 69) 52 4 (.bool false) 1 rfl Try.underlying52 info4 rfl (by decide) (by omega) u612000 x612000_2 ((Go.bits .and .i64 (ji42) 1) == 1) [.bool ((Go.bits .and .i64 (ji42) 1) == 1)] (fun k_ => some k_ ≠ (.slice Ao9 t587.length co9 : Value).ownBlock ∧ some k_ ≠ (.slice Ao11 t590.length co11 : Value).ownBlock ∧ some k_ ≠ (.slice Ao14 t595.length co14 : Value).ownBlock ∧ some k_ ≠ (.slice Ao17 t598.length co17 : Value).ownBlock ∧ some k_ ≠ (u612001 : Value).ownBlock) (fun _ => False) rfl rfl ?aP (fun _ hk => hk.elim) ?aF ?aO ?aB ?aS ?aL ?_; (case aP => exact rfl); (case aB => exact (by repeat (first | (with_reducible first | exact HB.out | apply bN)))); (case aF => exact (fun k_ hk => ⟨Kd.fresh' (Kd.R_lt (by (with_reducible repeat (apply rN)); exact HO_595000.out)) k_ hk, Kd.fresh' (Kd.R_lt (by (with_reducible repeat (apply rN)); exact HO_595001.out)) k_ hk, Kd.fresh' (Kd.R_lt (by (with_reducible repeat (apply rN)); exact HO_603000.out)) k_ hk, Kd.fresh' (Kd.R_lt (by (with_reducible repeat (apply rN)); exact HO_603001.out)) k_ hk, Kd.fresh' (Kd.R_lt (by (with_reducible repeat (apply rN)); exact HO_612001.out)) k_ hk⟩)); (case aO => exact (by (with_reducible repeat (apply rN)); exact HO_612000.out)); (case aS => exact (aG (by repeat (first | (with_reducible first | exact HB.out | apply bN))))); (case aL => have := LMc44.out; omega); intro v619 w51 ho hb hg hat; rw [← Ny618.out] at ho; replace HO_595000 := aM (cJ (ok := (fun k_ => some k_ ≠ (.slice Ao11 t590.length co11 : Value).ownBlock ∧ some k_ ≠ (.slice Ao14 t595.length co14 : Value).ownBlock ∧ some k_ ≠ (.slice Ao17 t598.length co17 : Value).ownBlock ∧ some k_ ≠ (u612001 : Value).ownBlock)) (by (with_reducible repeat (apply rN)); exact bJ HO_595000.out (fun _ hk => ⟨⟨hk.1, ⟨hk.2.1, ⟨hk.2.2.1, hk.2.2.2.2⟩⟩⟩, hk.2.2.2.1⟩)) hg hat); replace HO_595001 := aM (cJ (ok := (fun k_ => some k_ ≠ (.slice Ao9 t587.length co9 : Value).ownBlock ∧ some k_ ≠ (.slice Ao14 t595.length co14 : Value).ownBlock ∧ some k_ ≠ (.slice Ao17 t598.length co17 : Value).ownBlock ∧ some k_ ≠ (u612001 : Value).ownBlock)) (by (with_reducible repeat (apply rN)); exact bJ HO_595001.out (fun _ hk => ⟨⟨hk.1, ⟨hk.2.1, ⟨hk.2.2.1, hk.2.2.2.2⟩⟩⟩, hk.2.2.2.1⟩)) hg hat); replace HO_603000 := aM (cJ (ok := (fun k_ => some k_ ≠ (.slice Ao9 t587.length co9 : Value).ownBlock ∧ some k_ ≠ (.slice Ao11 t590.length co11 : Value).ownBlock ∧ some k_ ≠ (.slice Ao17 t598.length co17 : Value).ownBlock ∧ some k_ ≠ (u612001 : Value).ownBlock)) (by (with_reducible repeat (apply rN)); exact bJ HO_603000.out (fun _ hk => ⟨⟨hk.1, ⟨hk.2.1, ⟨hk.2.2.1, hk.2.2.2.2⟩⟩⟩, hk.2.2.2.1⟩)) hg hat); replace HO_603001 := aM (cJ (ok := (fun k_ => some k_ ≠ (.slice Ao9 t587.length co9 : Value).ownBlock ∧ some k_ ≠ (.slice Ao11 t590.length co11 : Value).ownBlock ∧ some k_ ≠ (.slice Ao14 t595.length co14 : Value).ownBlock ∧ some k_ ≠ (u612001 : Value).ownBlock)) (by (with_reducible repeat (apply rN)); exact bJ HO_603001.out (fun _ hk => ⟨⟨hk.1, ⟨hk.2.1, ⟨hk.2.2.1, hk.2.2.2.2⟩⟩⟩, hk.2.2.2.1⟩)) hg hat); replace HO_612001 := aM (cJ (ok := (fun k_ => some k_ ≠ (.slice Ao9 t587.length co9 : Value).ownBlock ∧ some k_ ≠ (.slice Ao11 t590.length co11 : Value).ownBlock ∧ some k_ ≠ (.slice Ao14 t595.length co14 : Value).ownBlock ∧ some k_ ≠ (.slice Ao17 t598.length co17 : Value).ownBlock)) (by (with_reducible repeat (apply rN)); exact bJ HO_612001.out (fun _ hk => ⟨⟨hk.1, ⟨hk.2.1, ⟨hk.2.2.1, hk.2.2.2.1⟩⟩⟩, hk.2.2.2.2⟩)) hg hat); replace BK594 := aM (blk_grown (g := gb594) (o := .cells #[.slice Ao9 t587.length co9, .slice Ao11 t590.length co11] 94 (0, 0)) (by (with_reducible repeat (refine kN ?_ _)); exact BK594.out) hg (Kd.R_ne HO_612000.out BK594.out (by decide))); replace BK602 := aM (blk_grown (g := gb602) (o := .cells #[.slice Ao14 t595.length co14, .slice Ao17 t598.length co17] 94 (0, 0)) (by (with_reducible repeat (refine kN ?_ _)); exact BK602.out) hg (Kd.R_ne HO_612000.out BK602.out (by decide))); replace BK611 := aM (blk_grown (g := gb611) (o := .cells #[u612000, u612001] 94 (0, 0)) (by (with_reducible repeat (refine kN ?_ _)); exact BK611.out) hg (Kd.R_ne HO_612000.out BK611.out (by decide))); replace HB := aM hb; have HO620 := aM ho; clear HO_612000; clear ho hb hg hat; obtain ⟨Ao52, co52, eo52⟩ := bL HO620.out; subst eo52; have hcz53_0 : w51.cell? ⟨gb611, 0, none⟩ = some (u612000) := (aA BK611.out 0).trans rfl; have hfz53_0 := aC BK611.out 0))
          go_roundg k2
          case measure => have := HJ5.out; have := HK2.out; omega
          case rel => exact ⟨(wrap64 (x15_2 + 1)), (y618), (x612001_2), (.slice Ao52 y618.length co52), (u612001), (by rfl), H', ⟨by have := HJ5.out; have := HK2.out; omega⟩, ⟨by exact bJ (bC (p := ⟨gb611, 0, none⟩) (bE HO_595000.out BK611.out (by decide)) (fun _ hk => hk.2) (.slice Ao52 y618.length co52)) (fun _ hk => ⟨hk.1.1.1, ⟨hk.1.1.2.1, ⟨hk.1.1.2.2.1, ⟨hk.1.2, hk.1.1.2.2.2⟩⟩⟩⟩)⟩, ⟨by exact bJ (bC (p := ⟨gb611, 0, none⟩) (bE HO_595001.out BK611.out (by decide)) (fun _ hk => hk.2) (.slice Ao52 y618.length co52)) (fun _ hk => ⟨hk.1.1.1, ⟨hk.1.1.2.1, ⟨hk.1.1.2.2.1, ⟨hk.1.2, hk.1.1.2.2.2⟩⟩⟩⟩)⟩, ⟨by exact bJ (bC (p := ⟨gb611, 0, none⟩) (bE HO_603000.out BK611.out (by decide)) (fun _ hk => hk.2) (.slice Ao52 y618.length co52)) (fun _ hk => ⟨hk.1.1.1, ⟨hk.1.1.2.1, ⟨hk.1.1.2.2.1, ⟨hk.1.2, hk.1.1.2.2.2⟩⟩⟩⟩)⟩, ⟨by exact bJ (bC (p := ⟨gb611, 0, none⟩) (bE HO_603001.out BK611.out (by decide)) (fun _ hk => hk.2) (.slice Ao52 y618.length co52)) (fun _ hk => ⟨hk.1.1.1, ⟨hk.1.1.2.1, ⟨hk.1.1.2.2.1, ⟨hk.1.2, hk.1.1.2.2.2⟩⟩⟩⟩)⟩, ⟨by exact bJ (bC (p := ⟨gb611, 0, none⟩) (bE HO620.out BK611.out (by decide)) (fun _ hk => hk.2) (.slice Ao52 y618.length co52)) (fun _ hk => ⟨hk.1.1, ⟨hk.1.2.1, ⟨hk.1.2.2.1, ⟨hk.1.2.2.2.1, hk.1.2.2.2.2⟩⟩⟩⟩)⟩, ⟨by exact bJ (bC (p := ⟨gb611, 0, none⟩) (bE HO_612001.out BK611.out (by decide)) (fun _ hk => hk.2) (.slice Ao52 y618.length co52)) (fun _ hk => ⟨hk.1.1.1, ⟨hk.1.1.2.1, ⟨hk.1.1.2.2.1, ⟨hk.1.1.2.2.2, hk.1.2⟩⟩⟩⟩)⟩, ⟨by refine cL ?_ NB594_611.out _; exact BK594.out⟩, ⟨by refine cL ?_ NB602_611.out _; exact BK602.out⟩, ⟨by refine bV (cs := #[u612000, u612001]) ?_ 0 _ rfl; exact BK611.out⟩, ⟨by repeat (first | (with_reducible first | exact HB.out | refine bS ?_ GE611.out))⟩⟩
         ·rw [if_neg c44] at H
          exact absurd H (by simp)
        ·rw [if_neg c43] at H
         have c43b0 : decide (x15_2 < t603) = false := aK c43
         clear c43
         by_cases c54 : x612001_2.length < 140737488355328
         ·rw [if_pos c54] at H
          have LMc54 := aM c54
          clear c54
          obtain ⟨y621, hy621⟩ : ∃ y_ : List Bool, y_ = (x612001_2 ++ [((Go.bits .and .i64 (ji42) 1) == 1)]) := ⟨_, rfl⟩
          replace H : (spec_l2Two.l0 k2 a2 t603 t604 (wrap64 (x15_2 + 1)) t587 t590 t595 t598 x612000_2 y621) = some (r1, r2) := by first | (rw [hy621]; with_reducible exact H)
          have Ny621 := aM hy621
          clear hy621
          have H' := aM H
          clear H
          try go_wp2
          replace HO_595000 := aM (rD HO_595000.out)
          replace HO_595001 := aM (rD HO_595001.out)
          replace HO_603000 := aM (rD HO_603000.out)
          replace HO_603001 := aM (rD HO_603001.out)
          replace HO_612000 := aM (rD HO_612000.out)
          replace HO_612001 := aM (rD HO_612001.out)
          replace BK594 := aM (kD BK594.out)
          replace BK602 := aM (kD BK602.out)
          replace BK611 := aM (kD BK611.out)
          replace HB := aM (b1 HB.out)
          refine start_ (n := 15) (S := fun w' => w'.cell? ⟨gb594, 0, none⟩ = some (.slice Ao9 t587.length co9) ∧ w'.cell? ⟨gb594, 1, none⟩ = some (.slice Ao11 t590.length co11) ∧ w'.cell? ⟨gb602, 0, none⟩ = some (.slice Ao14 t595.length co14) ∧ w'.cell? ⟨gb602, 1, none⟩ = some (.slice Ao17 t598.length co17)) (ds := []) #[false, false, false, false, false, false, false, false, false, false, false, false, false, false, false] (by kernel_rfl) rfl rfl ⟨(aA BK594.out 0).trans rfl, (aA BK594.out 1).trans rfl, (aA BK602.out 0).trans rfl, (aA BK602.out 1).trans rfl⟩ (fun hHeld => ?_); refine with_tabW spec_l2Two.tab10 spec_l2Two.bits10 (fun HT_ HW_ => ?_)
          generalize wr.drew = w55 at HO_595000 HO_595001 HO_603000 HO_603001 HO_612000 HO_612001 BK594 BK602 BK611 HB hHeld ⊢
          refine pQ 0 49 HT_ ?_
          refine pQ 2 51 HT_ ?_
          refine pQ 7 56 HT_ ?_
          refine tQ 1 50 HT_ HW_ hHeld ?_
          refine tQ 6 55 HT_ HW_ hHeld ?_
          refine oQ 3 52 HT_ (fun K hK => ?_)
          refine gO Try.func97 #[.agg #[.slice Ao9 t587.length co9, .slice Ao11 t590.length co11], .int .i64 x15_2] ?_
          with_reducible refine (spec_l1Has.calls _ _ t587 _ _ t590 x15_2 t614 _ ?side1 ?side2 ?side3 ?side4 A36.out).mono ?_
          (case side1 => repeat (exact (bM HO_595000.out).2.2))
          (case side2 => exact (bM HO_595000.out).2.1)
          (case side3 => repeat (exact (bM HO_595001.out).2.2))
          (case side4 => exact (bM HO_595001.out).2.1)
          rintro e w56 ⟨rfl, hb⟩
          refine ⟨_, rfl, ?_⟩
          replace HO_595000 := aM (bG HO_595000.out hb)
          replace HO_595001 := aM (bG HO_595001.out hb)
          replace HO_603000 := aM (bG HO_603000.out hb)
          replace HO_603001 := aM (bG HO_603001.out hb)
          replace HO_612000 := aM (bG HO_612000.out hb)
          replace HO_612001 := aM (bG HO_612001.out hb)
          replace BK594 := aM (aD (g := gb594) (o := .cells #[.slice Ao9 t587.length co9, .slice Ao11 t590.length co11] 94 (0, 0)) BK594.out hb)
          replace BK602 := aM (aD (g := gb602) (o := .cells #[.slice Ao14 t595.length co14, .slice Ao17 t598.length co17] 94 (0, 0)) BK602.out hb)
          replace BK611 := aM (aD (g := gb611) (o := .cells #[u612000, u612001] 94 (0, 0)) BK611.out hb)
          replace HB := aM (aE HB.out hb)
          (try clear hb)
          refine hK.out _ _ ⟨(aA BK594.out 0).trans rfl, (aA BK594.out 1).trans rfl, (aA BK602.out 0).trans rfl, (aA BK602.out 1).trans rfl⟩ (fun hHeld => ?_)
          clear hK K
          refine nQ ?_
          refine oQ 4 53 HT_ (fun K hK => ?_)
          refine gO Try.func44 #[.bool t614] ?_
          with_reducible refine (spec_l1Bit.calls t614 t615 _ A37.out).mono ?_
          rintro e w' ⟨rfl, ⟨nd, rfl⟩⟩
          refine ⟨_, rfl, ?_⟩
          refine hK.out _ _ ⟨(aA BK594.out 0).trans rfl, (aA BK594.out 1).trans rfl, (aA BK602.out 0).trans rfl, (aA BK602.out 1).trans rfl⟩ (fun hHeld => ?_)
          clear hK K
          refine nQ ?_
          refine pQ 5 54 HT_ ?_
          refine oQ 8 57 HT_ (fun K hK => ?_)
          refine gO Try.func97 #[.agg #[.slice Ao14 t595.length co14, .slice Ao17 t598.length co17], .int .i64 x15_2] ?_
          with_reducible refine (spec_l1Has.calls _ _ t595 _ _ t598 x15_2 t616 _ ?side1 ?side2 ?side3 ?side4 A38.out).mono ?_
          (case side1 => repeat (exact (bM HO_603000.out).2.2))
          (case side2 => exact (bM HO_603000.out).2.1)
          (case side3 => repeat (exact (bM HO_603001.out).2.2))
          (case side4 => exact (bM HO_603001.out).2.1)
          rintro e w57 ⟨rfl, hb⟩
          refine ⟨_, rfl, ?_⟩
          replace HO_595000 := aM (bG (by (with_reducible repeat (apply rN)); exact HO_595000.out) hb)
          replace HO_595001 := aM (bG (by (with_reducible repeat (apply rN)); exact HO_595001.out) hb)
          replace HO_603000 := aM (bG (by (with_reducible repeat (apply rN)); exact HO_603000.out) hb)
          replace HO_603001 := aM (bG (by (with_reducible repeat (apply rN)); exact HO_603001.out) hb)
          replace HO_612000 := aM (bG (by (with_reducible repeat (apply rN)); exact HO_612000.out) hb)
          replace HO_612001 := aM (bG (by (with_reducible repeat (apply rN)); exact HO_612001.out) hb)
          replace BK594 := aM (aD (g := gb594) (o := .cells #[.slice Ao9 t587.length co9, .slice Ao11 t590.length co11] 94 (0, 0)) (by (with_reducible repeat (refine kN ?_ _)); exact BK594.out) hb)
          replace BK602 := aM (aD (g := gb602) (o := .cells #[.slice Ao14 t595.length co14, .slice Ao17 t598.length co17] 94 (0, 0)) (by (with_reducible repeat (refine kN ?_ _)); exact BK602.out) hb)
          replace BK611 := aM (aD (g := gb611) (o := .cells #[u612000, u612001] 94 (0, 0)) (by (with_reducible repeat (refine kN ?_ _)); exact BK611.out) hb)
          replace HB := aM (aE (by repeat (first | (with_reducible first | exact HB.out | apply bN))) hb)
          (try clear hb)
          refine hK.out _ _ ⟨(aA BK594.out 0).trans rfl, (aA BK594.out 1).trans rfl, (aA BK602.out 0).trans rfl, (aA BK602.out 1).trans rfl⟩ (fun hHeld => ?_)
          clear hK K
          refine nQ ?_
          refine oQ 9 58 HT_ (fun K hK => ?_)
          refine gO Try.func44 #[.bool t616] ?_
          with_reducible refine (spec_l1Bit.calls t616 t617 _ A39.out).mono ?_
          rintro e w' ⟨rfl, ⟨nd, rfl⟩⟩
          refine ⟨_, rfl, ?_⟩
          refine hK.out _ _ ⟨(aA BK594.out 0).trans rfl, (aA BK594.out 1).trans rfl, (aA BK602.out 0).trans rfl, (aA BK602.out 1).trans rfl⟩ (fun hHeld => ?_)
          clear hK K
          refine nQ ?_
          refine pQ 10 59 HT_ ?_
          refine pQ 11 60 HT_ ?_
          refine pQ 12 61 HT_ ?_
          refine pQ 13 62 HT_ ?_
          refine pQ 14 16 HT_ ?_
          refine done_ (done_of HT_.out (by kernel_rfl)) ?_
          have hcz60_1 : w57.cell? ⟨gb611, 1, none⟩ = some (u612001) := (aA BK611.out 1).trans rfl
          try go_wp2_with (first | ((with_reducible refine gate_builtin (b := .append) (xs := #[.tmp 73, .tmp 75]) rfl ?_); at_builtin; refine Kd.R_append Kd.bool (w0 := w) w.heap.size rfl (.tmp 73) (.tmp 75) 52 4 (.bool false) 1 rfl Try.underlying52 info4 rfl (by decide) (by omega) u612001 x612001_2 ((Go.bits .and .i64 (ji42) 1) == 1) [.bool ((Go.bits .and .i64 (ji42) 1) == 1)] (fun k_ => some k_ ≠ (.slice Ao9 t587.length co9 : Value).ownBlock ∧ some k_ ≠ (.slice Ao11 t590.length co11 : Value).ownBlock ∧ some k_ ≠ (.slice Ao14 t595.length co14 : Value).ownBlock ∧ some k_ ≠ (.slice Ao17 t598.length co17 : Value).ownBlock ∧ some k_ ≠ (u612000 : Value).ownBlock) (fun _ => False) rfl rfl ?aP (fun _ hk => hk.elim) ?aF ?aO ?aB ?aS ?aL ?_; (case aP => exact rfl); (case aB => exact (by repeat (first | (with_reducible first | exact HB.out | apply bN)))); (case aF => exact (fun k_ hk => ⟨Kd.fresh' (Kd.R_lt (by (with_reducible repeat (apply rN)); exact HO_595000.out)) k_ hk, Kd.fresh' (Kd.R_lt (by (with_reducible repeat (apply rN)); exact HO_595001.out)) k_ hk, Kd.fresh' (Kd.R_lt (by (with_reducible repeat (apply rN)); exact HO_603000.out)) k_ hk, Kd.fresh' (Kd.R_lt (by (with_reducible repeat (apply rN)); exact HO_603001.out)) k_ hk, Kd.fresh' (Kd.R_lt (by (with_reducible repeat (apply rN)); exact HO_612000.out)) k_ hk⟩)); (case aO => exact (by (with_reducible repeat (apply rN)); exact HO_612001.out)); (case aS => exact (aG (by repeat (first | (with_reducible first | exact HB.out | apply bN))))); (case aL => have := LMc54.out; omega); intro v622 w61 ho hb hg hat; rw [← Ny621.out] at ho; replace HO_595000 := aM (cJ (ok := (fun k_ => some k_ ≠ (.slice Ao11 t590.length co11 : Value).ownBlock ∧ some k_ ≠ (.slice Ao14 t595.length co14 : Value).ownBlock ∧ some k_ ≠ (.slice Ao17 t598.length co17 : Value).ownBlock ∧ some k_ ≠ (u612000 : Value).ownBlock)) (by (with_reducible repeat (apply rN)); exact bJ HO_595000.out (fun _ hk => ⟨⟨hk.1, ⟨hk.2.1, ⟨hk.2.2.1, hk.2.2.2.1⟩⟩⟩, hk.2.2.2.2⟩)) hg hat); replace HO_595001 := aM (cJ (ok := (fun k_ => some k_ ≠ (.slice Ao9 t587.length co9 : Value).ownBlock ∧ some k_ ≠ (.slice Ao14 t595.length co14 : Value).ownBlock ∧ some k_ ≠ (.slice Ao17 t598.length co17 : Value).ownBlock ∧ some k_ ≠ (u612000 : Value).ownBlock)) (by (with_reducible repeat (apply rN)); exact bJ HO_595001.out (fun _ hk => ⟨⟨hk.1, ⟨hk.2.1, ⟨hk.2.2.1, hk.2.2.2.1⟩⟩⟩, hk.2.2.2.2⟩)) hg hat); replace HO_603000 := aM (cJ (ok := (fun k_ => some k_ ≠ (.slice Ao9 t587.length co9 : Value).ownBlock ∧ some k_ ≠ (.slice Ao11 t590.length co11 : Value).ownBlock ∧ some k_ ≠ (.slice Ao17 t598.length co17 : Value).ownBlock ∧ some k_ ≠ (u612000 : Value).ownBlock)) (by (with_reducible repeat (apply rN)); exact bJ HO_603000.out (fun _ hk => ⟨⟨hk.1, ⟨hk.2.1, ⟨hk.2.2.1, hk.2.2.2.1⟩⟩⟩, hk.2.2.2.2⟩)) hg hat); replace HO_603001 := aM (cJ (ok := (fun k_ => some k_ ≠ (.slice Ao9 t587.length co9 : Value).ownBlock ∧ some k_ ≠ (.slice Ao11 t590.length co11 : Value).ownBlock ∧ some k_ ≠ (.slice Ao14 t595.length co14 : Value).ownBlock ∧ some k_ ≠ (u612000 : Value).ownBlock)) (by (with_reducible repeat (apply rN)); exact bJ HO_603001.out (fun _ hk => ⟨⟨hk.1, ⟨hk.2.1, ⟨hk.2.2.1, hk.2.2.2.1⟩⟩⟩, hk.2.2.2.2⟩)) hg hat); replace HO_612000 := aM (cJ (ok := (fun k_ => some k_ ≠ (.slice Ao9 t587.length co9 : Value).ownBlock ∧ some k_ ≠ (.slice Ao11 t590.length co11 : Value).ownBlock ∧ some k_ ≠ (.slice Ao14 t595.length co14 : Value).ownBlock ∧ some k_ ≠ (.slice Ao17 t598.length co17 : Value).ownBlock)) (by (with_reducible repeat (apply rN)); exact bJ HO_612000.out (fun _ hk => ⟨⟨hk.1, ⟨hk.2.1, ⟨hk.2.2.1, hk.2.2.2.1⟩⟩⟩, hk.2.2.2.2⟩)) hg hat); replace BK594 := aM (blk_grown (g := gb594) (o := .cells #[.slice Ao9 t587.length co9, .slice Ao11 t590.length co11] 94 (0, 0)) (by (with_reducible repeat (refine kN ?_ _)); exact BK594.out) hg (Kd.R_ne HO_612001.out BK594.out (by decide))); replace BK602 := aM (blk_grown (g := gb602) (o := .cells #[.slice Ao14 t595.length co14, .slice Ao17 t598.length co17] 94 (0, 0)) (by (with_reducible repeat (refine kN ?_ _)); exact BK602.out) hg (Kd.R_ne HO_612001.out BK602.out (by decide))); replace BK611 := aM (blk_grown (g := gb611) (o := .cells #[u612000, u612001] 94 (0, 0)) (by (with_reducible repeat (refine kN ?_ _)); exact BK611.out) hg (Kd.R_ne HO_612001.out BK611.out (by decide))); replace HB := aM hb; have HO623 := aM ho; clear HO_612001; clear ho hb hg hat; obtain ⟨Ao62, co62, eo62⟩ := bL HO623.out; subst eo62; have hcz63_1 : w61.cell? ⟨gb611, 1, none⟩ = some (u612001) := (aA BK611.out 1).trans rfl; have hfz63_1 := aC BK611.out 1))
          go_roundg k2
          case measure => have := HJ5.out; have := HK2.out; omega
          case rel => exact ⟨(wrap64 (x15_2 + 1)), (x612000_2), (y621), (u612000), (.slice Ao62 y621.length co62), (by rfl), H', ⟨by have := HJ5.out; have := HK2.out; omega⟩, ⟨by exact bJ (bC (p := ⟨gb611, 1, none⟩) (bE HO_595000.out BK611.out (by decide)) (fun _ hk => hk.2) (.slice Ao62 y621.length co62)) (fun _ hk => ⟨hk.1.1.1, ⟨hk.1.1.2.1, ⟨hk.1.1.2.2.1, ⟨hk.1.1.2.2.2, hk.1.2⟩⟩⟩⟩)⟩, ⟨by exact bJ (bC (p := ⟨gb611, 1, none⟩) (bE HO_595001.out BK611.out (by decide)) (fun _ hk => hk.2) (.slice Ao62 y621.length co62)) (fun _ hk => ⟨hk.1.1.1, ⟨hk.1.1.2.1, ⟨hk.1.1.2.2.1, ⟨hk.1.1.2.2.2, hk.1.2⟩⟩⟩⟩)⟩, ⟨by exact bJ (bC (p := ⟨gb611, 1, none⟩) (bE HO_603000.out BK611.out (by decide)) (fun _ hk => hk.2) (.slice Ao62 y621.length co62)) (fun _ hk => ⟨hk.1.1.1, ⟨hk.1.1.2.1, ⟨hk.1.1.2.2.1, ⟨hk.1.1.2.2.2, hk.1.2⟩⟩⟩⟩)⟩, ⟨by exact bJ (bC (p := ⟨gb611, 1, none⟩) (bE HO_603001.out BK611.out (by decide)) (fun _ hk => hk.2) (.slice Ao62 y621.length co62)) (fun _ hk => ⟨hk.1.1.1, ⟨hk.1.1.2.1, ⟨hk.1.1.2.2.1, ⟨hk.1.1.2.2.2, hk.1.2⟩⟩⟩⟩)⟩, ⟨by exact bJ (bC (p := ⟨gb611, 1, none⟩) (bE HO_612000.out BK611.out (by decide)) (fun _ hk => hk.2) (.slice Ao62 y621.length co62)) (fun _ hk => ⟨hk.1.1.1, ⟨hk.1.1.2.1, ⟨hk.1.1.2.2.1, ⟨hk.1.1.2.2.2, hk.1.2⟩⟩⟩⟩)⟩, ⟨by exact bJ (bC (p := ⟨gb611, 1, none⟩) (bE HO623.out BK611.out (by decide)) (fun _ hk => hk.2) (.slice Ao62 y621.length co62)) (fun _ hk => ⟨hk.1.1, ⟨hk.1.2.1, ⟨hk.1.2.2.1, ⟨hk.1.2.2.2.1, hk.1.2.2.2.2⟩⟩⟩⟩)⟩, ⟨by refine cL ?_ NB594_611.out _; exact BK594.out⟩, ⟨by refine cL ?_ NB602_611.out _; exact BK602.out⟩, ⟨by refine bV (cs := #[u612000, u612001]) ?_ 1 _ rfl; exact BK611.out⟩, ⟨by repeat (first | (with_reducible first | exact HB.out | refine bS ?_ GE611.out))⟩⟩
         ·rw [if_neg c54] at H
          exact absurd H (by simp)
       ·rw [if_neg c41] at H
        exact absurd H (by simp)
      ·rw [if_neg c35] at H
       have c35b0 : decide (x15_2 < (wrap64 (t603 + t604))) = false := aK c35
       clear c35
       replace H := Option.bind_eq_some_iff.mp H
       obtain ⟨⟨t612, t613⟩, A640, H⟩ := H
       replace H : (some (t612, t613)) = some (r1, r2) := H
       have A64 := aM A640
       clear A640
       simp only [aV, aW] at H
       obtain ⟨rfl, rfl⟩ := H
       have hcz67_0 : wr.cell? ⟨gb611, 0, none⟩ = some (u612000) := (aA BK611.out 0).trans rfl
       have hcz67_1 : wr.cell? ⟨gb611, 1, none⟩ = some (u612001) := (aA BK611.out 1).trans rfl
       obtain ⟨Ao68, co68, eo68⟩ := bL HO_612000.out
       subst eo68
       obtain ⟨Ao69, co69, eo69⟩ := bL HO_612001.out
       subst eo69
       go_wp2_with (first | ((with_reducible refine aY (f := 98) rfl ?_); refine gL 79 Try.func98 #[.agg #[.slice Ao68 x612000_2.length co68, .slice Ao69 x612001_2.length co69]] ?_; (with_reducible refine (spec_l1Done.calls k2 _ _ x612000_2 _ _ x612001_2 t612 t613 _ ?side1 ?side2 ?side3 ?side4 A64.out).mono ?_); (case side1 => repeat (exact (bM HO_612000.out).2.2)); (case side2 => exact (bM HO_612000.out).2.1); (case side3 => repeat (exact (bM HO_612001.out).2.2)); (case side4 => exact (bM HO_612001.out).2.1); rintro e w70 ⟨rfl, hb⟩; refine ⟨_, rfl, ?_⟩; replace HB := aM (aE HB.out hb); (try clear hb)))
       go_ret2
       exact ⟨by first | rfl | (simp [*, errW_none, errW_some] <;> rfl), HB.out⟩


def spec_MakeEither.f (k : Nat) (a0 : ByteArray) (a1 : ByteArray) : Option (ByteArray × Bool) := (spec_l2Two.f k a0 a1 14).bind fun bt624 => (some (bt624.1, bt624.2))
set_option maxHeartbeats 8000000 in
set_option maxRecDepth 100000 in
theorem spec_MakeEither.calls (k : Nat) (a0 : ByteArray) (a1 : ByteArray) (r1 : ByteArray) (r2 : Bool) (w : World) (h : spec_MakeEither.f k a0 a1 = some (r1, r2)) :
  Calls Try.prog 56 #[.string a0, .string a1] w fun e w' => e = .returned (.tuple #[.string r1, .bool r2]) ∧ Below w.heap.size w w' := by
 have HB := aM (cE w.heap.size w)
 have H : ((spec_l2Two.f k a0 a1 14).bind fun bt624 => (some (bt624.1, bt624.2))) = some (r1, r2) := h
 clear h
 replace H := Option.bind_eq_some_iff.mp H
 obtain ⟨⟨t624, t625⟩, A30, H⟩ := H
 replace H : (some (t624, t625)) = some (r1, r2) := H
 have A3 := aM A30
 clear A30
 simp only [aV, aW] at H
 obtain ⟨rfl, rfl⟩ := H
 go_enter Try.func56, Try.ntmps56
 go_wp2_with (first | ((with_reducible refine aY (f := 76) rfl ?_); refine gL 8 Try.func76 #[.string a0, .string a1, .int .i64 14] ?_; (with_reducible refine (spec_l2Two.calls k a0 a1 14 t624 t625 _ A3.out).mono ?_); rintro e w4 ⟨rfl, hb⟩; refine ⟨_, rfl, ?_⟩; replace HB := aM (aE HB.out hb); (try clear hb)))
 go_ret2
 exact ⟨by first | rfl | (simp [*, errW_none, errW_some] <;> rfl), HB.out⟩


def spec_MakeBoth.f (k : Nat) (a0 : ByteArray) (a1 : ByteArray) : Option (ByteArray × Bool) := (spec_l2Two.f k a0 a1 8).bind fun bt626 => (some (bt626.1, bt626.2))
set_option maxHeartbeats 8000000 in
set_option maxRecDepth 100000 in
theorem spec_MakeBoth.calls (k : Nat) (a0 : ByteArray) (a1 : ByteArray) (r1 : ByteArray) (r2 : Bool) (w : World) (h : spec_MakeBoth.f k a0 a1 = some (r1, r2)) :
  Calls Try.prog 58 #[.string a0, .string a1] w fun e w' => e = .returned (.tuple #[.string r1, .bool r2]) ∧ Below w.heap.size w w' := by
 have HB := aM (cE w.heap.size w)
 have H : ((spec_l2Two.f k a0 a1 8).bind fun bt626 => (some (bt626.1, bt626.2))) = some (r1, r2) := h
 clear h
 replace H := Option.bind_eq_some_iff.mp H
 obtain ⟨⟨t626, t627⟩, A30, H⟩ := H
 replace H : (some (t626, t627)) = some (r1, r2) := H
 have A3 := aM A30
 clear A30
 simp only [aV, aW] at H
 obtain ⟨rfl, rfl⟩ := H
 go_enter Try.func58, Try.ntmps58
 go_wp2_with (first | ((with_reducible refine aY (f := 76) rfl ?_); refine gL 8 Try.func76 #[.string a0, .string a1, .int .i64 8] ?_; (with_reducible refine (spec_l2Two.calls k a0 a1 8 t626 t627 _ A3.out).mono ?_); rintro e w4 ⟨rfl, hb⟩; refine ⟨_, rfl, ?_⟩; replace HB := aM (aE HB.out hb); (try clear hb)))
 go_ret2
 exact ⟨by first | rfl | (simp [*, errW_none, errW_some] <;> rfl), HB.out⟩

end Go.Proofs.Ytedhckahjinieaa.Q
