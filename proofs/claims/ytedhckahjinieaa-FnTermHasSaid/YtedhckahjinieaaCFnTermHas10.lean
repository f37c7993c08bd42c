/- A term has what its set has; no condition beyond the statement's own. -/
import Derived.LoopN
import Derived.Test.YtedhckahjinieaaCFnTermHas8
import Derived.Test.YtedhckahjinieaaCFnTermHas9
namespace Go.Proofs.Ytedhckahjinieaa.Q
open Go.RowKit Go.Proofs.YtedhckahjinieaaW.PrintWords Go.Proofs.YtedhckahjinieaaW.PrintLast Go.Proofs.YtedhckahjinieaaW.PrintMore
attribute [local go_sem] max2_int max_two
set_option linter.unusedVariables false
set_option linter.unusedSimpArgs false
theorem impl_SumOf.lit (k : Nat) (B1 B2 : Nat) (A0 : Option Addr) (c0 : Nat) (l0 : List Bool) (A1 : Option Addr) (c1 : Nat) (l1 : List Bool) (A2 : Option Addr) (c2 : Nat) (l2 : List Bool) (A3 : Option Addr) (c3 : Nat) (l3 : List Bool) (n : Int) (b : Bool) (W : World)
  (h1 : W.heap[B1]? = some (.cells #[.slice A0 l0.length c0, .slice A1 l1.length c1] 56 (0, 0))) (h2 : W.heap[B2]? = some (.cells #[.slice A2 l2.length c2, .slice A3 l3.length c3] 56 (0, 0)))
  (r0 : Kd.C Kd.bool W A0 l0.length l0) (q0 : l0.length ≤ c0) (r1 : Kd.C Kd.bool W A1 l1.length l1) (q1 : l1.length ≤ c1) (r2 : Kd.C Kd.bool W A2 l2.length l2) (q2 : l2.length ≤ c2) (r3 : Kd.C Kd.bool W A3 l3.length l3) (q3 : l3.length ≤ c3) (h : impl_sums.f k l0 l1 l2 l3 n = some b) :
  Calls Try.prog 69 #[.int .i64 n, .pointer (some ⟨B1, 0, none⟩), .pointer (some ⟨B2, 0, none⟩)] W fun e W' => e = .returned (.bool b) ∧ Below W.heap.size W W' := by
 have c10 : W.cell? ⟨B1, 0, none⟩ = some (.slice A0 l0.length c0) := (aA h1 0).trans rfl
 have c11 : W.cell? ⟨B1, 1, none⟩ = some (.slice A1 l1.length c1) := (aA h1 1).trans rfl
 have c20 : W.cell? ⟨B2, 0, none⟩ = some (.slice A2 l2.length c2) := (aA h2 0).trans rfl
 have c21 : W.cell? ⟨B2, 1, none⟩ = some (.slice A3 l3.length c3) := (aA h2 1).trans rfl
 have C := impl_sums.calls k A0 c0 l0 A1 c1 l1 A2 c2 l2 A3 c3 l3 n b W r0 q0 r1 q1 r2 q2 r3 q3 h
 clear h1 h2 r0 r1 r2 r3 q0 q1 q2 q3 h
 go_enter Try.func69, Try.ntmps69
 go_wp2_with (go_at_call 70; refine C.mono ?_; rintro e w' ⟨rfl, hb⟩)
 go_ret
 exact ⟨rfl, hb⟩
def impl_SumOf.j0 : Nat → Bool → List Bool → List Bool → List Bool → List Bool → Option (ByteArray × Bool)
 | 0, _, _, _, _, _ => none
 | k + 1, x25, x346000, x346001, x354000, x354001 => if x25 = true then (some ((⟨#[]⟩ : ByteArray), false)) else ((impl_lcm.f k (x346001.length : Int) (x354001.length : Int)).bind fun t354 => ((impl_made.f k 200 t354 (fun n_ => impl_sums.f k x346000 x346001 x354000 x354001 n_)).bind fun bt355 => (some (bt355.1, bt355.2))))
def impl_SumOf.f (k : Nat) (a0 : ByteArray) (a1 : ByteArray) : Option (ByteArray × Bool) := (impl_small.f k a0).bind fun bt338 => ((impl_small.f k a1).bind fun bt346 => (if bt338.2.2 = true then (impl_SumOf.j0 k (!bt346.2.2) bt338.1 bt338.2.1 bt346.1 bt346.2.1) else (impl_SumOf.j0 k true bt338.1 bt338.2.1 bt346.1 bt346.2.1)))
set_option maxHeartbeats 8000000 in
set_option maxRecDepth 100000 in
theorem impl_SumOf.calls (k : Nat) (a0 : ByteArray) (a1 : ByteArray) (r1 : ByteArray) (r2 : Bool) (w : World) (h : impl_SumOf.f k a0 a1 = some (r1, r2)) :
  Calls Try.prog 48 #[.string a0, .string a1] w fun e w' => e = .returned (.tuple #[.string r1, .bool r2]) ∧ Below w.heap.size w w' := by
 have HB := aM (cE w.heap.size w)
 have H : ((impl_small.f k a0).bind fun bt338 => ((impl_small.f k a1).bind fun bt346 => (if bt338.2.2 = true then (impl_SumOf.j0 k (!bt346.2.2) bt338.1 bt338.2.1 bt346.1 bt346.2.1) else (impl_SumOf.j0 k true bt338.1 bt338.2.1 bt346.1 bt346.2.1)))) = some (r1, r2) := h
 clear h
 replace H := Option.bind_eq_some_iff.mp H
 obtain ⟨⟨t338, t341, t344⟩, A30, H⟩ := H
 replace H : ((impl_small.f k a1).bind fun bt346 => (if t344 = true then (impl_SumOf.j0 k (!bt346.2.2) t338 t341 bt346.1 bt346.2.1) else (impl_SumOf.j0 k true t338 t341 bt346.1 bt346.2.1))) = some (r1, r2) := H
 have A3 := aM A30
 clear A30
 replace H := Option.bind_eq_some_iff.mp H
 obtain ⟨⟨t346, t349, t352⟩, A40, H⟩ := H
 replace H : (if t344 = true then (impl_SumOf.j0 k (!t352) t338 t341 t346 t349) else (impl_SumOf.j0 k true t338 t341 t346 t349)) = some (r1, r2) := H
 have A4 := aM A40
 clear A40
 have HC5 := aM H
 clear H
 go_enter Try.func48, Try.ntmps48
 go_upto_region 3 with (first | ((with_reducible refine aY (f := 66) rfl ?_); refine gL 12 Try.func66 #[.string a0] ?_; (with_reducible refine (impl_small.calls k a0 t338 t341 t344 _ A3.out).mono ?_); rintro e w6 ⟨v339, v342, rfl, ho0, ho1, hb⟩; refine ⟨_, rfl, ?_⟩; have HO340 := aM (bP ho0 (aG HB.out)); have HO343 := aM (bP ho1 (aG HB.out)); replace HB := aM (aE HB.out hb); (try clear hb); (try clear ho0); (try clear ho1)) | ((with_reducible refine aZ (N := 6) rfl ?_); refine bB ?hg (N := 6) ?hd (cs := #[.slice none 0 0, .slice none 0 0]) (t := 56) ?hr ?_; (case hd => rfl); (case hg => rfl); (case hr => first | (go_simp; done)); intro gb345 hg w7 hbox hb; replace HO340 := aM (bG HO340.out hb); replace HO343 := aM (bG HO343.out hb); have BK345 := aM hbox; have GE345 := aM ((by rw [hg]; exact (aG HB.out) : w.heap.size ≤ gb345)); replace HB := aM (aE HB.out hb); clear hb hbox hg; obtain ⟨Ao8, co8, eo8⟩ := bL HO340.out; subst eo8; have hcz9_0 : w7.cell? ⟨gb345, 0, none⟩ = some (.slice none 0 0) := (aA BK345.out 0).trans rfl; have hcz9_1 : w7.cell? ⟨gb345, 1, none⟩ = some (.slice none 0 0) := (aA BK345.out 1).trans rfl; have hfz9_0 := aC BK345.out 0; have hfz9_1 := aC BK345.out 1; obtain ⟨Ao10, co10, eo10⟩ := bL HO343.out; subst eo10) | ((with_reducible refine aY (f := 66) rfl ?_); refine gL 17 Try.func66 #[.string a1] ?_; (with_reducible refine (impl_small.calls k a1 t346 t349 t352 _ A4.out).mono ?_); rintro e w11 ⟨v347, v350, rfl, ho0, ho1, hb⟩; refine ⟨_, rfl, ?_⟩; have HO348 := aM (bP (Kd.R_new' (Kd.R_new' ho0 (Kd.R_lt (by exact (bJ (bC (p := ⟨gb345, 1, none⟩) (bC (p := ⟨gb345, 0, none⟩) (bE HO340.out BK345.out (by decide)) (fun _ hk => hk.2) (.slice Ao8 t338.length co8)) (fun _ hk => hk.2) (.slice Ao10 t341.length co10)) (fun _ h_ => h_.1))))) (Kd.R_lt (by exact (bJ (bC (p := ⟨gb345, 1, none⟩) (bC (p := ⟨gb345, 0, none⟩) (bE HO343.out BK345.out (by decide)) (fun _ hk => hk.2) (.slice Ao8 t338.length co8)) (fun _ hk => hk.2) (.slice Ao10 t341.length co10)) (fun _ h_ => h_.1))))) (aG (by repeat (first | (with_reducible first | exact HB.out | refine bS ?_ GE345.out))))); have HO351 := aM (bP (Kd.R_new' (Kd.R_new' ho1 (Kd.R_lt (by exact (bJ (bC (p := ⟨gb345, 1, none⟩) (bC (p := ⟨gb345, 0, none⟩) (bE HO340.out BK345.out (by decide)) (fun _ hk => hk.2) (.slice Ao8 t338.length co8)) (fun _ hk => hk.2) (.slice Ao10 t341.length co10)) (fun _ h_ => h_.1))))) (Kd.R_lt (by exact (bJ (bC (p := ⟨gb345, 1, none⟩) (bC (p := ⟨gb345, 0, none⟩) (bE HO343.out BK345.out (by decide)) (fun _ hk => hk.2) (.slice Ao8 t338.length co8)) (fun _ hk => hk.2) (.slice Ao10 t341.length co10)) (fun _ h_ => h_.1))))) (aG (by repeat (first | (with_reducible first | exact HB.out | refine bS ?_ GE345.out))))); replace HO340 := aM (bJ (Kd.R_told (Kd.R_told (Kd.R_old (by exact (bJ (bC (p := ⟨gb345, 1, none⟩) (bC (p := ⟨gb345, 0, none⟩) (bE HO340.out BK345.out (by decide)) (fun _ hk => hk.2) (.slice Ao8 t338.length co8)) (fun _ hk => hk.2) (.slice Ao10 t341.length co10)) (fun _ h_ => h_.1))) hb) (Kd.R_base ho0)) (Kd.R_base ho1)) (fun _ h_ => h_.1)); replace HO343 := aM (bJ (Kd.R_told (Kd.R_told (Kd.R_old (by exact (bJ (bC (p := ⟨gb345, 1, none⟩) (bC (p := ⟨gb345, 0, none⟩) (bE HO343.out BK345.out (by decide)) (fun _ hk => hk.2) (.slice Ao8 t338.length co8)) (fun _ hk => hk.2) (.slice Ao10 t341.length co10)) (fun _ h_ => h_.1))) hb) (Kd.R_base ho0)) (Kd.R_base ho1)) (fun _ h_ => h_.1)); replace BK345 := aM (aD (g := gb345) (o := .cells #[.slice Ao8 t338.length co8, .slice Ao10 t341.length co10] 56 (0, 0)) (by refine bV (cs := #[.slice Ao8 t338.length co8, .slice none 0 0]) ?_ 1 _ rfl; refine bV (cs := #[.slice none 0 0, .slice none 0 0]) ?_ 0 _ rfl; exact BK345.out) hb); replace HB := aM (aE (by repeat (first | (with_reducible first | exact HB.out | refine bS ?_ GE345.out))) hb); (try clear hb); (try clear ho0); (try clear ho1)) | ((with_reducible refine aZ (N := 8) rfl ?_); refine bB ?hg (N := 8) ?hd (cs := #[.slice none 0 0, .slice none 0 0]) (t := 56) ?hr ?_; (case hd => rfl); (case hg => rfl); (case hr => first | (go_simp; done)); intro gb353 hg w12 hbox hb; replace HO340 := aM (bG HO340.out hb); replace HO343 := aM (bG HO343.out hb); replace HO348 := aM (bG HO348.out hb); replace HO351 := aM (bG HO351.out hb); have BK353 := aM hbox; have GE353 := aM ((by rw [hg]; exact (aG HB.out) : w.heap.size ≤ gb353)); replace HB := aM (aE HB.out hb); have NB345_353 := aM ((by rw [hg]; exact Nat.ne_of_lt (blk_lt (g := gb345) (o := .cells #[.slice Ao8 t338.length co8, .slice Ao10 t341.length co10] 56 (0, 0)) BK345.out) : gb345 ≠ gb353)); replace BK345 := aM (aD (g := gb345) (o := .cells #[.slice Ao8 t338.length co8, .slice Ao10 t341.length co10] 56 (0, 0)) BK345.out hb); clear hb hbox hg; obtain ⟨Ao13, co13, eo13⟩ := bL HO348.out; subst eo13; have hcz15_0 : w12.cell? ⟨gb353, 0, none⟩ = some (.slice none 0 0) := (aA BK353.out 0).trans rfl; have hcz15_1 : w12.cell? ⟨gb353, 1, none⟩ = some (.slice none 0 0) := (aA BK353.out 1).trans rfl; have hfz15_0 := aC BK353.out 0; have hfz15_1 := aC BK353.out 1; obtain ⟨Ao16, co16, eo16⟩ := bL HO351.out; subst eo16))
 go_cut [25] (fun v25 wc => ∃ (kq : Nat) (x25_4 : Bool), v25 = .bool x25_4 ∧ Aside0 (impl_SumOf.j0 kq x25_4 t338 t341 t346 t349 = some (r1, r2)) ∧ Aside0 (kq ≤ k) ∧ Aside0 (Kd.R Kd.bool 4 wc w.heap.size (fun k_ => some k_ ≠ ((.slice Ao10 t341.length co10) : Value).ownBlock ∧ some k_ ≠ ((.slice Ao13 t346.length co13) : Value).ownBlock ∧ some k_ ≠ ((.slice Ao16 t349.length co16) : Value).ownBlock) (.slice Ao8 t338.length co8) t338) ∧ Aside0 (Kd.R Kd.bool 4 wc w.heap.size (fun k_ => some k_ ≠ ((.slice Ao8 t338.length co8) : Value).ownBlock ∧ some k_ ≠ ((.slice Ao13 t346.length co13) : Value).ownBlock ∧ some k_ ≠ ((.slice Ao16 t349.length co16) : Value).ownBlock) (.slice Ao10 t341.length co10) t341) ∧ Aside0 (Kd.R Kd.bool 4 wc w.heap.size (fun k_ => some k_ ≠ ((.slice Ao8 t338.length co8) : Value).ownBlock ∧ some k_ ≠ ((.slice Ao10 t341.length co10) : Value).ownBlock ∧ some k_ ≠ ((.slice Ao16 t349.length co16) : Value).ownBlock) (.slice Ao13 t346.length co13) t346) ∧ Aside0 (Kd.R Kd.bool 4 wc w.heap.size (fun k_ => some k_ ≠ ((.slice Ao8 t338.length co8) : Value).ownBlock ∧ some k_ ≠ ((.slice Ao10 t341.length co10) : Value).ownBlock ∧ some k_ ≠ ((.slice Ao13 t346.length co13) : Value).ownBlock) (.slice Ao16 t349.length co16) t349) ∧ Aside0 (wc.heap[gb345]? = some (.cells #[(.slice Ao8 t338.length co8), (.slice Ao10 t341.length co10)] 56 (0, 0))) ∧ Aside0 (wc.heap[gb353]? = some (.cells #[(.slice Ao13 t346.length co13), (.slice Ao16 t349.length co16)] 56 (0, 0))) ∧ Aside0 (Below w.heap.size w wc))
 case first =>
  have H := HC5.out
  clear HC5
  by_cases c17 : t344 = true
  ·subst c17
   replace H : (impl_SumOf.j0 k (!t352) t338 t341 t346 t349) = some (r1, r2) := by rw [if_pos rfl] at H; exact H
   have H' := aM H
   clear H
   go_wp2
   go_meet
   case rel => exact ⟨_, (!t352), (by rfl), H', ⟨by omega⟩, ⟨by exact bJ (bC (p := ⟨gb353, 1, none⟩) (bC (p := ⟨gb353, 0, none⟩) (bE HO340.out BK353.out (by decide)) (fun _ hk => hk.2) (.slice Ao13 t346.length co13)) (fun _ hk => hk.2) (.slice Ao16 t349.length co16)) (fun _ hk => ⟨hk.1.1.1, ⟨hk.1.1.2, hk.1.2⟩⟩)⟩, ⟨by exact bJ (bC (p := ⟨gb353, 1, none⟩) (bC (p := ⟨gb353, 0, none⟩) (bE HO343.out BK353.out (by decide)) (fun _ hk => hk.2) (.slice Ao13 t346.length co13)) (fun _ hk => hk.2) (.slice Ao16 t349.length co16)) (fun _ hk => ⟨hk.1.1.1, ⟨hk.1.1.2, hk.1.2⟩⟩)⟩, ⟨by exact bJ (bC (p := ⟨gb353, 1, none⟩) (bC (p := ⟨gb353, 0, none⟩) (bE HO348.out BK353.out (by decide)) (fun _ hk => hk.2) (.slice Ao13 t346.length co13)) (fun _ hk => hk.2) (.slice Ao16 t349.length co16)) (fun _ hk => ⟨hk.1.1.2, ⟨hk.1.2, hk.1.1.1⟩⟩)⟩, ⟨by exact bJ (bC (p := ⟨gb353, 1, none⟩) (bC (p := ⟨gb353, 0, none⟩) (bE HO351.out BK353.out (by decide)) (fun _ hk => hk.2) (.slice Ao13 t346.length co13)) (fun _ hk => hk.2) (.slice Ao16 t349.length co16)) (fun _ hk => ⟨hk.1.1.2, ⟨hk.1.2, hk.1.1.1⟩⟩)⟩, ⟨by refine cL ?_ NB345_353.out _; refine cL ?_ NB345_353.out _; exact BK345.out⟩, ⟨by refine bV (cs := #[.slice Ao13 t346.length co13, .slice none 0 0]) ?_ 1 _ rfl; refine bV (cs := #[.slice none 0 0, .slice none 0 0]) ?_ 0 _ rfl; exact BK353.out⟩, ⟨by repeat (first | (with_reducible first | exact HB.out | refine bS ?_ GE353.out))⟩⟩
  ·replace c17 := Bool.eq_false_iff.mpr c17
   subst c17
   replace H : (impl_SumOf.j0 k true t338 t341 t346 t349) = some (r1, r2) := by rw [if_neg (show ¬ (false = true) by decide)] at H; exact H
   have H' := aM H
   clear H
   go_wp2
   go_meet
   case rel => exact ⟨_, (true), (by rfl), H', ⟨by omega⟩, ⟨by exact bJ (bC (p := ⟨gb353, 1, none⟩) (bC (p := ⟨gb353, 0, none⟩) (bE HO340.out BK353.out (by decide)) (fun _ hk => hk.2) (.slice Ao13 t346.length co13)) (fun _ hk => hk.2) (.slice Ao16 t349.length co16)) (fun _ hk => ⟨hk.1.1.1, ⟨hk.1.1.2, hk.1.2⟩⟩)⟩, ⟨by exact bJ (bC (p := ⟨gb353, 1, none⟩) (bC (p := ⟨gb353, 0, none⟩) (bE HO343.out BK353.out (by decide)) (fun _ hk => hk.2) (.slice Ao13 t346.length co13)) (fun _ hk => hk.2) (.slice Ao16 t349.length co16)) (fun _ hk => ⟨hk.1.1.1, ⟨hk.1.1.2, hk.1.2⟩⟩)⟩, ⟨by exact bJ (bC (p := ⟨gb353, 1, none⟩) (bC (p := ⟨gb353, 0, none⟩) (bE HO348.out BK353.out (by decide)) (fun _ hk => hk.2) (.slice Ao13 t346.length co13)) (fun _ hk => hk.2) (.slice Ao16 t349.length co16)) (fun _ hk => ⟨hk.1.1.2, ⟨hk.1.2, hk.1.1.1⟩⟩)⟩, ⟨by exact bJ (bC (p := ⟨gb353, 1, none⟩) (bC (p := ⟨gb353, 0, none⟩) (bE HO351.out BK353.out (by decide)) (fun _ hk => hk.2) (.slice Ao13 t346.length co13)) (fun _ hk => hk.2) (.slice Ao16 t349.length co16)) (fun _ hk => ⟨hk.1.1.2, ⟨hk.1.2, hk.1.1.1⟩⟩)⟩, ⟨by refine cL ?_ NB345_353.out _; refine cL ?_ NB345_353.out _; exact BK345.out⟩, ⟨by refine bV (cs := #[.slice Ao13 t346.length co13, .slice none 0 0]) ?_ 1 _ rfl; refine bV (cs := #[.slice none 0 0, .slice none 0 0]) ?_ 0 _ rfl; exact BK353.out⟩, ⟨by repeat (first | (with_reducible first | exact HB.out | refine bS ?_ GE353.out))⟩⟩
 case rest =>
  clear HC5
  try clear hcz15_0
  try clear hcz15_1
  try clear hcz9_0
  try clear hcz9_1
  try clear hfz15_0
  try clear hfz15_1
  try clear hfz9_0
  try clear hfz9_1
  obtain ⟨kq, x25_4, rfl, HA, HJ4, HO_346000, HO_346001, HO_354000, HO_354001, BK345, BK353, HB⟩ := hcut
  cases kq with
  | zero => exact absurd HA.out (by simp [impl_SumOf.j0])
  | succ kj4 =>
   have H := HA.out
   clear HA
   simp only [impl_SumOf.j0] at H
   by_cases c18 : x25_4 = true
   ·subst c18
    replace H : (some ((⟨#[]⟩ : ByteArray), false)) = some (r1, r2) := by rw [if_pos rfl] at H; exact H
    simp only [aV, aW] at H
    obtain ⟨rfl, rfl⟩ := H
    go_wp2
    go_ret2
    exact ⟨by first | rfl | (simp [*, errW_none, errW_some] <;> rfl), HB.out⟩
   ·replace c18 := Bool.eq_false_iff.mpr c18
    subst c18
    replace H : ((impl_lcm.f kj4 (t341.length : Int) (t349.length : Int)).bind fun t354 => ((impl_made.f kj4 200 t354 (fun n_ => impl_sums.f kj4 t338 t341 t346 t349 n_)).bind fun bt355 => (some (bt355.1, bt355.2)))) = some (r1, r2) := by rw [if_neg (show ¬ (false = true) by decide)] at H; exact H
    replace H := Option.bind_eq_some_iff.mp H
    obtain ⟨t354, A190, H⟩ := H
    replace H : ((impl_made.f kj4 200 t354 (fun n_ => impl_sums.f kj4 t338 t341 t346 t349 n_)).bind fun bt355 => (some (bt355.1, bt355.2))) = some (r1, r2) := H
    have A19 := aM A190
    clear A190
    replace H := Option.bind_eq_some_iff.mp H
    obtain ⟨⟨t355, t356⟩, A200, H⟩ := H
    replace H : (some (t355, t356)) = some (r1, r2) := H
    have A20 := aM A200
    clear A200
    simp only [aV, aW] at H
    obtain ⟨rfl, rfl⟩ := H
    have hcz22_1 : wc.cell? ⟨gb345, 1, none⟩ = some (.slice Ao10 t341.length co10) := (aA BK345.out 1).trans rfl
    have hcz23_1 : wc.cell? ⟨gb353, 1, none⟩ = some (.slice Ao16 t349.length co16) := (aA BK353.out 1).trans rfl
    go_wp2_with (first | ((with_reducible refine aY (f := 68) rfl ?_); refine gL 32 Try.func68 #[.int .i64 (t341.length : Int), .int .i64 (t349.length : Int)] ?_; (with_reducible refine (impl_lcm.calls kj4 (t341.length : Int) (t349.length : Int) t354 _ A19.out).mono ?_); rintro e w' ⟨rfl, ⟨nd, rfl⟩⟩; refine ⟨_, rfl, ?_⟩) | ((with_reducible refine aY (f := 67) rfl ?_); refine gL 34 Try.func67 #[.int .i64 200, .int .i64 t354, .func (.func 69) #[] #[.pointer (some ⟨gb345, 0, none⟩), .pointer (some ⟨gb353, 0, none⟩)]] ?_; refine (impl_made.calls kj4 200 t354 (fun n_ => impl_sums.f kj4 t338 t341 t346 t349 n_) 69 #[.pointer (some ⟨gb345, 0, none⟩), .pointer (some ⟨gb353, 0, none⟩)] t355 t356 _ (fun args_ w_ => enters_ Try.func69 (by kernel_rfl) rfl args_ w_) ?hpx A20.out).mono ?_; (case hpx => intro n_ b_ W_ hW_ hb_; refine impl_SumOf.lit kj4 gb345 gb353 Ao8 co8 t338 Ao10 co10 t341 Ao13 co13 t346 Ao16 co16 t349 n_ b_ W_ (aD (by (with_reducible repeat (refine kN ?_ _)); exact BK345.out) hW_) (aD (by (with_reducible repeat (refine kN ?_ _)); exact BK353.out) hW_) ?q0 ?q1 ?q2 ?q3 ?q4 ?q5 ?q6 ?q7 hb_; all_goals (first | exact bF (by repeat (first | exact (bM HO_346000.out).2.2 | exact (bM HO_346001.out).2.2 | exact (bM HO_354000.out).2.2 | exact (bM HO_354001.out).2.2)) hW_ | exact (bM HO_346000.out).2.1 | exact (bM HO_346001.out).2.1 | exact (bM HO_354000.out).2.1 | exact (bM HO_354001.out).2.1)); rintro e w24 ⟨rfl, hb⟩; refine ⟨_, rfl, ?_⟩; replace HB := aM (aE (by repeat (first | (with_reducible first | exact HB.out | apply bN))) hb); (try clear hb)))
    go_ret2
    exact ⟨by first | rfl | (simp [*, errW_none, errW_some] <;> rfl), HB.out⟩


def impl_MakeBoth.f (k : Nat) (a0 a1 : ByteArray) : Option (ByteArray × Bool) := impl_pair.f k a0 a1 (fun a b => a && b)
set_option maxHeartbeats 1000000 in
set_option maxRecDepth 100000 in
theorem impl_MakeBoth.two (w : World) : impl_pair.Two w 71 (fun a b => a && b) := by
 intro a b W hw
 clear hw
 cases a with
 | false =>
  go_enter Try.func71, Try.ntmps71
  go_wp2
  go_ret
  exact ⟨rfl, cE _ _⟩
 | true =>
  go_enter Try.func71, Try.ntmps71
  go_wp2
  go_ret
  exact ⟨rfl, cE _ _⟩
set_option maxHeartbeats 1000000 in
set_option maxRecDepth 100000 in
theorem impl_MakeBoth.calls (k : Nat) (a0 : ByteArray) (a1 : ByteArray) (r1 : ByteArray) (r2 : Bool) (w : World) (h : impl_MakeBoth.f k a0 a1 = some (r1, r2)) :
  Calls Try.prog 49 #[.string a0, .string a1] w fun e w' => e = .returned (.tuple #[.string r1, .bool r2]) ∧ Below w.heap.size w w' := by
 have C := impl_pair.calls k a0 a1 71 _ r1 r2 w (fun args_ w_ => enters_ Try.func71 (by kernel_rfl) rfl args_ w_) (impl_MakeBoth.two w) h
 clear h
 go_enter Try.func49, Try.ntmps49
 go_wp2_with (go_at_call 64; refine C.mono ?_; rintro e w' ⟨rfl, hb⟩)
 go_ret2
 exact ⟨rfl, hb⟩

mutual
def impl_SumTimes.j0 : Nat → ByteArray → Int → Bool → Option (ByteArray × Bool)
 | 0, _, _, _ => none
 | k + 1, x0, x1, x21 => if x21 = true then (some ((⟨#[]⟩ : ByteArray), false)) else (impl_SumTimes.l0 k x0 (⟨#[49, 40, 48, 41]⟩ : ByteArray) x1 0)
def impl_SumTimes.l0 : Nat → ByteArray → ByteArray → Int → Int → Option (ByteArray × Bool)
 | 0, _, _, _, _ => none
 | k + 1, x0, x8, x22, x23 => if x23 < x22 then ((impl_SumOf.f k x8 x0).bind fun bt366 => (if bt366.2 = true then (impl_SumTimes.l0 k x0 bt366.1 x22 (wrap64 (x23 + 1))) else (some ((⟨#[]⟩ : ByteArray), false)))) else (some (x8, true))
end
def impl_SumTimes.f (k : Nat) (a0 : ByteArray) (a1 : Int) : Option (ByteArray × Bool) := (impl_small.f k a0).bind fun bt357 => (if bt357.2.2 = true then ((impl_in.f a1 0 6).bind fun t365 => (impl_SumTimes.j0 k a0 a1 (!t365))) else (impl_SumTimes.j0 k a0 a1 true))
set_option maxHeartbeats 8000000 in
set_option maxRecDepth 100000 in
theorem impl_SumTimes.calls (k : Nat) (a0 : ByteArray) (a1 : Int) (r1 : ByteArray) (r2 : Bool) (w : World) (h : impl_SumTimes.f k a0 a1 = some (r1, r2)) :
  Calls Try.prog 50 #[.string a0, .int .i64 a1] w fun e w' => e = .returned (.tuple #[.string r1, .bool r2]) ∧ Below w.heap.size w w' := by
 have HB := aM (cE w.heap.size w)
 have H : ((impl_small.f k a0).bind fun bt357 => (if bt357.2.2 = true then ((impl_in.f a1 0 6).bind fun t365 => (impl_SumTimes.j0 k a0 a1 (!t365))) else (impl_SumTimes.j0 k a0 a1 true))) = some (r1, r2) := h
 clear h
 replace H := Option.bind_eq_some_iff.mp H
 obtain ⟨⟨t357, t360, t363⟩, A30, H⟩ := H
 replace H : (if t363 = true then ((impl_in.f a1 0 6).bind fun t365 => (impl_SumTimes.j0 k a0 a1 (!t365))) else (impl_SumTimes.j0 k a0 a1 true)) = some (r1, r2) := H
 have A3 := aM A30
 clear A30
 have HC4 := aM H
 clear H
 go_enter Try.func50, Try.ntmps50
 go_upto_region 2 with (first | ((with_reducible refine aY (f := 66) rfl ?_); refine gL 12 Try.func66 #[.string a0] ?_; (with_reducible refine (impl_small.calls k a0 t357 t360 t363 _ A3.out).mono ?_); rintro e w5 ⟨v358, v361, rfl, ho0, ho1, hb⟩; refine ⟨_, rfl, ?_⟩; have HO359 := aM (bP ho0 (aG HB.out)); have HO362 := aM (bP ho1 (aG HB.out)); replace HB := aM (aE HB.out hb); (try clear hb); (try clear ho0); (try clear ho1)) | ((with_reducible refine aZ (N := 6) rfl ?_); refine bB ?hg (N := 6) ?hd (cs := #[.slice none 0 0, .slice none 0 0]) (t := 56) ?hr ?_; (case hd => rfl); (case hg => rfl); (case hr => first | (go_simp; done)); intro gb364 hg w6 hbox hb; replace HO359 := aM (bG HO359.out hb); replace HO362 := aM (bG HO362.out hb); have BK364 := aM hbox; have GE364 := aM ((by rw [hg]; exact (aG HB.out) : w.heap.size ≤ gb364)); replace HB := aM (aE HB.out hb); clear hb hbox hg; obtain ⟨Ao7, co7, eo7⟩ := bL HO359.out; subst eo7; have hcz8_0 : w6.cell? ⟨gb364, 0, none⟩ = some (.slice none 0 0) := (aA BK364.out 0).trans rfl; have hcz8_1 : w6.cell? ⟨gb364, 1, none⟩ = some (.slice none 0 0) := (aA BK364.out 1).trans rfl; have hfz8_0 := aC BK364.out 0; have hfz8_1 := aC BK364.out 1; obtain ⟨Ao9, co9, eo9⟩ := bL HO362.out; subst eo9))
 go_cut [21] (fun v21 wc => ∃ (kq : Nat) (x21_3 : Bool), v21 = .bool x21_3 ∧ Aside0 (impl_SumTimes.j0 kq a0 a1 x21_3 = some (r1, r2)) ∧ Aside0 (kq ≤ k) ∧ Aside0 (Kd.R Kd.bool 4 wc w.heap.size (fun k_ => some k_ ≠ ((.slice Ao9 t360.length co9) : Value).ownBlock) (.slice Ao7 t357.length co7) t357) ∧ Aside0 (Kd.R Kd.bool 4 wc w.heap.size (fun k_ => some k_ ≠ ((.slice Ao7 t357.length co7) : Value).ownBlock) (.slice Ao9 t360.length co9) t360) ∧ Aside0 (wc.heap[gb364]? = some (.cells #[(.slice Ao7 t357.length co7), (.slice Ao9 t360.length co9)] 56 (0, 0))) ∧ Aside0 (Below w.heap.size w wc))
 case first =>
  have H := HC4.out
  clear HC4
  by_cases c10 : t363 = true
  ·subst c10
   replace H : ((impl_in.f a1 0 6).bind fun t365 => (impl_SumTimes.j0 k a0 a1 (!t365))) = some (r1, r2) := by rw [if_pos rfl] at H; exact H
   replace H := Option.bind_eq_some_iff.mp H
   obtain ⟨t365, A110, H⟩ := H
   replace H : (impl_SumTimes.j0 k a0 a1 (!t365)) = some (r1, r2) := H
   have A11 := aM A110
   clear A110
   have H' := aM H
   clear H
   go_wp2_with (first | (go_at_call 26; (with_reducible refine (impl_in.calls a1 0 6 t365 _ A11.out).mono ?_); rintro e w' ⟨rfl, ⟨nd, rfl⟩⟩))
   go_meet
   case rel => exact ⟨_, (!t365), (by rfl), H', ⟨by omega⟩, ⟨by (with_reducible repeat (apply rN)); exact bJ (bC (p := ⟨gb364, 1, none⟩) (bC (p := ⟨gb364, 0, none⟩) (bE HO359.out BK364.out (by decide)) (fun _ hk => hk.2) (.slice Ao7 t357.length co7)) (fun _ hk => hk.2) (.slice Ao9 t360.length co9)) (fun _ hk => hk.1)⟩, ⟨by (with_reducible repeat (apply rN)); exact bJ (bC (p := ⟨gb364, 1, none⟩) (bC (p := ⟨gb364, 0, none⟩) (bE HO362.out BK364.out (by decide)) (fun _ hk => hk.2) (.slice Ao7 t357.length co7)) (fun _ hk => hk.2) (.slice Ao9 t360.length co9)) (fun _ hk => hk.1)⟩, ⟨by (with_reducible repeat (refine kN ?_ _)); refine bV (cs := #[.slice Ao7 t357.length co7, .slice none 0 0]) ?_ 1 _ rfl; refine bV (cs := #[.slice none 0 0, .slice none 0 0]) ?_ 0 _ rfl; exact BK364.out⟩, ⟨by repeat (first | (with_reducible first | exact HB.out | apply bN | refine bS ?_ GE364.out))⟩⟩
  ·replace c10 := Bool.eq_false_iff.mpr c10
   subst c10
   replace H : (impl_SumTimes.j0 k a0 a1 true) = some (r1, r2) := by rw [if_neg (show ¬ (false = true) by decide)] at H; exact H
   have H' := aM H
   clear H
   go_wp2
   go_meet
   case rel => exact ⟨_, (true), (by rfl), H', ⟨by omega⟩, ⟨by exact bJ (bC (p := ⟨gb364, 1, none⟩) (bC (p := ⟨gb364, 0, none⟩) (bE HO359.out BK364.out (by decide)) (fun _ hk => hk.2) (.slice Ao7 t357.length co7)) (fun _ hk => hk.2) (.slice Ao9 t360.length co9)) (fun _ hk => hk.1)⟩, ⟨by exact bJ (bC (p := ⟨gb364, 1, none⟩) (bC (p := ⟨gb364, 0, none⟩) (bE HO362.out BK364.out (by decide)) (fun _ hk => hk.2) (.slice Ao7 t357.length co7)) (fun _ hk => hk.2) (.slice Ao9 t360.length co9)) (fun _ hk => hk.1)⟩, ⟨by refine bV (cs := #[.slice Ao7 t357.length co7, .slice none 0 0]) ?_ 1 _ rfl; refine bV (cs := #[.slice none 0 0, .slice none 0 0]) ?_ 0 _ rfl; exact BK364.out⟩, ⟨by repeat (first | (with_reducible first | exact HB.out | refine bS ?_ GE364.out))⟩⟩
 case rest =>
  clear HC4
  try clear hcz8_0
  try clear hcz8_1
  try clear hfz8_0
  try clear hfz8_1
  obtain ⟨kq, x21_3, rfl, HA, HJ3, HO_365000, HO_365001, BK364, HB⟩ := hcut
  cases kq with
  | zero => exact absurd HA.out (by simp [impl_SumTimes.j0])
  | succ kj3 =>
   have H := HA.out
   clear HA
   simp only [impl_SumTimes.j0] at H
   by_cases c12 : x21_3 = true
   ·subst c12
    replace H : (some ((⟨#[]⟩ : ByteArray), false)) = some (r1, r2) := by rw [if_pos rfl] at H; exact H
    simp only [aV, aW] at H
    obtain ⟨rfl, rfl⟩ := H
    go_wp2
    go_ret2
    exact ⟨by first | rfl | (simp [*, errW_none, errW_some] <;> rfl), HB.out⟩
   ·replace c12 := Bool.eq_false_iff.mpr c12
    subst c12
    replace H : (impl_SumTimes.l0 kj3 a0 (⟨#[49, 40, 48, 41]⟩ : ByteArray) a1 0) = some (r1, r2) := by rw [if_neg (show ¬ (false = true) by decide)] at H; exact H
    have H' := aM H
    clear H
    go_wp2
    go_loopg [8, 23] kj3 (fun kq v8 v23 w' => ∃ (x8_2 : ByteArray) (x23_2 : Int), v8 = .string x8_2 ∧ v23 = .int .i64 x23_2 ∧ Aside0 (impl_SumTimes.l0 kq a0 x8_2 a1 x23_2 = some (r1, r2)) ∧ Aside0 (kq ≤ kj3) ∧ Aside0 (Kd.R Kd.bool 4 w' w.heap.size (fun k_ => some k_ ≠ ((.slice Ao9 t360.length co9) : Value).ownBlock) (.slice Ao7 t357.length co7) t357) ∧ Aside0 (Kd.R Kd.bool 4 w' w.heap.size (fun k_ => some k_ ≠ ((.slice Ao7 t357.length co7) : Value).ownBlock) (.slice Ao9 t360.length co9) t360) ∧ Aside0 (w'.heap[gb364]? = some (.cells #[(.slice Ao7 t357.length co7), (.slice Ao9 t360.length co9)] 56 (0, 0))) ∧ Aside0 (Below w.heap.size w w'))
    case atStart => exact ⟨((⟨#[49, 40, 48, 41]⟩ : ByteArray)), (0), (by rfl), (by rfl), H', ⟨cD _⟩, ⟨by exact HO_365000.out⟩, ⟨by exact HO_365001.out⟩, ⟨by exact BK364.out⟩, ⟨HB.out⟩⟩
    case round =>
     clear H'
     obtain ⟨x8_2, x23_2, rfl, rfl, HA, HK2, HO_365000, HO_365001, BK364, HB⟩ := hrel
     cases gk with
     | zero => exact absurd HA.out (by simp [impl_SumTimes.l0])
     | succ k2 =>
      have H := HA.out
      clear HA
      simp only [impl_SumTimes.l0] at H
      by_cases c13 : x23_2 < a1
      ·rw [if_pos c13] at H
       have c13b0 : decide (x23_2 < a1) = true := aH c13
       clear c13
       replace H := Option.bind_eq_some_iff.mp H
       obtain ⟨⟨t366, t367⟩, A140, H⟩ := H
       replace H : (if t367 = true then (impl_SumTimes.l0 k2 a0 t366 a1 (wrap64 (x23_2 + 1))) else (some ((⟨#[]⟩ : ByteArray), false))) = some (r1, r2) := H
       have A14 := aM A140
       clear A140
       by_cases c15 : t367 = true
       ·subst c15
        replace H : (impl_SumTimes.l0 k2 a0 t366 a1 (wrap64 (x23_2 + 1))) = some (r1, r2) := by rw [if_pos rfl] at H; exact H
        have H' := aM H
        clear H
        go_wp2_with (first | ((with_reducible refine aY (f := 48) rfl ?_); refine gL 28 Try.func48 #[.string x8_2, .string a0] ?_; (with_reducible refine (impl_SumOf.calls k2 x8_2 a0 t366 true _ A14.out).mono ?_); rintro e w16 ⟨rfl, hb⟩; refine ⟨_, rfl, ?_⟩; replace HO_365000 := aM (bG HO_365000.out hb); replace HO_365001 := aM (bG HO_365001.out hb); replace BK364 := aM (aD (g := gb364) (o := .cells #[.slice Ao7 t357.length co7, .slice Ao9 t360.length co9] 56 (0, 0)) BK364.out hb); replace HB := aM (aE HB.out hb); (try clear hb)))
        go_roundg k2
        case measure => have := HJ3.out; have := HK2.out; omega
        case rel => exact ⟨(t366), (wrap64 (x23_2 + 1)), (by rfl), (by rfl), H', ⟨by have := HJ3.out; have := HK2.out; omega⟩, ⟨by exact HO_365000.out⟩, ⟨by exact HO_365001.out⟩, ⟨by exact BK364.out⟩, ⟨HB.out⟩⟩
       ·replace c15 := Bool.eq_false_iff.mpr c15
        subst c15
        replace H : (some ((⟨#[]⟩ : ByteArray), false)) = some (r1, r2) := by rw [if_neg (show ¬ (false = true) by decide)] at H; exact H
        simp only [aV, aW] at H
        obtain ⟨rfl, rfl⟩ := H
        go_wp2_with (first | ((with_reducible refine aY (f := 48) rfl ?_); refine gL 28 Try.func48 #[.string x8_2, .string a0] ?_; (with_reducible refine (impl_SumOf.calls k2 x8_2 a0 t366 false _ A14.out).mono ?_); rintro e w17 ⟨rfl, hb⟩; refine ⟨_, rfl, ?_⟩; replace HB := aM (aE HB.out hb); (try clear hb)))
        go_ret2
        exact ⟨by first | rfl | (simp [*, errW_none, errW_some] <;> rfl), HB.out⟩
      ·rw [if_neg c13] at H
       have c13b0 : decide (x23_2 < a1) = false := aK c13
       clear c13
       simp only [aV, aW] at H
       obtain ⟨rfl, rfl⟩ := H
       go_wp2
       go_ret2
       exact ⟨by first | rfl | (simp [*, errW_none, errW_some] <;> rfl), HB.out⟩


/-- A term: a sign, a sign and a term, a sign and two terms. -/
inductive Tm where
 | leaf (c : Int)
 | un (c : Int) (a : Tm)
 | bin (c : Int) (a b : Tm)
/-- A term in memory, in blocks from lo on, below hi. -/
def Tm.At (w : World) (lo hi : Nat) : Tm → Value → Prop
 | .leaf c, v => ∃ g, lo ≤ g ∧ g < hi ∧ v = .pointer (some ⟨g, 0, none⟩) ∧ w.heap[g]? = some (.cells #[.int .u8 c, .slice none 0 0] 72 (0, 0))
 | .un c a, v => ∃ g h n cs x, lo ≤ g ∧ g < hi ∧ lo ≤ h ∧ h < hi ∧ v = .pointer (some ⟨g, 0, none⟩) ∧ w.heap[g]? = some (.cells #[.int .u8 c, .slice (some ⟨h, 0, none⟩) 1 n] 72 (0, 0)) ∧ w.heap[h]? = some (.cells cs 42 (0, 0)) ∧ cs[0]? = some x ∧ a.At w lo hi x
 | .bin c a b, v => ∃ g h n cs x y, lo ≤ g ∧ g < hi ∧ lo ≤ h ∧ h < hi ∧ v = .pointer (some ⟨g, 0, none⟩) ∧ w.heap[g]? = some (.cells #[.int .u8 c, .slice (some ⟨h, 0, none⟩) 2 n] 72 (0, 0)) ∧ w.heap[h]? = some (.cells cs 42 (0, 0)) ∧ cs[0]? = some x ∧ cs[1]? = some y ∧ a.At w lo hi x ∧ b.At w lo hi y
theorem Tm.At.keep {w w' : World} {lo hi : Nat} (hk : ∀ i, lo ≤ i → i < hi → w'.heap[i]? = w.heap[i]?) : ∀ {t : Tm} {v : Value}, t.At w lo hi v → t.At w' lo hi v := by
 intro t
 induction t with
 | leaf c => rintro v ⟨g, h1, h2, rfl, h3⟩; exact ⟨g, h1, h2, rfl, (hk g h1 h2).trans h3⟩
 | un c a ih => rintro v ⟨g, h, n, cs, x, h1, h2, h3, h4, rfl, h5, h6, h7, h8⟩; exact ⟨g, h, n, cs, x, h1, h2, h3, h4, rfl, (hk g h1 h2).trans h5, (hk h h3 h4).trans h6, h7, ih h8⟩
 | bin c a b ih1 ih2 => rintro v ⟨g, h, n, cs, x, y, h1, h2, h3, h4, rfl, h5, h6, h7, h8, h9, h10⟩; exact ⟨g, h, n, cs, x, y, h1, h2, h3, h4, rfl, (hk g h1 h2).trans h5, (hk h h3 h4).trans h6, h7, h8, ih1 h9, ih2 h10⟩
theorem Tm.At.below {w w' : World} {lo hi : Nat} (hb : Below w.heap.size w w') : ∀ {t : Tm} {v : Value}, t.At w lo hi v → t.At w' lo hi v := by
 intro t
 induction t with
 | leaf c => rintro v ⟨g, h1, h2, rfl, h3⟩; exact ⟨g, h1, h2, rfl, aD h3 hb⟩
 | un c a ih => rintro v ⟨g, h, n, cs, x, h1, h2, h3, h4, rfl, h5, h6, h7, h8⟩; exact ⟨g, h, n, cs, x, h1, h2, h3, h4, rfl, aD h5 hb, aD h6 hb, h7, ih h8⟩
 | bin c a b ih1 ih2 => rintro v ⟨g, h, n, cs, x, y, h1, h2, h3, h4, rfl, h5, h6, h7, h8, h9, h10⟩; exact ⟨g, h, n, cs, x, y, h1, h2, h3, h4, rfl, aD h5 hb, aD h6 hb, h7, h8, ih1 h9, ih2 h10⟩
theorem Tm.At.mono {w : World} {lo hi lo' hi' : Nat} (hl : lo' ≤ lo) (hh : hi ≤ hi') : ∀ {t : Tm} {v : Value}, t.At w lo hi v → t.At w lo' hi' v := by
 intro t
 induction t with
 | leaf c => rintro v ⟨g, h1, h2, rfl, h3⟩; exact ⟨g, by omega, by omega, rfl, h3⟩
 | un c a ih => rintro v ⟨g, h, n, cs, x, h1, h2, h3, h4, rfl, h5, h6, h7, h8⟩; exact ⟨g, h, n, cs, x, by omega, by omega, by omega, by omega, rfl, h5, h6, h7, ih h8⟩
 | bin c a b ih1 ih2 => rintro v ⟨g, h, n, cs, x, y, h1, h2, h3, h4, rfl, h5, h6, h7, h8, h9, h10⟩; exact ⟨g, h, n, cs, x, y, by omega, by omega, by omega, by omega, rfl, h5, h6, h7, h8, ih1 h9, ih2 h10⟩
theorem Tm.At.ptr {w : World} {lo hi : Nat} {t : Tm} {v : Value} (h : t.At w lo hi v) : ∃ g, lo ≤ g ∧ g < hi ∧ v = .pointer (some ⟨g, 0, none⟩) := by
 cases t with
 | leaf c => obtain ⟨g, h1, h2, h3, _⟩ := h; exact ⟨g, h1, h2, h3⟩
 | un c a => obtain ⟨g, _, _, _, _, h1, h2, _, _, h3, _⟩ := h; exact ⟨g, h1, h2, h3⟩
 | bin c a b => obtain ⟨g, _, _, _, _, _, h1, h2, _, _, h3, _⟩ := h; exact ⟨g, h1, h2, h3⟩
/-- What is taken from the beginning of a text: a term, and what is left. -/
def Tm.parse : Nat → ByteArray → Option (Tm × ByteArray)
 | 0, _ => none
 | n + 1, s =>
  if s.size = 0 then none
  else if bt s 0 = 48 ∨ bt s 0 = 49 ∨ bt s 0 = 97 then some (.leaf (bt s 0), s.extract 1 s.size)
  else if bt s 0 = 42 ∨ (50 ≤ bt s 0 ∧ bt s 0 ≤ 53) then (Tm.parse n (s.extract 1 s.size)).bind fun x => some (.un (bt s 0) x.1, x.2)
  else if bt s 0 = 40 then (Tm.parse n (s.extract 1 s.size)).bind fun x => if x.2.size = 0 then none else if bt x.2 0 = 43 ∨ bt x.2 0 = 46 ∨ bt x.2 0 = 38 then
    (Tm.parse n (x.2.extract 1 x.2.size)).bind fun y => if y.2.size = 0 then none else if bt y.2 0 = 41 then some (.bin (bt x.2 0) x.1 y.1, y.2.extract 1 y.2.size) else none
   else none
  else none
theorem impl_parse.isEmpty (s : ByteArray) : s.toList.isEmpty = decide (s.size = 0) := by
 rw [Lib.toList_data, show s.size = s.data.toList.length from Array.length_toList.symm]
 cases s.data.toList <;> simp
set_option maxHeartbeats 2000000 in
set_option maxRecDepth 100000 in
theorem impl_parse.empty (s : ByteArray) (w : World) (h : s.size = 0) : Calls Try.prog 39 #[.string s] w fun e w' => e = .returned (.tuple #[.pointer none, .string ⟨#[]⟩]) ∧ Below w.heap.size w w' := by
 have h0 : s.toList.isEmpty = true := by rw [impl_parse.isEmpty, aH h]
 go_enter Try.func39, Try.ntmps39
 go_wp2
 go_ret2
 exact ⟨rfl, cE _ _⟩
set_option maxHeartbeats 2000000 in
set_option maxRecDepth 100000 in
theorem impl_parse.leaf (s : ByteArray) (w : World) (h : ¬ s.size = 0) (c : Int) (hc : bt s 0 = c) (hs : c = 48 ∨ c = 49 ∨ c = 97) : Calls Try.prog 39 #[.string s] w fun e w' => ∃ v, e = .returned (.tuple #[v, .string (s.extract 1 s.size)]) ∧ (Tm.leaf c).At w' w.heap.size w'.heap.size v ∧ Below w.heap.size w w' := by
 have h0 : s.toList.isEmpty = false := by rw [impl_parse.isEmpty, aK h]
 have hsz : 0 < s.size := by omega
 have hx : ∀ h : 0 < s.size, ((s[0]'h).toNat : Int) = c := fun h' => by rw [← hc]; exact bt_at s 0 h'
 clear hc h
 rcases hs with rfl | rfl | rfl
 all_goals
  go_enter Try.func39, Try.ntmps39
  go_wp2
  go_region
  try go_wp2
  go_ret2
  exact ⟨_, rfl, ⟨w.heap.size, cD _, by simp, rfl, kD (blk_new w _)⟩, b1 (bA (cE _ _) _)⟩
/-- What no term begins with. -/
theorem impl_parse.bad (s : ByteArray) (w : World) (h : ¬ s.size = 0) (c : Int) (hc : bt s 0 = c) (hs : ¬ (c = 48 ∨ c = 49 ∨ c = 97)) (hs2 : ¬ (c = 42 ∨ (50 ≤ c ∧ c ≤ 53))) (hs3 : ¬ c = 40) : Calls Try.prog 39 #[.string s] w fun e w' => e = .returned (.tuple #[.pointer none, .string ⟨#[]⟩]) ∧ Below w.heap.size w w' := by
 have h0 : s.toList.isEmpty = false := by rw [impl_parse.isEmpty, aK h]
 have hsz : 0 < s.size := by omega
 have hr := bt_range s 0
 have hx : ∀ h : 0 < s.size, ((s[0]'h).toNat : Int) = c := fun h' => by rw [← hc]; exact bt_at s 0 h'
 have n1 : (c == 48) = false := beq_eq_false_iff_ne.mpr (by omega)
 have n2 : (c == 49) = false := beq_eq_false_iff_ne.mpr (by omega)
 have n3 : (c == 97) = false := beq_eq_false_iff_ne.mpr (by omega)
 have n4 : (c == 42) = false := beq_eq_false_iff_ne.mpr (by omega)
 have n5 : (c == 40) = false := beq_eq_false_iff_ne.mpr (by omega)
 have hw : wrap64 c = c := by unfold wrap64; omega
 have C := aM (fun W => impl_in.calls c 50 53 false W (by unfold impl_in.f; by_cases g : c ≥ 50 <;> simp [g] <;> omega))
 clear hc h hs hs2 hs3 hr
 go_enter Try.func39, Try.ntmps39
 go_wp2_with (go_at_call 26; refine (C.out _).mono ?_; rintro e w' ⟨rfl, hd⟩; have hb := aM (Drawn0.below hd); clear hd)
 go_ret2
 exact ⟨rfl, aE (bA (cE _ _) _) hb.out⟩
/-- A sign and no term. -/
theorem impl_parse.un_no (s : ByteArray) (w : World) (h : ¬ s.size = 0) (c : Int) (hc : bt s 0 = c) (hs : c = 42 ∨ (50 ≤ c ∧ c ≤ 53)) (ih : ∀ W, Calls Try.prog 39 #[.string (s.extract 1 s.size)] W fun e w' => e = .returned (.tuple #[.pointer none, .string ⟨#[]⟩]) ∧ Below W.heap.size W w') :
  Calls Try.prog 39 #[.string s] w fun e w' => e = .returned (.tuple #[.pointer none, .string ⟨#[]⟩]) ∧ Below w.heap.size w w' := by
 have h0 : s.toList.isEmpty = false := by rw [impl_parse.isEmpty, aK h]
 have hsz : 0 < s.size := by omega
 have hr := bt_range s 0
 have hx : ∀ h : 0 < s.size, ((s[0]'h).toNat : Int) = c := fun h' => by rw [← hc]; exact bt_at s 0 h'
 have n1 : (c == 48) = false := beq_eq_false_iff_ne.mpr (by omega)
 have n2 : (c == 49) = false := beq_eq_false_iff_ne.mpr (by omega)
 have n3 : (c == 97) = false := beq_eq_false_iff_ne.mpr (by omega)
 have hw : wrap64 c = c := by unfold wrap64; omega
 have IH := aM ih
 clear ih
 by_cases c42 : c = 42
 ·have n4 : (c == 42) = true := beq_iff_eq.mpr c42
  clear hc h hs hr c42
  go_enter Try.func39, Try.ntmps39
  go_wp2
  refine wp_loop_rounds 2 ?_
  rw [rounds_succ]
  go_wp2_with (go_at_call 39; refine (IH.out _).mono ?_; rintro e w' ⟨rfl, hd⟩; have hb := aM hd; clear hd)
  go_ret2
  exact ⟨rfl, aE (bA (cE _ _) _) hb.out⟩
 ·have n4 : (c == 42) = false := beq_eq_false_iff_ne.mpr c42
  have C := aM (fun W => impl_in.calls c 50 53 true W (by unfold impl_in.f; by_cases g : c ≥ 50 <;> simp [g] <;> omega))
  clear hc h hs hr c42
  go_enter Try.func39, Try.ntmps39
  go_wp2_with (go_at_call 26; refine (C.out _).mono ?_; rintro e w' ⟨rfl, hd⟩; have hb0 := aM (Drawn0.below hd); clear hd)
  refine wp_loop_rounds 2 ?_
  rw [rounds_succ]
  go_wp2_with (go_at_call 39; refine (IH.out _).mono ?_; rintro e w' ⟨rfl, hd⟩; have hb := aM hd; clear hd)
  go_ret2
  exact ⟨rfl, aE (aE (bA (cE _ _) _) hb0.out) hb.out⟩
def impl_parse.ptrK : Kd Nat := Kd.scalar (fun g : Nat => Value.pointer (some ⟨g, 0, none⟩)) (fun _ => rfl)
theorem impl_parse.infoP : (Try.prog.info? 42).map (fun i => (i.zero, i.size, i.bytes)) = some (some (.pointer none), 1, 8) := by kernel_rfl
/-- A row of pointers, cell by cell. -/
theorem impl_parse.row {w : World} {base : Nat} {ok : Nat → Prop} {v : Value} {xs : List Nat} (h : impl_parse.ptrK.R 42 w base ok v xs) (hp : 0 < xs.length) : ∃ h n cs, v = .slice (some ⟨h, 0, none⟩) xs.length n ∧ base ≤ h ∧ h < w.heap.size ∧ w.heap[h]? = some (.cells cs 42 (0, 0)) ∧ ∀ i, i < xs.length → cs[i]? = some (.pointer (some ⟨xs.getD i 0, 0, none⟩)) := by
 obtain ⟨g, cap, rfl, h1, h2, cells, h3⟩ := cQ h hp
 refine ⟨g, cap, cells, rfl, h1, h2, h3, fun i hi => ?_⟩
 obtain ⟨ad, c, e, _, hk, hc⟩ := Kd.C_get (bM h).2.2 (0 : Nat) (i : Int) (by omega) (by omega)
 obtain rfl := bU e
 have hk' : c = [Value.pointer (some ⟨xs.getD i 0, 0, none⟩)] := hk
 have := hc 0 (.pointer (some ⟨xs.getD i 0, 0, none⟩)) (by rw [hk']; rfl)
 rw [show ((i : Int).toNat * impl_parse.ptrK.sz + 0) = i by simp [impl_parse.ptrK, Kd.scalar], add_plain, aA h3] at this
 exact this
theorem impl_parse.row1 {w : World} {base : Nat} {ok : Nat → Prop} {v : Value} {p : Nat} (h : impl_parse.ptrK.R 42 w base ok v [p]) : ∃ h n cs, v = .slice (some ⟨h, 0, none⟩) 1 n ∧ base ≤ h ∧ h < w.heap.size ∧ w.heap[h]? = some (.cells cs 42 (0, 0)) ∧ cs[0]? = some (.pointer (some ⟨p, 0, none⟩)) := by
 obtain ⟨h, n, cs, h1, h2, h3, h4, h5⟩ := impl_parse.row h (by simp)
 exact ⟨h, n, cs, h1, h2, h3, h4, h5 0 (by simp)⟩
theorem impl_parse.row2 {w : World} {base : Nat} {ok : Nat → Prop} {v : Value} {p q : Nat} (h : impl_parse.ptrK.R 42 w base ok v [p, q]) : ∃ h n cs, v = .slice (some ⟨h, 0, none⟩) 2 n ∧ base ≤ h ∧ h < w.heap.size ∧ w.heap[h]? = some (.cells cs 42 (0, 0)) ∧ cs[0]? = some (.pointer (some ⟨p, 0, none⟩)) ∧ cs[1]? = some (.pointer (some ⟨q, 0, none⟩)) := by
 obtain ⟨h, n, cs, h1, h2, h3, h4, h5⟩ := impl_parse.row h (by simp)
 exact ⟨h, n, cs, h1, h2, h3, h4, h5 0 (by simp), h5 1 (by simp)⟩
theorem impl_parse.un_at {w w1 W : World} {g h n lo : Nat} {c : Int} {cs : Array Value} {a : Tm} {x : Value} (hg : g = w.heap.size) (HB : Below w.heap.size w w1) (hlo : g < lo) (HAT : a.At w1 lo w1.heap.size x) (HG : Below w1.heap.size w1 W)
  (BR : W.heap[g]? = some (.cells #[.int .u8 c, .slice none 0 0] 72 (0, 0))) (hb : w1.heap.size ≤ h) (RR : W.heap[h]? = some (.cells cs 42 (0, 0))) (RX : cs[0]? = some x) :
  (Tm.un c a).At (W.setCell ⟨g, 1, none⟩ (.slice (some ⟨h, 0, none⟩) 1 n)) w.heap.size (W.setCell ⟨g, 1, none⟩ (.slice (some ⟨h, 0, none⟩) 1 n)).heap.size (.pointer (some ⟨g, 0, none⟩)) ∧ Below w.heap.size w (W.setCell ⟨g, 1, none⟩ (.slice (some ⟨h, 0, none⟩) 1 n)) := by
 have s1 := HB.size
 have s2 := HG.size
 have l1 := blk_lt BR
 have l2 := blk_lt RR
 have far : ∀ i, i ≠ g → (W.setCell ⟨g, 1, none⟩ (.slice (some ⟨h, 0, none⟩) 1 n)).heap[i]? = W.heap[i]? := fun i hi => Below.heap_setCell W ⟨g, 1, none⟩ _ i hi
 have hs : (W.setCell ⟨g, 1, none⟩ (.slice (some ⟨h, 0, none⟩) 1 n)).heap.size = W.heap.size := by simp [World.setCell]
 have hat := HAT.keep (w' := W.setCell ⟨g, 1, none⟩ (.slice (some ⟨h, 0, none⟩) 1 n)) (fun i h1 h2 => (far i (by omega)).trans (HG.block i h2))
 by_cases hgl : g < w1.heap.size
 ·refine ⟨⟨g, h, n, cs, x, by omega, by omega, by omega, by omega, rfl, cM BR 1 _, (far h (by omega)).trans RR, RX, hat.mono (by omega) (by omega)⟩, (HB.trans ⟨HG.os, HG.tape, HG.output, HG.size, fun i hi => HG.block i (by omega)⟩).setCell (p := ⟨g, 1, none⟩) (by show w.heap.size ≤ g; omega) _⟩
 ·obtain ⟨p, p1, p2, _⟩ := HAT.ptr
  omega
set_option maxHeartbeats 4000000 in
set_option maxRecDepth 100000 in
theorem impl_parse.un_yes (s : ByteArray) (w : World) (h : ¬ s.size = 0) (c : Int) (hc : bt s 0 = c) (hs : c = 42 ∨ (50 ≤ c ∧ c ≤ 53)) (a : Tm) (r : ByteArray) (ih : ∀ W, Calls Try.prog 39 #[.string (s.extract 1 s.size)] W fun e w' => ∃ v, e = .returned (.tuple #[v, .string r]) ∧ a.At w' W.heap.size w'.heap.size v ∧ Below W.heap.size W w') :
  Calls Try.prog 39 #[.string s] w fun e w' => ∃ v, e = .returned (.tuple #[v, .string r]) ∧ (Tm.un c a).At w' w.heap.size w'.heap.size v ∧ Below w.heap.size w w' := by
 have h0 : s.toList.isEmpty = false := by rw [impl_parse.isEmpty, aK h]
 have hsz : 0 < s.size := by omega
 have hr := bt_range s 0
 have hx : ∀ h : 0 < s.size, ((s[0]'h).toNat : Int) = c := fun h' => by rw [← hc]; exact bt_at s 0 h'
 have n1 : (c == 48) = false := beq_eq_false_iff_ne.mpr (by omega)
 have n2 : (c == 49) = false := beq_eq_false_iff_ne.mpr (by omega)
 have n3 : (c == 97) = false := beq_eq_false_iff_ne.mpr (by omega)
 have hw : wrap64 c = c := by unfold wrap64; omega
 have IH := aM ih
 clear ih
 by_cases c42 : c = 42
 ·have n4 : (c == 42) = true := beq_iff_eq.mpr c42
  clear hc h hs hr c42
  go_enter Try.func39, Try.ntmps39
  go_wp2
  refine wp_loop_rounds 2 ?_
  rw [rounds_succ]
  go_wp2_with (first | (go_at_call 39; refine (IH.out _).mono ?_; rintro e w1 ⟨v1, rfl, hat, hb⟩; obtain ⟨p1, hp1, hq1, rfl⟩ := hat.ptr; have HAT1 := aM hat; have BT1 := aM (aD (blk_new w (.cells #[.int .u8 c, .slice none 0 0] 72)) hb); have HB1 := aM (aE (bA (cE _ w) (.cells #[.int .u8 c, .slice none 0 0] 72)) hb); have e11 := aA BT1.out 1; clear hat hb) | ((with_reducible refine gate_builtin (b := .append) (xs := #[.tmp 65, .tmp 67]) rfl ?_); at_builtin; refine Kd.R_append impl_parse.ptrK (w0 := w1) w1.heap.size rfl (.tmp 65) (.tmp 67) 70 42 (.pointer none) 8 rfl Try.underlying70 impl_parse.infoP rfl (by decide) (by omega) (.slice none 0 0) ([] : List Nat) p1 [.pointer (some ⟨p1, 0, none⟩)] (fun _ => True) (fun _ => False) rfl rfl ?aP (fun _ hk => hk.elim) ?aF ?aO ?aB ?aS ?aL ?_; (case aP => exact rfl); (case aB => exact (cE _ w1)); (case aF => exact (fun _ _ => trivial)); (case aO => exact (Kd.R_nil _ _ _ _ _)); (case aS => exact (cD _)); (case aL => simp); intro v1_ w1_ ho hb hg hat; obtain ⟨rh1, rn1, rc1, rfl, rb1, rl1, rr1, rx1⟩ := impl_parse.row1 ho; have RR1 := aM rr1; have RX1 := aM rx1; clear rr1 rx1; have HG1 := aM hb; have BR1 := aM (blk_grown BT1.out hg (by simp [Value.ownBlock])); have c11 := aA BR1.out 1; have d11 := aC BR1.out 1; clear ho hb hg hat))
  rw [rounds_succ]
  go_wp2
  go_ret2
  obtain ⟨k1, k2⟩ := impl_parse.un_at (n := rn1) rfl HB1.out (Nat.lt_of_lt_of_le (blk_lt (blk_new w (.cells #[.int .u8 c, .slice none 0 0] 72))) (cD _)) HAT1.out HG1.out BR1.out rb1 RR1.out RX1.out
  exact ⟨_, rfl, k1, k2⟩
 ·have n4 : (c == 42) = false := beq_eq_false_iff_ne.mpr c42
  have C := aM (fun W => impl_in.calls c 50 53 true W (by unfold impl_in.f; by_cases g : c ≥ 50 <;> simp [g] <;> omega))
  clear hc h hs hr c42
  go_enter Try.func39, Try.ntmps39
  go_wp2_with (go_at_call 26; refine (C.out _).mono ?_; rintro e wi ⟨rfl, hd⟩; have hb := Drawn0.below hd; have BT0 := aM (aD (blk_new w (.cells #[.int .u8 c, .slice none 0 0] 72)) hb); have HB0 := aM (aE (bA (cE _ w) (.cells #[.int .u8 c, .slice none 0 0] 72)) hb); clear hd hb)
  refine wp_loop_rounds 2 ?_
  rw [rounds_succ]
  go_wp2_with (first | (go_at_call 39; refine (IH.out _).mono ?_; rintro e w1 ⟨v1, rfl, hat, hb⟩; obtain ⟨p1, hp1, hq1, rfl⟩ := hat.ptr; have HAT1 := aM hat; have BT1 := aM (aD BT0.out hb); have HB1 := aM (aE HB0.out hb); have e11 := aA BT1.out 1; clear hat hb) | ((with_reducible refine gate_builtin (b := .append) (xs := #[.tmp 65, .tmp 67]) rfl ?_); at_builtin; refine Kd.R_append impl_parse.ptrK (w0 := w1) w1.heap.size rfl (.tmp 65) (.tmp 67) 70 42 (.pointer none) 8 rfl Try.underlying70 impl_parse.infoP rfl (by decide) (by omega) (.slice none 0 0) ([] : List Nat) p1 [.pointer (some ⟨p1, 0, none⟩)] (fun _ => True) (fun _ => False) rfl rfl ?aP (fun _ hk => hk.elim) ?aF ?aO ?aB ?aS ?aL ?_; (case aP => exact rfl); (case aB => exact (cE _ w1)); (case aF => exact (fun _ _ => trivial)); (case aO => exact (Kd.R_nil _ _ _ _ _)); (case aS => exact (cD _)); (case aL => simp); intro v1_ w1_ ho hb hg hat; obtain ⟨rh1, rn1, rc1, rfl, rb1, rl1, rr1, rx1⟩ := impl_parse.row1 ho; have RR1 := aM rr1; have RX1 := aM rx1; clear rr1 rx1; have HG1 := aM hb; have BR1 := aM (blk_grown BT1.out hg (by simp [Value.ownBlock])); have c11 := aA BR1.out 1; have d11 := aC BR1.out 1; clear ho hb hg hat))
  rw [rounds_succ]
  go_wp2
  go_ret2
  obtain ⟨k1, k2⟩ := impl_parse.un_at (n := rn1) rfl HB1.out (Nat.lt_of_lt_of_le (blk_lt BT0.out) (cD _)) HAT1.out HG1.out BR1.out rb1 RR1.out RX1.out
  exact ⟨_, rfl, k1, k2⟩
/-- One part is read and stored. -/
def impl_parse.One (w W : World) (c : Int) (a : Tm) (p rh rn : Nat) : Prop := ∃ base, Below w.heap.size w W ∧ w.heap.size < base ∧ base ≤ W.heap.size ∧ W.heap[w.heap.size]? = some (.cells #[.int .u8 c, .slice (some ⟨rh, 0, none⟩) 1 rn] 72 (0, 0)) ∧ a.At W (w.heap.size + 1) base (.pointer (some ⟨p, 0, none⟩)) ∧ impl_parse.ptrK.R 42 W base (fun _ => True) (.slice (some ⟨rh, 0, none⟩) 1 rn) [p]
theorem impl_parse.One.below {w W : World} {c : Int} {a : Tm} {p rh rn : Nat} (h : impl_parse.One w W c a p rh rn) : Below w.heap.size w W := by obtain ⟨_, h, _⟩ := h; exact h
theorem impl_parse.One.blk {w W : World} {c : Int} {a : Tm} {p rh rn : Nat} (h : impl_parse.One w W c a p rh rn) : W.heap[w.heap.size]? = some (.cells #[.int .u8 c, .slice (some ⟨rh, 0, none⟩) 1 rn] 72 (0, 0)) := by obtain ⟨_, _, _, _, h, _⟩ := h; exact h
theorem impl_parse.One.lt {w W : World} {c : Int} {a : Tm} {p rh rn : Nat} (h : impl_parse.One w W c a p rh rn) : rh < W.heap.size := by obtain ⟨_, _, _, _, _, _, h⟩ := h; exact Kd.R_lt h rh rfl
theorem impl_parse.One.step {w W W' : World} {c : Int} {a : Tm} {p rh rn : Nat} (h : impl_parse.One w W c a p rh rn) (hb : Below W.heap.size W W') : impl_parse.One w W' c a p rh rn := by
 obtain ⟨base, h1, h2, h3, h4, h5, h6⟩ := h
 exact ⟨base, aE h1 hb, h2, Nat.le_trans h3 hb.size, aD h4 hb, h5.keep (fun i _ hi => hb.block i (by omega)), bG h6 hb⟩
theorem impl_parse.One.sign {w W : World} {c : Int} {a : Tm} {p rh rn : Nat} (h : impl_parse.One w W c a p rh rn) (o : Int) : impl_parse.One w (W.setCell ⟨w.heap.size, 0, none⟩ (.int .u8 o)) o a p rh rn := by
 obtain ⟨base, h1, h2, h3, h4, h5, h6⟩ := h
 exact ⟨base, h1.setCell (p := ⟨w.heap.size, 0, none⟩) (cD _) _, h2, by simpa [World.setCell] using h3, cM h4 0 _, h5.keep (fun i hi _ => Below.heap_setCell W ⟨w.heap.size, 0, none⟩ _ i (by show i ≠ w.heap.size; omega)), Kd.R_set h6 h4 (by simp [impl_parse.ptrK, Kd.scalar]) 0 _⟩
theorem impl_parse.One.start {w w1 W : World} {c : Int} {a : Tm} {p rh rn lo : Nat} (HB : Below w.heap.size w w1) (hlo : w.heap.size < lo) (HAT : a.At w1 lo w1.heap.size (.pointer (some ⟨p, 0, none⟩))) (HG : Below w1.heap.size w1 W)
  (BR : W.heap[w.heap.size]? = some (.cells #[.int .u8 c, .slice none 0 0] 72 (0, 0))) (HR : impl_parse.ptrK.R 42 W w1.heap.size (fun _ => True) (.slice (some ⟨rh, 0, none⟩) 1 rn) [p]) : impl_parse.One w (W.setCell ⟨w.heap.size, 1, none⟩ (.slice (some ⟨rh, 0, none⟩) 1 rn)) c a p rh rn := by
 obtain ⟨_, p1, p2, _⟩ := HAT.ptr
 have s2 := HG.size
 refine ⟨w1.heap.size, (below_then HB HB.size HG).setCell (p := ⟨w.heap.size, 1, none⟩) (cD _) _, by omega, by simpa [World.setCell] using s2, cM BR 1 _, ?_, Kd.R_set HR BR (by simp [impl_parse.ptrK, Kd.scalar]) 1 _⟩
 exact (HAT.keep (fun i h1 h2 => (Below.heap_setCell W ⟨w.heap.size, 1, none⟩ _ i (by show i ≠ w.heap.size; omega)).trans (HG.block i h2))).mono (by omega) (cD _)
/-- Two parts are read. -/
def impl_parse.Two (w W : World) (c : Int) (sl : Value) (a b : Tm) (rh : Nat) : Prop := ∃ cs x y, Below w.heap.size w W ∧ w.heap.size < rh ∧ W.heap[w.heap.size]? = some (.cells #[.int .u8 c, sl] 72 (0, 0)) ∧ W.heap[rh]? = some (.cells cs 42 (0, 0)) ∧ cs[0]? = some x ∧ cs[1]? = some y ∧ a.At W (w.heap.size + 1) W.heap.size x ∧ b.At W (w.heap.size + 1) W.heap.size y
theorem impl_parse.Two.below {w W : World} {c : Int} {sl : Value} {a b : Tm} {rh : Nat} (h : impl_parse.Two w W c sl a b rh) : Below w.heap.size w W := by obtain ⟨_, _, _, h, _⟩ := h; exact h
theorem impl_parse.Two.blk {w W : World} {c : Int} {sl : Value} {a b : Tm} {rh : Nat} (h : impl_parse.Two w W c sl a b rh) : W.heap[w.heap.size]? = some (.cells #[.int .u8 c, sl] 72 (0, 0)) := by obtain ⟨_, _, _, _, _, h, _⟩ := h; exact h
theorem impl_parse.Two.step {w W W' : World} {c : Int} {sl : Value} {a b : Tm} {rh : Nat} (h : impl_parse.Two w W c sl a b rh) (hb : Below W.heap.size W W') : impl_parse.Two w W' c sl a b rh := by
 obtain ⟨cs, x, y, h1, h2, h3, h4, h5, h6, h7, h8⟩ := h
 exact ⟨cs, x, y, aE h1 hb, h2, aD h3 hb, aD h4 hb, h5, h6, (h7.keep (fun i _ hi => hb.block i hi)).mono (cD _) hb.size, (h8.keep (fun i _ hi => hb.block i hi)).mono (cD _) hb.size⟩
theorem impl_parse.Two.put {w W : World} {c : Int} {sl : Value} {a b : Tm} {rh : Nat} (h : impl_parse.Two w W c sl a b rh) (v : Value) : impl_parse.Two w (W.setCell ⟨w.heap.size, 1, none⟩ v) c v a b rh := by
 obtain ⟨cs, x, y, h1, h2, h3, h4, h5, h6, h7, h8⟩ := h
 have far : ∀ i, w.heap.size + 1 ≤ i → (W.setCell ⟨w.heap.size, 1, none⟩ v).heap[i]? = W.heap[i]? := fun i hi => Below.heap_setCell W ⟨w.heap.size, 1, none⟩ _ i (by show i ≠ w.heap.size; omega)
 have hs : W.heap.size ≤ (W.setCell ⟨w.heap.size, 1, none⟩ v).heap.size := by simp [World.setCell]
 exact ⟨cs, x, y, h1.setCell (p := ⟨w.heap.size, 1, none⟩) (cD _) _, h2, cM h3 1 _, (far rh (by omega)).trans h4, h5, h6, (h7.keep (fun i hi _ => far i hi)).mono (cD _) hs, (h8.keep (fun i hi _ => far i hi)).mono (cD _) hs⟩
theorem impl_parse.Two.fin {w W : World} {c : Int} {a b : Tm} {rh rn : Nat} (h : impl_parse.Two w W c (.slice (some ⟨rh, 0, none⟩) 2 rn) a b rh) : (Tm.bin c a b).At W w.heap.size W.heap.size (.pointer (some ⟨w.heap.size, 0, none⟩)) := by
 obtain ⟨cs, x, y, h1, h2, h3, h4, h5, h6, h7, h8⟩ := h
 exact ⟨w.heap.size, rh, rn, cs, x, y, cD _, blk_lt h3, by omega, blk_lt h4, rfl, h3, h4, h5, h6, h7.mono (by omega) (cD _), h8.mono (by omega) (cD _)⟩
theorem impl_parse.Two.start {w W W2 : World} {c : Int} {a b : Tm} {p rh rn q lo rh2 rn2 base : Nat} (h1 : Below w.heap.size w W) (h2 : w.heap.size < base) (h3 : base ≤ W.heap.size) (h4 : W.heap[w.heap.size]? = some (.cells #[.int .u8 c, .slice (some ⟨rh, 0, none⟩) 1 rn] 72 (0, 0))) (h5 : a.At W (w.heap.size + 1) base (.pointer (some ⟨p, 0, none⟩)))
  (h6 : impl_parse.ptrK.R 42 W base (fun _ => True) (.slice (some ⟨rh, 0, none⟩) 1 rn) [p]) (hl : rh < lo) (HAT : b.At W lo W.heap.size (.pointer (some ⟨q, 0, none⟩))) (hg : W.grownBy W2 (some rh)) {cs : Array Value} (k1 : base ≤ rh2) (k2 : W2.heap[rh2]? = some (.cells cs 42 (0, 0))) (k3 : cs[0]? = some (.pointer (some ⟨p, 0, none⟩))) (k4 : cs[1]? = some (.pointer (some ⟨q, 0, none⟩))) :
  impl_parse.Two w W2 c (.slice (some ⟨rh, 0, none⟩) 1 rn) a b rh2 := by
 have hb := Kd.R_base h6 rh rfl
 refine ⟨cs, _, _, h1.grown hg (by omega) (fun k hk => by obtain rfl := bU hk; omega), by omega, (hg.block _ (by omega) (by simp; omega)).trans h4, k2, k3, k4, ?_, ?_⟩
 ·exact (h5.keep (fun i _ hi => hg.block i (by omega) (by simp; omega))).mono (cD _) (Nat.le_trans h3 hg.size)
 ·exact (HAT.keep (fun i hi hi2 => hg.block i hi2 (by simp; omega))).mono (by omega) hg.size
theorem impl_parse.first (r : ByteArray) (h : 0 < r.size) : ∃ hs : (r.extract 0 1).size = 1, ((((r.extract 0 1)[0]'(by omega)).toNat : Nat) : Int) = bt r 0 := by
 have hs : (r.extract 0 1).size = 1 := by simp; omega
 refine ⟨hs, ?_⟩
 rw [← bt_at r 0 h]
 congr 2
 rw [ByteArray.getElem_extract]
 rfl
theorem impl_parse.has3 (r : ByteArray) (h : 0 < r.size) : strings_Contains.f (⟨#[43, 46, 38]⟩ : ByteArray) (r.extract 0 1) = some (decide (bt r 0 = 43 ∨ bt r 0 = 46 ∨ bt r 0 = 38)) := by
 obtain ⟨hs, hb⟩ := impl_parse.first r h
 unfold strings_Contains.f strings_Index.f stringslite_Index.f
 rw [dif_pos hs, ← hb]
 generalize (r.extract 0 1)[0] = c
 have e : ∀ n : Nat, n < 256 → (((c.toNat : Nat) : Int) = (n : Int) ↔ c = UInt8.ofNat n) := fun n hn => by
  constructor
  ·intro h; exact UInt8.toNat_inj.1 (by rw [UInt8.toNat_ofNat']; omega)
  ·rintro rfl; rw [UInt8.toNat_ofNat']; omega
 have e1 := e 43 (by omega); have e2 := e 46 (by omega); have e3 := e 38 (by omega)
 simp only [bR, aV]
 rw [show (43 : Int) = ((43 : Nat) : Int) from rfl, show (46 : Int) = ((46 : Nat) : Int) from rfl, show (38 : Int) = ((38 : Nat) : Int) from rfl, decide_eq_decide, e1, e2, e3]
 by_cases a1 : c = UInt8.ofNat 43
 ·subst a1; decide
 ·by_cases a2 : c = UInt8.ofNat 46
  ·subst a2; decide
  ·by_cases a3 : c = UInt8.ofNat 38
   ·subst a3; decide
   ·simp only [a1, a2, a3, or_self, iff_false]
    have b1 : ((43 : UInt8) == c) = false := beq_eq_false_iff_ne.2 fun h => a1 h.symm
    have b2 : ((46 : UInt8) == c) = false := beq_eq_false_iff_ne.2 fun h => a2 h.symm
    have b3 : ((38 : UInt8) == c) = false := beq_eq_false_iff_ne.2 fun h => a3 h.symm
    simp [Lib.indexByte, b1, b2, b3]
theorem impl_parse.has1 (r : ByteArray) (h : 0 < r.size) : strings_Contains.f (⟨#[41]⟩ : ByteArray) (r.extract 0 1) = some (decide (bt r 0 = 41)) := by
 obtain ⟨hs, hb⟩ := impl_parse.first r h
 unfold strings_Contains.f strings_Index.f stringslite_Index.f
 rw [dif_pos hs, ← hb]
 generalize (r.extract 0 1)[0] = c
 have e1 : ((c.toNat : Nat) : Int) = ((41 : Nat) : Int) ↔ c = UInt8.ofNat 41 := by
  constructor
  ·intro h; exact UInt8.toNat_inj.1 (by rw [UInt8.toNat_ofNat']; omega)
  ·rintro rfl; rfl
 simp only [bR, aV]
 rw [show (41 : Int) = ((41 : Nat) : Int) from rfl, decide_eq_decide, e1]
 by_cases a1 : c = UInt8.ofNat 41
 ·subst a1; decide
 ·simp only [a1, iff_false]
  have b1 : ((41 : UInt8) == c) = false := beq_eq_false_iff_ne.2 fun h => a1 h.symm
  simp [Lib.indexByte, b1]
set_option maxHeartbeats 4000000 in
set_option maxRecDepth 100000 in
theorem impl_parse.two_no (s : ByteArray) (w : World) (h : ¬ s.size = 0) (hc : bt s 0 = 40) (ih : ∀ W, Calls Try.prog 39 #[.string (s.extract 1 s.size)] W fun e w' => e = .returned (.tuple #[.pointer none, .string ⟨#[]⟩]) ∧ Below W.heap.size W w') :
  Calls Try.prog 39 #[.string s] w fun e w' => e = .returned (.tuple #[.pointer none, .string ⟨#[]⟩]) ∧ Below w.heap.size w w' := by
 have h0 : s.toList.isEmpty = false := by rw [impl_parse.isEmpty, aK h]
 have hsz : 0 < s.size := by omega
 have hx : ∀ h : 0 < s.size, ((s[0]'h).toNat : Int) = 40 := fun h' => by rw [← hc]; exact bt_at s 0 h'
 have C := aM (fun W => impl_in.calls 40 50 53 false W rfl)
 have IH := aM ih
 clear ih hc h
 go_enter Try.func39, Try.ntmps39
 go_wp2_with (go_at_call 26; refine (C.out _).mono ?_; rintro e wi ⟨rfl, hd⟩; have hb := Drawn0.below hd; have HB0 := aM (aE (bA (cE _ w) (.cells #[.int .u8 40, .slice none 0 0] 72)) hb); clear hd hb)
 refine wp_loop_rounds 3 ?_
 rw [rounds_succ]
 go_wp2_with (first | (go_at_call 39; refine (IH.out _).mono ?_; rintro e w1 ⟨rfl, hb⟩; have HB1 := aM (aE HB0.out hb); clear hb))
 go_ret2
 exact ⟨rfl, HB1.out⟩
set_option maxHeartbeats 4000000 in
set_option maxRecDepth 100000 in
theorem impl_parse.two_end (s : ByteArray) (w : World) (h : ¬ s.size = 0) (hc : bt s 0 = 40) (a : Tm) (r : ByteArray) (ih : ∀ W, Calls Try.prog 39 #[.string (s.extract 1 s.size)] W fun e w' => ∃ v, e = .returned (.tuple #[v, .string r]) ∧ a.At w' W.heap.size w'.heap.size v ∧ Below W.heap.size W w') (hr : r.size = 0) :
  Calls Try.prog 39 #[.string s] w fun e w' => e = .returned (.tuple #[.pointer none, .string ⟨#[]⟩]) ∧ Below w.heap.size w w' := by
 have h0 : s.toList.isEmpty = false := by rw [impl_parse.isEmpty, aK h]
 have hsz : 0 < s.size := by omega
 have hx : ∀ h : 0 < s.size, ((s[0]'h).toNat : Int) = 40 := fun h' => by rw [← hc]; exact bt_at s 0 h'
 have C := aM (fun W => impl_in.calls 40 50 53 false W rfl)
 have IH := aM ih
 clear ih hc h
 have hr0 : r.toList.isEmpty = true := by rw [impl_parse.isEmpty, aH hr]
 go_enter Try.func39, Try.ntmps39
 go_wp2_with (go_at_call 26; refine (C.out _).mono ?_; rintro e wi ⟨rfl, hd⟩; have hb := Drawn0.below hd; have BT0 := aM (aD (blk_new w (.cells #[.int .u8 40, .slice none 0 0] 72)) hb); have HB0 := aM (aE (bA (cE _ w) (.cells #[.int .u8 40, .slice none 0 0] 72)) hb); clear hd hb)
 refine wp_loop_rounds 3 ?_
 rw [rounds_succ]
 go_wp2_with (first | (go_at_call 39; refine (IH.out _).mono ?_; rintro e w1 ⟨v1, rfl, hat, hb⟩; obtain ⟨p1, hp1, hq1, rfl⟩ := hat.ptr; have HAT1 := aM hat; have BT1 := aM (aD BT0.out hb); have HB1 := aM (aE HB0.out hb); have e11 := aA BT1.out 1; clear hat hb) | ((with_reducible refine gate_builtin (b := .append) (xs := #[.tmp 65, .tmp 67]) rfl ?_); at_builtin; refine Kd.R_append impl_parse.ptrK (w0 := w1) w1.heap.size rfl (.tmp 65) (.tmp 67) 70 42 (.pointer none) 8 rfl Try.underlying70 impl_parse.infoP rfl (by decide) (by omega) (.slice none 0 0) ([] : List Nat) p1 [.pointer (some ⟨p1, 0, none⟩)] (fun _ => True) (fun _ => False) rfl rfl ?aP (fun _ hk => hk.elim) ?aF ?aO ?aB ?aS ?aL ?_; (case aP => exact rfl); (case aB => exact (cE _ w1)); (case aF => exact (fun _ _ => trivial)); (case aO => exact (Kd.R_nil _ _ _ _ _)); (case aS => exact (cD _)); (case aL => simp); intro v1_ w1_ ho hb hg hat; obtain ⟨rh1, rn1, rc1, rfl, rb1, rl1, rr1, rx1⟩ := impl_parse.row1 ho; have OS1 := aM (impl_parse.One.start HB1.out (Nat.lt_of_lt_of_le (blk_lt BT0.out) (cD _)) HAT1.out hb (blk_grown BT1.out hg (by simp [Value.ownBlock])) ho); clear rr1 rx1; have BR1 := aM (blk_grown BT1.out hg (by simp [Value.ownBlock])); have c11 := aA BR1.out 1; have d11 := aC BR1.out 1; clear ho hb hg hat))
 go_ret2
 exact ⟨rfl, (OS1.out.step (bA (cE _ _) (.cells #[.string ⟨#[43, 46, 38]⟩, .string ⟨#[41]⟩] 9))).below⟩
set_option maxHeartbeats 4000000 in
set_option maxRecDepth 100000 in
theorem impl_parse.two_sign (s : ByteArray) (w : World) (h : ¬ s.size = 0) (hc : bt s 0 = 40) (a : Tm) (r : ByteArray) (ih : ∀ W, Calls Try.prog 39 #[.string (s.extract 1 s.size)] W fun e w' => ∃ v, e = .returned (.tuple #[v, .string r]) ∧ a.At w' W.heap.size w'.heap.size v ∧ Below W.heap.size W w') (hr : ¬ r.size = 0) (o : Int) (ho : bt r 0 = o) (hs : ¬ (o = 43 ∨ o = 46 ∨ o = 38)) :
  Calls Try.prog 39 #[.string s] w fun e w' => e = .returned (.tuple #[.pointer none, .string ⟨#[]⟩]) ∧ Below w.heap.size w w' := by
 have h0 : s.toList.isEmpty = false := by rw [impl_parse.isEmpty, aK h]
 have hsz : 0 < s.size := by omega
 have hx : ∀ h : 0 < s.size, ((s[0]'h).toNat : Int) = 40 := fun h' => by rw [← hc]; exact bt_at s 0 h'
 have C := aM (fun W => impl_in.calls 40 50 53 false W rfl)
 have IH := aM ih
 clear ih hc h
 have hr0 : r.toList.isEmpty = false := by rw [impl_parse.isEmpty, aK hr]
 have hrz : 0 < r.size := by omega
 have HC1 := aM (impl_parse.has3 r hrz)
 have hy : ∀ h : 0 < r.size, ((r[0]'h).toNat : Int) = o := fun h' => by rw [← ho]; exact bt_at r 0 h'
 rw [ho, aK hs] at HC1
 clear ho hs hr
 go_enter Try.func39, Try.ntmps39
 go_wp2_with (go_at_call 26; refine (C.out _).mono ?_; rintro e wi ⟨rfl, hd⟩; have hb := Drawn0.below hd; have BT0 := aM (aD (blk_new w (.cells #[.int .u8 40, .slice none 0 0] 72)) hb); have HB0 := aM (aE (bA (cE _ w) (.cells #[.int .u8 40, .slice none 0 0] 72)) hb); clear hd hb)
 refine wp_loop_rounds 3 ?_
 rw [rounds_succ]
 go_wp2_with (first | (go_at_call 39; refine (IH.out _).mono ?_; rintro e w1 ⟨v1, rfl, hat, hb⟩; obtain ⟨p1, hp1, hq1, rfl⟩ := hat.ptr; have HAT1 := aM hat; have BT1 := aM (aD BT0.out hb); have HB1 := aM (aE HB0.out hb); have e11 := aA BT1.out 1; clear hat hb) | ((with_reducible refine gate_builtin (b := .append) (xs := #[.tmp 65, .tmp 67]) rfl ?_); at_builtin; refine Kd.R_append impl_parse.ptrK (w0 := w1) w1.heap.size rfl (.tmp 65) (.tmp 67) 70 42 (.pointer none) 8 rfl Try.underlying70 impl_parse.infoP rfl (by decide) (by omega) (.slice none 0 0) ([] : List Nat) p1 [.pointer (some ⟨p1, 0, none⟩)] (fun _ => True) (fun _ => False) rfl rfl ?aP (fun _ hk => hk.elim) ?aF ?aO ?aB ?aS ?aL ?_; (case aP => exact rfl); (case aB => exact (cE _ w1)); (case aF => exact (fun _ _ => trivial)); (case aO => exact (Kd.R_nil _ _ _ _ _)); (case aS => exact (cD _)); (case aL => simp); intro v1_ w1_ ho hb hg hat; obtain ⟨rh1, rn1, rc1, rfl, rb1, rl1, rr1, rx1⟩ := impl_parse.row1 ho; have OS1 := aM (impl_parse.One.start HB1.out (Nat.lt_of_lt_of_le (blk_lt BT0.out) (cD _)) HAT1.out hb (blk_grown BT1.out hg (by simp [Value.ownBlock])) ho); clear rr1 rx1; have BR1 := aM (blk_grown BT1.out hg (by simp [Value.ownBlock])); have c11 := aA BR1.out 1; have d11 := aC BR1.out 1; clear ho hb hg hat) | (go_at_call 61; refine (strings_Contains.calls _ _ false _ HC1.out).mono ?_; rintro e wc ⟨rfl, hd⟩; have hb := Drawn0.below hd; have O1 := aM ((OS1.out.step (bA (cE _ _) (.cells #[.string ⟨#[43, 46, 38]⟩, .string ⟨#[41]⟩] 9))).step hb); clear hd hb))
 go_ret2
 exact ⟨rfl, O1.out.below⟩
set_option maxHeartbeats 4000000 in
set_option maxRecDepth 100000 in
theorem impl_parse.two_none (s : ByteArray) (w : World) (h : ¬ s.size = 0) (hc : bt s 0 = 40) (a : Tm) (r : ByteArray) (ih : ∀ W, Calls Try.prog 39 #[.string (s.extract 1 s.size)] W fun e w' => ∃ v, e = .returned (.tuple #[v, .string r]) ∧ a.At w' W.heap.size w'.heap.size v ∧ Below W.heap.size W w') (hr : ¬ r.size = 0) (o : Int) (ho : bt r 0 = o) (hs : o = 43 ∨ o = 46 ∨ o = 38) (ih2 : ∀ W, Calls Try.prog 39 #[.string (r.extract 1 r.size)] W fun e w' => e = .returned (.tuple #[.pointer none, .string ⟨#[]⟩]) ∧ Below W.heap.size W w') :
  Calls Try.prog 39 #[.string s] w fun e w' => e = .returned (.tuple #[.pointer none, .string ⟨#[]⟩]) ∧ Below w.heap.size w w' := by
 have h0 : s.toList.isEmpty = false := by rw [impl_parse.isEmpty, aK h]
 have hsz : 0 < s.size := by omega
 have hx : ∀ h : 0 < s.size, ((s[0]'h).toNat : Int) = 40 := fun h' => by rw [← hc]; exact bt_at s 0 h'
 have C := aM (fun W => impl_in.calls 40 50 53 false W rfl)
 have IH := aM ih
 clear ih hc h
 have hr0 : r.toList.isEmpty = false := by rw [impl_parse.isEmpty, aK hr]
 have hrz : 0 < r.size := by omega
 have HC1 := aM (impl_parse.has3 r hrz)
 have hy : ∀ h : 0 < r.size, ((r[0]'h).toNat : Int) = o := fun h' => by rw [← ho]; exact bt_at r 0 h'
 rw [ho, aH hs] at HC1
 clear ho hs hr
 have IH2 := aM ih2
 clear ih2
 go_enter Try.func39, Try.ntmps39
 go_wp2_with (go_at_call 26; refine (C.out _).mono ?_; rintro e wi ⟨rfl, hd⟩; have hb := Drawn0.below hd; have BT0 := aM (aD (blk_new w (.cells #[.int .u8 40, .slice none 0 0] 72)) hb); have HB0 := aM (aE (bA (cE _ w) (.cells #[.int .u8 40, .slice none 0 0] 72)) hb); clear hd hb)
 refine wp_loop_rounds 3 ?_
 rw [rounds_succ]
 go_wp2_with (first | (go_at_call 39; refine (IH.out _).mono ?_; rintro e w1 ⟨v1, rfl, hat, hb⟩; obtain ⟨p1, hp1, hq1, rfl⟩ := hat.ptr; have HAT1 := aM hat; have BT1 := aM (aD BT0.out hb); have HB1 := aM (aE HB0.out hb); have e11 := aA BT1.out 1; clear hat hb) | ((with_reducible refine gate_builtin (b := .append) (xs := #[.tmp 65, .tmp 67]) rfl ?_); at_builtin; refine Kd.R_append impl_parse.ptrK (w0 := w1) w1.heap.size rfl (.tmp 65) (.tmp 67) 70 42 (.pointer none) 8 rfl Try.underlying70 impl_parse.infoP rfl (by decide) (by omega) (.slice none 0 0) ([] : List Nat) p1 [.pointer (some ⟨p1, 0, none⟩)] (fun _ => True) (fun _ => False) rfl rfl ?aP (fun _ hk => hk.elim) ?aF ?aO ?aB ?aS ?aL ?_; (case aP => exact rfl); (case aB => exact (cE _ w1)); (case aF => exact (fun _ _ => trivial)); (case aO => exact (Kd.R_nil _ _ _ _ _)); (case aS => exact (cD _)); (case aL => simp); intro v1_ w1_ ho hb hg hat; obtain ⟨rh1, rn1, rc1, rfl, rb1, rl1, rr1, rx1⟩ := impl_parse.row1 ho; have OS1 := aM (impl_parse.One.start HB1.out (Nat.lt_of_lt_of_le (blk_lt BT0.out) (cD _)) HAT1.out hb (blk_grown BT1.out hg (by simp [Value.ownBlock])) ho); clear rr1 rx1; have BR1 := aM (blk_grown BT1.out hg (by simp [Value.ownBlock])); have c11 := aA BR1.out 1; have d11 := aC BR1.out 1; clear ho hb hg hat) | (go_at_call 61; refine (strings_Contains.calls _ _ true _ HC1.out).mono ?_; rintro e wc ⟨rfl, hd⟩; have hb := Drawn0.below hd; have O1 := aM ((OS1.out.step (bA (cE _ _) (.cells #[.string ⟨#[43, 46, 38]⟩, .string ⟨#[41]⟩] 9))).step hb); have e20 := aA O1.out.blk 0; have f20 := aC O1.out.blk 0; clear hd hb))
 rw [rounds_succ]
 go_wp2_with (first | (go_at_call 39; refine (IH2.out _).mono ?_; rintro e w2 ⟨rfl, hb⟩; have O2 := aM ((O1.out.sign o).step hb); clear hb))
 go_ret2
 exact ⟨rfl, O2.out.below⟩
set_option maxHeartbeats 4000000 in
set_option maxRecDepth 100000 in
theorem impl_parse.two_open (s : ByteArray) (w : World) (h : ¬ s.size = 0) (hc : bt s 0 = 40) (a : Tm) (r : ByteArray) (ih : ∀ W, Calls Try.prog 39 #[.string (s.extract 1 s.size)] W fun e w' => ∃ v, e = .returned (.tuple #[v, .string r]) ∧ a.At w' W.heap.size w'.heap.size v ∧ Below W.heap.size W w') (hr : ¬ r.size = 0) (o : Int) (ho : bt r 0 = o) (hs : o = 43 ∨ o = 46 ∨ o = 38) (b : Tm) (q : ByteArray) (ih2 : ∀ W, Calls Try.prog 39 #[.string (r.extract 1 r.size)] W fun e w' => ∃ v, e = .returned (.tuple #[v, .string q]) ∧ b.At w' W.heap.size w'.heap.size v ∧ Below W.heap.size W w') (hq : q.size = 0) :
  Calls Try.prog 39 #[.string s] w fun e w' => e = .returned (.tuple #[.pointer none, .string ⟨#[]⟩]) ∧ Below w.heap.size w w' := by
 have h0 : s.toList.isEmpty = false := by rw [impl_parse.isEmpty, aK h]
 have hsz : 0 < s.size := by omega
 have hx : ∀ h : 0 < s.size, ((s[0]'h).toNat : Int) = 40 := fun h' => by rw [← hc]; exact bt_at s 0 h'
 have C := aM (fun W => impl_in.calls 40 50 53 false W rfl)
 have IH := aM ih
 clear ih hc h
 have hr0 : r.toList.isEmpty = false := by rw [impl_parse.isEmpty, aK hr]
 have hrz : 0 < r.size := by omega
 have HC1 := aM (impl_parse.has3 r hrz)
 have hy : ∀ h : 0 < r.size, ((r[0]'h).toNat : Int) = o := fun h' => by rw [← ho]; exact bt_at r 0 h'
 rw [ho, aH hs] at HC1
 clear ho hs hr
 have IH2 := aM ih2
 clear ih2
 have hq0 : q.toList.isEmpty = true := by rw [impl_parse.isEmpty, aH hq]
 go_enter Try.func39, Try.ntmps39
 go_wp2_with (go_at_call 26; refine (C.out _).mono ?_; rintro e wi ⟨rfl, hd⟩; have hb := Drawn0.below hd; have BT0 := aM (aD (blk_new w (.cells #[.int .u8 40, .slice none 0 0] 72)) hb); have HB0 := aM (aE (bA (cE _ w) (.cells #[.int .u8 40, .slice none 0 0] 72)) hb); clear hd hb)
 refine wp_loop_rounds 3 ?_
 rw [rounds_succ]
 go_wp2_with (first | (go_at_call 39; refine (IH.out _).mono ?_; rintro e w1 ⟨v1, rfl, hat, hb⟩; obtain ⟨p1, hp1, hq1, rfl⟩ := hat.ptr; have HAT1 := aM hat; have BT1 := aM (aD BT0.out hb); have HB1 := aM (aE HB0.out hb); have e11 := aA BT1.out 1; clear hat hb) | ((with_reducible refine gate_builtin (b := .append) (xs := #[.tmp 65, .tmp 67]) rfl ?_); at_builtin; refine Kd.R_append impl_parse.ptrK (w0 := w1) w1.heap.size rfl (.tmp 65) (.tmp 67) 70 42 (.pointer none) 8 rfl Try.underlying70 impl_parse.infoP rfl (by decide) (by omega) (.slice none 0 0) ([] : List Nat) p1 [.pointer (some ⟨p1, 0, none⟩)] (fun _ => True) (fun _ => False) rfl rfl ?aP (fun _ hk => hk.elim) ?aF ?aO ?aB ?aS ?aL ?_; (case aP => exact rfl); (case aB => exact (cE _ w1)); (case aF => exact (fun _ _ => trivial)); (case aO => exact (Kd.R_nil _ _ _ _ _)); (case aS => exact (cD _)); (case aL => simp); intro v1_ w1_ ho hb hg hat; obtain ⟨rh1, rn1, rc1, rfl, rb1, rl1, rr1, rx1⟩ := impl_parse.row1 ho; have OS1 := aM (impl_parse.One.start HB1.out (Nat.lt_of_lt_of_le (blk_lt BT0.out) (cD _)) HAT1.out hb (blk_grown BT1.out hg (by simp [Value.ownBlock])) ho); clear rr1 rx1; have BR1 := aM (blk_grown BT1.out hg (by simp [Value.ownBlock])); have c11 := aA BR1.out 1; have d11 := aC BR1.out 1; clear ho hb hg hat) | (go_at_call 61; refine (strings_Contains.calls _ _ true _ HC1.out).mono ?_; rintro e wc ⟨rfl, hd⟩; have hb := Drawn0.below hd; have O1 := aM ((OS1.out.step (bA (cE _ _) (.cells #[.string ⟨#[43, 46, 38]⟩, .string ⟨#[41]⟩] 9))).step hb); have e20 := aA O1.out.blk 0; have f20 := aC O1.out.blk 0; clear hd hb))
 rw [rounds_succ]
 go_wp2_with (first | (go_at_call 39; refine (IH2.out _).mono ?_; rintro e w2 ⟨v2, rfl, hat, hb⟩; obtain ⟨p2, hp2, hq2, rfl⟩ := hat.ptr; have HAT2 := aM hat; have L2 := aM ((O1.out.sign o).lt); have O2 := aM ((O1.out.sign o).step hb); have e31 := aA O2.out.blk 1; clear hat hb) | ((with_reducible refine gate_builtin (b := .append) (xs := #[.tmp 65, .tmp 67]) rfl ?_); at_builtin; obtain ⟨base, o1, o2, o3, o4, o5, o6⟩ := O2.out; refine Kd.R_append impl_parse.ptrK (w0 := w2) base rfl (.tmp 65) (.tmp 67) 70 42 (.pointer none) 8 rfl Try.underlying70 impl_parse.infoP rfl (by decide) (by omega) (.slice (some ⟨rh1, 0, none⟩) 1 rn1) [p1] p2 [.pointer (some ⟨p2, 0, none⟩)] (fun _ => True) (fun _ => False) rfl rfl ?aP (fun _ hk => hk.elim) ?aF ?aO ?aB ?aS ?aL ?_; (case aP => exact rfl); (case aB => exact cE _ _); (case aF => exact (fun _ _ => trivial)); (case aO => exact o6); (case aS => exact o3); (case aL => simp); intro v2_ w2_ ho hb hg hat; obtain ⟨rh2, rn2, rc2, rfl, rb2, rl2, rr2, rx2, ry2⟩ := impl_parse.row2 ho; have T1 := aM (impl_parse.Two.start o1 o2 o3 o4 o5 o6 L2.out HAT2.out hg rb2 rr2 rx2 ry2 (rn2 := rn2)); have e41 := aA T1.out.blk 1; have f41 := aC T1.out.blk 1; clear ho hb hg hat rr2 rx2 ry2 o1 o2 o3 o4 o5 o6))
 go_ret2
 exact ⟨rfl, ((T1.out.put (.slice (some ⟨rh2, 0, none⟩) 2 rn2)).step (bA (cE _ _) (.cells #[.string ⟨#[43, 46, 38]⟩, .string ⟨#[41]⟩] 9))).below⟩
set_option maxHeartbeats 4000000 in
set_option maxRecDepth 100000 in
theorem impl_parse.two_shut (s : ByteArray) (w : World) (h : ¬ s.size = 0) (hc : bt s 0 = 40) (a : Tm) (r : ByteArray) (ih : ∀ W, Calls Try.prog 39 #[.string (s.extract 1 s.size)] W fun e w' => ∃ v, e = .returned (.tuple #[v, .string r]) ∧ a.At w' W.heap.size w'.heap.size v ∧ Below W.heap.size W w') (hr : ¬ r.size = 0) (o : Int) (ho : bt r 0 = o) (hs : o = 43 ∨ o = 46 ∨ o = 38) (b : Tm) (q : ByteArray) (ih2 : ∀ W, Calls Try.prog 39 #[.string (r.extract 1 r.size)] W fun e w' => ∃ v, e = .returned (.tuple #[v, .string q]) ∧ b.At w' W.heap.size w'.heap.size v ∧ Below W.heap.size W w') (hq : ¬ q.size = 0) (hz : ¬ bt q 0 = 41) :
  Calls Try.prog 39 #[.string s] w fun e w' => e = .returned (.tuple #[.pointer none, .string ⟨#[]⟩]) ∧ Below w.heap.size w w' := by
 have h0 : s.toList.isEmpty = false := by rw [impl_parse.isEmpty, aK h]
 have hsz : 0 < s.size := by omega
 have hx : ∀ h : 0 < s.size, ((s[0]'h).toNat : Int) = 40 := fun h' => by rw [← hc]; exact bt_at s 0 h'
 have C := aM (fun W => impl_in.calls 40 50 53 false W rfl)
 have IH := aM ih
 clear ih hc h
 have hr0 : r.toList.isEmpty = false := by rw [impl_parse.isEmpty, aK hr]
 have hrz : 0 < r.size := by omega
 have HC1 := aM (impl_parse.has3 r hrz)
 have hy : ∀ h : 0 < r.size, ((r[0]'h).toNat : Int) = o := fun h' => by rw [← ho]; exact bt_at r 0 h'
 rw [ho, aH hs] at HC1
 clear ho hs hr
 have IH2 := aM ih2
 clear ih2
 have hq0 : q.toList.isEmpty = false := by rw [impl_parse.isEmpty, aK hq]
 have hqz : 0 < q.size := by omega
 have HC2 := aM (impl_parse.has1 q hqz)
 rw [aK hz] at HC2
 clear hz hq
 go_enter Try.func39, Try.ntmps39
 go_wp2_with (go_at_call 26; refine (C.out _).mono ?_; rintro e wi ⟨rfl, hd⟩; have hb := Drawn0.below hd; have BT0 := aM (aD (blk_new w (.cells #[.int .u8 40, .slice none 0 0] 72)) hb); have HB0 := aM (aE (bA (cE _ w) (.cells #[.int .u8 40, .slice none 0 0] 72)) hb); clear hd hb)
 refine wp_loop_rounds 3 ?_
 rw [rounds_succ]
 go_wp2_with (first | (go_at_call 39; refine (IH.out _).mono ?_; rintro e w1 ⟨v1, rfl, hat, hb⟩; obtain ⟨p1, hp1, hq1, rfl⟩ := hat.ptr; have HAT1 := aM hat; have BT1 := aM (aD BT0.out hb); have HB1 := aM (aE HB0.out hb); have e11 := aA BT1.out 1; clear hat hb) | ((with_reducible refine gate_builtin (b := .append) (xs := #[.tmp 65, .tmp 67]) rfl ?_); at_builtin; refine Kd.R_append impl_parse.ptrK (w0 := w1) w1.heap.size rfl (.tmp 65) (.tmp 67) 70 42 (.pointer none) 8 rfl Try.underlying70 impl_parse.infoP rfl (by decide) (by omega) (.slice none 0 0) ([] : List Nat) p1 [.pointer (some ⟨p1, 0, none⟩)] (fun _ => True) (fun _ => False) rfl rfl ?aP (fun _ hk => hk.elim) ?aF ?aO ?aB ?aS ?aL ?_; (case aP => exact rfl); (case aB => exact (cE _ w1)); (case aF => exact (fun _ _ => trivial)); (case aO => exact (Kd.R_nil _ _ _ _ _)); (case aS => exact (cD _)); (case aL => simp); intro v1_ w1_ ho hb hg hat; obtain ⟨rh1, rn1, rc1, rfl, rb1, rl1, rr1, rx1⟩ := impl_parse.row1 ho; have OS1 := aM (impl_parse.One.start HB1.out (Nat.lt_of_lt_of_le (blk_lt BT0.out) (cD _)) HAT1.out hb (blk_grown BT1.out hg (by simp [Value.ownBlock])) ho); clear rr1 rx1; have BR1 := aM (blk_grown BT1.out hg (by simp [Value.ownBlock])); have c11 := aA BR1.out 1; have d11 := aC BR1.out 1; clear ho hb hg hat) | (go_at_call 61; refine (strings_Contains.calls _ _ true _ HC1.out).mono ?_; rintro e wc ⟨rfl, hd⟩; have hb := Drawn0.below hd; have O1 := aM ((OS1.out.step (bA (cE _ _) (.cells #[.string ⟨#[43, 46, 38]⟩, .string ⟨#[41]⟩] 9))).step hb); have e20 := aA O1.out.blk 0; have f20 := aC O1.out.blk 0; clear hd hb))
 rw [rounds_succ]
 go_wp2_with (first | (go_at_call 39; refine (IH2.out _).mono ?_; rintro e w2 ⟨v2, rfl, hat, hb⟩; obtain ⟨p2, hp2, hq2, rfl⟩ := hat.ptr; have HAT2 := aM hat; have L2 := aM ((O1.out.sign o).lt); have O2 := aM ((O1.out.sign o).step hb); have e31 := aA O2.out.blk 1; clear hat hb) | ((with_reducible refine gate_builtin (b := .append) (xs := #[.tmp 65, .tmp 67]) rfl ?_); at_builtin; obtain ⟨base, o1, o2, o3, o4, o5, o6⟩ := O2.out; refine Kd.R_append impl_parse.ptrK (w0 := w2) base rfl (.tmp 65) (.tmp 67) 70 42 (.pointer none) 8 rfl Try.underlying70 impl_parse.infoP rfl (by decide) (by omega) (.slice (some ⟨rh1, 0, none⟩) 1 rn1) [p1] p2 [.pointer (some ⟨p2, 0, none⟩)] (fun _ => True) (fun _ => False) rfl rfl ?aP (fun _ hk => hk.elim) ?aF ?aO ?aB ?aS ?aL ?_; (case aP => exact rfl); (case aB => exact cE _ _); (case aF => exact (fun _ _ => trivial)); (case aO => exact o6); (case aS => exact o3); (case aL => simp); intro v2_ w2_ ho hb hg hat; obtain ⟨rh2, rn2, rc2, rfl, rb2, rl2, rr2, rx2, ry2⟩ := impl_parse.row2 ho; have T1 := aM (impl_parse.Two.start o1 o2 o3 o4 o5 o6 L2.out HAT2.out hg rb2 rr2 rx2 ry2 (rn2 := rn2)); have e41 := aA T1.out.blk 1; have f41 := aC T1.out.blk 1; clear ho hb hg hat rr2 rx2 ry2 o1 o2 o3 o4 o5 o6) | (go_at_call 61; refine (strings_Contains.calls _ _ false _ HC2.out).mono ?_; rintro e wd ⟨rfl, hd⟩; have hb := Drawn0.below hd; have T2 := aM (((T1.out.put (.slice (some ⟨rh2, 0, none⟩) 2 rn2)).step (bA (cE _ _) (.cells #[.string ⟨#[43, 46, 38]⟩, .string ⟨#[41]⟩] 9))).step hb); clear hd hb))
 go_ret2
 exact ⟨rfl, T2.out.below⟩
set_option maxHeartbeats 4000000 in
set_option maxRecDepth 100000 in
theorem impl_parse.two_yes (s : ByteArray) (w : World) (h : ¬ s.size = 0) (hc : bt s 0 = 40) (a : Tm) (r : ByteArray) (ih : ∀ W, Calls Try.prog 39 #[.string (s.extract 1 s.size)] W fun e w' => ∃ v, e = .returned (.tuple #[v, .string r]) ∧ a.At w' W.heap.size w'.heap.size v ∧ Below W.heap.size W w') (hr : ¬ r.size = 0) (o : Int) (ho : bt r 0 = o) (hs : o = 43 ∨ o = 46 ∨ o = 38) (b : Tm) (q : ByteArray) (ih2 : ∀ W, Calls Try.prog 39 #[.string (r.extract 1 r.size)] W fun e w' => ∃ v, e = .returned (.tuple #[v, .string q]) ∧ b.At w' W.heap.size w'.heap.size v ∧ Below W.heap.size W w') (hq : ¬ q.size = 0) (hz : bt q 0 = 41) :
  Calls Try.prog 39 #[.string s] w fun e w' => ∃ v, e = .returned (.tuple #[v, .string (q.extract 1 q.size)]) ∧ (Tm.bin o a b).At w' w.heap.size w'.heap.size v ∧ Below w.heap.size w w' := by
 have h0 : s.toList.isEmpty = false := by rw [impl_parse.isEmpty, aK h]
 have hsz : 0 < s.size := by omega
 have hx : ∀ h : 0 < s.size, ((s[0]'h).toNat : Int) = 40 := fun h' => by rw [← hc]; exact bt_at s 0 h'
 have C := aM (fun W => impl_in.calls 40 50 53 false W rfl)
 have IH := aM ih
 clear ih hc h
 have hr0 : r.toList.isEmpty = false := by rw [impl_parse.isEmpty, aK hr]
 have hrz : 0 < r.size := by omega
 have HC1 := aM (impl_parse.has3 r hrz)
 have hy : ∀ h : 0 < r.size, ((r[0]'h).toNat : Int) = o := fun h' => by rw [← ho]; exact bt_at r 0 h'
 rw [ho, aH hs] at HC1
 clear ho hs hr
 have IH2 := aM ih2
 clear ih2
 have hq0 : q.toList.isEmpty = false := by rw [impl_parse.isEmpty, aK hq]
 have hqz : 0 < q.size := by omega
 have HC2 := aM (impl_parse.has1 q hqz)
 rw [aH hz] at HC2
 clear hz hq
 go_enter Try.func39, Try.ntmps39
 go_wp2_with (go_at_call 26; refine (C.out _).mono ?_; rintro e wi ⟨rfl, hd⟩; have hb := Drawn0.below hd; have BT0 := aM (aD (blk_new w (.cells #[.int .u8 40, .slice none 0 0] 72)) hb); have HB0 := aM (aE (bA (cE _ w) (.cells #[.int .u8 40, .slice none 0 0] 72)) hb); clear hd hb)
 refine wp_loop_rounds 3 ?_
 rw [rounds_succ]
 go_wp2_with (first | (go_at_call 39; refine (IH.out _).mono ?_; rintro e w1 ⟨v1, rfl, hat, hb⟩; obtain ⟨p1, hp1, hq1, rfl⟩ := hat.ptr; have HAT1 := aM hat; have BT1 := aM (aD BT0.out hb); have HB1 := aM (aE HB0.out hb); have e11 := aA BT1.out 1; clear hat hb) | ((with_reducible refine gate_builtin (b := .append) (xs := #[.tmp 65, .tmp 67]) rfl ?_); at_builtin; refine Kd.R_append impl_parse.ptrK (w0 := w1) w1.heap.size rfl (.tmp 65) (.tmp 67) 70 42 (.pointer none) 8 rfl Try.underlying70 impl_parse.infoP rfl (by decide) (by omega) (.slice none 0 0) ([] : List Nat) p1 [.pointer (some ⟨p1, 0, none⟩)] (fun _ => True) (fun _ => False) rfl rfl ?aP (fun _ hk => hk.elim) ?aF ?aO ?aB ?aS ?aL ?_; (case aP => exact rfl); (case aB => exact (cE _ w1)); (case aF => exact (fun _ _ => trivial)); (case aO => exact (Kd.R_nil _ _ _ _ _)); (case aS => exact (cD _)); (case aL => simp); intro v1_ w1_ ho hb hg hat; obtain ⟨rh1, rn1, rc1, rfl, rb1, rl1, rr1, rx1⟩ := impl_parse.row1 ho; have OS1 := aM (impl_parse.One.start HB1.out (Nat.lt_of_lt_of_le (blk_lt BT0.out) (cD _)) HAT1.out hb (blk_grown BT1.out hg (by simp [Value.ownBlock])) ho); clear rr1 rx1; have BR1 := aM (blk_grown BT1.out hg (by simp [Value.ownBlock])); have c11 := aA BR1.out 1; have d11 := aC BR1.out 1; clear ho hb hg hat) | (go_at_call 61; refine (strings_Contains.calls _ _ true _ HC1.out).mono ?_; rintro e wc ⟨rfl, hd⟩; have hb := Drawn0.below hd; have O1 := aM ((OS1.out.step (bA (cE _ _) (.cells #[.string ⟨#[43, 46, 38]⟩, .string ⟨#[41]⟩] 9))).step hb); have e20 := aA O1.out.blk 0; have f20 := aC O1.out.blk 0; clear hd hb))
 rw [rounds_succ]
 go_wp2_with (first | (go_at_call 39; refine (IH2.out _).mono ?_; rintro e w2 ⟨v2, rfl, hat, hb⟩; obtain ⟨p2, hp2, hq2, rfl⟩ := hat.ptr; have HAT2 := aM hat; have L2 := aM ((O1.out.sign o).lt); have O2 := aM ((O1.out.sign o).step hb); have e31 := aA O2.out.blk 1; clear hat hb) | ((with_reducible refine gate_builtin (b := .append) (xs := #[.tmp 65, .tmp 67]) rfl ?_); at_builtin; obtain ⟨base, o1, o2, o3, o4, o5, o6⟩ := O2.out; refine Kd.R_append impl_parse.ptrK (w0 := w2) base rfl (.tmp 65) (.tmp 67) 70 42 (.pointer none) 8 rfl Try.underlying70 impl_parse.infoP rfl (by decide) (by omega) (.slice (some ⟨rh1, 0, none⟩) 1 rn1) [p1] p2 [.pointer (some ⟨p2, 0, none⟩)] (fun _ => True) (fun _ => False) rfl rfl ?aP (fun _ hk => hk.elim) ?aF ?aO ?aB ?aS ?aL ?_; (case aP => exact rfl); (case aB => exact cE _ _); (case aF => exact (fun _ _ => trivial)); (case aO => exact o6); (case aS => exact o3); (case aL => simp); intro v2_ w2_ ho hb hg hat; obtain ⟨rh2, rn2, rc2, rfl, rb2, rl2, rr2, rx2, ry2⟩ := impl_parse.row2 ho; have T1 := aM (impl_parse.Two.start o1 o2 o3 o4 o5 o6 L2.out HAT2.out hg rb2 rr2 rx2 ry2 (rn2 := rn2)); have e41 := aA T1.out.blk 1; have f41 := aC T1.out.blk 1; clear ho hb hg hat rr2 rx2 ry2 o1 o2 o3 o4 o5 o6) | (go_at_call 61; refine (strings_Contains.calls _ _ true _ HC2.out).mono ?_; rintro e wd ⟨rfl, hd⟩; have hb := Drawn0.below hd; have T2 := aM (((T1.out.put (.slice (some ⟨rh2, 0, none⟩) 2 rn2)).step (bA (cE _ _) (.cells #[.string ⟨#[43, 46, 38]⟩, .string ⟨#[41]⟩] 9))).step hb); clear hd hb))
 rw [rounds_succ]
 go_wp2
 go_ret2
 exact ⟨_, rfl, T2.out.fin, T2.out.below⟩
theorem Tm.parse_lt (n : Nat) : ∀ (s : ByteArray) (t : Tm) (r : ByteArray), Tm.parse n s = some (t, r) → r.size < s.size := by
 induction n with
 | zero => intro s t r h; simp [Tm.parse] at h
 | succ n ih =>
  intro s t r h
  have ex : ∀ z : ByteArray, (z.extract 1 z.size).size = z.size - 1 := fun z => by simp
  unfold Tm.parse at h
  split at h
  ·cases h
  rename_i h0
  split at h
  ·simp only [aV, aW] at h
   rw [← h.2, ex]; omega
  split at h
  ·obtain ⟨⟨a, q⟩, h1, h2⟩ := Option.bind_eq_some_iff.mp h
   simp only [aV, aW] at h2
   have := ih _ _ _ h1
   rw [ex] at this
   rw [← h2.2]; omega
  split at h
  ·obtain ⟨⟨a, q⟩, h1, h2⟩ := Option.bind_eq_some_iff.mp h
   have l1 := ih _ _ _ h1
   rw [ex] at l1
   simp only at h2
   split at h2
   ·cases h2
   split at h2
   ·obtain ⟨⟨b, z⟩, h3, h4⟩ := Option.bind_eq_some_iff.mp h2
    have l2 := ih _ _ _ h3
    rw [ex] at l2
    simp only at h4
    split at h4
    ·cases h4
    split at h4
    ·simp only [aV, aW] at h4
     rw [← h4.2, ex]; omega
    ·cases h4
   ·cases h2
  ·cases h
/-- What the function hands back. -/
def impl_parse.Res (w : World) : Option (Tm × ByteArray) → Ending → World → Prop
 | none, e, w' => e = .returned (.tuple #[.pointer none, .string ⟨#[]⟩]) ∧ Below w.heap.size w w'
 | some (t, r), e, w' => ∃ v, e = .returned (.tuple #[v, .string r]) ∧ t.At w' w.heap.size w'.heap.size v ∧ Below w.heap.size w w'
theorem impl_parse.calls (n : Nat) : ∀ (s : ByteArray) (w : World), s.size < n → Calls Try.prog 39 #[.string s] w (impl_parse.Res w (Tm.parse n s)) := by
 induction n with
 | zero => intro s w h; omega
 | succ n ih =>
  intro s w h
  have ex : ∀ z : ByteArray, (z.extract 1 z.size).size = z.size - 1 := fun z => by simp
  unfold Tm.parse
  by_cases h0 : s.size = 0
  ·rw [if_pos h0]; exact impl_parse.empty s w h0
  rw [if_neg h0]
  by_cases h1 : bt s 0 = 48 ∨ bt s 0 = 49 ∨ bt s 0 = 97
  ·rw [if_pos h1]; exact impl_parse.leaf s w h0 _ rfl h1
  rw [if_neg h1]
  have i1 := fun W => ih (s.extract 1 s.size) W (by rw [ex]; omega)
  by_cases h2 : bt s 0 = 42 ∨ (50 ≤ bt s 0 ∧ bt s 0 ≤ 53)
  ·rw [if_pos h2]
   cases hp : Tm.parse n (s.extract 1 s.size) with
   | none => rw [hp] at i1; exact impl_parse.un_no s w h0 _ rfl h2 i1
   | some x => obtain ⟨a, r⟩ := x; rw [hp] at i1; exact impl_parse.un_yes s w h0 _ rfl h2 a r i1
  rw [if_neg h2]
  by_cases h3 : bt s 0 = 40
  ·rw [if_pos h3]
   cases hp : Tm.parse n (s.extract 1 s.size) with
   | none => rw [hp] at i1; exact impl_parse.two_no s w h0 h3 i1
   | some x =>
    obtain ⟨a, r⟩ := x
    rw [hp] at i1
    have l1 := Tm.parse_lt _ _ _ _ hp
    rw [ex] at l1
    simp only [bR]
    by_cases h4 : r.size = 0
    ·rw [if_pos h4]; exact impl_parse.two_end s w h0 h3 a r i1 h4
    rw [if_neg h4]
    by_cases h5 : bt r 0 = 43 ∨ bt r 0 = 46 ∨ bt r 0 = 38
    ·rw [if_pos h5]
     have i2 := fun W => ih (r.extract 1 r.size) W (by rw [ex]; omega)
     cases hq : Tm.parse n (r.extract 1 r.size) with
     | none => rw [hq] at i2; exact impl_parse.two_none s w h0 h3 a r i1 h4 _ rfl h5 i2
     | some y =>
      obtain ⟨b, q⟩ := y
      rw [hq] at i2
      simp only [bR]
      by_cases h6 : q.size = 0
      ·rw [if_pos h6]; exact impl_parse.two_open s w h0 h3 a r i1 h4 _ rfl h5 b q i2 h6
      rw [if_neg h6]
      by_cases h7 : bt q 0 = 41
      ·rw [if_pos h7]; exact impl_parse.two_yes s w h0 h3 a r i1 h4 _ rfl h5 b q i2 h6 h7
      ·rw [if_neg h7]; exact impl_parse.two_shut s w h0 h3 a r i1 h4 _ rfl h5 b q i2 h6 h7
    ·rw [if_neg h5]; exact impl_parse.two_sign s w h0 h3 a r i1 h4 _ rfl h5
  ·rw [if_neg h3]; exact impl_parse.bad s w h0 _ rfl h1 h2 h3
/-- The term of a text. -/
def Tm.of (s : ByteArray) : Option Tm := if s.size ≤ 60 then (Tm.parse 61 s).bind fun x => if x.2.size = 0 then some x.1 else none else none
/-- What the function hands back. -/
def impl_termOf.Res (w : World) : Option Tm → Ending → World → Prop
 | none, e, w' => e = .returned (.pointer none) ∧ Below w.heap.size w w'
 | some t, e, w' => ∃ g, e = .returned (.pointer (some ⟨g, 0, none⟩)) ∧ t.At w' w.heap.size w'.heap.size (.pointer (some ⟨g, 0, none⟩)) ∧ Below w.heap.size w w'
set_option maxHeartbeats 2000000 in
set_option maxRecDepth 100000 in
theorem impl_termOf.calls (s : ByteArray) (w : World) : Calls Try.prog 25 #[.string s] w (impl_termOf.Res w (Tm.of s)) := by
 unfold Tm.of
 by_cases h : s.size ≤ 60
 ·rw [if_pos h]
  have hl : ¬ (60 : Int) < (s.size : Int) := by omega
  have C := aM (impl_parse.calls 61 s w (by omega))
  cases hp : Tm.parse 61 s with
  | none =>
   rw [hp] at C
   have C0 : Calls Try.prog 39 #[.string s] w fun e w' => e = .returned (.tuple #[.pointer none, .string ⟨#[]⟩]) ∧ Below w.heap.size w w' := C.out
   clear C
   go_enter Try.func25, Try.ntmps25
   go_wp2_with (go_at_call 39; refine C0.mono ?_; rintro e w1 ⟨rfl, hb⟩; have HB := aM hb; clear hb)
   go_ret
   exact ⟨rfl, HB.out⟩
  | some x =>
   obtain ⟨t, r⟩ := x
   rw [hp] at C
   have C0 : Calls Try.prog 39 #[.string s] w fun e w' => ∃ v, e = .returned (.tuple #[v, .string r]) ∧ t.At w' w.heap.size w'.heap.size v ∧ Below w.heap.size w w' := C.out
   clear C
   simp only [bR]
   by_cases hr : r.size = 0
   ·rw [if_pos hr]
    have hr0 : r.toList.isEmpty = true := by rw [impl_parse.isEmpty, aH hr]
    go_enter Try.func25, Try.ntmps25
    go_wp2_with (go_at_call 39; refine C0.mono ?_; rintro e w1 ⟨v, rfl, hat, hb⟩; have HB := aM hb; have HAT := aM hat; obtain ⟨p, _, _, rfl⟩ := hat.ptr; clear hb hat)
    go_ret
    exact ⟨p, rfl, HAT.out, HB.out⟩
   ·rw [if_neg hr]
    have hr0 : r.toList.isEmpty = false := by rw [impl_parse.isEmpty, aK hr]
    go_enter Try.func25, Try.ntmps25
    go_wp2_with (go_at_call 39; refine C0.mono ?_; rintro e w1 ⟨v, rfl, hat, hb⟩; have HB := aM hb; clear hb hat)
    go_ret
    exact ⟨rfl, HB.out⟩
 ·rw [if_neg h]
  have hl : (60 : Int) < (s.size : Int) := by omega
  go_enter Try.func25, Try.ntmps25
  go_wp2
  go_ret
  exact ⟨rfl, cE _ _⟩
def impl_term_set.f (k : Nat) : Tm → Option (ByteArray × Bool)
 | .leaf c => if c = 48 then some (⟨#[40, 48, 41]⟩, true) else if c = 49 then some (⟨#[49, 40, 48, 41]⟩, true) else if c = 97 then some (⟨#[48, 49, 40, 48, 41]⟩, true) else none
 | .un c a => (impl_term_set.f k a).bind fun x => if x.2 = true then (if c = 42 then impl_StarOf.f k x.1 else if 50 ≤ c ∧ c ≤ 53 then impl_SumTimes.f k x.1 (c - 48) else none) else some (⟨#[]⟩, false)
 | .bin c a b => (impl_term_set.f k a).bind fun x => if x.2 = true then ((impl_term_set.f k b).bind fun y => if y.2 = true then (if c = 43 then impl_MakeEither.f k x.1 y.1 else if c = 46 then impl_SumOf.f k x.1 y.1 else if c = 38 then impl_MakeBoth.f k x.1 y.1 else none) else some (⟨#[]⟩, false)) else some (⟨#[]⟩, false)
/-- A row of texts, cell by cell. -/
theorem impl_term_set.row {w : World} {base : Nat} {ok : Nat → Prop} {v : Value} {xs : List ByteArray} (h : Kd.string.R 9 w base ok v xs) (hp : 0 < xs.length) : ∃ h n, v = .slice (some ⟨h, 0, none⟩) xs.length n ∧ base ≤ h ∧ h < w.heap.size ∧ ∀ i, i < xs.length → w.cell? ⟨h, i, none⟩ = some (.string (xs.getD i ByteArray.empty)) := by
 obtain ⟨g, cap, rfl, h1, h2, cells, h3⟩ := cQ h hp
 refine ⟨g, cap, rfl, h1, h2, fun i hi => ?_⟩
 obtain ⟨ad, c, e, _, hk, hc⟩ := Kd.C_get (bM h).2.2 ByteArray.empty (i : Int) (by omega) (by omega)
 obtain rfl := bU e
 have hk' : c = [Value.string (xs.getD i ByteArray.empty)] := hk
 have := hc 0 (.string (xs.getD i ByteArray.empty)) (by rw [hk']; rfl)
 rw [show ((i : Int).toNat * Kd.string.sz + 0) = i by simp [Kd.string, Kd.scalar], add_plain] at this
 exact this
theorem impl_term_set.row1 {w : World} {base : Nat} {ok : Nat → Prop} {v : Value} {x : ByteArray} (h : Kd.string.R 9 w base ok v [x]) : ∃ h n, v = .slice (some ⟨h, 0, none⟩) 1 n ∧ base ≤ h ∧ h < w.heap.size ∧ w.cell? ⟨h, 0, none⟩ = some (.string x) := by
 obtain ⟨h, n, h1, h2, h3, h4⟩ := impl_term_set.row h (by simp)
 exact ⟨h, n, h1, h2, h3, h4 0 (by simp)⟩
theorem impl_term_set.row2 {w : World} {base : Nat} {ok : Nat → Prop} {v : Value} {x y : ByteArray} (h : Kd.string.R 9 w base ok v [x, y]) : ∃ h n, v = .slice (some ⟨h, 0, none⟩) 2 n ∧ base ≤ h ∧ h < w.heap.size ∧ w.cell? ⟨h, 0, none⟩ = some (.string x) ∧ w.cell? ⟨h, 1, none⟩ = some (.string y) := by
 obtain ⟨h, n, h1, h2, h3, h4⟩ := impl_term_set.row h (by simp)
 exact ⟨h, n, h1, h2, h3, h4 0 (by simp), h4 1 (by simp)⟩
theorem impl_term_set.infoS : (Try.prog.info? 9).map (fun i => (i.zero, i.size, i.bytes)) = some (some (.string ⟨#[]⟩), 1, 16) := by kernel_rfl
set_option maxHeartbeats 4000000 in
set_option maxRecDepth 100000 in
theorem impl_term_set.leaf_zero (k : Nat) (g : Nat) (w : World) (hb : w.heap[g]? = some (.cells #[.int .u8 48, .slice none 0 0] 72 (0, 0))) :
  Calls Try.prog 31 #[.pointer (some ⟨g, 0, none⟩)] w fun e w' => e = .returned (.tuple #[.string ⟨#[40, 48, 41]⟩, .bool true]) ∧ Below w.heap.size w w' := by
 have e0 := aA hb 0
 have e1 := aA hb 1
 go_enter Try.func31, Try.ntmps31
 go_wp2
 refine wp_loop_rounds 1 ?_
 rw [rounds_succ]
 go_wp2
 go_ret2
 exact ⟨rfl, cE _ _⟩
set_option maxHeartbeats 4000000 in
set_option maxRecDepth 100000 in
theorem impl_term_set.leaf_one (k : Nat) (g : Nat) (w : World) (hb : w.heap[g]? = some (.cells #[.int .u8 49, .slice none 0 0] 72 (0, 0))) :
  Calls Try.prog 31 #[.pointer (some ⟨g, 0, none⟩)] w fun e w' => e = .returned (.tuple #[.string ⟨#[49, 40, 48, 41]⟩, .bool true]) ∧ Below w.heap.size w w' := by
 have e0 := aA hb 0
 have e1 := aA hb 1
 go_enter Try.func31, Try.ntmps31
 go_wp2
 refine wp_loop_rounds 1 ?_
 rw [rounds_succ]
 go_wp2
 go_ret2
 exact ⟨rfl, cE _ _⟩
set_option maxHeartbeats 4000000 in
set_option maxRecDepth 100000 in
theorem impl_term_set.leaf_a (k : Nat) (g : Nat) (w : World) (hb : w.heap[g]? = some (.cells #[.int .u8 97, .slice none 0 0] 72 (0, 0))) :
  Calls Try.prog 31 #[.pointer (some ⟨g, 0, none⟩)] w fun e w' => e = .returned (.tuple #[.string ⟨#[48, 49, 40, 48, 41]⟩, .bool true]) ∧ Below w.heap.size w w' := by
 have e0 := aA hb 0
 have e1 := aA hb 1
 go_enter Try.func31, Try.ntmps31
 go_wp2
 refine wp_loop_rounds 1 ?_
 rw [rounds_succ]
 go_wp2
 go_ret2
 exact ⟨rfl, cE _ _⟩
set_option maxHeartbeats 4000000 in
set_option maxRecDepth 100000 in
theorem impl_term_set.un_no (k : Nat) (g h n : Nat) (c : Int) (cs : Array Value) (x : Value) (w : World) (hb : w.heap[g]? = some (.cells #[.int .u8 c, .slice (some ⟨h, 0, none⟩) 1 n] 72 (0, 0))) (hr : w.heap[h]? = some (.cells cs 42 (0, 0))) (hx : cs[0]? = some x) (s : ByteArray) (ih : ∀ W, Below w.heap.size w W → Calls Try.prog 31 #[x] W fun e w' => e = .returned (.tuple #[.string s, .bool false]) ∧ Below W.heap.size W w') :
  Calls Try.prog 31 #[.pointer (some ⟨g, 0, none⟩)] w fun e w' => e = .returned (.tuple #[.string ⟨#[]⟩, .bool false]) ∧ Below w.heap.size w w' := by
 have e1 := aA hb 1
 have e2 : w.cell? ⟨h, 0, none⟩ = some x := (aA hr 0).trans hx
 have IH := aM ih
 clear ih hb hr hx
 go_enter Try.func31, Try.ntmps31
 go_wp2
 refine wp_loop_rounds 1 ?_
 rw [rounds_succ]
 go_wp2_with (go_at_call_of 31 x; refine (IH.out _ (cE _ _)).mono ?_; rintro e w1 ⟨rfl, hd⟩; have HB1 := aM (aE (cE _ _) hd); clear hd)
 go_ret2
 exact ⟨rfl, HB1.out⟩
set_option maxHeartbeats 4000000 in
set_option maxRecDepth 100000 in
theorem impl_term_set.star (k : Nat) (g h n : Nat) (c : Int) (cs : Array Value) (x : Value) (w : World) (hb : w.heap[g]? = some (.cells #[.int .u8 c, .slice (some ⟨h, 0, none⟩) 1 n] 72 (0, 0))) (hr : w.heap[h]? = some (.cells cs 42 (0, 0))) (hx : cs[0]? = some x) (hc : c = 42) (s : ByteArray) (ih : ∀ W, Below w.heap.size w W → Calls Try.prog 31 #[x] W fun e w' => e = .returned (.tuple #[.string s, .bool true]) ∧ Below W.heap.size W w') (r1 : ByteArray) (r2 : Bool) (h9 : impl_StarOf.f k s = some (r1, r2)) :
  Calls Try.prog 31 #[.pointer (some ⟨g, 0, none⟩)] w fun e w' => e = .returned (.tuple #[.string r1, .bool r2]) ∧ Below w.heap.size w w' := by
 subst hc
 have e1 := aA hb 1
 have e2 : w.cell? ⟨h, 0, none⟩ = some x := (aA hr 0).trans hx
 have BT := aM hb
 have IH := aM ih
 clear ih hb hr hx
 have H9 := aM h9
 clear h9
 go_enter Try.func31, Try.ntmps31
 go_wp2
 refine wp_loop_rounds 2 ?_
 rw [rounds_succ]
 go_wp2_with (first | (go_at_call_of 31 x; refine (IH.out _ (cE _ _)).mono ?_; rintro e w1 ⟨rfl, hd⟩; have HB1 := aM (aE (cE _ _) hd); clear hd) | ((with_reducible refine gate_builtin (b := .append) (xs := #[.tmp 25, .tmp 27]) rfl ?_); at_builtin; refine Kd.R_append Kd.string (w0 := w) w.heap.size rfl (.tmp 25) (.tmp 27) 65 9 (.string ⟨#[]⟩) 16 rfl Try.underlying65 impl_term_set.infoS rfl (by decide) (by omega) (.slice none 0 0) ([] : List ByteArray) s [.string s] (fun _ => True) (fun _ => False) rfl rfl ?aP (fun _ hk => hk.elim) ?aF ?aO ?aB ?aS ?aL ?_; (case aP => exact rfl); (case aB => exact HB1.out); (case aF => exact (fun _ _ => trivial)); (case aO => exact (Kd.R_nil _ _ _ _ _)); (case aS => exact HB1.out.size); (case aL => simp); intro v1_ w1_ ho hb hg hat; obtain ⟨rh1, rn1, rfl, rb1, rl1, rc1⟩ := impl_term_set.row1 ho; have HG1 := aM hb; have g20 := aA (aD BT.out hb) 0; clear ho hb hg hat))
 rw [rounds_succ]
 have HG2 := aM HG1.out
 go_wp2_with (go_at_call 46; refine (impl_StarOf.calls k s r1 r2 _ H9.out).mono ?_; rintro e w9 ⟨rfl, hd⟩; have HB9 := aM (aE HG2.out hd); clear hd)
 go_ret2
 exact ⟨rfl, HB9.out⟩
def impl_term_set.T25 : Bool × List (List Nat × List Nat) := (true, [([], []), ([0], [0]), ([1], [1]), ([], []), ([3], [3]), ([4], [4]), ([5], [5]), ([6], [6]), ([7], [7]), ([2, 8], [2, 8]), ([9], [9]), ([9], [9]), ([10, 9, 0, 1, 2, 3, 4, 5, 6, 7, 8, 9, 10, 11], [10]), ([11, 12, 0, 1, 2, 3, 4, 5, 6, 7, 8, 9, 10, 11, 12], [11])])
def impl_term_set.B25 : List Nat := [0, 1, 3, 0, 8, 24, 56, 120, 248, 511, 1023, 1023, 4095, 8191]
theorem impl_term_set.tab25 : rtab .any (opsOf Try.f31 25) = impl_term_set.T25 := by kernel_rfl
theorem impl_term_set.bits25 : waitsOk impl_term_set.T25.2 impl_term_set.B25 = true := by kernel_rfl
def impl_term_set.T20 : Bool × List (List Nat × List Nat) := (true, [([], []), ([0], [0]), ([1], [1]), ([], []), ([3], [3]), ([4], [4]), ([2, 5], [2, 5]), ([6], [6]), ([6], [6]), ([7, 6, 0, 1, 2, 3, 4, 5, 6, 7, 8], [7]), ([8, 9, 0, 1, 2, 3, 4, 5, 6, 7, 8, 9], [8])])
def impl_term_set.B20 : List Nat := [0, 1, 3, 0, 8, 24, 63, 127, 127, 511, 1023]
theorem impl_term_set.tab20 : rtab .any (opsOf Try.f31 20) = impl_term_set.T20 := by kernel_rfl
theorem impl_term_set.bits20 : waitsOk impl_term_set.T20.2 impl_term_set.B20 = true := by kernel_rfl
def impl_term_set.T22 : Bool × List (List Nat × List Nat) := (true, [([], []), ([0], [0]), ([1], [1]), ([], []), ([3], [3]), ([4], [4]), ([2, 5], [2, 5]), ([6], [6]), ([6], [6]), ([7, 6, 0, 1, 2, 3, 4, 5, 6, 7, 8], [7]), ([8, 9, 0, 1, 2, 3, 4, 5, 6, 7, 8, 9], [8])])
def impl_term_set.B22 : List Nat := [0, 1, 3, 0, 8, 24, 63, 127, 127, 511, 1023]
theorem impl_term_set.tab22 : rtab .any (opsOf Try.f31 22) = impl_term_set.T22 := by kernel_rfl
theorem impl_term_set.bits22 : waitsOk impl_term_set.T22.2 impl_term_set.B22 = true := by kernel_rfl
def impl_term_set.T24 : Bool × List (List Nat × List Nat) := (true, [([], []), ([0], [0]), ([1], [1]), ([], []), ([3], [3]), ([4], [4]), ([2, 5], [2, 5]), ([6], [6]), ([6], [6]), ([7, 6, 0, 1, 2, 3, 4, 5, 6, 7, 8], [7]), ([8, 9, 0, 1, 2, 3, 4, 5, 6, 7, 8, 9], [8])])
def impl_term_set.B24 : List Nat := [0, 1, 3, 0, 8, 24, 63, 127, 127, 511, 1023]
theorem impl_term_set.tab24 : rtab .any (opsOf Try.f31 24) = impl_term_set.T24 := by kernel_rfl
theorem impl_term_set.bits24 : waitsOk impl_term_set.T24.2 impl_term_set.B24 = true := by kernel_rfl
set_option maxHeartbeats 4000000 in
set_option maxRecDepth 100000 in
theorem impl_term_set.times (k : Nat) (g h n : Nat) (c : Int) (cs : Array Value) (x : Value) (w : World) (hb : w.heap[g]? = some (.cells #[.int .u8 c, .slice (some ⟨h, 0, none⟩) 1 n] 72 (0, 0))) (hr : w.heap[h]? = some (.cells cs 42 (0, 0))) (hx : cs[0]? = some x) (hc : 50 ≤ c ∧ c ≤ 53) (s : ByteArray) (ih : ∀ W, Below w.heap.size w W → Calls Try.prog 31 #[x] W fun e w' => e = .returned (.tuple #[.string s, .bool true]) ∧ Below W.heap.size W w') (r1 : ByteArray) (r2 : Bool) (h9 : impl_SumTimes.f k s (c - 48) = some (r1, r2)) :
  Calls Try.prog 31 #[.pointer (some ⟨g, 0, none⟩)] w fun e w' => e = .returned (.tuple #[.string r1, .bool r2]) ∧ Below w.heap.size w w' := by
 have e1 := aA hb 1
 have e2 : w.cell? ⟨h, 0, none⟩ = some x := (aA hr 0).trans hx
 have BT := aM hb
 have IH := aM ih
 clear ih hb hr hx
 have H9 := aM h9
 have n0 : (c == 48) = false := beq_eq_false_iff_ne.mpr (by omega)
 have n1 : (c == 49) = false := beq_eq_false_iff_ne.mpr (by omega)
 have n2 : (c == 97) = false := beq_eq_false_iff_ne.mpr (by omega)
 have n3 : (c == 42) = false := beq_eq_false_iff_ne.mpr (by omega)
 have n4 : (c == 43) = false := beq_eq_false_iff_ne.mpr (by omega)
 have n5 : (c == 46) = false := beq_eq_false_iff_ne.mpr (by omega)
 have n6 : (c == 38) = false := beq_eq_false_iff_ne.mpr (by omega)
 have hm : (c - 48) % 256 = c - 48 := by omega
 have hw : wrap64 (c - 48) = c - 48 := by unfold wrap64; omega
 have hw8 : IntKind.u8.wrap (c - 48) = c - 48 := by rw [show IntKind.u8.wrap (c - 48) = (c - 48) % 256 from rfl]; exact hm
 have hw64 : IntKind.i64.wrap (c - 48) = c - 48 := by rw [IntKind.wrap_i64]; omega
 clear h9 hc
 go_enter Try.func31, Try.ntmps31
 go_wp2
 refine wp_loop_rounds 2 ?_
 rw [rounds_succ]
 go_wp2_with (first | (go_at_call_of 31 x; refine (IH.out _ (cE _ _)).mono ?_; rintro e w1 ⟨rfl, hd⟩; have HB1 := aM (aE (cE _ _) hd); clear hd) | ((with_reducible refine gate_builtin (b := .append) (xs := #[.tmp 25, .tmp 27]) rfl ?_); at_builtin; refine Kd.R_append Kd.string (w0 := w) w.heap.size rfl (.tmp 25) (.tmp 27) 65 9 (.string ⟨#[]⟩) 16 rfl Try.underlying65 impl_term_set.infoS rfl (by decide) (by omega) (.slice none 0 0) ([] : List ByteArray) s [.string s] (fun _ => True) (fun _ => False) rfl rfl ?aP (fun _ hk => hk.elim) ?aF ?aO ?aB ?aS ?aL ?_; (case aP => exact rfl); (case aB => exact HB1.out); (case aF => exact (fun _ _ => trivial)); (case aO => exact (Kd.R_nil _ _ _ _ _)); (case aS => exact HB1.out.size); (case aL => simp); intro v1_ w1_ ho hb hg hat; obtain ⟨rh1, rn1, rfl, rb1, rl1, rc1⟩ := impl_term_set.row1 ho; have HG1 := aM hb; have g20 := aA (aD BT.out hb) 0; clear ho hb hg hat))
 rw [rounds_succ]
 have HG2 := aM HG1.out
 go_wp2
 have HB8 := aM (b1 HG2.out)
 have C0 := aM (show w1_.drew.cell? ⟨rh1, 0, none⟩ = some (.string s) from rc1)
 have C1 := aM (show w1_.drew.cell? ⟨g, 0, none⟩ = some (.int .u8 c) from g20)
 refine start_ (n := 14) (S := fun w' => w'.cell? ⟨rh1, 0, none⟩ = some (.string s) ∧ w'.cell? ⟨g, 0, none⟩ = some (.int .u8 c)) (ds := []) #[false, false, false, false, false, false, false, false, false, false, false, false, false, false] (by kernel_rfl) rfl rfl ⟨C0.out, C1.out⟩ (fun hHeld => ?_); refine with_tabW impl_term_set.tab25 impl_term_set.bits25 (fun HT_ HW_ => ?_)
 generalize w1_.drew = W9 at HB8 C0 C1 hHeld ⊢
 refine pQ 0 81 HT_ ?_
 refine pQ 1 82 HT_ ?_
 refine tQ 2 83 HT_ HW_ hHeld ?_
 refine pQ 3 84 HT_ ?_
 refine pQ 4 85 HT_ ?_
 refine pQ 5 86 HT_ ?_
 refine tQ 6 87 HT_ HW_ hHeld ?_
 refine pQ 7 88 HT_ ?_
 refine pQ 8 89 HT_ ?_
 refine oQ 9 90 HT_ (fun K hK => ?_)
 refine gO Try.func50 #[.string s, .int .i64 (c - 48)] ?_
 refine (impl_SumTimes.calls k s (c - 48) r1 r2 _ H9.out).mono ?_
 rintro e w9 ⟨rfl, hd⟩
 refine ⟨_, rfl, ?_⟩
 have HB9 := aM (aE HB8.out hd)
 refine hK.out _ _ ⟨cN hd C0.out, cN hd C1.out⟩ (fun hHeld => ?_)
 clear hK K
 refine nQ ?_
 refine pQ 10 91 HT_ ?_
 refine pQ 11 92 HT_ ?_
 refine pQ 12 2 HT_ ?_
 refine pQ 13 3 HT_ ?_
 refine done_ (done_of HT_.out (by kernel_rfl)) ?_
 go_wp2
 go_ret2
 exact ⟨rfl, HB9.out⟩
set_option maxHeartbeats 4000000 in
set_option maxRecDepth 100000 in
theorem impl_term_set.bin_no (k : Nat) (g h n : Nat) (c : Int) (cs : Array Value) (x y : Value) (w : World) (hb : w.heap[g]? = some (.cells #[.int .u8 c, .slice (some ⟨h, 0, none⟩) 2 n] 72 (0, 0))) (hr : w.heap[h]? = some (.cells cs 42 (0, 0))) (hx : cs[0]? = some x) (hy : cs[1]? = some y) (s : ByteArray) (ih : ∀ W, Below w.heap.size w W → Calls Try.prog 31 #[x] W fun e w' => e = .returned (.tuple #[.string s, .bool false]) ∧ Below W.heap.size W w') :
  Calls Try.prog 31 #[.pointer (some ⟨g, 0, none⟩)] w fun e w' => e = .returned (.tuple #[.string ⟨#[]⟩, .bool false]) ∧ Below w.heap.size w w' := by
 have e1 := aA hb 1
 have e2 : w.cell? ⟨h, 0, none⟩ = some x := (aA hr 0).trans hx
 have IH := aM ih
 clear ih hb hr hx hy
 go_enter Try.func31, Try.ntmps31
 go_wp2
 refine wp_loop_rounds 1 ?_
 rw [rounds_succ]
 go_wp2_with (go_at_call_of 31 x; refine (IH.out _ (cE _ _)).mono ?_; rintro e w1 ⟨rfl, hd⟩; have HB1 := aM (aE (cE _ _) hd); clear hd)
 go_ret2
 exact ⟨rfl, HB1.out⟩
set_option maxHeartbeats 4000000 in
set_option maxRecDepth 100000 in
theorem impl_term_set.bin_no2 (k : Nat) (g h n : Nat) (c : Int) (cs : Array Value) (x y : Value) (w : World) (hb : w.heap[g]? = some (.cells #[.int .u8 c, .slice (some ⟨h, 0, none⟩) 2 n] 72 (0, 0))) (hr : w.heap[h]? = some (.cells cs 42 (0, 0))) (hx : cs[0]? = some x) (hy : cs[1]? = some y) (s u : ByteArray) (ih : ∀ W, Below w.heap.size w W → Calls Try.prog 31 #[x] W fun e w' => e = .returned (.tuple #[.string s, .bool true]) ∧ Below W.heap.size W w') (ih2 : ∀ W, Below w.heap.size w W → Calls Try.prog 31 #[y] W fun e w' => e = .returned (.tuple #[.string u, .bool false]) ∧ Below W.heap.size W w') :
  Calls Try.prog 31 #[.pointer (some ⟨g, 0, none⟩)] w fun e w' => e = .returned (.tuple #[.string ⟨#[]⟩, .bool false]) ∧ Below w.heap.size w w' := by
 have e1 := aA hb 1
 have e2 : w.cell? ⟨h, 0, none⟩ = some x := (aA hr 0).trans hx
 have IH := aM ih
 have HR := aM hr; have HY := aM hy
 clear ih hb hr hx hy
 have IH2 := aM ih2
 clear ih2
 go_enter Try.func31, Try.ntmps31
 go_wp2
 refine wp_loop_rounds 2 ?_
 rw [rounds_succ]
 go_wp2_with (first | (go_at_call_of 31 x; refine (IH.out _ (cE _ _)).mono ?_; rintro e w1 ⟨rfl, hd⟩; have HB1 := aM (aE (cE _ _) hd); clear hd) | ((with_reducible refine gate_builtin (b := .append) (xs := #[.tmp 25, .tmp 27]) rfl ?_); at_builtin; refine Kd.R_append Kd.string (w0 := w) w.heap.size rfl (.tmp 25) (.tmp 27) 65 9 (.string ⟨#[]⟩) 16 rfl Try.underlying65 impl_term_set.infoS rfl (by decide) (by omega) (.slice none 0 0) ([] : List ByteArray) s [.string s] (fun _ => True) (fun _ => False) rfl rfl ?aP (fun _ hk => hk.elim) ?aF ?aO ?aB ?aS ?aL ?_; (case aP => exact rfl); (case aB => exact HB1.out); (case aF => exact (fun _ _ => trivial)); (case aO => exact (Kd.R_nil _ _ _ _ _)); (case aS => exact HB1.out.size); (case aL => simp); intro v1_ w1_ ho hb hg hat; obtain ⟨rh1, rn1, rfl, rb1, rl1, rc1⟩ := impl_term_set.row1 ho; have HG1 := aM hb; have y1 : w1_.cell? ⟨h, 1, none⟩ = some y := (aA (aD HR.out hb) 1).trans HY.out; clear ho hb hg hat))
 rw [rounds_succ]
 go_wp2_with (go_at_call_of 31 y; refine (IH2.out _ HG1.out).mono ?_; rintro e w2 ⟨rfl, hd⟩; have HB2 := aM (aE HG1.out hd); clear hd)
 go_ret2
 exact ⟨rfl, HB2.out⟩
set_option maxHeartbeats 4000000 in
set_option maxRecDepth 100000 in
theorem impl_term_set.either (k : Nat) (g h n : Nat) (c : Int) (cs : Array Value) (x y : Value) (w : World) (hb : w.heap[g]? = some (.cells #[.int .u8 c, .slice (some ⟨h, 0, none⟩) 2 n] 72 (0, 0))) (hr : w.heap[h]? = some (.cells cs 42 (0, 0))) (hx : cs[0]? = some x) (hy : cs[1]? = some y) (hc : c = 43) (s u : ByteArray) (ih : ∀ W, Below w.heap.size w W → Calls Try.prog 31 #[x] W fun e w' => e = .returned (.tuple #[.string s, .bool true]) ∧ Below W.heap.size W w') (ih2 : ∀ W, Below w.heap.size w W → Calls Try.prog 31 #[y] W fun e w' => e = .returned (.tuple #[.string u, .bool true]) ∧ Below W.heap.size W w') (r1 : ByteArray) (r2 : Bool) (h9 : impl_MakeEither.f k s u = some (r1, r2)) :
  Calls Try.prog 31 #[.pointer (some ⟨g, 0, none⟩)] w fun e w' => e = .returned (.tuple #[.string r1, .bool r2]) ∧ Below w.heap.size w w' := by
 subst hc
 have e1 := aA hb 1
 have e2 : w.cell? ⟨h, 0, none⟩ = some x := (aA hr 0).trans hx
 have BT := aM hb
 have IH := aM ih
 have HR := aM hr; have HY := aM hy
 clear ih hb hr hx hy
 have IH2 := aM ih2
 clear ih2
 have H9 := aM h9
 clear h9
 go_enter Try.func31, Try.ntmps31
 go_wp2
 refine wp_loop_rounds 3 ?_
 rw [rounds_succ]
 go_wp2_with (first | (go_at_call_of 31 x; refine (IH.out _ (cE _ _)).mono ?_; rintro e w1 ⟨rfl, hd⟩; have HB1 := aM (aE (cE _ _) hd); clear hd) | ((with_reducible refine gate_builtin (b := .append) (xs := #[.tmp 25, .tmp 27]) rfl ?_); at_builtin; refine Kd.R_append Kd.string (w0 := w) w.heap.size rfl (.tmp 25) (.tmp 27) 65 9 (.string ⟨#[]⟩) 16 rfl Try.underlying65 impl_term_set.infoS rfl (by decide) (by omega) (.slice none 0 0) ([] : List ByteArray) s [.string s] (fun _ => True) (fun _ => False) rfl rfl ?aP (fun _ hk => hk.elim) ?aF ?aO ?aB ?aS ?aL ?_; (case aP => exact rfl); (case aB => exact HB1.out); (case aF => exact (fun _ _ => trivial)); (case aO => exact (Kd.R_nil _ _ _ _ _)); (case aS => exact HB1.out.size); (case aL => simp); intro v1_ w1_ ho hb hg hat; obtain ⟨rh1, rn1, rfl, rb1, rl1, rc1⟩ := impl_term_set.row1 ho; have HR1 := aM ho; have HG1 := aM hb; have y1 : w1_.cell? ⟨h, 1, none⟩ = some y := (aA (aD HR.out hb) 1).trans HY.out; clear ho hb hg hat))
 rw [rounds_succ]
 go_wp2_with (first | (go_at_call_of 31 y; refine (IH2.out _ HG1.out).mono ?_; rintro e w2 ⟨rfl, hd⟩; have HB2 := aM (aE HG1.out hd); have HR2 := aM (bG HR1.out hd); clear hd) | ((with_reducible refine gate_builtin (b := .append) (xs := #[.tmp 25, .tmp 27]) rfl ?_); at_builtin; refine Kd.R_append Kd.string (w0 := w) w.heap.size rfl (.tmp 25) (.tmp 27) 65 9 (.string ⟨#[]⟩) 16 rfl Try.underlying65 impl_term_set.infoS rfl (by decide) (by omega) (.slice (some ⟨rh1, 0, none⟩) 1 rn1) [s] u [.string u] (fun _ => True) (fun _ => False) rfl rfl ?aP (fun _ hk => hk.elim) ?aF ?aO ?aB ?aS ?aL ?_; (case aP => exact rfl); (case aB => exact HB2.out); (case aF => exact (fun _ _ => trivial)); (case aO => exact HR2.out); (case aS => exact HB2.out.size); (case aL => simp); intro v2_ w2_ ho hb hg hat; obtain ⟨rh2, rn2, rfl, rb2, rl2, rc2, rd2⟩ := impl_term_set.row2 ho; have HG2 := aM hb; have g40 := aA (aD BT.out hb) 0; clear ho hb hg hat))
 rw [rounds_succ]
 go_wp2
 have HB8 := aM (b1 HG2.out)
 have C0 := aM (show w2_.drew.cell? ⟨rh2, 0, none⟩ = some (.string s) from rc2)
 have C1 := aM (show w2_.drew.cell? ⟨rh2, 1, none⟩ = some (.string u) from rd2)
 refine start_ (n := 11) (S := fun w' => w'.cell? ⟨rh2, 0, none⟩ = some (.string s) ∧ w'.cell? ⟨rh2, 1, none⟩ = some (.string u)) (ds := []) #[false, false, false, false, false, false, false, false, false, false, false] (by kernel_rfl) rfl rfl ⟨C0.out, C1.out⟩ (fun hHeld => ?_); refine with_tabW impl_term_set.tab20 impl_term_set.bits20 (fun HT_ HW_ => ?_)
 generalize w2_.drew = W9 at HB8 C0 C1 hHeld ⊢
 refine pQ 0 50 HT_ ?_
 refine pQ 1 51 HT_ ?_
 refine tQ 2 52 HT_ HW_ hHeld ?_
 refine pQ 3 53 HT_ ?_
 refine pQ 4 54 HT_ ?_
 refine tQ 5 55 HT_ HW_ hHeld ?_
 refine oQ 6 56 HT_ (fun K hK => ?_)
 refine gO Try.func47 #[.string s, .string u] ?_
 refine (impl_MakeEither.calls k s u r1 r2 _ H9.out).mono ?_
 rintro e w9 ⟨rfl, hd⟩
 refine ⟨_, rfl, ?_⟩
 have HB9 := aM (aE HB8.out hd)
 refine hK.out _ _ ⟨cN hd C0.out, cN hd C1.out⟩ (fun hHeld => ?_)
 clear hK K
 refine nQ ?_
 refine pQ 7 57 HT_ ?_
 refine pQ 8 58 HT_ ?_
 refine pQ 9 2 HT_ ?_
 refine pQ 10 3 HT_ ?_
 refine done_ (done_of HT_.out (by kernel_rfl)) ?_
 go_wp2
 go_ret2
 exact ⟨rfl, HB9.out⟩
set_option maxHeartbeats 4000000 in
set_option maxRecDepth 100000 in
theorem impl_term_set.sum (k : Nat) (g h n : Nat) (c : Int) (cs : Array Value) (x y : Value) (w : World) (hb : w.heap[g]? = some (.cells #[.int .u8 c, .slice (some ⟨h, 0, none⟩) 2 n] 72 (0, 0))) (hr : w.heap[h]? = some (.cells cs 42 (0, 0))) (hx : cs[0]? = some x) (hy : cs[1]? = some y) (hc : c = 46) (s u : ByteArray) (ih : ∀ W, Below w.heap.size w W → Calls Try.prog 31 #[x] W fun e w' => e = .returned (.tuple #[.string s, .bool true]) ∧ Below W.heap.size W w') (ih2 : ∀ W, Below w.heap.size w W → Calls Try.prog 31 #[y] W fun e w' => e = .returned (.tuple #[.string u, .bool true]) ∧ Below W.heap.size W w') (r1 : ByteArray) (r2 : Bool) (h9 : impl_SumOf.f k s u = some (r1, r2)) :
  Calls Try.prog 31 #[.pointer (some ⟨g, 0, none⟩)] w fun e w' => e = .returned (.tuple #[.string r1, .bool r2]) ∧ Below w.heap.size w w' := by
 subst hc
 have e1 := aA hb 1
 have e2 : w.cell? ⟨h, 0, none⟩ = some x := (aA hr 0).trans hx
 have BT := aM hb
 have IH := aM ih
 have HR := aM hr; have HY := aM hy
 clear ih hb hr hx hy
 have IH2 := aM ih2
 clear ih2
 have H9 := aM h9
 clear h9
 go_enter Try.func31, Try.ntmps31
 go_wp2
 refine wp_loop_rounds 3 ?_
 rw [rounds_succ]
 go_wp2_with (first | (go_at_call_of 31 x; refine (IH.out _ (cE _ _)).mono ?_; rintro e w1 ⟨rfl, hd⟩; have HB1 := aM (aE (cE _ _) hd); clear hd) | ((with_reducible refine gate_builtin (b := .append) (xs := #[.tmp 25, .tmp 27]) rfl ?_); at_builtin; refine Kd.R_append Kd.string (w0 := w) w.heap.size rfl (.tmp 25) (.tmp 27) 65 9 (.string ⟨#[]⟩) 16 rfl Try.underlying65 impl_term_set.infoS rfl (by decide) (by omega) (.slice none 0 0) ([] : List ByteArray) s [.string s] (fun _ => True) (fun _ => False) rfl rfl ?aP (fun _ hk => hk.elim) ?aF ?aO ?aB ?aS ?aL ?_; (case aP => exact rfl); (case aB => exact HB1.out); (case aF => exact (fun _ _ => trivial)); (case aO => exact (Kd.R_nil _ _ _ _ _)); (case aS => exact HB1.out.size); (case aL => simp); intro v1_ w1_ ho hb hg hat; obtain ⟨rh1, rn1, rfl, rb1, rl1, rc1⟩ := impl_term_set.row1 ho; have HR1 := aM ho; have HG1 := aM hb; have y1 : w1_.cell? ⟨h, 1, none⟩ = some y := (aA (aD HR.out hb) 1).trans HY.out; clear ho hb hg hat))
 rw [rounds_succ]
 go_wp2_with (first | (go_at_call_of 31 y; refine (IH2.out _ HG1.out).mono ?_; rintro e w2 ⟨rfl, hd⟩; have HB2 := aM (aE HG1.out hd); have HR2 := aM (bG HR1.out hd); clear hd) | ((with_reducible refine gate_builtin (b := .append) (xs := #[.tmp 25, .tmp 27]) rfl ?_); at_builtin; refine Kd.R_append Kd.string (w0 := w) w.heap.size rfl (.tmp 25) (.tmp 27) 65 9 (.string ⟨#[]⟩) 16 rfl Try.underlying65 impl_term_set.infoS rfl (by decide) (by omega) (.slice (some ⟨rh1, 0, none⟩) 1 rn1) [s] u [.string u] (fun _ => True) (fun _ => False) rfl rfl ?aP (fun _ hk => hk.elim) ?aF ?aO ?aB ?aS ?aL ?_; (case aP => exact rfl); (case aB => exact HB2.out); (case aF => exact (fun _ _ => trivial)); (case aO => exact HR2.out); (case aS => exact HB2.out.size); (case aL => simp); intro v2_ w2_ ho hb hg hat; obtain ⟨rh2, rn2, rfl, rb2, rl2, rc2, rd2⟩ := impl_term_set.row2 ho; have HG2 := aM hb; have g40 := aA (aD BT.out hb) 0; clear ho hb hg hat))
 rw [rounds_succ]
 go_wp2
 have HB8 := aM (b1 HG2.out)
 have C0 := aM (show w2_.drew.cell? ⟨rh2, 0, none⟩ = some (.string s) from rc2)
 have C1 := aM (show w2_.drew.cell? ⟨rh2, 1, none⟩ = some (.string u) from rd2)
 refine start_ (n := 11) (S := fun w' => w'.cell? ⟨rh2, 0, none⟩ = some (.string s) ∧ w'.cell? ⟨rh2, 1, none⟩ = some (.string u)) (ds := []) #[false, false, false, false, false, false, false, false, false, false, false] (by kernel_rfl) rfl rfl ⟨C0.out, C1.out⟩ (fun hHeld => ?_); refine with_tabW impl_term_set.tab22 impl_term_set.bits22 (fun HT_ HW_ => ?_)
 generalize w2_.drew = W9 at HB8 C0 C1 hHeld ⊢
 refine pQ 0 61 HT_ ?_
 refine pQ 1 62 HT_ ?_
 refine tQ 2 63 HT_ HW_ hHeld ?_
 refine pQ 3 64 HT_ ?_
 refine pQ 4 65 HT_ ?_
 refine tQ 5 66 HT_ HW_ hHeld ?_
 refine oQ 6 67 HT_ (fun K hK => ?_)
 refine gO Try.func48 #[.string s, .string u] ?_
 refine (impl_SumOf.calls k s u r1 r2 _ H9.out).mono ?_
 rintro e w9 ⟨rfl, hd⟩
 refine ⟨_, rfl, ?_⟩
 have HB9 := aM (aE HB8.out hd)
 refine hK.out _ _ ⟨cN hd C0.out, cN hd C1.out⟩ (fun hHeld => ?_)
 clear hK K
 refine nQ ?_
 refine pQ 7 68 HT_ ?_
 refine pQ 8 69 HT_ ?_
 refine pQ 9 2 HT_ ?_
 refine pQ 10 3 HT_ ?_
 refine done_ (done_of HT_.out (by kernel_rfl)) ?_
 go_wp2
 go_ret2
 exact ⟨rfl, HB9.out⟩
set_option maxHeartbeats 4000000 in
set_option maxRecDepth 100000 in
theorem impl_term_set.both (k : Nat) (g h n : Nat) (c : Int) (cs : Array Value) (x y : Value) (w : World) (hb : w.heap[g]? = some (.cells #[.int .u8 c, .slice (some ⟨h, 0, none⟩) 2 n] 72 (0, 0))) (hr : w.heap[h]? = some (.cells cs 42 (0, 0))) (hx : cs[0]? = some x) (hy : cs[1]? = some y) (hc : c = 38) (s u : ByteArray) (ih : ∀ W, Below w.heap.size w W → Calls Try.prog 31 #[x] W fun e w' => e = .returned (.tuple #[.string s, .bool true]) ∧ Below W.heap.size W w') (ih2 : ∀ W, Below w.heap.size w W → Calls Try.prog 31 #[y] W fun e w' => e = .returned (.tuple #[.string u, .bool true]) ∧ Below W.heap.size W w') (r1 : ByteArray) (r2 : Bool) (h9 : impl_MakeBoth.f k s u = some (r1, r2)) :
  Calls Try.prog 31 #[.pointer (some ⟨g, 0, none⟩)] w fun e w' => e = .returned (.tuple #[.string r1, .bool r2]) ∧ Below w.heap.size w w' := by
 subst hc
 have e1 := aA hb 1
 have e2 : w.cell? ⟨h, 0, none⟩ = some x := (aA hr 0).trans hx
 have BT := aM hb
 have IH := aM ih
 have HR := aM hr; have HY := aM hy
 clear ih hb hr hx hy
 have IH2 := aM ih2
 clear ih2
 have H9 := aM h9
 clear h9
 go_enter Try.func31, Try.ntmps31
 go_wp2
 refine wp_loop_rounds 3 ?_
 rw [rounds_succ]
 go_wp2_with (first | (go_at_call_of 31 x; refine (IH.out _ (cE _ _)).mono ?_; rintro e w1 ⟨rfl, hd⟩; have HB1 := aM (aE (cE _ _) hd); clear hd) | ((with_reducible refine gate_builtin (b := .append) (xs := #[.tmp 25, .tmp 27]) rfl ?_); at_builtin; refine Kd.R_append Kd.string (w0 := w) w.heap.size rfl (.tmp 25) (.tmp 27) 65 9 (.string ⟨#[]⟩) 16 rfl Try.underlying65 impl_term_set.infoS rfl (by decide) (by omega) (.slice none 0 0) ([] : List ByteArray) s [.string s] (fun _ => True) (fun _ => False) rfl rfl ?aP (fun _ hk => hk.elim) ?aF ?aO ?aB ?aS ?aL ?_; (case aP => exact rfl); (case aB => exact HB1.out); (case aF => exact (fun _ _ => trivial)); (case aO => exact (Kd.R_nil _ _ _ _ _)); (case aS => exact HB1.out.size); (case aL => simp); intro v1_ w1_ ho hb hg hat; obtain ⟨rh1, rn1, rfl, rb1, rl1, rc1⟩ := impl_term_set.row1 ho; have HR1 := aM ho; have HG1 := aM hb; have y1 : w1_.cell? ⟨h, 1, none⟩ = some y := (aA (aD HR.out hb) 1).trans HY.out; clear ho hb hg hat))
 rw [rounds_succ]
 go_wp2_with (first | (go_at_call_of 31 y; refine (IH2.out _ HG1.out).mono ?_; rintro e w2 ⟨rfl, hd⟩; have HB2 := aM (aE HG1.out hd); have HR2 := aM (bG HR1.out hd); clear hd) | ((with_reducible refine gate_builtin (b := .append) (xs := #[.tmp 25, .tmp 27]) rfl ?_); at_builtin; refine Kd.R_append Kd.string (w0 := w) w.heap.size rfl (.tmp 25) (.tmp 27) 65 9 (.string ⟨#[]⟩) 16 rfl Try.underlying65 impl_term_set.infoS rfl (by decide) (by omega) (.slice (some ⟨rh1, 0, none⟩) 1 rn1) [s] u [.string u] (fun _ => True) (fun _ => False) rfl rfl ?aP (fun _ hk => hk.elim) ?aF ?aO ?aB ?aS ?aL ?_; (case aP => exact rfl); (case aB => exact HB2.out); (case aF => exact (fun _ _ => trivial)); (case aO => exact HR2.out); (case aS => exact HB2.out.size); (case aL => simp); intro v2_ w2_ ho hb hg hat; obtain ⟨rh2, rn2, rfl, rb2, rl2, rc2, rd2⟩ := impl_term_set.row2 ho; have HG2 := aM hb; have g40 := aA (aD BT.out hb) 0; clear ho hb hg hat))
 rw [rounds_succ]
 go_wp2
 have HB8 := aM (b1 HG2.out)
 have C0 := aM (show w2_.drew.cell? ⟨rh2, 0, none⟩ = some (.string s) from rc2)
 have C1 := aM (show w2_.drew.cell? ⟨rh2, 1, none⟩ = some (.string u) from rd2)
 refine start_ (n := 11) (S := fun w' => w'.cell? ⟨rh2, 0, none⟩ = some (.string s) ∧ w'.cell? ⟨rh2, 1, none⟩ = some (.string u)) (ds := []) #[false, false, false, false, false, false, false, false, false, false, false] (by kernel_rfl) rfl rfl ⟨C0.out, C1.out⟩ (fun hHeld => ?_); refine with_tabW impl_term_set.tab24 impl_term_set.bits24 (fun HT_ HW_ => ?_)
 generalize w2_.drew = W9 at HB8 C0 C1 hHeld ⊢
 refine pQ 0 72 HT_ ?_
 refine pQ 1 73 HT_ ?_
 refine tQ 2 74 HT_ HW_ hHeld ?_
 refine pQ 3 75 HT_ ?_
 refine pQ 4 76 HT_ ?_
 refine tQ 5 77 HT_ HW_ hHeld ?_
 refine oQ 6 78 HT_ (fun K hK => ?_)
 refine gO Try.func49 #[.string s, .string u] ?_
 refine (impl_MakeBoth.calls k s u r1 r2 _ H9.out).mono ?_
 rintro e w9 ⟨rfl, hd⟩
 refine ⟨_, rfl, ?_⟩
 have HB9 := aM (aE HB8.out hd)
 refine hK.out _ _ ⟨cN hd C0.out, cN hd C1.out⟩ (fun hHeld => ?_)
 clear hK K
 refine nQ ?_
 refine pQ 7 79 HT_ ?_
 refine pQ 8 80 HT_ ?_
 refine pQ 9 2 HT_ ?_
 refine pQ 10 3 HT_ ?_
 refine done_ (done_of HT_.out (by kernel_rfl)) ?_
 go_wp2
 go_ret2
 exact ⟨rfl, HB9.out⟩
theorem impl_term_set.calls (k : Nat) (t : Tm) : ∀ (v : Value) (w : World) (lo hi : Nat) (r1 : ByteArray) (r2 : Bool), t.At w lo hi v → impl_term_set.f k t = some (r1, r2) → Calls Try.prog 31 #[v] w fun e w' => e = .returned (.tuple #[.string r1, .bool r2]) ∧ Below w.heap.size w w' := by
 induction t with
 | leaf c =>
  rintro v w lo hi r1 r2 ⟨g, h1, h2, rfl, hb⟩ h
  unfold impl_term_set.f at h
  split at h
  ·rename_i hc
   obtain ⟨rfl, rfl⟩ := Prod.mk.inj (bU h)
   subst hc; exact impl_term_set.leaf_zero k g w hb
  split at h
  ·rename_i hc
   obtain ⟨rfl, rfl⟩ := Prod.mk.inj (bU h)
   subst hc; exact impl_term_set.leaf_one k g w hb
  split at h
  ·rename_i hc
   obtain ⟨rfl, rfl⟩ := Prod.mk.inj (bU h)
   subst hc; exact impl_term_set.leaf_a k g w hb
  ·cases h
 | un c a ih =>
  rintro v w lo hi r1 r2 ⟨g, h, n, cs, x, h1, h2, h3, h4, rfl, hb, hr, hx, hat⟩ hf
  unfold impl_term_set.f at hf
  obtain ⟨⟨s, o⟩, ha, hf⟩ := Option.bind_eq_some_iff.mp hf
  have i1 : ∀ W, Below w.heap.size w W → Calls Try.prog 31 #[x] W fun e w' => e = .returned (.tuple #[.string s, .bool o]) ∧ Below W.heap.size W w' := fun W hW => ih x W lo hi s o (hat.below hW) ha
  cases o with
  | false =>
   simp only [bX, if_false] at hf
   obtain ⟨rfl, rfl⟩ := Prod.mk.inj (bU hf)
   exact impl_term_set.un_no k g h n c cs x w hb hr hx s i1
  | true =>
   simp only [if_true] at hf
   split at hf
   ·rename_i hc
    exact impl_term_set.star k g h n c cs x w hb hr hx hc s i1 r1 r2 hf
   ·split at hf
    ·rename_i hc
     exact impl_term_set.times k g h n c cs x w hb hr hx hc s i1 r1 r2 hf
    ·cases hf
 | bin c a b iha ihb =>
  rintro v w lo hi r1 r2 ⟨g, h, n, cs, x, y, h1, h2, h3, h4, rfl, hb, hr, hx, hy, hat, hbt⟩ hf
  unfold impl_term_set.f at hf
  obtain ⟨⟨s, o⟩, ha, hf⟩ := Option.bind_eq_some_iff.mp hf
  have i1 : ∀ W, Below w.heap.size w W → Calls Try.prog 31 #[x] W fun e w' => e = .returned (.tuple #[.string s, .bool o]) ∧ Below W.heap.size W w' := fun W hW => iha x W lo hi s o (hat.below hW) ha
  cases o with
  | false =>
   simp only [bX, if_false] at hf
   obtain ⟨rfl, rfl⟩ := Prod.mk.inj (bU hf)
   exact impl_term_set.bin_no k g h n c cs x y w hb hr hx hy s i1
  | true =>
   simp only [if_true] at hf
   obtain ⟨⟨u, p⟩, hu, hf⟩ := Option.bind_eq_some_iff.mp hf
   have i2 : ∀ W, Below w.heap.size w W → Calls Try.prog 31 #[y] W fun e w' => e = .returned (.tuple #[.string u, .bool p]) ∧ Below W.heap.size W w' := fun W hW => ihb y W lo hi u p (hbt.below hW) hu
   cases p with
   | false =>
    simp only [bX, if_false] at hf
    obtain ⟨rfl, rfl⟩ := Prod.mk.inj (bU hf)
    exact impl_term_set.bin_no2 k g h n c cs x y w hb hr hx hy s u i1 i2
   | true =>
    simp only [if_true] at hf
    split at hf
    ·rename_i hc
     exact impl_term_set.either k g h n c cs x y w hb hr hx hy hc s u i1 i2 r1 r2 hf
    ·split at hf
     ·rename_i hc
      exact impl_term_set.sum k g h n c cs x y w hb hr hx hy hc s u i1 i2 r1 r2 hf
     ·split at hf
      ·rename_i hc
       exact impl_term_set.both k g h n c cs x y w hb hr hx hy hc s u i1 i2 r1 r2 hf
      ·cases hf
def impl_TermSet.f (k : Nat) (a0 : ByteArray) : Option (ByteArray × Bool) := match Tm.of a0 with | some t => impl_term_set.f k t | none => some (⟨#[]⟩, false)
set_option maxHeartbeats 2000000 in
set_option maxRecDepth 100000 in
theorem impl_TermSet.calls (k : Nat) (a0 : ByteArray) (r1 : ByteArray) (r2 : Bool) (w : World) (h : impl_TermSet.f k a0 = some (r1, r2)) :
  Calls Try.prog 11 #[.string a0] w fun e w' => e = .returned (.tuple #[.string r1, .bool r2]) ∧ Below w.heap.size w w' := by
 have C := impl_termOf.calls a0 w
 unfold impl_TermSet.f at h
 cases hp : Tm.of a0 with
 | none =>
  rw [hp] at C h
  simp only [aV, aW] at h
  obtain ⟨rfl, rfl⟩ := h
  have C0 : Calls Try.prog 25 #[.string a0] w fun e w' => e = .returned (.pointer none) ∧ Below w.heap.size w w' := C
  clear C hp
  go_enter Try.func11, Try.ntmps11
  go_wp2_with (go_at_call 25; refine C0.mono ?_; rintro e w1 ⟨rfl, hb⟩; have HB := aM hb; clear hb)
  go_ret2
  exact ⟨rfl, HB.out⟩
 | some t =>
  rw [hp] at C h
  simp only at h
  have C0 : Calls Try.prog 25 #[.string a0] w fun e w' => ∃ g, e = .returned (.pointer (some ⟨g, 0, none⟩)) ∧ t.At w' w.heap.size w'.heap.size (.pointer (some ⟨g, 0, none⟩)) ∧ Below w.heap.size w w' := C
  have H := aM h
  clear C hp h
  go_enter Try.func11, Try.ntmps11
  go_wp2_with (first | (go_at_call 25; refine C0.mono ?_; rintro e w1 ⟨g, rfl, hat, hb⟩; have HB := aM hb; have HAT := aM hat; clear hb hat) | (go_at_call 31; refine (impl_term_set.calls k t _ w1 _ _ r1 r2 HAT.out H.out).mono ?_; rintro e w2 ⟨rfl, hb⟩; have HB2 := aM (aE HB.out hb); clear hb))
  go_ret2
  exact ⟨rfl, HB2.out⟩

/-- The cells of an array of truths. -/
def Arr (l : List Bool) : Array Value := (l.map Value.bool).toArray
/-- The array of a set: the numbers from 0 to 200. -/
def ArrF (f : Nat → Bool) : Array Value := Arr ((List.range 201).map f)
theorem Arr.at_ {w : World} {g : Nat} {l : List Bool} (hb : w.heap[g]? = some (.cells (Arr l) 69 (0, 0))) (i : Nat) (h : i < l.length) : w.cell? ⟨g, i, none⟩ = some (.bool (l.getD i false)) := by
 rw [aA hb]
 simp [Arr, h]
theorem Arr.set_ {w : World} {g : Nat} {l : List Bool} (hb : w.heap[g]? = some (.cells (Arr l) 69 (0, 0))) (i : Nat) (b : Bool) : (w.setCell ⟨g, i, none⟩ (.bool b)).heap[g]? = some (.cells (Arr (l.set i b)) 69 (0, 0)) := by
 rw [cM hb]
 congr 2
 unfold Arr
 rw [sA, List.map_set]
theorem Arr.ext_ {l : List Bool} {f : Nat → Bool} (hl : l.length = 201) (h : ∀ n, n < 201 → l.getD n false = f n) : Arr l = ArrF f := by
 unfold ArrF
 congr 1
 refine List.ext_getElem (by simp [hl]) fun n h1 h2 => ?_
 have := h n (by omega)
 simp only [List.getD, List.getElem?_eq_getElem h1, Option.getD_some] at this
 simp [this]
theorem ArrF.at_ {w : World} {g : Nat} {f : Nat → Bool} (hb : w.heap[g]? = some (.cells (ArrF f) 69 (0, 0))) (i : Nat) (h : i < 201) : w.cell? ⟨g, i, none⟩ = some (.bool (f i)) := by
 rw [Arr.at_ hb i (by simpa using h)]
 simp [h]
theorem zeros_eq : Try.zeroCells69 = Arr (List.replicate 201 false) := by kernel_rfl
theorem getD_set_ (l : List Bool) (i : Nat) (b : Bool) (n : Nat) (h : i < l.length) : (l.set i b).getD n false = if n = i then b else l.getD n false := by
 simp only [List.getD, List.getElem?_set]
 by_cases e : i = n
 ·subst e; simp [h]
 ·rw [if_neg e, if_neg (fun h => e h.symm)]
theorem getD_zeros (n : Nat) : (List.replicate 201 false).getD n false = false := by
 simp only [List.getD, List.getElem?_replicate]
 split <;> rfl
set_option maxHeartbeats 1000000 in
set_option maxRecDepth 100000 in
theorem impl_zero.calls (w : World) : Calls Try.prog 40 #[] w fun e w' => ∃ g, w.heap.size ≤ g ∧ e = .returned (.pointer (some ⟨g, 0, none⟩)) ∧ w'.heap[g]? = some (.cells (ArrF fun n => decide (n = 0)) 69 (0, 0)) ∧ Below w.heap.size w w' := by
 have e0 : Try.zeroCells69.setIfInBounds 0 (.bool true) = ArrF fun n => decide (n = 0) := by kernel_rfl
 go_enter Try.func40, Try.ntmps40
 go_wp2
 go_ret
 refine ⟨_, cD _, rfl, ?_, bA (cE _ _) _⟩
 rw [← e0]
 exact blk_new _ _
/-- The sums of two. -/
def sumN (f g : Nat → Bool) (n : Nat) : Bool := (List.range (n + 1)).any fun x => f x && g (n - x)
theorem sumN_iff (f g : Nat → Bool) (n : Nat) : sumN f g n = true ↔ ∃ x, x ≤ n ∧ f x = true ∧ g (n - x) = true := by
 unfold sumN
 rw [List.any_eq_true]
 constructor
 ·rintro ⟨x, h1, h2⟩
  rw [Bool.and_eq_true] at h2
  exact ⟨x, by have := List.mem_range.1 h1; omega, h2.1, h2.2⟩
 ·rintro ⟨x, h1, h2, h3⟩
  exact ⟨x, List.mem_range.2 (by omega), by rw [h2, h3]; rfl⟩
/-- The array behind i rounds and k rounds more of the round i. -/
def PlusI (f g : Nat → Bool) (i k : Nat) (l : List Bool) : Prop := l.length = 201 ∧ ∀ n, n < 201 → (l.getD n false = true ↔ (∃ x, x < i ∧ x ≤ n ∧ f x = true ∧ g (n - x) = true) ∨ (f i = true ∧ i ≤ n ∧ n < i + k ∧ g (n - i) = true))
theorem PlusI.start (f g : Nat → Bool) : PlusI f g 0 0 (List.replicate 201 false) := ⟨List.length_replicate, fun n _ => by
 rw [getD_zeros]
 refine ⟨(fun h => by cases h), fun h => ?_⟩
 rcases h with ⟨x, h, _⟩ | ⟨_, _, h, _⟩ <;> omega⟩
theorem PlusI.step {f g : Nat → Bool} {i k : Nat} {l : List Bool} (h : PlusI f g i k l) (hf : f i = true) (hk : i + k < 201) : PlusI f g i (k + 1) (l.set (i + k) (l.getD (i + k) false || g k)) := by
 obtain ⟨h1, h2⟩ := h
 refine ⟨by simpa using h1, fun n hn => ?_⟩
 rw [getD_set_ _ _ _ _ (by omega)]
 by_cases e : n = i + k
 ·subst e
  rw [if_pos rfl, Bool.or_eq_true, h2 _ hn, show i + k - i = k by omega]
  constructor
  ·rintro ((h | ⟨_, _, h, _⟩) | h)
   ·exact .inl h
   ·omega
   ·exact .inr ⟨hf, by omega, by omega, h⟩
  ·rintro (h | ⟨_, _, _, h⟩)
   ·exact .inl (.inl h)
   ·exact .inr h
 ·rw [if_neg e, h2 n hn]
  constructor
  ·rintro (h | ⟨a, b, c, d⟩)
   ·exact .inl h
   ·exact .inr ⟨a, b, by omega, d⟩
  ·rintro (h | ⟨a, b, c, d⟩)
   ·exact .inl h
   ·exact .inr ⟨a, b, by omega, d⟩
theorem PlusI.next {f g : Nat → Bool} {i k : Nat} {l : List Bool} (h : PlusI f g i k l) (hk : f i = false ∨ 201 ≤ i + k) : PlusI f g (i + 1) 0 l := by
 obtain ⟨h1, h2⟩ := h
 refine ⟨h1, fun n hn => ?_⟩
 rw [h2 n hn]
 constructor
 ·rintro (⟨x, a, b⟩ | ⟨a, b, c, d⟩)
  ·exact .inl ⟨x, by omega, b⟩
  ·exact .inl ⟨i, by omega, b, a, d⟩
 ·rintro (⟨x, a, b, c, d⟩ | ⟨a, b, c, d⟩)
  ·rcases Nat.lt_or_ge x i with e | e
   ·exact .inl ⟨x, e, b, c, d⟩
   ·obtain rfl : x = i := by omega
    rcases hk with hk | hk
    ·rw [hk] at c; cases c
    ·exact .inr ⟨c, b, by omega, d⟩
  ·omega
theorem PlusI.fin {f g : Nat → Bool} {l : List Bool} (h : PlusI f g 201 0 l) : Arr l = ArrF (sumN f g) := by
 refine Arr.ext_ h.1 fun n hn => ?_
 rw [Bool.eq_iff_iff, h.2 n hn, sumN_iff]
 constructor
 ·rintro (⟨x, a, b, c, d⟩ | ⟨_, h, _⟩)
  ·exact ⟨x, b, c, d⟩
  ·omega
 ·rintro ⟨x, b, c, d⟩
  exact .inl ⟨x, by omega, b, c, d⟩
set_option maxHeartbeats 4000000 in
set_option maxRecDepth 100000 in
theorem impl_numbers_plus.calls (g1 g2 : Nat) (f g : Nat → Bool) (w : World) (h1 : w.heap[g1]? = some (.cells (ArrF f) 69 (0, 0))) (h2 : w.heap[g2]? = some (.cells (ArrF g) 69 (0, 0))) :
  Calls Try.prog 42 #[.pointer (some ⟨g1, 0, none⟩), .pointer (some ⟨g2, 0, none⟩)] w fun e w' => ∃ q, w.heap.size ≤ q ∧ e = .returned (.pointer (some ⟨q, 0, none⟩)) ∧ w'.heap[q]? = some (.cells (ArrF (sumN f g)) 69 (0, 0)) ∧ Below w.heap.size w w' := by
 have H1 := aM h1
 have H2 := aM h2
 have B0 : Aside0 ((w.alloc (.cells Try.zeroCells69 69)).heap[w.heap.size]? = some (.cells (Arr (List.replicate 201 false)) 69 (0, 0))) := ⟨by rw [← zeros_eq]; exact blk_new _ _⟩
 clear h1 h2
 go_enter Try.func42, Try.ntmps42
 go_wp2
 go_loopw [12] (fun v12 wr => ∃ (i : Nat) (l : List Bool), i ≤ 201 ∧ v12 = .int .i64 i ∧ Aside0 (PlusI f g i 0 l) ∧ Aside0 (wr.heap[w.heap.size]? = some (.cells (Arr l) 69 (0, 0))) ∧ Aside0 (Below w.heap.size w wr)) (fun v12 _ => 201 - (intOf v12).toNat)
 case atStart => exact ⟨0, _, Nat.zero_le _, rfl, ⟨PlusI.start f g⟩, B0, ⟨bA (cE _ _) _⟩⟩
 case round =>
  obtain ⟨i, l, hi, rfl, HI, HA, HB⟩ := hrel
  by_cases hlt : i < 201
  ·have hcell := ArrF.at_ (aD H1.out HB.out) i hlt
   go_wp2
   go_region
   try go_wp2
   have HB1 := aM (b1 HB.out)
   have HA1 := aM (kD HA.out)
   go_loopw [8] (fun v8 w2 => ∃ (k : Nat) (l2 : List Bool), k ≤ 201 ∧ v8 = .int .i64 k ∧ Aside0 (PlusI f g i k l2) ∧ Aside0 (w2.heap[w.heap.size]? = some (.cells (Arr l2) 69 (0, 0))) ∧ Aside0 (Below w.heap.size w w2)) (fun v8 _ => 201 - (intOf v8).toNat)
   case atStart => exact ⟨0, l, Nat.zero_le _, rfl, HI, HA1, HB1⟩
   case round =>
    obtain ⟨k, l2, hk, rfl, HI2, HA2, HB2⟩ := hrel
    cases hf : f i with
    | false =>
     go_wp2
     exact ⟨⟨i + 1, l2, by omega, by go_num, ⟨HI2.out.next (.inl hf)⟩, HA2, HB2⟩, by simp [intOf]; omega⟩
    | true =>
     by_cases hik : i + k < 201
     ·have hc1 := Arr.at_ HA2.out (i + k) (by rw [HI2.out.1]; exact hik)
      have hc2 := ArrF.at_ (aD H2.out HB2.out) k (by omega)
      have hfr := aC HA2.out (i + k)
      have hwa : wrap64 ((i : Int) + (k : Int)) = ((i + k : Nat) : Int) := by unfold wrap64; omega
      have hST := HI2.out.step hf hik
      generalize l2.getD (i + k) false = x at hc1 hST
      generalize g k = y at hc2 hST
      cases x with
      | true =>
       go_wp2
       go_region
       try go_wp2
       exact ⟨⟨k + 1, _, by omega, by go_num, ⟨hST⟩, ⟨kD (Arr.set_ HA2.out (i + k) true)⟩, ⟨b1 (HB2.out.setCell (p := ⟨w.heap.size, i + k, none⟩) (cD _) _)⟩⟩, by simp [intOf]; omega⟩
      | false =>
       cases y with
       | true =>
        go_wp2
        go_region
        try go_wp2
        exact ⟨⟨k + 1, _, by omega, by go_num, ⟨hST⟩, ⟨kD (Arr.set_ HA2.out (i + k) true)⟩, ⟨b1 (HB2.out.setCell (p := ⟨w.heap.size, i + k, none⟩) (cD _) _)⟩⟩, by simp [intOf]; omega⟩
       | false =>
        go_wp2
        go_region
        try go_wp2
        exact ⟨⟨k + 1, _, by omega, by go_num, ⟨hST⟩, ⟨kD (Arr.set_ HA2.out (i + k) false)⟩, ⟨b1 (HB2.out.setCell (p := ⟨w.heap.size, i + k, none⟩) (cD _) _)⟩⟩, by simp [intOf]; omega⟩
     ·have hge : ¬ (i : Int) + (k : Int) ≤ 200 := by omega
      have hge2 : decide ((i : Int) + (k : Int) ≤ 200) = false := aK hge
      go_wp2
      exact ⟨⟨i + 1, l2, by omega, by go_num, ⟨HI2.out.next (.inr (by omega))⟩, HA2, HB2⟩, by simp [intOf]; omega⟩
  ·obtain rfl : i = 201 := by omega
   have HF := HI.out.fin
   go_wp2
   go_ret
   refine ⟨w.heap.size, cD _, rfl, ?_, HB.out⟩
   rw [← HF]; exact HA.out
/-- The star. -/
def starN (f : Nat → Bool) : Nat → Bool
 | 0 => true
 | n + 1 => (List.range (n + 1)).any fun y => f (y + 1) && starN f (n - y)
termination_by n => n
decreasing_by omega
theorem starN_zero (f : Nat → Bool) : starN f 0 = true := by rw [starN]
theorem starN_iff (f : Nat → Bool) (n : Nat) (h : 1 ≤ n) : starN f n = true ↔ ∃ y, 1 ≤ y ∧ y ≤ n ∧ f y = true ∧ starN f (n - y) = true := by
 obtain ⟨m, rfl⟩ : ∃ m, n = m + 1 := ⟨n - 1, by omega⟩
 rw [starN, List.any_eq_true]
 constructor
 ·rintro ⟨x, h1, h2⟩
  rw [Bool.and_eq_true] at h2
  have := List.mem_range.1 h1
  exact ⟨x + 1, by omega, by omega, h2.1, by rw [show m + 1 - (x + 1) = m - x by omega]; exact h2.2⟩
 ·rintro ⟨y, h1, h2, h3, h4⟩
  refine ⟨y - 1, List.mem_range.2 (by omega), ?_⟩
  rw [show y - 1 + 1 = y by omega, show m - (y - 1) = m + 1 - y by omega, h3, h4]; rfl
/-- The array in the round n, behind the numbers below k. -/
def StarI (f : Nat → Bool) (n k : Nat) (l : List Bool) : Prop := l.length = 201 ∧ ∀ m, m < 201 → (m < n → l.getD m false = starN f m) ∧ (n < m → l.getD m false = false) ∧ (m = n → (l.getD m false = true ↔ ∃ y, 1 ≤ y ∧ y < k ∧ f y = true ∧ starN f (n - y) = true))
theorem StarI.start (f : Nat → Bool) : StarI f 1 1 ((List.range 201).map fun n => decide (n = 0)) := by
 refine ⟨by rw [List.length_map, List.length_range], fun m hm => ?_⟩
 have e : ((List.range 201).map fun n => decide (n = 0)).getD m false = decide (m = 0) := by simp only [List.getD, List.getElem?_map, List.getElem?_range hm]; rfl
 rw [e]
 refine ⟨fun h => ?_, fun h => aK (by omega), fun h => ?_⟩
 ·obtain rfl : m = 0 := by omega
  rw [starN_zero]; rfl
 ·rw [decide_eq_true_iff]
  exact ⟨fun h => by omega, fun ⟨y, h1, h2, _⟩ => by omega⟩
theorem StarI.step {f : Nat → Bool} {n k : Nat} {l : List Bool} (h : StarI f n k l) (hn : n < 201) (h1 : 1 ≤ k) (h2 : k ≤ n) : StarI f n (k + 1) (l.set n (l.getD n false || (f k && l.getD (n - k) false))) := by
 obtain ⟨hl, h⟩ := h
 refine ⟨by simpa using hl, fun m hm => ?_⟩
 rw [getD_set_ _ _ _ _ (by omega)]
 have hk := (h (n - k) (by omega)).1 (by omega)
 refine ⟨fun e => ?_, fun e => ?_, fun e => ?_⟩
 ·rw [if_neg (by omega)]; exact (h m hm).1 e
 ·rw [if_neg (by omega)]; exact (h m hm).2.1 e
 ·subst e
  rw [if_pos rfl, Bool.or_eq_true, Bool.and_eq_true, (h m hm).2.2 rfl, hk]
  constructor
  ·rintro (⟨y, a, b, c⟩ | ⟨a, b⟩)
   ·exact ⟨y, a, by omega, c⟩
   ·exact ⟨k, h1, by omega, a, b⟩
  ·rintro ⟨y, a, b, c, d⟩
   rcases Nat.lt_or_ge y k with e | e
   ·exact .inl ⟨y, a, e, c, d⟩
   ·obtain rfl : y = k := by omega
    exact .inr ⟨c, d⟩
theorem StarI.next {f : Nat → Bool} {n : Nat} {l : List Bool} (h : StarI f n (n + 1) l) (hn : 1 ≤ n) (hn2 : n < 201) : StarI f (n + 1) 1 l := by
 obtain ⟨hl, h⟩ := h
 refine ⟨hl, fun m hm => ⟨fun e => ?_, fun e => (h m hm).2.1 (by omega), fun e => ?_⟩⟩
 ·rcases Nat.lt_or_ge m n with g | g
  ·exact (h m hm).1 g
  ·obtain rfl : m = n := by omega
   rw [Bool.eq_iff_iff, (h m hm).2.2 rfl, starN_iff f m hn]
   exact ⟨fun ⟨y, a, b, c⟩ => ⟨y, a, by omega, c⟩, fun ⟨y, a, b, c⟩ => ⟨y, a, by omega, c⟩⟩
 ·rw [(h m hm).2.1 (by omega)]
  exact ⟨(fun h => by cases h), fun ⟨y, a, b, _⟩ => by omega⟩
theorem StarI.fin {f : Nat → Bool} {l : List Bool} (h : StarI f 201 1 l) : Arr l = ArrF (starN f) := Arr.ext_ h.1 fun n hn => (h.2 n hn).1 hn
set_option maxHeartbeats 4000000 in
set_option maxRecDepth 100000 in
theorem impl_numbers_star.calls (g1 : Nat) (f : Nat → Bool) (w : World) (h1 : w.heap[g1]? = some (.cells (ArrF f) 69 (0, 0))) :
  Calls Try.prog 41 #[.pointer (some ⟨g1, 0, none⟩)] w fun e w' => ∃ q, w.heap.size ≤ q ∧ e = .returned (.pointer (some ⟨q, 0, none⟩)) ∧ w'.heap[q]? = some (.cells (ArrF (starN f)) 69 (0, 0)) ∧ Below w.heap.size w w' := by
 have H1 := aM h1
 clear h1
 go_enter Try.func41, Try.ntmps41
 go_wp2_with (go_at_call 40; refine (impl_zero.calls _).mono ?_; rintro e w0 ⟨q, hq, rfl, hz, hb⟩; have HZ := aM hz; have HB0 := aM hb; have HQ := aM hq; clear hz hb hq)
 go_loopw [4] (fun v4 wr => ∃ (n : Nat) (l : List Bool), 1 ≤ n ∧ n ≤ 201 ∧ v4 = .int .i64 n ∧ Aside0 (StarI f n 1 l) ∧ Aside0 (wr.heap[q]? = some (.cells (Arr l) 69 (0, 0))) ∧ Aside0 (Below w.heap.size w wr)) (fun v4 _ => 201 - (intOf v4).toNat)
 case atStart => exact ⟨1, _, cD _, by omega, rfl, ⟨StarI.start f⟩, HZ, HB0⟩
 case round =>
  obtain ⟨n, l, hn1, hn, rfl, HI, HA, HB⟩ := hrel
  by_cases hlt : n < 201
  ·go_wp2
   go_loopw [5] (fun v5 w2 => ∃ (k : Nat) (l2 : List Bool), 1 ≤ k ∧ k ≤ n + 1 ∧ v5 = .int .i64 k ∧ Aside0 (StarI f n k l2) ∧ Aside0 (w2.heap[q]? = some (.cells (Arr l2) 69 (0, 0))) ∧ Aside0 (Below w.heap.size w w2)) (fun v5 _ => 201 - (intOf v5).toNat)
   case atStart => exact ⟨1, l, cD _, by omega, rfl, HI, HA, HB⟩
   case round =>
    obtain ⟨k, l2, hk1, hk, rfl, HI2, HA2, HB2⟩ := hrel
    by_cases hkn : k ≤ n
    ·obtain ⟨d, hd⟩ : ∃ d : Nat, d = n - k := ⟨_, rfl⟩
     have hd2 : (n : Int) - (k : Int) = (d : Int) := by omega
     have hw2 : wrap64 ((n : Int) - (k : Int)) = (d : Int) := by rw [hd2]; unfold wrap64; omega
     have hd201 : d < 201 := by omega
     have hST := HI2.out.step hlt hk1 hkn
     rw [← hd] at hST
     have hc1 := Arr.at_ HA2.out n (by rw [HI2.out.1]; exact hlt)
     have hc2 := ArrF.at_ (aD H1.out HB2.out) k (by omega)
     have hc3 := Arr.at_ HA2.out d (by rw [HI2.out.1]; exact hd201)
     have hfr := aC HA2.out n
     have hkn2 : decide ((k : Int) ≤ (n : Int)) = true := aH (by omega)
     have hkn3 : (k : Int) ≤ (n : Int) := by omega
     generalize l2.getD n false = x at hc1 hST
     generalize l2.getD d false = z at hc3 hST
     generalize f k = y at hc2 hST
     clear hd
     cases x with
     | true =>
      go_wp2
      go_region
      try go_wp2
      exact ⟨⟨k + 1, _, by omega, by omega, by go_num, ⟨hST⟩, ⟨kD (Arr.set_ HA2.out n true)⟩, ⟨b1 (HB2.out.setCell (p := ⟨q, n, none⟩) HQ.out _)⟩⟩, by simp [intOf]; omega⟩
     | false =>
      cases y with
      | true =>
       cases z with
       | true =>
        go_wp2
        go_region
        try go_wp2
        exact ⟨⟨k + 1, _, by omega, by omega, by go_num, ⟨hST⟩, ⟨kD (Arr.set_ HA2.out n true)⟩, ⟨b1 (HB2.out.setCell (p := ⟨q, n, none⟩) HQ.out _)⟩⟩, by simp [intOf]; omega⟩
       | false =>
        go_wp2
        go_region
        try go_wp2
        exact ⟨⟨k + 1, _, by omega, by omega, by go_num, ⟨hST⟩, ⟨kD (Arr.set_ HA2.out n false)⟩, ⟨b1 (HB2.out.setCell (p := ⟨q, n, none⟩) HQ.out _)⟩⟩, by simp [intOf]; omega⟩
      | false =>
       go_wp2
       go_region
       try go_wp2
       exact ⟨⟨k + 1, _, by omega, by omega, by go_num, ⟨hST⟩, ⟨kD (Arr.set_ HA2.out n false)⟩, ⟨b1 (HB2.out.setCell (p := ⟨q, n, none⟩) HQ.out _)⟩⟩, by simp [intOf]; omega⟩
    ·obtain rfl : k = n + 1 := by omega
     have hkn2 : decide (((n + 1 : Nat) : Int) ≤ (n : Int)) = false := aK (by omega)
     have hkn3 : ¬ ((n + 1 : Nat) : Int) ≤ (n : Int) := by omega
     have hNX := HI2.out.next hn1 hlt
     go_wp2
     exact ⟨⟨n + 1, l2, by omega, by omega, by go_num, ⟨hNX⟩, HA2, HB2⟩, by simp [intOf]; omega⟩
  ·obtain rfl : n = 201 := by omega
   have HF := HI.out.fin
   go_wp2
   go_ret
   refine ⟨q, HQ.out, rfl, ?_, HB.out⟩
   rw [← HF]; exact HA.out
/-- Times. -/
def powN (F : Nat → Bool) : Nat → Nat → Bool
 | 0 => fun n => decide (n = 0)
 | d + 1 => sumN (powN F d) F
/-- The numbers of a term. -/
def impl_term_numbers.f : Tm → Option (Nat → Bool)
 | .leaf c => if c = 48 then some (fun _ => false) else if c = 49 then some (fun n => decide (n = 0)) else if c = 97 then some (fun n => decide (n = 1)) else none
 | .un c a => (impl_term_numbers.f a).bind fun F => if c = 42 then some (starN F) else if 50 ≤ c ∧ c ≤ 53 then some (powN F (c - 48).toNat) else none
 | .bin c a b => (impl_term_numbers.f a).bind fun F => (impl_term_numbers.f b).bind fun G => if c = 43 then some (fun n => F n || G n) else if c = 46 then some (sumN F G) else if c = 38 then some (fun n => F n && G n) else none
def impl_term_numbers.Post (w : World) (F : Nat → Bool) (e : Ending) (w' : World) : Prop := ∃ q, w.heap.size ≤ q ∧ e = .returned (.pointer (some ⟨q, 0, none⟩)) ∧ w'.heap[q]? = some (.cells (ArrF F) 69 (0, 0)) ∧ Below w.heap.size w w'
theorem impl_term_numbers.zerosF : Arr (List.replicate 201 false) = ArrF fun _ => false := Arr.ext_ List.length_replicate fun n _ => getD_zeros n
/-- The array behind i rounds. -/
def PutI (H : Nat → Bool) (i : Nat) (l : List Bool) : Prop := l.length = 201 ∧ ∀ n, n < 201 → l.getD n false = (decide (n < i) && H n)
theorem PutI.start (H : Nat → Bool) : PutI H 0 (List.replicate 201 false) := ⟨List.length_replicate, fun n _ => by rw [getD_zeros]; simp⟩
theorem PutI.step {H : Nat → Bool} {i : Nat} {l : List Bool} (h : PutI H i l) (hi : i < 201) (b : Bool) (hb : b = H i) : PutI H (i + 1) (l.set i b) := by
 subst hb
 refine ⟨by simpa using h.1, fun n hn => ?_⟩
 rw [getD_set_ _ _ _ _ (by rw [h.1]; exact hi), h.2 n hn]
 by_cases e : n = i
 ·subst e; simp
 ·rw [if_neg e, decide_eq_decide.2 (show n < i ↔ n < i + 1 by omega)]
theorem PutI.fin {H : Nat → Bool} {l : List Bool} (h : PutI H 201 l) : Arr l = ArrF H := Arr.ext_ h.1 fun n hn => by rw [h.2 n hn, aH hn]; rfl
set_option maxHeartbeats 4000000 in
set_option maxRecDepth 100000 in
theorem impl_term_numbers.leaf_zero (g : Nat) (w : World) (hb : w.heap[g]? = some (.cells #[.int .u8 48, .slice none 0 0] 72 (0, 0))) :
  Calls Try.prog 27 #[.pointer (some ⟨g, 0, none⟩)] w (impl_term_numbers.Post w (fun _ => false)) := by
 have BT := aM hb
 clear hb
 have B0 : Aside0 ((w.alloc (.cells Try.zeroCells69 69)).heap[w.heap.size]? = some (.cells (Arr (List.replicate 201 false)) 69 (0, 0))) := ⟨by rw [← zeros_eq]; exact blk_new _ _⟩
 have BA : Aside0 (Below w.heap.size w (w.alloc (.cells Try.zeroCells69 69))) := ⟨bA (cE _ _) _⟩
 have g10 : (w.alloc (.cells Try.zeroCells69 69)).cell? ⟨g, 0, none⟩ = some (.int .u8 48) := aA (aD BT.out BA.out) 0
 go_enter Try.func27, Try.ntmps27
 go_wp2
 go_ret
 exact ⟨_, cD _, rfl, by rw [← impl_term_numbers.zerosF]; exact B0.out, BA.out⟩
set_option maxHeartbeats 4000000 in
set_option maxRecDepth 100000 in
theorem impl_term_numbers.leaf_one (g : Nat) (w : World) (hb : w.heap[g]? = some (.cells #[.int .u8 49, .slice none 0 0] 72 (0, 0))) :
  Calls Try.prog 27 #[.pointer (some ⟨g, 0, none⟩)] w (impl_term_numbers.Post w (fun n => decide (n = 0))) := by
 have BT := aM hb
 clear hb
 have B0 : Aside0 ((w.alloc (.cells Try.zeroCells69 69)).heap[w.heap.size]? = some (.cells (Arr (List.replicate 201 false)) 69 (0, 0))) := ⟨by rw [← zeros_eq]; exact blk_new _ _⟩
 have BA : Aside0 (Below w.heap.size w (w.alloc (.cells Try.zeroCells69 69))) := ⟨bA (cE _ _) _⟩
 have g10 : (w.alloc (.cells Try.zeroCells69 69)).cell? ⟨g, 0, none⟩ = some (.int .u8 49) := aA (aD BT.out BA.out) 0
 go_enter Try.func27, Try.ntmps27
 go_wp2_with (go_at_call 40; refine (impl_zero.calls _).mono ?_; rintro e w1 ⟨q, hq, rfl, hz, hd⟩; have HZ := aM hz; have HB := aM (aE BA.out hd); have HQ : Aside0 (w.heap.size ≤ q) := ⟨Nat.le_trans BA.out.size hq⟩; clear hz hd hq)
 go_ret
 exact ⟨_, HQ.out, rfl, HZ.out, HB.out⟩
set_option maxHeartbeats 4000000 in
set_option maxRecDepth 100000 in
theorem impl_term_numbers.leaf_a (g : Nat) (w : World) (hb : w.heap[g]? = some (.cells #[.int .u8 97, .slice none 0 0] 72 (0, 0))) :
  Calls Try.prog 27 #[.pointer (some ⟨g, 0, none⟩)] w (impl_term_numbers.Post w (fun n => decide (n = 1))) := by
 have BT := aM hb
 clear hb
 have B0 : Aside0 ((w.alloc (.cells Try.zeroCells69 69)).heap[w.heap.size]? = some (.cells (Arr (List.replicate 201 false)) 69 (0, 0))) := ⟨by rw [← zeros_eq]; exact blk_new _ _⟩
 have BA : Aside0 (Below w.heap.size w (w.alloc (.cells Try.zeroCells69 69))) := ⟨bA (cE _ _) _⟩
 have g10 : (w.alloc (.cells Try.zeroCells69 69)).cell? ⟨g, 0, none⟩ = some (.int .u8 97) := aA (aD BT.out BA.out) 0
 go_enter Try.func27, Try.ntmps27
 have eA : Try.zeroCells69.setIfInBounds 1 (.bool true) = ArrF fun n => decide (n = 1) := by kernel_rfl
 go_wp2
 go_ret
 exact ⟨_, cD _, rfl, by rw [← eA]; exact blk_new _ _, bA (cE _ _) _⟩
set_option maxHeartbeats 4000000 in
set_option maxRecDepth 100000 in
theorem impl_term_numbers.un_star (g h n : Nat) (c : Int) (cs : Array Value) (x : Value) (w : World) (hb : w.heap[g]? = some (.cells #[.int .u8 c, .slice (some ⟨h, 0, none⟩) 1 n] 72 (0, 0))) (hr : w.heap[h]? = some (.cells cs 42 (0, 0))) (hx : cs[0]? = some x) (F : Nat → Bool) (ih : ∀ W, Below w.heap.size w W → Calls Try.prog 27 #[x] W (impl_term_numbers.Post W F)) (hc : c = 42) :
  Calls Try.prog 27 #[.pointer (some ⟨g, 0, none⟩)] w (impl_term_numbers.Post w (starN F)) := by
 subst hc
 have BT := aM hb
 have HR := aM hr
 have HX := aM hx
 have IH := aM ih
 clear ih hb hr hx
 have B0 : Aside0 ((w.alloc (.cells Try.zeroCells69 69)).heap[w.heap.size]? = some (.cells (Arr (List.replicate 201 false)) 69 (0, 0))) := ⟨by rw [← zeros_eq]; exact blk_new _ _⟩
 have BA : Aside0 (Below w.heap.size w (w.alloc (.cells Try.zeroCells69 69))) := ⟨bA (cE _ _) _⟩
 have g10 : (w.alloc (.cells Try.zeroCells69 69)).cell? ⟨g, 0, none⟩ = some (.int .u8 42) := aA (aD BT.out BA.out) 0
 have g11 := aA (aD BT.out BA.out) 1
 have x10 : (w.alloc (.cells Try.zeroCells69 69)).cell? ⟨h, 0, none⟩ = some x := (aA (aD HR.out BA.out) 0).trans HX.out
 go_enter Try.func27, Try.ntmps27
 go_wp2_with (first | (go_at_call_of 27 x; refine (IH.out _ BA.out).mono ?_; rintro e w1 ⟨q1, hq, rfl, hz, hd⟩; have Z1 := aM hz; have HB1 := aM (aE BA.out hd); have HQ1 : Aside0 (w.heap.size ≤ q1) := ⟨Nat.le_trans BA.out.size hq⟩; clear hz hd hq) | (go_at_call 41; refine (impl_numbers_star.calls _ _ _ Z1.out).mono ?_; rintro e w2 ⟨q2, hq, rfl, hz, hd⟩; have Z2 := aM hz; have HB2 := aM (aE HB1.out hd); have HQ2 : Aside0 (w.heap.size ≤ q2) := ⟨Nat.le_trans HB1.out.size hq⟩; clear hz hd hq))
 go_ret
 exact ⟨_, HQ2.out, rfl, Z2.out, HB2.out⟩
set_option maxHeartbeats 4000000 in
set_option maxRecDepth 100000 in
theorem impl_term_numbers.un_times (g h n : Nat) (c : Int) (cs : Array Value) (x : Value) (w : World) (hb : w.heap[g]? = some (.cells #[.int .u8 c, .slice (some ⟨h, 0, none⟩) 1 n] 72 (0, 0))) (hr : w.heap[h]? = some (.cells cs 42 (0, 0))) (hx : cs[0]? = some x) (F : Nat → Bool) (ih : ∀ W, Below w.heap.size w W → Calls Try.prog 27 #[x] W (impl_term_numbers.Post W F)) (d : Nat) (hd2 : 2 ≤ d) (hd5 : d ≤ 5) (hc : c - 48 = (d : Int)) :
  Calls Try.prog 27 #[.pointer (some ⟨g, 0, none⟩)] w (impl_term_numbers.Post w (powN F d)) := by
 have n0 : (c == 48) = false := beq_eq_false_iff_ne.mpr (by omega)
 have n1 : (c == 49) = false := beq_eq_false_iff_ne.mpr (by omega)
 have n2 : (c == 97) = false := beq_eq_false_iff_ne.mpr (by omega)
 have n3 : (c == 42) = false := beq_eq_false_iff_ne.mpr (by omega)
 have n4 : (c == 43) = false := beq_eq_false_iff_ne.mpr (by omega)
 have n5 : (c == 46) = false := beq_eq_false_iff_ne.mpr (by omega)
 have n6 : (c == 38) = false := beq_eq_false_iff_ne.mpr (by omega)
 have hm : (d : Int) % 256 = (d : Int) := by omega
 have hw8 : IntKind.u8.wrap (d : Int) = (d : Int) := by rw [show IntKind.u8.wrap (d : Int) = (d : Int) % 256 from rfl]; exact hm
 have BT := aM hb
 have HR := aM hr
 have HX := aM hx
 have IH := aM ih
 clear ih hb hr hx
 have B0 : Aside0 ((w.alloc (.cells Try.zeroCells69 69)).heap[w.heap.size]? = some (.cells (Arr (List.replicate 201 false)) 69 (0, 0))) := ⟨by rw [← zeros_eq]; exact blk_new _ _⟩
 have BA : Aside0 (Below w.heap.size w (w.alloc (.cells Try.zeroCells69 69))) := ⟨bA (cE _ _) _⟩
 have g10 : (w.alloc (.cells Try.zeroCells69 69)).cell? ⟨g, 0, none⟩ = some (.int .u8 c) := aA (aD BT.out BA.out) 0
 have g11 := aA (aD BT.out BA.out) 1
 have x10 : (w.alloc (.cells Try.zeroCells69 69)).cell? ⟨h, 0, none⟩ = some x := (aA (aD HR.out BA.out) 0).trans HX.out
 go_enter Try.func27, Try.ntmps27
 go_wp2_with (first | (go_at_call_of 27 x; refine (IH.out _ BA.out).mono ?_; rintro e w1 ⟨q1, hq, rfl, hz, hd⟩; have Z1 := aM hz; have HB1 := aM (aE BA.out hd); have HQ1 : Aside0 (w.heap.size ≤ q1) := ⟨Nat.le_trans BA.out.size hq⟩; clear hz hd hq) | (go_at_call 40; refine (impl_zero.calls _).mono ?_; rintro e w2 ⟨q2, hq, rfl, hz, hd⟩; have Z2 := aM hz; have HB2 := aM (aE HB1.out hd); have HQ2 : Aside0 (w.heap.size ≤ q2) := ⟨Nat.le_trans HB1.out.size hq⟩; have Z1' := aM (aD Z1.out ‹_›); have g20 : w2.cell? ⟨g, 0, none⟩ = some (.int .u8 c) := aA (aD BT.out HB2.out) 0; clear hz hd hq))
 go_loopw [3, 27] (fun v3 v27 wr => ∃ (i q : Nat), i ≤ d ∧ v3 = .pointer (some ⟨q, 0, none⟩) ∧ v27 = .int .u8 i ∧ Aside0 (w.heap.size ≤ q) ∧ Aside0 (wr.heap[q]? = some (.cells (ArrF (powN F i)) 69 (0, 0))) ∧ Aside0 (wr.heap[q1]? = some (.cells (ArrF F) 69 (0, 0))) ∧ Aside0 (Below w.heap.size w wr)) (fun _ v27 _ => d - (intOf v27).toNat)
 case atStart => exact ⟨0, q2, Nat.zero_le _, rfl, rfl, HQ2, Z2, Z1', HB2⟩
 case round =>
  obtain ⟨i, q, hi, rfl, rfl, HQ, HP, HF, HB⟩ := hrel
  by_cases hlt : i < d
  ·have e1 : decide ((i : Int) < (d : Int)) = true := aH (by omega)
   have e1' : (i : Int) < (d : Int) := by omega
   have e2 : IntKind.u8.wrap ((i : Int) + 1) = ((i + 1 : Nat) : Int) := by rw [show IntKind.u8.wrap ((i : Int) + 1) = ((i : Int) + 1) % 256 from rfl]; omega
   have e3 : ((i : Int) + 1) % 256 = ((i + 1 : Nat) : Int) := by omega
   go_wp2_with (go_at_call 42; refine (impl_numbers_plus.calls _ _ _ _ _ HP.out HF.out).mono ?_; rintro e w3 ⟨q3, hq, rfl, hz, hd⟩; have Z3 := aM hz; have HB3 := aM (aE HB.out hd); have HQ3 : Aside0 (w.heap.size ≤ q3) := ⟨Nat.le_trans HB.out.size hq⟩; have F3 := aM (aD HF.out hd); clear hz hd hq)
   exact ⟨⟨i + 1, q3, by omega, rfl, by go_num, HQ3, Z3, F3, HB3⟩, by simp [intOf]; omega⟩
  ·obtain rfl : i = d := by omega
   have e1 : decide ((i : Int) < (i : Int)) = false := aK (by omega)
   go_wp2
   go_ret
   exact ⟨q, HQ.out, rfl, HP.out, HB.out⟩
set_option maxHeartbeats 4000000 in
set_option maxRecDepth 100000 in
theorem impl_term_numbers.bin_sum (g h n : Nat) (c : Int) (cs : Array Value) (x y : Value) (w : World) (hb : w.heap[g]? = some (.cells #[.int .u8 c, .slice (some ⟨h, 0, none⟩) 2 n] 72 (0, 0))) (hr : w.heap[h]? = some (.cells cs 42 (0, 0))) (hx : cs[0]? = some x) (hy : cs[1]? = some y) (F G : Nat → Bool) (ih : ∀ W, Below w.heap.size w W → Calls Try.prog 27 #[x] W (impl_term_numbers.Post W F)) (ih2 : ∀ W, Below w.heap.size w W → Calls Try.prog 27 #[y] W (impl_term_numbers.Post W G)) (hc : c = 46) :
  Calls Try.prog 27 #[.pointer (some ⟨g, 0, none⟩)] w (impl_term_numbers.Post w (sumN F G)) := by
 subst hc
 have BT := aM hb
 have HR := aM hr
 have HX := aM hx
 have HY := aM hy
 have IH := aM ih
 have IH2 := aM ih2
 clear ih ih2 hb hr hx hy
 have B0 : Aside0 ((w.alloc (.cells Try.zeroCells69 69)).heap[w.heap.size]? = some (.cells (Arr (List.replicate 201 false)) 69 (0, 0))) := ⟨by rw [← zeros_eq]; exact blk_new _ _⟩
 have BA : Aside0 (Below w.heap.size w (w.alloc (.cells Try.zeroCells69 69))) := ⟨bA (cE _ _) _⟩
 have g10 : (w.alloc (.cells Try.zeroCells69 69)).cell? ⟨g, 0, none⟩ = some (.int .u8 46) := aA (aD BT.out BA.out) 0
 have g11 := aA (aD BT.out BA.out) 1
 have x10 : (w.alloc (.cells Try.zeroCells69 69)).cell? ⟨h, 0, none⟩ = some x := (aA (aD HR.out BA.out) 0).trans HX.out
 have x11 : (w.alloc (.cells Try.zeroCells69 69)).cell? ⟨h, 1, none⟩ = some y := (aA (aD HR.out BA.out) 1).trans HY.out
 go_enter Try.func27, Try.ntmps27
 go_wp2
 have HB0 := aM (b1 BA.out)
 have O0 := aM (kD B0.out)
 have C0 := aM (show (w.alloc (.cells Try.zeroCells69 69)).drew.cell? ⟨g, 1, none⟩ = some (.slice (some ⟨h, 0, none⟩) 2 n) from g11)
 have C1 := aM (show (w.alloc (.cells Try.zeroCells69 69)).drew.cell? ⟨h, 0, none⟩ = some x from x10)
 have C2 := aM (show (w.alloc (.cells Try.zeroCells69 69)).drew.cell? ⟨h, 1, none⟩ = some y from x11)
 go_region_held3 (fun w' => w'.cell? ⟨g, 1, none⟩ = some (.slice (some ⟨h, 0, none⟩) 2 n) ∧ w'.cell? ⟨h, 0, none⟩ = some x ∧ w'.cell? ⟨h, 1, none⟩ = some y) (exact ⟨C0.out, C1.out, C2.out⟩) (first | (go_at_call_of 27 x; refine (IH.out _ HB0.out).mono ?_; rintro e w1 ⟨q1, hq, rfl, hz, hd⟩; have Z1 := aM hz; have HB1 := aM (aE HB0.out hd); have HQ1 : Aside0 (w.heap.size ≤ q1) := ⟨Nat.le_trans HB0.out.size hq⟩; have N1 : Aside0 (w.heap.size < q1) := ⟨Nat.lt_of_lt_of_le (blk_lt O0.out) hq⟩; have O1 := aM (aD O0.out hd); replace C0 := aM (cN hd C0.out); replace C1 := aM (cN hd C1.out); replace C2 := aM (cN hd C2.out); clear hz hd hq) | (go_at_call_of 27 y; refine (IH2.out _ HB1.out).mono ?_; rintro e w2 ⟨q2, hq, rfl, hz, hd⟩; have Z2 := aM hz; have HB2 := aM (aE HB1.out hd); have HQ2 : Aside0 (w.heap.size ≤ q2) := ⟨Nat.le_trans HB1.out.size hq⟩; have N2 : Aside0 (w.heap.size < q2) := ⟨Nat.lt_of_lt_of_le (blk_lt O1.out) hq⟩; have O2 := aM (aD O1.out hd); have Y1 := aM (aD Z1.out hd); replace C0 := aM (cN hd C0.out); replace C1 := aM (cN hd C1.out); replace C2 := aM (cN hd C2.out); clear hz hd hq) | (go_at_call 42; refine (impl_numbers_plus.calls _ _ _ _ _ Y1.out Z2.out).mono ?_; rintro e w3 ⟨q3, hq, rfl, hz, hd⟩; have Z3 := aM hz; have HB3 := aM (aE HB2.out hd); have HQ3 : Aside0 (w.heap.size ≤ q3) := ⟨Nat.le_trans HB2.out.size hq⟩; have N3 : Aside0 (w.heap.size < q3) := ⟨Nat.lt_of_lt_of_le (blk_lt O2.out) hq⟩; have O3 := aM (aD O2.out hd); replace C0 := aM (cN hd C0.out); replace C1 := aM (cN hd C1.out); replace C2 := aM (cN hd C2.out); clear hz hd hq))
 go_wp2
 go_ret
 exact ⟨q3, HQ3.out, rfl, Z3.out, HB3.out⟩
set_option maxHeartbeats 4000000 in
set_option maxRecDepth 100000 in
theorem impl_term_numbers.bin_either (g h n : Nat) (c : Int) (cs : Array Value) (x y : Value) (w : World) (hb : w.heap[g]? = some (.cells #[.int .u8 c, .slice (some ⟨h, 0, none⟩) 2 n] 72 (0, 0))) (hr : w.heap[h]? = some (.cells cs 42 (0, 0))) (hx : cs[0]? = some x) (hy : cs[1]? = some y) (F G : Nat → Bool) (ih : ∀ W, Below w.heap.size w W → Calls Try.prog 27 #[x] W (impl_term_numbers.Post W F)) (ih2 : ∀ W, Below w.heap.size w W → Calls Try.prog 27 #[y] W (impl_term_numbers.Post W G)) (hc : c = 43) :
  Calls Try.prog 27 #[.pointer (some ⟨g, 0, none⟩)] w (impl_term_numbers.Post w (fun n => F n || G n)) := by
 subst hc
 have BT := aM hb
 have HR := aM hr
 have HX := aM hx
 have HY := aM hy
 have IH := aM ih
 have IH2 := aM ih2
 clear ih ih2 hb hr hx hy
 have B0 : Aside0 ((w.alloc (.cells Try.zeroCells69 69)).heap[w.heap.size]? = some (.cells (Arr (List.replicate 201 false)) 69 (0, 0))) := ⟨by rw [← zeros_eq]; exact blk_new _ _⟩
 have BA : Aside0 (Below w.heap.size w (w.alloc (.cells Try.zeroCells69 69))) := ⟨bA (cE _ _) _⟩
 have g10 : (w.alloc (.cells Try.zeroCells69 69)).cell? ⟨g, 0, none⟩ = some (.int .u8 43) := aA (aD BT.out BA.out) 0
 have g11 := aA (aD BT.out BA.out) 1
 have x10 : (w.alloc (.cells Try.zeroCells69 69)).cell? ⟨h, 0, none⟩ = some x := (aA (aD HR.out BA.out) 0).trans HX.out
 have x11 : (w.alloc (.cells Try.zeroCells69 69)).cell? ⟨h, 1, none⟩ = some y := (aA (aD HR.out BA.out) 1).trans HY.out
 go_enter Try.func27, Try.ntmps27
 go_wp2
 have HB0 := aM (b1 BA.out)
 have O0 := aM (kD B0.out)
 have C0 := aM (show (w.alloc (.cells Try.zeroCells69 69)).drew.cell? ⟨g, 1, none⟩ = some (.slice (some ⟨h, 0, none⟩) 2 n) from g11)
 have C1 := aM (show (w.alloc (.cells Try.zeroCells69 69)).drew.cell? ⟨h, 0, none⟩ = some x from x10)
 have C2 := aM (show (w.alloc (.cells Try.zeroCells69 69)).drew.cell? ⟨h, 1, none⟩ = some y from x11)
 go_region_held3 (fun w' => w'.cell? ⟨g, 1, none⟩ = some (.slice (some ⟨h, 0, none⟩) 2 n) ∧ w'.cell? ⟨h, 0, none⟩ = some x ∧ w'.cell? ⟨h, 1, none⟩ = some y) (exact ⟨C0.out, C1.out, C2.out⟩) (first | (go_at_call_of 27 x; refine (IH.out _ HB0.out).mono ?_; rintro e w1 ⟨q1, hq, rfl, hz, hd⟩; have Z1 := aM hz; have HB1 := aM (aE HB0.out hd); have HQ1 : Aside0 (w.heap.size ≤ q1) := ⟨Nat.le_trans HB0.out.size hq⟩; have N1 : Aside0 (w.heap.size < q1) := ⟨Nat.lt_of_lt_of_le (blk_lt O0.out) hq⟩; have O1 := aM (aD O0.out hd); replace C0 := aM (cN hd C0.out); replace C1 := aM (cN hd C1.out); replace C2 := aM (cN hd C2.out); clear hz hd hq) | (go_at_call_of 27 y; refine (IH2.out _ HB1.out).mono ?_; rintro e w2 ⟨q2, hq, rfl, hz, hd⟩; have Z2 := aM hz; have HB2 := aM (aE HB1.out hd); have HQ2 : Aside0 (w.heap.size ≤ q2) := ⟨Nat.le_trans HB1.out.size hq⟩; have N2 : Aside0 (w.heap.size < q2) := ⟨Nat.lt_of_lt_of_le (blk_lt O1.out) hq⟩; have O2 := aM (aD O1.out hd); have Y1 := aM (aD Z1.out hd); replace C0 := aM (cN hd C0.out); replace C1 := aM (cN hd C1.out); replace C2 := aM (cN hd C2.out); clear hz hd hq))
 have BT2 := aM (aD BT.out HB2.out)
 clear C0 C1 C2
 go_wp2
 go_loopw [70] (fun v70 wr => ∃ (i : Nat) (l : List Bool), i ≤ 201 ∧ v70 = .int .i64 i ∧ Aside0 (PutI (fun n => F n || G n) i l) ∧ Aside0 (wr.heap[w.heap.size]? = some (.cells (Arr l) 69 (0, 0))) ∧ Aside0 (wr.heap[q1]? = some (.cells (ArrF F) 69 (0, 0))) ∧ Aside0 (wr.heap[q2]? = some (.cells (ArrF G) 69 (0, 0))) ∧ Aside0 (Below w.heap.size w wr)) (fun v70 _ => 201 - (intOf v70).toNat)
 case atStart => exact ⟨0, _, Nat.zero_le _, rfl, ⟨PutI.start _⟩, O2, Y1, Z2, HB2⟩
 case round =>
  obtain ⟨i, l, hi, rfl, HI, HA, H1, H2, HB⟩ := hrel
  by_cases hlt : i < 201
  ·have hc1 := ArrF.at_ H1.out i hlt
   have hc2 := ArrF.at_ H2.out i hlt
   have hfr := aC HA.out i
   have hc0 := Arr.at_ HA.out i (by rw [HI.out.1]; exact hlt)
   have g30 : wr.cell? ⟨g, 0, none⟩ = some (.int .u8 43) := aA (aD BT.out HB.out) 0
   have hST := fun b hb => HI.out.step hlt b hb
   have ne1 : q1 ≠ w.heap.size := by have := N1.out; omega
   have ne2 : q2 ≠ w.heap.size := by have := N2.out; omega
   generalize F i = a at hc1 hST
   generalize G i = b at hc2 hST
   rcases a with _ | _ <;> rcases b with _ | _
   ·go_wp2
    go_region
    try go_wp2
    have HS := hST false rfl
    have K1 := aM (kD (cL (p := ⟨w.heap.size, i, none⟩) H1.out ne1 (.bool false)))
    have K2 := aM (kD (cL (p := ⟨w.heap.size, i, none⟩) H2.out ne2 (.bool false)))
    exact ⟨⟨i + 1, _, by omega, by go_num, ⟨HS⟩, ⟨kD (Arr.set_ HA.out i false)⟩, K1, K2, ⟨b1 (HB.out.setCell (p := ⟨w.heap.size, i, none⟩) (cD _) _)⟩⟩, by simp [intOf]; omega⟩
   
   ·go_wp2
    go_region
    try go_wp2
    have HS := hST true rfl
    have K1 := aM (kD (cL (p := ⟨w.heap.size, i, none⟩) H1.out ne1 (.bool true)))
    have K2 := aM (kD (cL (p := ⟨w.heap.size, i, none⟩) H2.out ne2 (.bool true)))
    exact ⟨⟨i + 1, _, by omega, by go_num, ⟨HS⟩, ⟨kD (Arr.set_ HA.out i true)⟩, K1, K2, ⟨b1 (HB.out.setCell (p := ⟨w.heap.size, i, none⟩) (cD _) _)⟩⟩, by simp [intOf]; omega⟩
   
   ·go_wp2
    go_region
    try go_wp2
    have HS := hST true rfl
    have K1 := aM (kD (cL (p := ⟨w.heap.size, i, none⟩) H1.out ne1 (.bool true)))
    have K2 := aM (kD (cL (p := ⟨w.heap.size, i, none⟩) H2.out ne2 (.bool true)))
    exact ⟨⟨i + 1, _, by omega, by go_num, ⟨HS⟩, ⟨kD (Arr.set_ HA.out i true)⟩, K1, K2, ⟨b1 (HB.out.setCell (p := ⟨w.heap.size, i, none⟩) (cD _) _)⟩⟩, by simp [intOf]; omega⟩
   
   ·go_wp2
    go_region
    try go_wp2
    have HS := hST true rfl
    have K1 := aM (kD (cL (p := ⟨w.heap.size, i, none⟩) H1.out ne1 (.bool true)))
    have K2 := aM (kD (cL (p := ⟨w.heap.size, i, none⟩) H2.out ne2 (.bool true)))
    exact ⟨⟨i + 1, _, by omega, by go_num, ⟨HS⟩, ⟨kD (Arr.set_ HA.out i true)⟩, K1, K2, ⟨b1 (HB.out.setCell (p := ⟨w.heap.size, i, none⟩) (cD _) _)⟩⟩, by simp [intOf]; omega⟩
  ·obtain rfl : i = 201 := by omega
   have HF := HI.out.fin
   go_wp2
   go_ret
   exact ⟨w.heap.size, cD _, rfl, by rw [← HF]; exact HA.out, HB.out⟩
set_option maxHeartbeats 4000000 in
set_option maxRecDepth 100000 in
theorem impl_term_numbers.bin_both (g h n : Nat) (c : Int) (cs : Array Value) (x y : Value) (w : World) (hb : w.heap[g]? = some (.cells #[.int .u8 c, .slice (some ⟨h, 0, none⟩) 2 n] 72 (0, 0))) (hr : w.heap[h]? = some (.cells cs 42 (0, 0))) (hx : cs[0]? = some x) (hy : cs[1]? = some y) (F G : Nat → Bool) (ih : ∀ W, Below w.heap.size w W → Calls Try.prog 27 #[x] W (impl_term_numbers.Post W F)) (ih2 : ∀ W, Below w.heap.size w W → Calls Try.prog 27 #[y] W (impl_term_numbers.Post W G)) (hc : c = 38) :
  Calls Try.prog 27 #[.pointer (some ⟨g, 0, none⟩)] w (impl_term_numbers.Post w (fun n => F n && G n)) := by
 subst hc
 have BT := aM hb
 have HR := aM hr
 have HX := aM hx
 have HY := aM hy
 have IH := aM ih
 have IH2 := aM ih2
 clear ih ih2 hb hr hx hy
 have B0 : Aside0 ((w.alloc (.cells Try.zeroCells69 69)).heap[w.heap.size]? = some (.cells (Arr (List.replicate 201 false)) 69 (0, 0))) := ⟨by rw [← zeros_eq]; exact blk_new _ _⟩
 have BA : Aside0 (Below w.heap.size w (w.alloc (.cells Try.zeroCells69 69))) := ⟨bA (cE _ _) _⟩
 have g10 : (w.alloc (.cells Try.zeroCells69 69)).cell? ⟨g, 0, none⟩ = some (.int .u8 38) := aA (aD BT.out BA.out) 0
 have g11 := aA (aD BT.out BA.out) 1
 have x10 : (w.alloc (.cells Try.zeroCells69 69)).cell? ⟨h, 0, none⟩ = some x := (aA (aD HR.out BA.out) 0).trans HX.out
 have x11 : (w.alloc (.cells Try.zeroCells69 69)).cell? ⟨h, 1, none⟩ = some y := (aA (aD HR.out BA.out) 1).trans HY.out
 go_enter Try.func27, Try.ntmps27
 go_wp2
 have HB0 := aM (b1 BA.out)
 have O0 := aM (kD B0.out)
 have C0 := aM (show (w.alloc (.cells Try.zeroCells69 69)).drew.cell? ⟨g, 1, none⟩ = some (.slice (some ⟨h, 0, none⟩) 2 n) from g11)
 have C1 := aM (show (w.alloc (.cells Try.zeroCells69 69)).drew.cell? ⟨h, 0, none⟩ = some x from x10)
 have C2 := aM (show (w.alloc (.cells Try.zeroCells69 69)).drew.cell? ⟨h, 1, none⟩ = some y from x11)
 go_region_held3 (fun w' => w'.cell? ⟨g, 1, none⟩ = some (.slice (some ⟨h, 0, none⟩) 2 n) ∧ w'.cell? ⟨h, 0, none⟩ = some x ∧ w'.cell? ⟨h, 1, none⟩ = some y) (exact ⟨C0.out, C1.out, C2.out⟩) (first | (go_at_call_of 27 x; refine (IH.out _ HB0.out).mono ?_; rintro e w1 ⟨q1, hq, rfl, hz, hd⟩; have Z1 := aM hz; have HB1 := aM (aE HB0.out hd); have HQ1 : Aside0 (w.heap.size ≤ q1) := ⟨Nat.le_trans HB0.out.size hq⟩; have N1 : Aside0 (w.heap.size < q1) := ⟨Nat.lt_of_lt_of_le (blk_lt O0.out) hq⟩; have O1 := aM (aD O0.out hd); replace C0 := aM (cN hd C0.out); replace C1 := aM (cN hd C1.out); replace C2 := aM (cN hd C2.out); clear hz hd hq) | (go_at_call_of 27 y; refine (IH2.out _ HB1.out).mono ?_; rintro e w2 ⟨q2, hq, rfl, hz, hd⟩; have Z2 := aM hz; have HB2 := aM (aE HB1.out hd); have HQ2 : Aside0 (w.heap.size ≤ q2) := ⟨Nat.le_trans HB1.out.size hq⟩; have N2 : Aside0 (w.heap.size < q2) := ⟨Nat.lt_of_lt_of_le (blk_lt O1.out) hq⟩; have O2 := aM (aD O1.out hd); have Y1 := aM (aD Z1.out hd); replace C0 := aM (cN hd C0.out); replace C1 := aM (cN hd C1.out); replace C2 := aM (cN hd C2.out); clear hz hd hq))
 have BT2 := aM (aD BT.out HB2.out)
 clear C0 C1 C2
 go_wp2
 go_loopw [70] (fun v70 wr => ∃ (i : Nat) (l : List Bool), i ≤ 201 ∧ v70 = .int .i64 i ∧ Aside0 (PutI (fun n => F n && G n) i l) ∧ Aside0 (wr.heap[w.heap.size]? = some (.cells (Arr l) 69 (0, 0))) ∧ Aside0 (wr.heap[q1]? = some (.cells (ArrF F) 69 (0, 0))) ∧ Aside0 (wr.heap[q2]? = some (.cells (ArrF G) 69 (0, 0))) ∧ Aside0 (Below w.heap.size w wr)) (fun v70 _ => 201 - (intOf v70).toNat)
 case atStart => exact ⟨0, _, Nat.zero_le _, rfl, ⟨PutI.start _⟩, O2, Y1, Z2, HB2⟩
 case round =>
  obtain ⟨i, l, hi, rfl, HI, HA, H1, H2, HB⟩ := hrel
  by_cases hlt : i < 201
  ·have hc1 := ArrF.at_ H1.out i hlt
   have hc2 := ArrF.at_ H2.out i hlt
   have hfr := aC HA.out i
   have hc0 := Arr.at_ HA.out i (by rw [HI.out.1]; exact hlt)
   have g30 : wr.cell? ⟨g, 0, none⟩ = some (.int .u8 38) := aA (aD BT.out HB.out) 0
   have hST := fun b hb => HI.out.step hlt b hb
   have ne1 : q1 ≠ w.heap.size := by have := N1.out; omega
   have ne2 : q2 ≠ w.heap.size := by have := N2.out; omega
   generalize F i = a at hc1 hST
   generalize G i = b at hc2 hST
   rcases a with _ | _ <;> rcases b with _ | _
   ·go_wp2
    go_region
    try go_wp2
    have HS := hST false rfl
    have K1 := aM (kD (cL (p := ⟨w.heap.size, i, none⟩) H1.out ne1 (.bool false)))
    have K2 := aM (kD (cL (p := ⟨w.heap.size, i, none⟩) H2.out ne2 (.bool false)))
    exact ⟨⟨i + 1, _, by omega, by go_num, ⟨HS⟩, ⟨kD (Arr.set_ HA.out i false)⟩, K1, K2, ⟨b1 (HB.out.setCell (p := ⟨w.heap.size, i, none⟩) (cD _) _)⟩⟩, by simp [intOf]; omega⟩
   
   ·go_wp2
    go_region
    try go_wp2
    have HS := hST false rfl
    have K1 := aM (kD (cL (p := ⟨w.heap.size, i, none⟩) H1.out ne1 (.bool false)))
    have K2 := aM (kD (cL (p := ⟨w.heap.size, i, none⟩) H2.out ne2 (.bool false)))
    exact ⟨⟨i + 1, _, by omega, by go_num, ⟨HS⟩, ⟨kD (Arr.set_ HA.out i false)⟩, K1, K2, ⟨b1 (HB.out.setCell (p := ⟨w.heap.size, i, none⟩) (cD _) _)⟩⟩, by simp [intOf]; omega⟩
   
   ·go_wp2
    go_region
    try go_wp2
    have HS := hST false rfl
    have K1 := aM (kD (cL (p := ⟨w.heap.size, i, none⟩) H1.out ne1 (.bool false)))
    have K2 := aM (kD (cL (p := ⟨w.heap.size, i, none⟩) H2.out ne2 (.bool false)))
    exact ⟨⟨i + 1, _, by omega, by go_num, ⟨HS⟩, ⟨kD (Arr.set_ HA.out i false)⟩, K1, K2, ⟨b1 (HB.out.setCell (p := ⟨w.heap.size, i, none⟩) (cD _) _)⟩⟩, by simp [intOf]; omega⟩
   
   ·go_wp2
    go_region
    try go_wp2
    have HS := hST true rfl
    have K1 := aM (kD (cL (p := ⟨w.heap.size, i, none⟩) H1.out ne1 (.bool true)))
    have K2 := aM (kD (cL (p := ⟨w.heap.size, i, none⟩) H2.out ne2 (.bool true)))
    exact ⟨⟨i + 1, _, by omega, by go_num, ⟨HS⟩, ⟨kD (Arr.set_ HA.out i true)⟩, K1, K2, ⟨b1 (HB.out.setCell (p := ⟨w.heap.size, i, none⟩) (cD _) _)⟩⟩, by simp [intOf]; omega⟩
  ·obtain rfl : i = 201 := by omega
   have HF := HI.out.fin
   go_wp2
   go_ret
   exact ⟨w.heap.size, cD _, rfl, by rw [← HF]; exact HA.out, HB.out⟩
theorem impl_term_numbers.calls (t : Tm) : ∀ (v : Value) (w : World) (lo hi : Nat) (F : Nat → Bool), t.At w lo hi v → impl_term_numbers.f t = some F → Calls Try.prog 27 #[v] w (impl_term_numbers.Post w F) := by
 induction t with
 | leaf c =>
  rintro v w lo hi F ⟨g, h1, h2, rfl, hb⟩ h
  unfold impl_term_numbers.f at h
  split at h
  ·rename_i hc
   subst hc; cases h; exact impl_term_numbers.leaf_zero g w hb
  split at h
  ·rename_i hc
   subst hc; cases h; exact impl_term_numbers.leaf_one g w hb
  split at h
  ·rename_i hc
   subst hc; cases h; exact impl_term_numbers.leaf_a g w hb
  ·cases h
 | un c a ih =>
  rintro v w lo hi F ⟨g, h, n, cs, x, h1, h2, h3, h4, rfl, hb, hr, hx, hat⟩ hf
  unfold impl_term_numbers.f at hf
  obtain ⟨F1, ha, hf⟩ := Option.bind_eq_some_iff.mp hf
  have i1 : ∀ W, Below w.heap.size w W → Calls Try.prog 27 #[x] W (impl_term_numbers.Post W F1) := fun W hW => ih x W lo hi F1 (hat.below hW) ha
  split at hf
  ·rename_i hc
   cases hf; exact impl_term_numbers.un_star g h n c cs x w hb hr hx F1 i1 hc
  split at hf
  ·rename_i hc
   cases hf; exact impl_term_numbers.un_times g h n c cs x w hb hr hx F1 i1 (c - 48).toNat (by omega) (by omega) (by omega)
  ·cases hf
 | bin c a b ih1 ih2 =>
  rintro v w lo hi F ⟨g, h, n, cs, x, y, h1, h2, h3, h4, rfl, hb, hr, hx, hy, hat1, hat2⟩ hf
  unfold impl_term_numbers.f at hf
  obtain ⟨F1, ha, hf⟩ := Option.bind_eq_some_iff.mp hf
  obtain ⟨F2, ha2, hf⟩ := Option.bind_eq_some_iff.mp hf
  have i1 : ∀ W, Below w.heap.size w W → Calls Try.prog 27 #[x] W (impl_term_numbers.Post W F1) := fun W hW => ih1 x W lo hi F1 (hat1.below hW) ha
  have i2 : ∀ W, Below w.heap.size w W → Calls Try.prog 27 #[y] W (impl_term_numbers.Post W F2) := fun W hW => ih2 y W lo hi F2 (hat2.below hW) ha2
  split at hf
  ·rename_i hc
   cases hf; exact impl_term_numbers.bin_either g h n c cs x y w hb hr hx hy F1 F2 i1 i2 hc
  split at hf
  ·rename_i hc
   cases hf; exact impl_term_numbers.bin_sum g h n c cs x y w hb hr hx hy F1 F2 i1 i2 hc
  split at hf
  ·rename_i hc
   cases hf; exact impl_term_numbers.bin_both g h n c cs x y w hb hr hx hy F1 F2 i1 i2 hc
  ·cases hf
def impl_TermHas.f (k : Nat) (a0 : ByteArray) (a1 : Int) : Option Bool := match Tm.of a0 with | some t => (if 0 ≤ a1 ∧ a1 ≤ 200 then (impl_term_numbers.f t).bind fun F => some (F a1.toNat) else some false) | none => some false
theorem impl_TermHas.in_eq (v : Int) : impl_in.f v 0 200 = some (decide (0 ≤ v ∧ v ≤ 200)) := by
 unfold impl_in.f
 by_cases c1 : 0 ≤ v
 ·by_cases c2 : v ≤ 200 <;> simp [c1, c2]
 ·simp [c1]
set_option maxHeartbeats 2000000 in
set_option maxRecDepth 100000 in
theorem impl_TermHas.calls (k : Nat) (a0 : ByteArray) (a1 : Int) (r : Bool) (w : World) (h : impl_TermHas.f k a0 a1 = some r) :
  Calls Try.prog 9 #[.string a0, .int .i64 a1] w fun e w' => e = .returned (.bool r) ∧ Below w.heap.size w w' := by
 have C := impl_termOf.calls a0 w
 have CI := fun W => impl_in.calls a1 0 200 _ W (impl_TermHas.in_eq a1)
 unfold impl_TermHas.f at h
 cases hp : Tm.of a0 with
 | none =>
  rw [hp] at C h
  obtain rfl := bU h
  have C0 : Calls Try.prog 25 #[.string a0] w fun e w' => e = .returned (.pointer none) ∧ Below w.heap.size w w' := C
  clear C hp CI h
  go_enter Try.func9, Try.ntmps9
  go_wp2_with (go_at_call 25; refine C0.mono ?_; rintro e w1 ⟨rfl, hb⟩; have HB := aM hb; clear hb)
  go_ret
  exact ⟨rfl, HB.out⟩
 | some t =>
  rw [hp] at C h
  simp only at h
  have C0 : Calls Try.prog 25 #[.string a0] w fun e w' => ∃ g, e = .returned (.pointer (some ⟨g, 0, none⟩)) ∧ t.At w' w.heap.size w'.heap.size (.pointer (some ⟨g, 0, none⟩)) ∧ Below w.heap.size w w' := C
  by_cases hi : 0 ≤ a1 ∧ a1 ≤ 200
  ·rw [if_pos hi] at h
   obtain ⟨F, hF, h⟩ := Option.bind_eq_some_iff.mp h
   obtain rfl := bU h
   rw [aH hi] at CI
   obtain ⟨m, rfl⟩ : ∃ m : Nat, a1 = (m : Int) := ⟨a1.toNat, by omega⟩
   have hm : m < 201 := by omega
   have HF := aM hF
   clear C hp h hF hi
   go_enter Try.func9, Try.ntmps9
   go_wp2_with (first | (go_at_call 25; refine C0.mono ?_; rintro e w1 ⟨g, rfl, hat, hb⟩; have HB := aM hb; have HAT := aM hat; clear hb hat) | (go_at_call 26; refine (CI _).mono ?_; rintro e w2 ⟨rfl, hd⟩; have HB2 := aM (aE HB.out (Drawn0.below hd)); have HAT2 := aM (HAT.out.below (Drawn0.below hd)); clear hd) | (go_at_call 27; refine (impl_term_numbers.calls t _ _ _ _ F HAT2.out HF.out).mono ?_; rintro e w3 ⟨q, hq, rfl, hz, hd⟩; have HB3 := aM (aE HB2.out hd); have hc := ArrF.at_ hz m hm; clear hd hz hq))
   go_ret
   exact ⟨rfl, HB3.out⟩
  ·rw [if_neg hi] at h
   obtain rfl := bU h
   rw [aK hi] at CI
   clear C hp h hi
   go_enter Try.func9, Try.ntmps9
   go_wp2_with (first | (go_at_call 25; refine C0.mono ?_; rintro e w1 ⟨g, rfl, hat, hb⟩; have HB := aM hb; clear hb hat) | (go_at_call 26; refine (CI _).mono ?_; rintro e w2 ⟨rfl, hd⟩; have HB2 := aM (aE HB.out (Drawn0.below hd)); clear hd))
   go_ret
   exact ⟨rfl, HB2.out⟩
end Go.Proofs.Ytedhckahjinieaa.Q
