/- A term tells its set; no condition beyond the statement's own. -/
import Derived.LoopN
import Derived.Test.YtedhckahjinieaaCFnTermSet8
namespace Go.Proofs.Ytedhckahjinieaa.Q
open Go.RowKit Go.Proofs.YtedhckahjinieaaW.PrintWords Go.Proofs.YtedhckahjinieaaW.PrintLast Go.Proofs.YtedhckahjinieaaW.PrintMore
attribute [local go_sem] max2_int max_two
set_option linter.unusedVariables false
set_option linter.unusedSimpArgs false
mutual
def impl_star.l0 : Nat → List Bool → Int → Int → List Bool → List Bool → Option (List Bool)
 | 0, _, _, _, _, _ => none
 | k + 1, x5, x11, x12, x325000, x325001 => if x12 < x11 then (if 0 ≤ x12 then (if x12 < (x5.length : Int) then (impl_star.l1 k (x5.set (x12 : Int).toNat (x12 == 0)) x12 1 x11 x12 x325000 x325001) else (none)) else (none)) else (some x5)
def impl_star.l1 : Nat → List Bool → Int → Int → Int → Int → List Bool → List Bool → Option (List Bool)
 | 0, _, _, _, _, _, _, _ => none
 | k + 1, x5, x6, x7, x11, x12, x325000, x325001 => if x7 ≤ x6 then (if 0 ≤ x6 then (if x6 < (x5.length : Int) then (if rdOf false x5 x6 = true then (impl_star.l0 k x5 x11 (wrap64 (x12 + 1)) x325000 x325001) else ((impl_set_has.f x325000 x325001 x7).bind fun t330 => (if t330 = true then (if 0 ≤ (wrap64 (x6 - x7)) then (if (wrap64 (x6 - x7)) < (x5.length : Int) then (impl_star.l1 k (x5.set (x6 : Int).toNat (rdOf false x5 (wrap64 (x6 - x7)))) x6 (wrap64 (x7 + 1)) x11 x12 x325000 x325001) else (none)) else (none)) else (impl_star.l1 k (x5.set (x6 : Int).toNat false) x6 (wrap64 (x7 + 1)) x11 x12 x325000 x325001)))) else (none)) else (none)) else (impl_star.l0 k x5 x11 (wrap64 (x12 + 1)) x325000 x325001)
end
def impl_star.f (k : Nat) (l0_0 : List Bool) (l0_1 : List Bool) (a1 : Int) : Option (List Bool) := if 0 ≤ a1 then (if (a1 : Int).toNat ≤ 281474976710656 then ((some (List.replicate (a1 : Int).toNat false : List Bool)).bind fun y325 => (impl_star.l0 k y325 (y325.length : Int) 0 l0_0 l0_1)) else (none)) else (none)
set_option maxHeartbeats 8000000 in
set_option maxRecDepth 100000 in
theorem impl_star.calls (k : Nat) (A0_0 : Option Addr) (c0_0 : Nat) (l0_0 : List Bool) (A0_1 : Option Addr) (c0_1 : Nat) (l0_1 : List Bool) (a1 : Int) (r : List Bool) (w : World) (hr0_0 : Kd.C Kd.bool w A0_0 l0_0.length l0_0) (hc0_0 : l0_0.length ≤ c0_0) (hr0_1 : Kd.C Kd.bool w A0_1 l0_1.length l0_1) (hc0_1 : l0_1.length ≤ c0_1) (h : impl_star.f k l0_0 l0_1 a1 = some r) :
  Calls Try.prog 84 #[.agg #[.slice A0_0 l0_0.length c0_0, .slice A0_1 l0_1.length c0_1], .int .i64 a1] w fun e w' => ∃ v0_ : Value, e = .returned (v0_) ∧ Kd.R Kd.bool 4 w' w.heap.size (fun _ => True) v0_ r ∧ Below w.heap.size w w' := by
 have HR0_0 := aM hr0_0
 have HC0_0 := aM hc0_0
 clear hr0_0 hc0_0
 have HR0_1 := aM hr0_1
 have HC0_1 := aM hc0_1
 clear hr0_1 hc0_1
 have HB := aM (cE w.heap.size w)
 have H : (if 0 ≤ a1 then (if (a1 : Int).toNat ≤ 281474976710656 then ((some (List.replicate (a1 : Int).toNat false : List Bool)).bind fun y325 => (impl_star.l0 k y325 (y325.length : Int) 0 l0_0 l0_1)) else (none)) else (none)) = some r := h
 clear h
 by_cases c3 : 0 ≤ a1
 ·rw [if_pos c3] at H
  have c3b0 := eq_true c3
  have c3b1 : decide (0 ≤ a1) = true := aH c3
  clear c3
  by_cases c4 : (a1 : Int).toNat ≤ 281474976710656
  ·rw [if_pos c4] at H
   have c4b0 := eq_true c4
   have c4b1 : decide ((a1 : Int).toNat ≤ 281474976710656) = true := aH c4
   clear c4
   obtain ⟨y325, hy325⟩ : ∃ y_ : List Bool, y_ = (List.replicate (a1 : Int).toNat false) := ⟨_, rfl⟩
   replace H : (impl_star.l0 k y325 (y325.length : Int) 0 l0_0 l0_1) = some r := by first | (have H2_ := (bR _ _).symm.trans H; rw [hy325]; with_reducible exact H2_)
   have Ny325 := aM hy325
   clear hy325
   have H' := aM H
   clear H
   go_enter Try.func84, Try.ntmps84
   go_wp2_with (first | ((with_reducible refine aZ (N := 2) rfl ?_); refine bB ?hg (N := 2) ?hd (cs := #[.slice A0_0 l0_0.length c0_0, .slice A0_1 l0_1.length c0_1]) (t := 56) ?hr ?_; (case hd => rfl); (case hg => rfl); (case hr => first | (go_simp; done)); intro gb324 hg w5 hbox hb; have BK324 := aM hbox; replace HB := aM (aE HB.out hb); clear hb hbox hg) | ((with_reducible refine aZ (N := 9) rfl ?_); refine Kd.R_make Kd.bool _ 4 rfl (N := 9) rfl 52 _ _ rfl a1 rfl rfl Try.underlying52 (.bool false) 1 info4 rfl (by decide) (by omega) false (ok := fun _ => True) (okp := fun _ => True) rfl (fun _ hk => hk) trivial (aJ (by (with_reducible assumption))) (Nat.le_trans (Nat.mul_le_mul_right _ (aJ (by (with_reducible assumption)) : a1.toNat ≤ 281474976710656)) (by omega)) (cE _ _) (cD _) ?_; intro v326 w6 ho7 hb hg_ hnew_; clear hg_ hnew_; (rw [← Ny325.out] at ho7); have HO327 := aM (bP ho7 (aG HB.out)); replace BK324 := aM (aD (g := gb324) (o := .cells #[.slice A0_0 l0_0.length c0_0, .slice A0_1 l0_1.length c0_1] 56 (0, 0)) BK324.out hb); replace HB := aM (aE HB.out hb); clear hb ho7; obtain ⟨Ao8, co8, eo8⟩ := bL HO327.out; subst eo8))
   go_loopg [12] k (fun kq v12 w' => ∃ (x5_1 : List Bool) (x12_1 : Int), v12 = .int .i64 x12_1 ∧ Aside0 (impl_star.l0 kq x5_1 (y325.length : Int) x12_1 l0_0 l0_1 = some r) ∧ Aside0 (kq ≤ k) ∧ Aside0 (Kd.R Kd.bool 4 w' w.heap.size (fun _ => True) (.slice Ao8 y325.length co8) x5_1) ∧ Aside0 (w'.heap[gb324]? = some (.cells #[(.slice A0_0 l0_0.length c0_0), (.slice A0_1 l0_1.length c0_1)] 56 (0, 0))) ∧ Aside0 (Below w.heap.size w w'))
   case atStart => exact ⟨(y325), (0), (by rfl), H', ⟨cD _⟩, ⟨by exact HO327.out⟩, ⟨by exact BK324.out⟩, ⟨HB.out⟩⟩
   case round =>
    clear H'
    try clear c3b0
    try clear c3b1
    try clear c4b0
    try clear c4b1
    obtain ⟨x5_1, x12_1, rfl, HA, HK1, HO_5, BK324, HB⟩ := hrel
    have hl5_1 := (bM HO_5.out).1
    rw [hl5_1] at HO_5
    (try simp only [hl5_1])
    cases gk with
    | zero => exact absurd HA.out (by simp [impl_star.l0])
    | succ k1 =>
     have H := HA.out
     clear HA
     simp only [impl_star.l0] at H
     by_cases c9 : x12_1 < (y325.length : Int)
     ·rw [if_pos c9] at H
      have c9b0 : decide (x12_1 < (y325.length : Int)) = true := aH c9
      have c9b0z := c9b0
      (try simp only [hl5_1] at c9b0z)
      clear c9
      by_cases c10 : 0 ≤ x12_1
      ·rw [if_pos c10] at H
       have c10b0 : decide (0 ≤ x12_1) = true := aH c10
       clear c10
       by_cases c11 : x12_1 < (x5_1.length : Int)
       ·rw [if_pos c11] at H
        have c11b0 : decide (x12_1 < (x5_1.length : Int)) = true := aH c11
        have c11b0z := c11b0
        clear c11
        obtain ⟨y328, hy328⟩ : ∃ y_ : List Bool, y_ = (x5_1.set (x12_1 : Int).toNat (x12_1 == 0)) := ⟨_, rfl⟩
        replace H : (impl_star.l1 k1 y328 x12_1 1 (y325.length : Int) x12_1 l0_0 l0_1) = some r := by first | (rw [hy328]; with_reducible exact H)
        have Ny328 := aM hy328
        clear hy328
        have H' := aM H
        clear H
        have p12 : 0 ≤ (x12_1 : Int) := aJ (by (with_reducible assumption))
        have q12 : (x12_1 : Int) < ((x5_1.length : Int) : Int) := aJ (by (with_reducible assumption))
        obtain ⟨go12, co12, eo12, gb12, gl12, cl12, HG12⟩ := cQ HO_5.out (by omega)
        (cases eo12)
        have GB12 := aM gb12
        clear gb12 gl12 HG12
        obtain ⟨hx12_0, hf12_0⟩ := Kd.R_celln false HO_5.out (x12_1 : Int) p12 q12
        replace p12 := eq_true p12
        replace q12 := eq_true q12
        have HP13 := Kd.R_putg HO_5.out (x12_1 : Int) (x12_1 == 0)
        go_wp2_with (first | ((with_reducible refine gate_store (t := 4) (p := 19) rfl ?_); refine store_event (t := 4) (p := 19) (v := ?vo_w14) (w1 := (wr.setCell ⟨go12, (x12_1 : Int).toNat, none⟩ (.bool (x12_1 == 0)))) ?hg ?ho ?hn ?hr ?_; (case ho => rfl); (case hg => rfl); (case hn => rfl); (case hr => first | (go_simp; done)); intro w14 hw; have hg : wr.grownBy w14 (some go12) := (by rw [hw]; exact HP13.2); have hp_ : Kd.R Kd.bool 4 w14 w.heap.size (fun _ => True) (.slice (some ⟨go12, 0, none⟩) x5_1.length co8) y328 := (by rw [hw, Ny328.out]; exact HP13.1); clear HP13; replace BK324 := aM (blk_grown (g := gb324) (o := .cells #[.slice A0_0 l0_0.length c0_0, .slice A0_1 l0_1.length c0_1] 56 (0, 0)) BK324.out hg (Kd.R_ne HO_5.out BK324.out (by decide))); replace HO_5 := aM hp_; replace HB := aM ((by rw [hw]; exact bS (HB.out) GB12.out : Below w.heap.size w w14)); clear hg hw hp_))
        go_loopg [7] k1 (fun kq v7 w' => ∃ (x5_2 : List Bool) (x7_2 : Int), v7 = .int .i64 x7_2 ∧ Aside0 (impl_star.l1 kq x5_2 x12_1 x7_2 (y325.length : Int) x12_1 l0_0 l0_1 = some r) ∧ Aside0 (kq ≤ k1) ∧ Aside0 (Kd.R Kd.bool 4 w' w.heap.size (fun _ => True) (.slice (some ⟨go12, 0, none⟩) x5_1.length co8) x5_2) ∧ Aside0 (w'.heap[gb324]? = some (.cells #[(.slice A0_0 l0_0.length c0_0), (.slice A0_1 l0_1.length c0_1)] 56 (0, 0))) ∧ Aside0 (Below w.heap.size w w'))
        case atStart => exact ⟨(y328), (1), (by rfl), H', ⟨cD _⟩, ⟨by exact HO_5.out⟩, ⟨by exact BK324.out⟩, ⟨HB.out⟩⟩
        case round =>
         clear H'
         try clear c9b0
         try clear c10b0
         try clear c11b0
         try clear p12
         try clear q12
         try clear hx12_0
         obtain ⟨x5_2, x7_2, rfl, HA, HK2, HO_5, BK324, HB⟩ := hrel
         have hl5_2 := (bM HO_5.out).1
         rw [hl5_2] at HO_5
         (try simp only [hl5_2])
         cases gk with
         | zero => exact absurd HA.out (by simp [impl_star.l1])
         | succ k2 =>
          have H := HA.out
          clear HA
          simp only [impl_star.l1] at H
          by_cases c15 : x7_2 ≤ x12_1
          ·rw [if_pos c15] at H
           have c15b0 : decide (x7_2 ≤ x12_1) = true := aH c15
           clear c15
           by_cases c16 : 0 ≤ x12_1
           ·rw [if_pos c16] at H
            have c16b0 : decide (0 ≤ x12_1) = true := aH c16
            clear c16
            by_cases c17 : x12_1 < (x5_2.length : Int)
            ·rw [if_pos c17] at H
             have c17b0 : decide (x12_1 < (x5_2.length : Int)) = true := aH c17
             have c17b0z := c17b0
             clear c17
             obtain ⟨bq18, hbq18⟩ : ∃ b_ : Bool, b_ = (rdOf false x5_2 x12_1) := ⟨_, rfl⟩
             replace H : (if bq18 = true then (impl_star.l0 k2 x5_2 (y325.length : Int) (wrap64 (x12_1 + 1)) l0_0 l0_1) else ((impl_set_has.f l0_0 l0_1 x7_2).bind fun t330 => (if t330 = true then (if 0 ≤ (wrap64 (x12_1 - x7_2)) then (if (wrap64 (x12_1 - x7_2)) < (x5_2.length : Int) then (impl_star.l1 k2 (x5_2.set (x12_1 : Int).toNat (rdOf false x5_2 (wrap64 (x12_1 - x7_2)))) x12_1 (wrap64 (x7_2 + 1)) (y325.length : Int) x12_1 l0_0 l0_1) else (none)) else (none)) else (impl_star.l1 k2 (x5_2.set (x12_1 : Int).toNat false) x12_1 (wrap64 (x7_2 + 1)) (y325.length : Int) x12_1 l0_0 l0_1)))) = some r := by rw [← hbq18] at H; exact H
             have Nbq18 := aM hbq18
             clear hbq18
             by_cases c19 : bq18 = true
             ·subst c19
              replace H : (impl_star.l0 k2 x5_2 (y325.length : Int) (wrap64 (x12_1 + 1)) l0_0 l0_1) = some r := by rw [if_pos rfl] at H; exact H
              have H' := aM H
              clear H
              have p329 : 0 ≤ (x12_1 : Int) := aJ (by (with_reducible assumption))
              have q329 : x12_1 < (x5_2.length : Int) := aJ (by (with_reducible assumption))
              obtain ⟨ad329, e329, hx329_0⟩ := Kd.at_bool (bM HO_5.out).2.2 x12_1 p329 q329
              (try rw [← Nbq18.out] at hx329_0)
              obtain rfl : (⟨go12, 0, none⟩ : Addr) = ad329 := (by injection e329)
              (simp only [add_plain] at hx329_0)
              replace p329 := eq_true p329
              replace q329 := eq_true q329
              go_wp2
              (try simp only [← hl5_1, ← hl5_2])
              go_roundg k2
              case measure => have := HK1.out; have := HK2.out; omega
              case rel => exact ⟨(x5_2), (wrap64 (x12_1 + 1)), (by rfl), H', ⟨by have := HK1.out; have := HK2.out; omega⟩, ⟨by (try simp only [hl5_1]); (try simp only [hl5_2]); exact HO_5.out⟩, ⟨by exact BK324.out⟩, ⟨HB.out⟩⟩
             ·replace c19 := Bool.eq_false_iff.mpr c19
              subst c19
              replace H : ((impl_set_has.f l0_0 l0_1 x7_2).bind fun t330 => (if t330 = true then (if 0 ≤ (wrap64 (x12_1 - x7_2)) then (if (wrap64 (x12_1 - x7_2)) < (x5_2.length : Int) then (impl_star.l1 k2 (x5_2.set (x12_1 : Int).toNat (rdOf false x5_2 (wrap64 (x12_1 - x7_2)))) x12_1 (wrap64 (x7_2 + 1)) (y325.length : Int) x12_1 l0_0 l0_1) else (none)) else (none)) else (impl_star.l1 k2 (x5_2.set (x12_1 : Int).toNat false) x12_1 (wrap64 (x7_2 + 1)) (y325.length : Int) x12_1 l0_0 l0_1))) = some r := by rw [if_neg (show ¬ (false = true) by decide)] at H; exact H
              replace H := Option.bind_eq_some_iff.mp H
              obtain ⟨t330, A200, H⟩ := H
              replace H : (if t330 = true then (if 0 ≤ (wrap64 (x12_1 - x7_2)) then (if (wrap64 (x12_1 - x7_2)) < (x5_2.length : Int) then (impl_star.l1 k2 (x5_2.set (x12_1 : Int).toNat (rdOf false x5_2 (wrap64 (x12_1 - x7_2)))) x12_1 (wrap64 (x7_2 + 1)) (y325.length : Int) x12_1 l0_0 l0_1) else (none)) else (none)) else (impl_star.l1 k2 (x5_2.set (x12_1 : Int).toNat false) x12_1 (wrap64 (x7_2 + 1)) (y325.length : Int) x12_1 l0_0 l0_1)) = some r := H
              have A20 := aM A200
              clear A200
              by_cases c21 : t330 = true
              ·subst c21
               replace H : (if 0 ≤ (wrap64 (x12_1 - x7_2)) then (if (wrap64 (x12_1 - x7_2)) < (x5_2.length : Int) then (impl_star.l1 k2 (x5_2.set (x12_1 : Int).toNat (rdOf false x5_2 (wrap64 (x12_1 - x7_2)))) x12_1 (wrap64 (x7_2 + 1)) (y325.length : Int) x12_1 l0_0 l0_1) else (none)) else (none)) = some r := by rw [if_pos rfl] at H; exact H
               obtain ⟨ji22, hji22⟩ : ∃ j_ : Int, (wrap64 (x12_1 - x7_2)) = j_ := ⟨_, rfl⟩
               replace H : (if 0 ≤ (ji22) then (if (ji22) < (x5_2.length : Int) then (impl_star.l1 k2 (x5_2.set (x12_1 : Int).toNat (rdOf false x5_2 (ji22))) x12_1 (wrap64 (x7_2 + 1)) (y325.length : Int) x12_1 l0_0 l0_1) else (none)) else (none)) = some r := by first | (rw [hji22] at H; exact H)
               have hji22w : (IntKind.i64.wrap (x12_1 - x7_2)) = ji22 := (cS _).trans hji22
               by_cases c23 : 0 ≤ (ji22)
               ·rw [if_pos c23] at H
                have c23b0 : decide (0 ≤ (ji22)) = true := aH c23
                clear c23
                by_cases c24 : (ji22) < (x5_2.length : Int)
                ·rw [if_pos c24] at H
                 have c24b0 : decide ((ji22) < (x5_2.length : Int)) = true := aH c24
                 have c24b0z := c24b0
                 clear c24
                 obtain ⟨y332, hy332⟩ : ∃ y_ : List Bool, y_ = (x5_2.set (x12_1 : Int).toNat (rdOf false x5_2 (ji22))) := ⟨_, rfl⟩
                 replace H : (impl_star.l1 k2 y332 x12_1 (wrap64 (x7_2 + 1)) (y325.length : Int) x12_1 l0_0 l0_1) = some r := by first | (rw [hy332]; with_reducible exact H)
                 have Ny332 := aM hy332
                 clear hy332
                 have H' := aM H
                 clear H
                 have p329 : 0 ≤ (x12_1 : Int) := aJ (by (with_reducible assumption))
                 have q329 : x12_1 < (x5_2.length : Int) := aJ (by (with_reducible assumption))
                 obtain ⟨ad329, e329, hx329_0⟩ := Kd.at_bool (bM HO_5.out).2.2 x12_1 p329 q329
                 (try rw [← Nbq18.out] at hx329_0)
                 obtain rfl : (⟨go12, 0, none⟩ : Addr) = ad329 := (by injection e329)
                 (simp only [add_plain] at hx329_0)
                 replace p329 := eq_true p329
                 replace q329 := eq_true q329
                 have hcz26_0 : wr.cell? ⟨gb324, 0, none⟩ = some (.slice A0_0 l0_0.length c0_0) := (aA BK324.out 0).trans rfl
                 have hcz26_1 : wr.cell? ⟨gb324, 1, none⟩ = some (.slice A0_1 l0_1.length c0_1) := (aA BK324.out 1).trans rfl
                 go_wp2_with (first | ((with_reducible refine aY (f := 33) rfl ?_); refine gL 36 Try.func33 #[.agg #[.slice A0_0 l0_0.length c0_0, .slice A0_1 l0_1.length c0_1], .int .i64 x7_2] ?_; (with_reducible refine (impl_set_has.calls _ _ l0_0 _ _ l0_1 x7_2 true _ ?side1 ?side2 ?side3 ?side4 A20.out).mono ?_); (case side1 => repeat (exact (bF HR0_0.out HB.out))); (case side2 => exact HC0_0.out); (case side3 => repeat (exact (bF HR0_1.out HB.out))); (case side4 => exact HC0_1.out); rintro e w27 ⟨rfl, hb⟩; refine ⟨_, rfl, ?_⟩; replace HO_5 := aM (bG HO_5.out hb); replace BK324 := aM (aD (g := gb324) (o := .cells #[.slice A0_0 l0_0.length c0_0, .slice A0_1 l0_1.length c0_1] 56 (0, 0)) BK324.out hb); replace HB := aM (aE HB.out hb); (try clear hb); have p331 : 0 ≤ ((ji22) : Int) := aJ (by (with_reducible assumption)); have q331 : (ji22) < (x5_2.length : Int) := aJ (by (with_reducible assumption)); obtain ⟨ad331, e331, hx331_0⟩ := Kd.at_bool (bM HO_5.out).2.2 (ji22) p331 q331; obtain rfl : (⟨go12, 0, none⟩ : Addr) = ad331 := (by injection e331); (simp only [add_plain] at hx331_0); replace p331 := eq_true p331; replace q331 := eq_true q331; have p25 : 0 ≤ (x12_1 : Int) := aJ (by (with_reducible assumption)); have q25 : (x12_1 : Int) < ((x5_2.length : Int) : Int) := aJ (by (with_reducible assumption)); obtain ⟨hx25_0, hf25_0⟩ := Kd.R_celln false HO_5.out (x12_1 : Int) p25 q25; obtain ⟨hy28_, hz28_⟩ := Kd.R_celln false HO_5.out (x12_1 : Int) (aJ (by (with_reducible assumption))) (aJ (by (with_reducible assumption))); have HP28 := Kd.R_putg HO_5.out (x12_1 : Int) (rdOf false x5_2 (ji22))) | ((with_reducible refine gate_store (t := 4) (p := 45) rfl ?_); refine store_event (t := 4) (p := 45) (v := ?vo_w29) (w1 := (w27.setCell ⟨go12, (x12_1 : Int).toNat, none⟩ (.bool (rdOf false x5_2 (ji22))))) ?hg ?ho ?hn ?hr ?_; (case ho => rfl); (case hg => rfl); (case hn => rfl); (case hr => first | (go_simp; done)); intro w29 hw; have hg : w27.grownBy w29 (some go12) := (by rw [hw]; exact HP28.2); have hp_ : Kd.R Kd.bool 4 w29 w.heap.size (fun _ => True) (.slice (some ⟨go12, 0, none⟩) x5_2.length co8) y332 := (by rw [hw, Ny332.out]; exact HP28.1); clear HP28; replace BK324 := aM (blk_grown (g := gb324) (o := .cells #[.slice A0_0 l0_0.length c0_0, .slice A0_1 l0_1.length c0_1] 56 (0, 0)) BK324.out hg (Kd.R_ne HO_5.out BK324.out (by decide))); replace HO_5 := aM hp_; replace HB := aM ((by rw [hw]; exact bS (HB.out) GB12.out : Below w.heap.size w w29)); clear hg hw hp_))
                 (try simp only [← hl5_2])
                 go_roundg k2
                 case measure => have := HK1.out; have := HK2.out; omega
                 case rel => exact ⟨(y332), (wrap64 (x7_2 + 1)), (by rfl), H', ⟨by have := HK1.out; have := HK2.out; omega⟩, ⟨by (try simp only [hl5_2]); exact HO_5.out⟩, ⟨by exact BK324.out⟩, ⟨HB.out⟩⟩
                ·rw [if_neg c24] at H
                 exact absurd H (by simp)
               ·rw [if_neg c23] at H
                exact absurd H (by simp)
              ·replace c21 := Bool.eq_false_iff.mpr c21
               subst c21
               replace H : (impl_star.l1 k2 (x5_2.set (x12_1 : Int).toNat false) x12_1 (wrap64 (x7_2 + 1)) (y325.length : Int) x12_1 l0_0 l0_1) = some r := by rw [if_neg (show ¬ (false = true) by decide)] at H; exact H
               obtain ⟨y333, hy333⟩ : ∃ y_ : List Bool, y_ = (x5_2.set (x12_1 : Int).toNat false) := ⟨_, rfl⟩
               replace H : (impl_star.l1 k2 y333 x12_1 (wrap64 (x7_2 + 1)) (y325.length : Int) x12_1 l0_0 l0_1) = some r := by first | (rw [hy333]; with_reducible exact H)
               have Ny333 := aM hy333
               clear hy333
               have H' := aM H
               clear H
               have p329 : 0 ≤ (x12_1 : Int) := aJ (by (with_reducible assumption))
               have q329 : x12_1 < (x5_2.length : Int) := aJ (by (with_reducible assumption))
               obtain ⟨ad329, e329, hx329_0⟩ := Kd.at_bool (bM HO_5.out).2.2 x12_1 p329 q329
               (try rw [← Nbq18.out] at hx329_0)
               obtain rfl : (⟨go12, 0, none⟩ : Addr) = ad329 := (by injection e329)
               (simp only [add_plain] at hx329_0)
               replace p329 := eq_true p329
               replace q329 := eq_true q329
               have hcz31_0 : wr.cell? ⟨gb324, 0, none⟩ = some (.slice A0_0 l0_0.length c0_0) := (aA BK324.out 0).trans rfl
               have hcz31_1 : wr.cell? ⟨gb324, 1, none⟩ = some (.slice A0_1 l0_1.length c0_1) := (aA BK324.out 1).trans rfl
               go_wp2_with (first | ((with_reducible refine aY (f := 33) rfl ?_); refine gL 36 Try.func33 #[.agg #[.slice A0_0 l0_0.length c0_0, .slice A0_1 l0_1.length c0_1], .int .i64 x7_2] ?_; (with_reducible refine (impl_set_has.calls _ _ l0_0 _ _ l0_1 x7_2 false _ ?side1 ?side2 ?side3 ?side4 A20.out).mono ?_); (case side1 => repeat (exact (bF HR0_0.out HB.out))); (case side2 => exact HC0_0.out); (case side3 => repeat (exact (bF HR0_1.out HB.out))); (case side4 => exact HC0_1.out); rintro e w32 ⟨rfl, hb⟩; refine ⟨_, rfl, ?_⟩; replace HO_5 := aM (bG HO_5.out hb); replace BK324 := aM (aD (g := gb324) (o := .cells #[.slice A0_0 l0_0.length c0_0, .slice A0_1 l0_1.length c0_1] 56 (0, 0)) BK324.out hb); replace HB := aM (aE HB.out hb); (try clear hb); have p30 : 0 ≤ (x12_1 : Int) := aJ (by (with_reducible assumption)); have q30 : (x12_1 : Int) < ((x5_2.length : Int) : Int) := aJ (by (with_reducible assumption)); obtain ⟨hx30_0, hf30_0⟩ := Kd.R_celln false HO_5.out (x12_1 : Int) p30 q30; obtain ⟨hy33_, hz33_⟩ := Kd.R_celln false HO_5.out (x12_1 : Int) (aJ (by (with_reducible assumption))) (aJ (by (with_reducible assumption))); have HP33 := Kd.R_putg HO_5.out (x12_1 : Int) false) | ((with_reducible refine gate_store (t := 4) (p := 45) rfl ?_); refine store_event (t := 4) (p := 45) (v := ?vo_w34) (w1 := (w32.setCell ⟨go12, (x12_1 : Int).toNat, none⟩ (.bool false))) ?hg ?ho ?hn ?hr ?_; (case ho => rfl); (case hg => rfl); (case hn => rfl); (case hr => first | (go_simp; done)); intro w34 hw; have hg : w32.grownBy w34 (some go12) := (by rw [hw]; exact HP33.2); have hp_ : Kd.R Kd.bool 4 w34 w.heap.size (fun _ => True) (.slice (some ⟨go12, 0, none⟩) x5_2.length co8) y333 := (by rw [hw, Ny333.out]; exact HP33.1); clear HP33; replace BK324 := aM (blk_grown (g := gb324) (o := .cells #[.slice A0_0 l0_0.length c0_0, .slice A0_1 l0_1.length c0_1] 56 (0, 0)) BK324.out hg (Kd.R_ne HO_5.out BK324.out (by decide))); replace HO_5 := aM hp_; replace HB := aM ((by rw [hw]; exact bS (HB.out) GB12.out : Below w.heap.size w w34)); clear hg hw hp_))
               (try simp only [← hl5_2])
               go_roundg k2
               case measure => have := HK1.out; have := HK2.out; omega
               case rel => exact ⟨(y333), (wrap64 (x7_2 + 1)), (by rfl), H', ⟨by have := HK1.out; have := HK2.out; omega⟩, ⟨by (try simp only [hl5_2]); exact HO_5.out⟩, ⟨by exact BK324.out⟩, ⟨HB.out⟩⟩
            ·rw [if_neg c17] at H
             exact absurd H (by simp)
           ·rw [if_neg c16] at H
            exact absurd H (by simp)
          ·rw [if_neg c15] at H
           have c15b0 : decide (x7_2 ≤ x12_1) = false := aK c15
           clear c15
           have H' := aM H
           clear H
           go_wp2
           (try simp only [← hl5_1, ← hl5_2])
           go_roundg k2
           case measure => have := HK1.out; have := HK2.out; omega
           case rel => exact ⟨(x5_2), (wrap64 (x12_1 + 1)), (by rfl), H', ⟨by have := HK1.out; have := HK2.out; omega⟩, ⟨by (try simp only [hl5_1]); (try simp only [hl5_2]); exact HO_5.out⟩, ⟨by exact BK324.out⟩, ⟨HB.out⟩⟩
       ·rw [if_neg c11] at H
        exact absurd H (by simp)
      ·rw [if_neg c10] at H
       exact absurd H (by simp)
     ·rw [if_neg c9] at H
      have c9b0 : decide (x12_1 < (y325.length : Int)) = false := aK c9
      have c9b0z := c9b0
      (try simp only [hl5_1] at c9b0z)
      clear c9
      obtain rfl := bU H
      go_wp2
      go_ret
      exact ⟨_, by first | rfl | (simp [*, errW_none, errW_some] <;> rfl), by exact HO_5.out, HB.out⟩
  ·rw [if_neg c4] at H
   exact absurd H (by simp)
 ·rw [if_neg c3] at H
  exact absurd H (by simp)


/-- What is asked of the function that is made: of 0 z, of others the list. -/
def impl_starred.p (z : List Bool → List Bool → Option Bool) (t r l : List Bool) (n : Int) : Option Bool := if n = 0 then z t r else if 0 ≤ n then if n < l.length then some (rdOf false l n) else none else none
def impl_starred.g (k : Nat) (t r : List Bool) (z : List Bool → List Bool → Option Bool) (s : Int) : Option (ByteArray × Bool) := (impl_star.f k t r (1000 + s)).bind fun l => impl_made.f k 1000 s (impl_starred.p z t r l)
def impl_starred.f (k : Nat) (a0 : ByteArray) (z : List Bool → List Bool → Option Bool) : Option (ByteArray × Bool) :=
 (impl_small.f k a0).bind fun x => if x.2.2 = true then (impl_set_least.f k x.1 x.2.1).bind fun m => if 1 ≤ m then (if m ≤ 1000000 then impl_starred.g k x.1 x.2.1 z m else none) else impl_starred.g k x.1 x.2.1 z 1 else some (⟨#[]⟩, false)
/-- What the function that is handed in answers. -/
def impl_starred.Zero (w : World) (g0 : Nat) (lb0 : Array Value) (z : List Bool → List Bool → Option Bool) : Prop :=
 ∀ (A0 : Option Addr) (c0 : Nat) (l0 : List Bool) (A1 : Option Addr) (c1 : Nat) (l1 : List Bool) (b : Bool) (W : World), Below w.heap.size w W → Kd.C Kd.bool W A0 l0.length l0 → l0.length ≤ c0 → Kd.C Kd.bool W A1 l1.length l1 → l1.length ≤ c1 → z l0 l1 = some b →
  Calls Try.prog g0 (#[.agg #[.slice A0 l0.length c0, .slice A1 l1.length c1]] ++ lb0) W fun e W' => e = .returned (.bool b) ∧ Below W.heap.size W W'
set_option maxHeartbeats 1000000 in
set_option maxRecDepth 100000 in
theorem impl_starred.lit (g0 : Nat) (z : List Bool → List Bool → Option Bool) (w : World) (eg0 : ∀ args w, (callFunc g0 args).run Try.prog w = .ok (.enter g0 args) w) (hz : impl_starred.Zero w g0 #[] z)
  (B1 B2 B3 : Nat) (A0 : Option Addr) (c0 : Nat) (l0 : List Bool) (A1 : Option Addr) (c1 : Nat) (l1 : List Bool) (A2 : Option Addr) (c2 : Nat) (l2 : List Bool) (n : Int) (b : Bool) (W : World) (hw : Below w.heap.size w W)
  (h1 : W.heap[B1]? = some (.cells #[.func (.func g0) #[] #[]] 87 (0, 0))) (h2 : W.heap[B2]? = some (.cells #[.slice A0 l0.length c0, .slice A1 l1.length c1] 56 (0, 0))) (h3 : W.heap[B3]? = some (.cells #[.slice A2 l2.length c2] 52 (0, 0)))
  (r0 : Kd.C Kd.bool W A0 l0.length l0) (q0 : l0.length ≤ c0) (r1 : Kd.C Kd.bool W A1 l1.length l1) (q1 : l1.length ≤ c1) (r2 : Kd.C Kd.bool W A2 l2.length l2) (h : impl_starred.p z l0 l1 l2 n = some b) :
  Calls Try.prog 85 #[.int .i64 n, .pointer (some ⟨B1, 0, none⟩), .pointer (some ⟨B2, 0, none⟩), .pointer (some ⟨B3, 0, none⟩)] W fun e W' => e = .returned (.bool b) ∧ Below W.heap.size W W' := by
 have c10 : W.cell? ⟨B1, 0, none⟩ = some (.func (.func g0) #[] #[]) := (aA h1 0).trans rfl
 have c20 : W.cell? ⟨B2, 0, none⟩ = some (.slice A0 l0.length c0) := (aA h2 0).trans rfl
 have c21 : W.cell? ⟨B2, 1, none⟩ = some (.slice A1 l1.length c1) := (aA h2 1).trans rfl
 have c30 : W.cell? ⟨B3, 0, none⟩ = some (.slice A2 l2.length c2) := (aA h3 0).trans rfl
 unfold impl_starred.p at h
 by_cases e0 : n = 0
 ·subst e0
  rw [if_pos rfl] at h
  have C := hz A0 c0 l0 A1 c1 l1 b W hw r0 q0 r1 q1 h
  simp only [Array.append_empty] at C
  clear h1 h2 h3 r0 r1 r2 q0 q1 h hz hw
  go_enter Try.func85, Try.ntmps85
  go_wp2_with (go_at_fn g0; refine C.mono ?_; rintro e w' ⟨rfl, hb⟩)
  go_ret
  exact ⟨rfl, hb⟩
 ·rw [if_neg e0] at h
  by_cases e1 : 0 ≤ n
  ·rw [if_pos e1] at h
   by_cases e2 : n < (l2.length : Int)
   ·rw [if_pos e2] at h
    obtain ⟨ad, had, hcell⟩ := (Kd.reads_of_C (d := false) r2).at_ n e1 e2
    subst had
    obtain rfl := bU h
    have e0b : (n == 0) = false := by simpa using e0
    clear h1 h2 h3 r0 r1 r2 q0 q1 h hz hw
    go_enter Try.func85, Try.ntmps85
    go_wp2
    go_ret
    exact ⟨rfl, cE _ _⟩
   ·rw [if_neg e2] at h; cases h
  ·rw [if_neg e1] at h; cases h
theorem impl_starred.set2 {w : World} {g T : Nat} {u v u' v' : Value} (h : w.heap[g]? = some (.cells #[u, v] T (0, 0))) : ((w.setCell ⟨g, 0, none⟩ u').setCell ⟨g, 1, none⟩ v').heap[g]? = some (.cells #[u', v'] T (0, 0)) := cM (cM h 0 u') 1 v'
theorem impl_starred.set1 {w : World} {g T : Nat} {u u' : Value} (h : w.heap[g]? = some (.cells #[u] T (0, 0))) : (w.setCell ⟨g, 0, none⟩ u').heap[g]? = some (.cells #[u'] T (0, 0)) := cM h 0 u'
set_option maxHeartbeats 2000000 in
set_option maxRecDepth 100000 in
theorem impl_starred.calls (k : Nat) (a0 : ByteArray) (g0 : Nat) (z : List Bool → List Bool → Option Bool) (r1 : ByteArray) (r2 : Bool) (w : World) (eg0 : ∀ args w, (callFunc g0 args).run Try.prog w = .ok (.enter g0 args) w) (hz : impl_starred.Zero w g0 #[] z) (h : impl_starred.f k a0 z = some (r1, r2)) :
  Calls Try.prog 62 #[.string a0, .func (.func g0) #[] #[]] w fun e w' => e = .returned (.tuple #[.string r1, .bool r2]) ∧ Below w.heap.size w w' := by
 unfold impl_starred.f at h
 obtain ⟨⟨t, r, ok⟩, hsm, h⟩ := Option.bind_eq_some_iff.mp h
 have HZ := aM hz; have EG := aM eg0
 clear hz eg0
 have BZ := Lib.hid (blk_new w (.cells #[.func (.func g0) #[] #[]] 87))
 have HB0 : Aside0 (Below w.heap.size w (w.alloc (.cells #[.func (.func g0) #[] #[]] 87))) := ⟨(cE _ w).alloc (cD _) _⟩
 cases ok with
 | false =>
  have HS := aM hsm
  simp only [bX, if_false, aV, aW] at h
  obtain ⟨rfl, rfl⟩ := h
  clear hsm
  go_enter Try.func62, Try.ntmps62
  go_wp2_with (first | (go_at_call 66; refine (impl_small.calls k a0 t r false _ HS.out).mono ?_; rintro e w1 ⟨v0, v1, rfl, ho0, ho1, hb⟩; obtain ⟨A0, c0, rfl, q0, k0⟩ := Kd.R_reads ho0; obtain ⟨A1, c1, rfl, q1, k1⟩ := Kd.R_reads ho1; have HB1 := aM (aE HB0.out hb); clear ho0 ho1 k0 k1 q0 q1 hb) | ((with_reducible refine aZ (N := 6) rfl ?_); refine bB ?hg (N := 6) ?hd (cs := #[.slice none 0 0, .slice none 0 0]) (t := 56) ?hr ?_; (case hd => rfl); (case hg => rfl); (case hr => first | (go_simp; done)); intro gb hg w2 hbox hb; have c0_ := aA hbox 0; have c1_ := aA hbox 1; have f0_ := aC hbox 0; have f1_ := aC hbox 1; have HB2 := aM (aE HB1.out hb); have GB := aM (show w.heap.size ≤ gb by rw [hg]; exact HB1.out.size); clear hg hb hbox))
  go_ret2
  exact ⟨rfl, (HB2.out.setCell (p := ⟨gb, 0, none⟩) GB.out _).setCell (p := ⟨gb, 1, none⟩) GB.out _⟩
 | true =>
  simp only [if_true] at h
  obtain ⟨m, hm, h⟩ := Option.bind_eq_some_iff.mp h
  split at h
  ·rename_i m0
   split at h
   case isFalse => cases h
   rename_i m1
   obtain ⟨l, hl, h⟩ := Option.bind_eq_some_iff.mp h
   have HS := aM hsm; have HM := aM hm; have HL := aM hl; have H := aM h
   clear hsm hm hl h
   go_enter Try.func62, Try.ntmps62
   go_wp2_with (first | (go_at_call 66; refine (impl_small.calls k a0 t r true _ HS.out).mono ?_; rintro e w1 ⟨v0, v1, rfl, ho0, ho1, hb⟩; obtain ⟨A0, c0, rfl, q0, k0⟩ := Kd.R_reads ho0; obtain ⟨A1, c1, rfl, q1, k1⟩ := Kd.R_reads ho1; have HB1 := aM (aE HB0.out hb); have BZ1 := aM (aD BZ.out hb); have K0 := aM k0; have K1 := aM k1; clear ho0 ho1 k0 k1 hb) | ((with_reducible refine aZ (N := 6) rfl ?_); refine bB ?hg (N := 6) ?hd (cs := #[.slice none 0 0, .slice none 0 0]) (t := 56) ?hr ?_; (case hd => rfl); (case hg => rfl); (case hr => first | (go_simp; done)); intro gb hg w2 hbox hb; have c0_ := aA hbox 0; have c1_ := aA hbox 1; have f0_ := aC hbox 0; have f1_ := aC hbox 1; have hbs := (hb.setCell (p := ⟨gb, 0, none⟩) (by rw [hg]; exact cD _) (.slice A0 t.length c0)).setCell (p := ⟨gb, 1, none⟩) (by rw [hg]; exact cD _) (.slice A1 r.length c1); have BK2 := aM (impl_starred.set2 (u' := .slice A0 t.length c0) (v' := .slice A1 r.length c1) hbox); have BZ2 := aM (aD BZ1.out hbs); have HB2 := aM (aE HB1.out hbs); have KK0 := aM (bF K0.out hbs); have KK1 := aM (bF K1.out hbs); clear hg hb hbox hbs) | (go_at_call 83; refine (impl_set_least.calls k A0 c0 t A1 c1 r m _ KK0.out q0 KK1.out q1 HM.out).mono ?_; rintro e w3 ⟨rfl, hb⟩; clear c0_ c1_ f0_ f1_; have BK3 := aM (aD BK2.out hb); have BZ3 := aM (aD BZ2.out hb); have HB3 := aM (aE HB2.out hb); have L0 := aM (bF KK0.out hb); have L1 := aM (bF KK1.out hb); have d0_ : w3.cell? ⟨gb, 0, none⟩ = some (.slice A0 t.length c0) := aA BK3.out 0; have d1_ : w3.cell? ⟨gb, 1, none⟩ = some (.slice A1 r.length c1) := aA BK3.out 1; clear hb) | (go_at_call 84; refine (impl_star.calls k A0 c0 t A1 c1 r (1000 + m) l _ L0.out q0 L1.out q1 HL.out).mono ?_; rintro e w4 ⟨v2, rfl, ho2, hb⟩; obtain ⟨A2, c2, rfl, q2, k2⟩ := Kd.R_reads ho2; have BK4 := aM (aD BK3.out hb); have BZ4 := aM (aD BZ3.out hb); have HB4 := aM (aE HB3.out hb); have M0 := aM (bF L0.out hb); have M1 := aM (bF L1.out hb); have M2 := aM k2; clear d0_ d1_ ho2 k2 hb) | ((with_reducible refine aZ (N := 9) rfl ?_); refine bB ?hg (N := 9) ?hd (cs := #[.slice none 0 0]) (t := 52) ?hr ?_; (case hd => rfl); (case hg => rfl); (case hr => first | (go_simp; done)); intro gc hg w5 hbox hb; have e0_ := aA hbox 0; have e1_ := aC hbox 0; have hbs := hb.setCell (p := ⟨gc, 0, none⟩) (by rw [hg]; exact cD _) (.slice A2 l.length c2); have BL5 := aM (impl_starred.set1 (u' := .slice A2 l.length c2) hbox); have BK5 := aM (aD BK4.out hbs); have BZ5 := aM (aD BZ4.out hbs); have HB5 := aM (aE HB4.out hbs); have N0 := aM (bF M0.out hbs); have N1 := aM (bF M1.out hbs); have N2 := aM (bF M2.out hbs); clear hg hb hbox hbs) | (go_at_call 67; refine (impl_made.calls k 1000 (m) (impl_starred.p z t r l) 85 #[.pointer (some ⟨w.heap.size, 0, none⟩), .pointer (some ⟨gb, 0, none⟩), .pointer (some ⟨gc, 0, none⟩)] r1 r2 _ (fun args_ w_ => enters_ Try.func85 (by kernel_rfl) rfl args_ w_) ?hpx H.out).mono ?_; (case hpx => intro n_ b_ W_ hW_ hb_; exact impl_starred.lit g0 z w EG.out HZ.out w.heap.size gb gc A0 c0 t A1 c1 r A2 c2 l n_ b_ W_ (aE HB5.out hW_) (aD BZ5.out hW_) (aD BK5.out hW_) (aD BL5.out hW_) (bF N0.out hW_) q0 (bF N1.out hW_) q1 (bF N2.out hW_) hb_); rintro e w6 ⟨rfl, hb⟩; have HB6 := aM (aE HB5.out hb); clear hb))
   go_ret2
   exact ⟨rfl, HB6.out⟩
  ·rename_i m0
   obtain ⟨l, hl, h⟩ := Option.bind_eq_some_iff.mp h
   have HS := aM hsm; have HM := aM hm; have HL := aM hl; have H := aM h
   clear hsm hm hl h
   go_enter Try.func62, Try.ntmps62
   go_wp2_with (first | (go_at_call 66; refine (impl_small.calls k a0 t r true _ HS.out).mono ?_; rintro e w1 ⟨v0, v1, rfl, ho0, ho1, hb⟩; obtain ⟨A0, c0, rfl, q0, k0⟩ := Kd.R_reads ho0; obtain ⟨A1, c1, rfl, q1, k1⟩ := Kd.R_reads ho1; have HB1 := aM (aE HB0.out hb); have BZ1 := aM (aD BZ.out hb); have K0 := aM k0; have K1 := aM k1; clear ho0 ho1 k0 k1 hb) | ((with_reducible refine aZ (N := 6) rfl ?_); refine bB ?hg (N := 6) ?hd (cs := #[.slice none 0 0, .slice none 0 0]) (t := 56) ?hr ?_; (case hd => rfl); (case hg => rfl); (case hr => first | (go_simp; done)); intro gb hg w2 hbox hb; have c0_ := aA hbox 0; have c1_ := aA hbox 1; have f0_ := aC hbox 0; have f1_ := aC hbox 1; have hbs := (hb.setCell (p := ⟨gb, 0, none⟩) (by rw [hg]; exact cD _) (.slice A0 t.length c0)).setCell (p := ⟨gb, 1, none⟩) (by rw [hg]; exact cD _) (.slice A1 r.length c1); have BK2 := aM (impl_starred.set2 (u' := .slice A0 t.length c0) (v' := .slice A1 r.length c1) hbox); have BZ2 := aM (aD BZ1.out hbs); have HB2 := aM (aE HB1.out hbs); have KK0 := aM (bF K0.out hbs); have KK1 := aM (bF K1.out hbs); clear hg hb hbox hbs) | (go_at_call 83; refine (impl_set_least.calls k A0 c0 t A1 c1 r m _ KK0.out q0 KK1.out q1 HM.out).mono ?_; rintro e w3 ⟨rfl, hb⟩; clear c0_ c1_ f0_ f1_; have BK3 := aM (aD BK2.out hb); have BZ3 := aM (aD BZ2.out hb); have HB3 := aM (aE HB2.out hb); have L0 := aM (bF KK0.out hb); have L1 := aM (bF KK1.out hb); have d0_ : w3.cell? ⟨gb, 0, none⟩ = some (.slice A0 t.length c0) := aA BK3.out 0; have d1_ : w3.cell? ⟨gb, 1, none⟩ = some (.slice A1 r.length c1) := aA BK3.out 1; clear hb) | (go_at_call 84; refine (impl_star.calls k A0 c0 t A1 c1 r (1001) l _ L0.out q0 L1.out q1 HL.out).mono ?_; rintro e w4 ⟨v2, rfl, ho2, hb⟩; obtain ⟨A2, c2, rfl, q2, k2⟩ := Kd.R_reads ho2; have BK4 := aM (aD BK3.out hb); have BZ4 := aM (aD BZ3.out hb); have HB4 := aM (aE HB3.out hb); have M0 := aM (bF L0.out hb); have M1 := aM (bF L1.out hb); have M2 := aM k2; clear d0_ d1_ ho2 k2 hb) | ((with_reducible refine aZ (N := 9) rfl ?_); refine bB ?hg (N := 9) ?hd (cs := #[.slice none 0 0]) (t := 52) ?hr ?_; (case hd => rfl); (case hg => rfl); (case hr => first | (go_simp; done)); intro gc hg w5 hbox hb; have e0_ := aA hbox 0; have e1_ := aC hbox 0; have hbs := hb.setCell (p := ⟨gc, 0, none⟩) (by rw [hg]; exact cD _) (.slice A2 l.length c2); have BL5 := aM (impl_starred.set1 (u' := .slice A2 l.length c2) hbox); have BK5 := aM (aD BK4.out hbs); have BZ5 := aM (aD BZ4.out hbs); have HB5 := aM (aE HB4.out hbs); have N0 := aM (bF M0.out hbs); have N1 := aM (bF M1.out hbs); have N2 := aM (bF M2.out hbs); clear hg hb hbox hbs) | (go_at_call 67; refine (impl_made.calls k 1000 (1) (impl_starred.p z t r l) 85 #[.pointer (some ⟨w.heap.size, 0, none⟩), .pointer (some ⟨gb, 0, none⟩), .pointer (some ⟨gc, 0, none⟩)] r1 r2 _ (fun args_ w_ => enters_ Try.func85 (by kernel_rfl) rfl args_ w_) ?hpx H.out).mono ?_; (case hpx => intro n_ b_ W_ hW_ hb_; exact impl_starred.lit g0 z w EG.out HZ.out w.heap.size gb gc A0 c0 t A1 c1 r A2 c2 l n_ b_ W_ (aE HB5.out hW_) (aD BZ5.out hW_) (aD BK5.out hW_) (aD BL5.out hW_) (bF N0.out hW_) q0 (bF N1.out hW_) q1 (bF N2.out hW_) hb_); rintro e w6 ⟨rfl, hb⟩; have HB6 := aM (aE HB5.out hb); clear hb))
   go_ret2
   exact ⟨rfl, HB6.out⟩
def impl_StarOf.f (k : Nat) (a0 : ByteArray) : Option (ByteArray × Bool) := impl_starred.f k a0 (fun _ _ => some true)
set_option maxHeartbeats 1000000 in
set_option maxRecDepth 100000 in
theorem impl_StarOf.zero (w : World) : impl_starred.Zero w 63 #[] (fun _ _ => some true) := by
 intro A0 c0 l0 A1 c1 l1 b W _ _ _ _ _ h
 obtain rfl := bU h
 clear h
 go_enter Try.func63, Try.ntmps63
 go_wp2
 go_ret
 exact ⟨rfl, (cE _ W).alloc (cD _) _⟩
set_option maxHeartbeats 1000000 in
set_option maxRecDepth 100000 in
theorem impl_StarOf.calls (k : Nat) (a0 : ByteArray) (r1 : ByteArray) (r2 : Bool) (w : World) (h : impl_StarOf.f k a0 = some (r1, r2)) :
  Calls Try.prog 46 #[.string a0] w fun e w' => e = .returned (.tuple #[.string r1, .bool r2]) ∧ Below w.heap.size w w' := by
 have C := impl_starred.calls k a0 63 _ r1 r2 w (fun args_ w_ => enters_ Try.func63 (by kernel_rfl) rfl args_ w_) (impl_StarOf.zero w) h
 clear h
 go_enter Try.func46, Try.ntmps46
 go_wp2_with (go_at_call 62; refine C.mono ?_; rintro e w' ⟨rfl, hb⟩)
 go_ret2
 exact ⟨rfl, hb⟩

def impl_gcd.l0 : Nat → Int → Int → Option (Int)
 | 0, _, _ => none
 | k + 1, x0, x1 => if x1 = 0 then (some x0) else (impl_gcd.l0 k x1 (Int.tmod x0 x1))
def impl_gcd.f (k : Nat) (a0 : Int) (a1 : Int) : Option (Int) := impl_gcd.l0 k a0 a1
set_option maxHeartbeats 8000000 in
set_option maxRecDepth 100000 in
theorem impl_gcd.calls (k : Nat) (a0 : Int) (a1 : Int) (r : Int) (w : World) (h : impl_gcd.f k a0 a1 = some r) :
  Calls Try.prog 88 #[.int .i64 a0, .int .i64 a1] w fun e w' => e = .returned (.int .i64 r) ∧ Drawn0 w w' := by
 have H : (impl_gcd.l0 k a0 a1) = some r := h
 clear h
 have H' := aM H
 clear H
 go_enter Try.func88, Try.ntmps88
 go_wp2
 repeat (go_quiet (fail); try go_wp2)
 go_loopg [0, 1] k (fun kq v0 v1 w' => ∃ (x0_1 : Int) (x1_1 : Int), v0 = .int .i64 x0_1 ∧ v1 = .int .i64 x1_1 ∧ Aside0 (impl_gcd.l0 kq x0_1 x1_1 = some r) ∧ Aside0 (kq ≤ k) ∧ Drawn0 w w')
 case atStart => exact ⟨(a0), (a1), (by rfl), (by rfl), H', ⟨cD _⟩, by repeat (exact Drawn0.refl _)⟩
 case round =>
  clear H'
  obtain ⟨x0_1, x1_1, rfl, rfl, HA, HK1, ⟨m1, rfl⟩⟩ := hrel
  cases gk with
  | zero => exact absurd HA.out (by simp [impl_gcd.l0])
  | succ k1 =>
   have H := HA.out
   clear HA
   simp only [impl_gcd.l0] at H
   by_cases c3 : x1_1 = 0
   ·rw [if_pos c3] at H
    have c3b1 : (x1_1 != 0) = false := bne_eq_false_iff_eq.mpr c3
    clear c3
    obtain rfl := bU H
    go_wp2
    repeat (go_quiet (fail); try go_wp2)
    go_ret
    exact ⟨by first | rfl | (simp [*]; done), by repeat (first | exact Drawn0.refl _ | apply Drawn0.step)⟩
   ·rw [if_neg c3] at H
    have c3b1 : (x1_1 != 0) = true := bne_iff_ne.mpr c3
    have H' := aM H
    clear H
    go_wp2
    repeat (go_quiet (fail); try go_wp2)
    go_roundg k1
    case measure => have := HK1.out; omega
    case rel => exact ⟨(x1_1), (Int.tmod x0_1 x1_1), (by rfl), (by rfl), H', ⟨by have := HK1.out; omega⟩, by repeat (first | exact Drawn0.refl _ | apply Drawn0.step)⟩


def impl_lcm.f (k : Nat) (a0 : Int) (a1 : Int) : Option (Int) := (impl_gcd.f k a0 a1).bind fun t334 => (if t334 = 0 then (none) else (some (wrap64 ((wrap64 (Int.tdiv a0 t334)) * a1))))
set_option maxHeartbeats 8000000 in
set_option maxRecDepth 100000 in
theorem impl_lcm.calls (k : Nat) (a0 : Int) (a1 : Int) (r : Int) (w : World) (h : impl_lcm.f k a0 a1 = some r) :
  Calls Try.prog 68 #[.int .i64 a0, .int .i64 a1] w fun e w' => e = .returned (.int .i64 r) ∧ Drawn0 w w' := by
 have H : ((impl_gcd.f k a0 a1).bind fun t334 => (if t334 = 0 then (none) else (some (wrap64 ((wrap64 (Int.tdiv a0 t334)) * a1))))) = some r := h
 clear h
 replace H := Option.bind_eq_some_iff.mp H
 obtain ⟨t334, A30, H⟩ := H
 replace H : (if t334 = 0 then (none) else (some (wrap64 ((wrap64 (Int.tdiv a0 t334)) * a1)))) = some r := H
 have A3 := aM A30
 clear A30
 by_cases c4 : t334 = 0
 ·rw [if_pos c4] at H
  exact absurd H (by simp)
 ·rw [if_neg c4] at H
  obtain rfl := bU H
  go_enter Try.func68, Try.ntmps68
  go_wp2_with (first | ((with_reducible refine aY (f := 88) rfl ?_); refine gL 8 Try.func88 #[.int .i64 a0, .int .i64 a1] ?_; (with_reducible refine (impl_gcd.calls k a0 a1 t334 _ A3.out).mono ?_); rintro e w' ⟨rfl, ⟨nd, rfl⟩⟩; refine ⟨_, rfl, ?_⟩))
  go_ret
  exact ⟨by first | rfl | (simp [*]; done), by repeat (first | exact Drawn0.refl _ | apply Drawn0.step)⟩


def impl_both.f (k : Nat) (l0_0 : List Bool) (l0_1 : List Bool) (l1_0 : List Bool) (l1_1 : List Bool) : Option (Int × Int) := (impl_lcm.f k (l0_1.length : Int) (l1_1.length : Int)).bind fun t337 => (some (mx (l0_0.length : Int) (l1_0.length : Int), t337))
set_option maxHeartbeats 8000000 in
set_option maxRecDepth 100000 in
theorem impl_both.calls (k : Nat) (A0_0 : Option Addr) (c0_0 : Nat) (l0_0 : List Bool) (A0_1 : Option Addr) (c0_1 : Nat) (l0_1 : List Bool) (A1_0 : Option Addr) (c1_0 : Nat) (l1_0 : List Bool) (A1_1 : Option Addr) (c1_1 : Nat) (l1_1 : List Bool) (r1 : Int) (r2 : Int) (w : World) (hr0_0 : Kd.C Kd.bool w A0_0 l0_0.length l0_0) (hc0_0 : l0_0.length ≤ c0_0) (hr0_1 : Kd.C Kd.bool w A0_1 l0_1.length l0_1) (hc0_1 : l0_1.length ≤ c0_1) (hr1_0 : Kd.C Kd.bool w A1_0 l1_0.length l1_0) (hc1_0 : l1_0.length ≤ c1_0) (hr1_1 : Kd.C Kd.bool w A1_1 l1_1.length l1_1) (hc1_1 : l1_1.length ≤ c1_1) (h : impl_both.f k l0_0 l0_1 l1_0 l1_1 = some (r1, r2)) :
  Calls Try.prog 86 #[.agg #[.slice A0_0 l0_0.length c0_0, .slice A0_1 l0_1.length c0_1], .agg #[.slice A1_0 l1_0.length c1_0, .slice A1_1 l1_1.length c1_1]] w fun e w' => e = .returned (.tuple #[.int .i64 r1, .int .i64 r2]) ∧ Below w.heap.size w w' := by
 clear hr0_0 hc0_0
 clear hr0_1 hc0_1
 clear hr1_0 hc1_0
 clear hr1_1 hc1_1
 have HB := aM (cE w.heap.size w)
 have H : ((impl_lcm.f k (l0_1.length : Int) (l1_1.length : Int)).bind fun t337 => (some (mx (l0_0.length : Int) (l1_0.length : Int), t337))) = some (r1, r2) := h
 clear h
 obtain ⟨ji3, hji3⟩ : ∃ j_ : Int, (mx (l0_0.length : Int) (l1_0.length : Int)) = j_ := ⟨_, rfl⟩
 replace H : ((impl_lcm.f k (l0_1.length : Int) (l1_1.length : Int)).bind fun t337 => (some (ji3, t337))) = some (r1, r2) := by first | (rw [hji3] at H; exact H) | (simp only [hji3] at H ⊢; exact H)
 (try (have hji3l : 0 ≤ ji3 := by (rw [← hji3]; unfold mx; (repeat' split) <;> omega)))
 (try (have hji3m : 0 ≤ ji3 := by omega))
 have hji3_ : (if (l0_0.length : Int) < (l1_0.length : Int) then (l1_0.length : Int) else (l0_0.length : Int)) = ji3 := hji3
 have hji3n : (if l0_0.length < l1_0.length then (l1_0.length : Int) else (l0_0.length : Int)) = ji3 := by rw [← hji3_]; split <;> split <;> omega
 replace H := Option.bind_eq_some_iff.mp H
 obtain ⟨t337, A40, H⟩ := H
 replace H : (some (ji3, t337)) = some (r1, r2) := H
 have A4 := aM A40
 clear A40
 simp only [aV, aW] at H
 obtain ⟨rfl, rfl⟩ := H
 go_enter Try.func86, Try.ntmps86
 go_wp2_with (first | ((with_reducible refine aZ (N := 2) rfl ?_); refine bB ?hg (N := 2) ?hd (cs := #[.slice A0_0 l0_0.length c0_0, .slice A0_1 l0_1.length c0_1]) (t := 56) ?hr ?_; (case hd => rfl); (case hg => rfl); (case hr => first | (go_simp; done) | (go_simp; rfl)); intro gb335 hg w5 hbox hb; have BK335 := aM hbox; replace HB := aM (aE (by repeat (first | (with_reducible first | exact HB.out | apply bA | apply bN | apply b1) | exact HB.out)) hb); clear hb hbox hg) | ((with_reducible refine aZ (N := 3) rfl ?_); refine bB ?hg (N := 3) ?hd (cs := #[.slice A1_0 l1_0.length c1_0, .slice A1_1 l1_1.length c1_1]) (t := 56) ?hr ?_; (case hd => rfl); (case hg => rfl); (case hr => first | (go_simp; done) | (go_simp; rfl)); intro gb336 hg w6 hbox hb; have BK336 := aM hbox; replace HB := aM (aE (by repeat (first | (with_reducible first | exact HB.out | apply bA | apply bN | apply b1 | refine bS ?_ GE335.out) | exact HB.out)) hb); replace BK335 := aM (aD (g := gb335) (o := .cells #[.slice A0_0 l0_0.length c0_0, .slice A0_1 l0_1.length c0_1] 56 (0, 0)) (by (with_reducible repeat (first | refine kN ?_ _ | refine kD ?_ | refine kA ?_ _)); exact BK335.out) hb); clear hb hbox hg; have hcz8_0 : w6.cell? ⟨gb335, 0, none⟩ = some (.slice A0_0 l0_0.length c0_0) := (aA BK335.out 0).trans rfl; have hcz8_1 : w6.cell? ⟨gb335, 1, none⟩ = some (.slice A0_1 l0_1.length c0_1) := (aA BK335.out 1).trans rfl; have hcz9_0 : w6.cell? ⟨gb336, 0, none⟩ = some (.slice A1_0 l1_0.length c1_0) := (aA BK336.out 0).trans rfl; have hcz9_1 : w6.cell? ⟨gb336, 1, none⟩ = some (.slice A1_1 l1_1.length c1_1) := (aA BK336.out 1).trans rfl) | (go_at_call 68; (with_reducible refine (impl_lcm.calls k (l0_1.length : Int) (l1_1.length : Int) t337 _ A4.out).mono ?_); rintro e w' ⟨rfl, ⟨nd, rfl⟩⟩; (try first | exact ⟨rfl, _, World.drewN_drewN _ _ _⟩ | exact ⟨rfl, _, Eq.trans (World.drewN_drewN _ _ _) (congrArg (World.drewN _) (Nat.add_assoc _ _ _))⟩)))
 repeat (go_quiet (first | ((with_reducible refine aZ (N := 2) rfl ?_); refine bB ?hg (N := 2) ?hd (cs := #[.slice A0_0 l0_0.length c0_0, .slice A0_1 l0_1.length c0_1]) (t := 56) ?hr ?_; (case hd => rfl); (case hg => rfl); (case hr => first | (go_simp; done) | (go_simp; rfl)); intro gb335 hg w5 hbox hb; have BK335 := aM hbox; have GW335 := aM ((by rw [hg]; exact (aG (by repeat (first | (with_reducible first | exact HB.out | apply bA | apply bN | apply b1) | exact HB.out))) : w.heap.size ≤ gb335)); have GE335 := aM ((by rw [hg]; exact (aG (by repeat (first | (with_reducible first | exact HB.out | apply bA | apply bN | apply b1) | exact HB.out))) : w.heap.size ≤ gb335)); replace HB := aM (aE (by repeat (first | (with_reducible first | exact HB.out | apply bA | apply bN | apply b1) | exact HB.out)) hb); clear hb hbox hg) | ((with_reducible refine aZ (N := 3) rfl ?_); refine bB ?hg (N := 3) ?hd (cs := #[.slice A1_0 l1_0.length c1_0, .slice A1_1 l1_1.length c1_1]) (t := 56) ?hr ?_; (case hd => rfl); (case hg => rfl); (case hr => first | (go_simp; done) | (go_simp; rfl)); intro gb336 hg w6 hbox hb; have BK336 := aM hbox; have GW336 := aM ((by rw [hg]; exact (aG (by repeat (first | (with_reducible first | exact HB.out | apply bA | apply bN | apply b1 | refine bS ?_ GE335.out) | exact HB.out))) : w.heap.size ≤ gb336)); have GE336 := aM ((by rw [hg]; exact (aG (by repeat (first | (with_reducible first | exact HB.out | apply bA | apply bN | apply b1 | refine bS ?_ GE335.out) | exact HB.out))) : w.heap.size ≤ gb336)); replace HB := aM (aE (by repeat (first | (with_reducible first | exact HB.out | apply bA | apply bN | apply b1 | refine bS ?_ GE335.out) | exact HB.out)) hb); have NB335_336 := aM ((by rw [hg]; exact Nat.ne_of_lt (blk_lt (g := gb335) (o := .cells #[.slice A0_0 l0_0.length c0_0, .slice A0_1 l0_1.length c0_1] 56 (0, 0)) (by (with_reducible repeat (first | refine kN ?_ _ | refine kD ?_ | refine kA ?_ _)); exact BK335.out)) : gb335 ≠ gb336)); have NB336_335 := aM ((by rw [hg]; exact Nat.ne_of_gt (blk_lt (g := gb335) (o := .cells #[.slice A0_0 l0_0.length c0_0, .slice A0_1 l0_1.length c0_1] 56 (0, 0)) (by (with_reducible repeat (first | refine kN ?_ _ | refine kD ?_ | refine kA ?_ _)); exact BK335.out)) : gb336 ≠ gb335)); replace BK335 := aM (aD (g := gb335) (o := .cells #[.slice A0_0 l0_0.length c0_0, .slice A0_1 l0_1.length c0_1] 56 (0, 0)) (by (with_reducible repeat (first | refine kN ?_ _ | refine kD ?_ | refine kA ?_ _)); exact BK335.out) hb); clear hb hbox hg; have hnb7 := NB335_336.out; have hnc7 := NB336_335.out; have hcz8_0 : w6.cell? ⟨gb335, 0, none⟩ = some (.slice A0_0 l0_0.length c0_0) := (aA BK335.out 0).trans rfl; have hcz8_1 : w6.cell? ⟨gb335, 1, none⟩ = some (.slice A0_1 l0_1.length c0_1) := (aA BK335.out 1).trans rfl; have hfz8_0 := aC BK335.out 0; have hfz8_1 := aC BK335.out 1; have hcz9_0 : w6.cell? ⟨gb336, 0, none⟩ = some (.slice A1_0 l1_0.length c1_0) := (aA BK336.out 0).trans rfl; have hcz9_1 : w6.cell? ⟨gb336, 1, none⟩ = some (.slice A1_1 l1_1.length c1_1) := (aA BK336.out 1).trans rfl; have hfz9_0 := aC BK336.out 0; have hfz9_1 := aC BK336.out 1) | (go_at_call 68; (with_reducible refine (impl_lcm.calls k (l0_1.length : Int) (l1_1.length : Int) t337 _ A4.out).mono ?_); rintro e w' ⟨rfl, ⟨nd, rfl⟩⟩; (try first | exact ⟨rfl, _, World.drewN_drewN _ _ _⟩ | exact ⟨rfl, _, Eq.trans (World.drewN_drewN _ _ _) (congrArg (World.drewN _) (Nat.add_assoc _ _ _))⟩))); try go_wp2_with (first | ((with_reducible refine aZ (N := 2) rfl ?_); refine bB ?hg (N := 2) ?hd (cs := #[.slice A0_0 l0_0.length c0_0, .slice A0_1 l0_1.length c0_1]) (t := 56) ?hr ?_; (case hd => rfl); (case hg => rfl); (case hr => first | (go_simp; done) | (go_simp; rfl)); intro gb335 hg w5 hbox hb; have BK335 := aM hbox; have GW335 := aM ((by rw [hg]; exact (aG (by repeat (first | (with_reducible first | exact HB.out | apply bA | apply bN | apply b1) | exact HB.out))) : w.heap.size ≤ gb335)); have GE335 := aM ((by rw [hg]; exact (aG (by repeat (first | (with_reducible first | exact HB.out | apply bA | apply bN | apply b1) | exact HB.out))) : w.heap.size ≤ gb335)); replace HB := aM (aE (by repeat (first | (with_reducible first | exact HB.out | apply bA | apply bN | apply b1) | exact HB.out)) hb); clear hb hbox hg) | ((with_reducible refine aZ (N := 3) rfl ?_); refine bB ?hg (N := 3) ?hd (cs := #[.slice A1_0 l1_0.length c1_0, .slice A1_1 l1_1.length c1_1]) (t := 56) ?hr ?_; (case hd => rfl); (case hg => rfl); (case hr => first | (go_simp; done) | (go_simp; rfl)); intro gb336 hg w6 hbox hb; have BK336 := aM hbox; have GW336 := aM ((by rw [hg]; exact (aG (by repeat (first | (with_reducible first | exact HB.out | apply bA | apply bN | apply b1 | refine bS ?_ GE335.out) | exact HB.out))) : w.heap.size ≤ gb336)); have GE336 := aM ((by rw [hg]; exact (aG (by repeat (first | (with_reducible first | exact HB.out | apply bA | apply bN | apply b1 | refine bS ?_ GE335.out) | exact HB.out))) : w.heap.size ≤ gb336)); replace HB := aM (aE (by repeat (first | (with_reducible first | exact HB.out | apply bA | apply bN | apply b1 | refine bS ?_ GE335.out) | exact HB.out)) hb); have NB335_336 := aM ((by rw [hg]; exact Nat.ne_of_lt (blk_lt (g := gb335) (o := .cells #[.slice A0_0 l0_0.length c0_0, .slice A0_1 l0_1.length c0_1] 56 (0, 0)) (by (with_reducible repeat (first | refine kN ?_ _ | refine kD ?_ | refine kA ?_ _)); exact BK335.out)) : gb335 ≠ gb336)); have NB336_335 := aM ((by rw [hg]; exact Nat.ne_of_gt (blk_lt (g := gb335) (o := .cells #[.slice A0_0 l0_0.length c0_0, .slice A0_1 l0_1.length c0_1] 56 (0, 0)) (by (with_reducible repeat (first | refine kN ?_ _ | refine kD ?_ | refine kA ?_ _)); exact BK335.out)) : gb336 ≠ gb335)); replace BK335 := aM (aD (g := gb335) (o := .cells #[.slice A0_0 l0_0.length c0_0, .slice A0_1 l0_1.length c0_1] 56 (0, 0)) (by (with_reducible repeat (first | refine kN ?_ _ | refine kD ?_ | refine kA ?_ _)); exact BK335.out) hb); clear hb hbox hg; have hnb7 := NB335_336.out; have hnc7 := NB336_335.out; have hcz8_0 : w6.cell? ⟨gb335, 0, none⟩ = some (.slice A0_0 l0_0.length c0_0) := (aA BK335.out 0).trans rfl; have hcz8_1 : w6.cell? ⟨gb335, 1, none⟩ = some (.slice A0_1 l0_1.length c0_1) := (aA BK335.out 1).trans rfl; have hfz8_0 := aC BK335.out 0; have hfz8_1 := aC BK335.out 1; have hcz9_0 : w6.cell? ⟨gb336, 0, none⟩ = some (.slice A1_0 l1_0.length c1_0) := (aA BK336.out 0).trans rfl; have hcz9_1 : w6.cell? ⟨gb336, 1, none⟩ = some (.slice A1_1 l1_1.length c1_1) := (aA BK336.out 1).trans rfl; have hfz9_0 := aC BK336.out 0; have hfz9_1 := aC BK336.out 1) | (go_at_call 68; (with_reducible refine (impl_lcm.calls k (l0_1.length : Int) (l1_1.length : Int) t337 _ A4.out).mono ?_); rintro e w' ⟨rfl, ⟨nd, rfl⟩⟩; (try first | exact ⟨rfl, _, World.drewN_drewN _ _ _⟩ | exact ⟨rfl, _, Eq.trans (World.drewN_drewN _ _ _) (congrArg (World.drewN _) (Nat.add_assoc _ _ _))⟩))))
 go_ret2
 exact ⟨by first | rfl | (simp [errW_none, errW_some] <;> rfl) | (simp [errW_none, errW_some]; exact ⟨rfl, rfl⟩) | (simp [errW_none, errW_some]; exact ⟨rfl, rfl, rfl⟩) | (simp only [← hji3]; first | rfl | (simp [errW_none, errW_some] <;> rfl) | (simp [errW_none, errW_some]; exact ⟨rfl, rfl⟩) | (simp [errW_none, errW_some]; exact ⟨rfl, rfl, rfl⟩)) | (simp [*, errW_none, errW_some] <;> rfl), by repeat (first | (with_reducible first | exact HB.out | apply bA | apply bN | apply b1 | refine bS ?_ GE335.out | refine bS ?_ GE336.out) | exact HB.out)⟩


def impl_pair.p (z : Bool → Bool → Bool) (l0 l1 l2 l3 : List Bool) (n : Int) : Option Bool := (impl_set_has.f l0 l1 n).bind fun a => (impl_set_has.f l2 l3 n).bind fun b => some (z a b)
def impl_pair.f (k : Nat) (a0 a1 : ByteArray) (z : Bool → Bool → Bool) : Option (ByteArray × Bool) :=
 (impl_setOf.f a0).bind fun x => (impl_setOf.f a1).bind fun y => if x.2.2 = true then (if y.2.2 = true then (impl_both.f k x.1 x.2.1 y.1 y.2.1).bind fun q => impl_made.f k q.1 q.2 (impl_pair.p z x.1 x.2.1 y.1 y.2.1) else some (⟨#[]⟩, false)) else some (⟨#[]⟩, false)
/-- What the function that is handed in answers. -/
def impl_pair.Two (w : World) (g0 : Nat) (z : Bool → Bool → Bool) : Prop := ∀ (a b : Bool) (W : World), Below w.heap.size w W → Calls Try.prog g0 #[.bool a, .bool b] W fun e W' => e = .returned (.bool (z a b)) ∧ Below W.heap.size W W'
def impl_pair.T1 : Bool × List (List Nat × List Nat) := (true, [([], []), ([], []), ([], []), ([1, 2], [1, 2]), ([], []), ([], []), ([4, 5, 3], [4, 5]), ([0, 3, 6, 6], [0, 3, 6]), ([7, 7, 0, 1, 2, 3, 4, 5, 6, 7], [7])])
def impl_pair.B1 : List Nat := [0, 0, 0, 6, 0, 0, 62, 127, 255]
theorem impl_pair.tab1 : rtab .any (opsOf Try.f87 1) = impl_pair.T1 := by kernel_rfl
theorem impl_pair.bits1 : waitsOk impl_pair.T1.2 impl_pair.B1 = true := by kernel_rfl
theorem impl_pair.goesV_ {P : Program} {ops : Array Oper} {Q : Exit → Act → World → Prop} {oi : Oper} {N : Option Tmp} {a : Act} {w : World} {K : Act → World → Prop} {c : Operand} {g : FuncId} {lb : Array Value} (eg : ∀ args w, (callFunc g args).run P w = .ok (.enter g args) w) {ars : Array Operand} {ts : Array TypeId} (args : Array Value)
  (hw : Region.wanted oi (yielded ops a.tmps) = true) (hN : oi.dst = N) (hop : oi.op = .call { callee := .value c, args := ars, argTypes := ts }) (hc : a.eval c = .func (.func g) #[] lb) (hargs : ars.map a.eval = args)
  (h : Calls P g (args ++ lb) w fun e w' => ∃ v, e = .returned v ∧ K (a.put N v) w') : if Region.wanted oi (yielded ops a.tmps) = true then Oper.wp P oi a w K Q else K (a.put N undef) w := by
 refine call_ g (args ++ lb) hw hN ?_ h
 have he := eg (args ++ lb) w
 unfold execOp
 simp [hop, hc, resolve, Deferred.ofValue, invoke, hargs, he]
set_option maxHeartbeats 2000000 in
set_option maxRecDepth 100000 in
theorem impl_pair.lit (g0 : Nat) (z : Bool → Bool → Bool) (w : World) (eg0 : ∀ args w, (callFunc g0 args).run Try.prog w = .ok (.enter g0 args) w) (hz : impl_pair.Two w g0 z)
  (B1 B2 B3 : Nat) (A0 : Option Addr) (c0 : Nat) (l0 : List Bool) (A1 : Option Addr) (c1 : Nat) (l1 : List Bool) (A2 : Option Addr) (c2 : Nat) (l2 : List Bool) (A3 : Option Addr) (c3 : Nat) (l3 : List Bool) (n : Int) (b : Bool) (W : World) (hw : Below w.heap.size w W)
  (h1 : W.heap[B1]? = some (.cells #[.func (.func g0) #[] #[]] 89 (0, 0))) (h2 : W.heap[B2]? = some (.cells #[.slice A0 l0.length c0, .slice A1 l1.length c1] 56 (0, 0))) (h3 : W.heap[B3]? = some (.cells #[.slice A2 l2.length c2, .slice A3 l3.length c3] 56 (0, 0)))
  (r0 : Kd.C Kd.bool W A0 l0.length l0) (q0 : l0.length ≤ c0) (r1 : Kd.C Kd.bool W A1 l1.length l1) (q1 : l1.length ≤ c1) (r2 : Kd.C Kd.bool W A2 l2.length l2) (q2 : l2.length ≤ c2) (r3 : Kd.C Kd.bool W A3 l3.length l3) (q3 : l3.length ≤ c3) (h : impl_pair.p z l0 l1 l2 l3 n = some b) :
  Calls Try.prog 87 #[.int .i64 n, .pointer (some ⟨B1, 0, none⟩), .pointer (some ⟨B2, 0, none⟩), .pointer (some ⟨B3, 0, none⟩)] W fun e W' => e = .returned (.bool b) ∧ Below W.heap.size W W' := by
 unfold impl_pair.p at h
 obtain ⟨x, hx, h⟩ := Option.bind_eq_some_iff.mp h
 obtain ⟨y, hy, h⟩ := Option.bind_eq_some_iff.mp h
 obtain rfl := bU h
 have BF := aM h1; have BA := aM h2; have BB := aM h3; have K0 := aM r0; have K1 := aM r1; have K2 := aM r2; have K3 := aM r3; have HX := aM hx; have HY := aM hy; have HZ := aM hz; have EG := aM eg0
 have HW := aM hw; have HB := aM (cE W.heap.size W)
 clear h1 h2 h3 r0 r1 r2 r3 hx hy hz eg0 hw h
 go_enter Try.func87, Try.ntmps87
 go_wp2
 have d0_ := aM (kD BF.out); have d1_ := aM (kD BA.out); have d2_ := aM (kD BB.out); have d3_ := aM (Kd.C_drew K0.out); have d4_ := aM (Kd.C_drew K1.out); have d5_ := aM (Kd.C_drew K2.out); have d6_ := aM (Kd.C_drew K3.out); have d7_ := aM (b1 HB.out); have d8_ := aM (b1 HW.out)
 clear BF BA BB K0 K1 K2 K3 HB HW
 have BF := d0_; have BA := d1_; have BB := d2_; have K0 := d3_; have K1 := d4_; have K2 := d5_; have K3 := d6_; have HB := d7_; have HW := d8_
 clear d0_ d1_ d2_ d3_ d4_ d5_ d6_ d7_ d8_
 refine start_ (n := 9) (S := fun w' => w'.cell? ⟨B1, 0, none⟩ = some (.func (.func g0) #[] #[]) ∧ w'.cell? ⟨B2, 0, none⟩ = some (.slice A0 l0.length c0) ∧ w'.cell? ⟨B2, 1, none⟩ = some (.slice A1 l1.length c1) ∧ w'.cell? ⟨B3, 0, none⟩ = some (.slice A2 l2.length c2) ∧ w'.cell? ⟨B3, 1, none⟩ = some (.slice A3 l3.length c3)) (ds := []) #[false, false, false, false, false, false, false, false, false] (by kernel_rfl) rfl rfl ⟨(aA BF.out 0).trans rfl, (aA BA.out 0).trans rfl, (aA BA.out 1).trans rfl, (aA BB.out 0).trans rfl, (aA BB.out 1).trans rfl⟩ (fun hHeld => ?_); refine with_tabW impl_pair.tab1 impl_pair.bits1 (fun HT_ HW_ => ?_)
 generalize W.drew = W1 at BF BA BB K0 K1 K2 K3 HB HW hHeld ⊢
 refine pQ 2 8 HT_ ?_
 refine pQ 5 11 HT_ ?_
 refine tQ 0 6 HT_ HW_ hHeld ?_
 refine tQ 1 7 HT_ HW_ hHeld ?_
 refine tQ 4 10 HT_ HW_ hHeld ?_
 refine oQ 3 9 HT_ (fun K hK => ?_)
 refine gO Try.func33 #[.agg #[.slice A0 l0.length c0, .slice A1 l1.length c1], .int .i64 n] ?_
 refine (impl_set_has.calls A0 c0 l0 A1 c1 l1 n x _ K0.out q0 K1.out q1 HX.out).mono ?_
 rintro e w1 ⟨rfl, hb⟩
 refine ⟨_, rfl, ?_⟩
 replace BF := aM (aD BF.out hb)
 replace BA := aM (aD BA.out hb)
 replace BB := aM (aD BB.out hb)
 replace K2 := aM (bF K2.out hb)
 replace K3 := aM (bF K3.out hb)
 replace HB := aM (aE HB.out hb)
 replace HW := aM (aE HW.out hb)
 clear hb
 refine hK.out _ _ ⟨(aA BF.out 0).trans rfl, (aA BA.out 0).trans rfl, (aA BA.out 1).trans rfl, (aA BB.out 0).trans rfl, (aA BB.out 1).trans rfl⟩ (fun hHeld => ?_)
 clear hK K
 refine nQ ?_
 refine oQ 6 12 HT_ (fun K hK => ?_)
 refine gO Try.func33 #[.agg #[.slice A2 l2.length c2, .slice A3 l3.length c3], .int .i64 n] ?_
 refine (impl_set_has.calls A2 c2 l2 A3 c3 l3 n y _ K2.out q2 K3.out q3 HY.out).mono ?_
 rintro e w1 ⟨rfl, hb⟩
 refine ⟨_, rfl, ?_⟩
 replace BF := aM (aD BF.out hb)
 replace BA := aM (aD BA.out hb)
 replace BB := aM (aD BB.out hb)
 replace HB := aM (aE HB.out hb)
 replace HW := aM (aE HW.out hb)
 clear hb
 refine hK.out _ _ ⟨(aA BF.out 0).trans rfl, (aA BA.out 0).trans rfl, (aA BA.out 1).trans rfl, (aA BB.out 0).trans rfl, (aA BB.out 1).trans rfl⟩ (fun hHeld => ?_)
 clear hK K
 refine nQ ?_
 refine oQ 7 13 HT_ (fun K hK => ?_)
 refine impl_pair.goesV_ EG.out #[.bool x, .bool y] (by rfl) rfl rfl (by rfl) (by (try simp only [aN, aQ, aT]); rfl) ?_
 refine (HZ.out x y _ HW.out).mono ?_
 rintro e w1 ⟨rfl, hb⟩
 refine ⟨_, rfl, ?_⟩
 replace BF := aM (aD BF.out hb)
 replace BA := aM (aD BA.out hb)
 replace BB := aM (aD BB.out hb)
 replace HB := aM (aE HB.out hb)
 clear hb
 refine hK.out _ _ ⟨(aA BF.out 0).trans rfl, (aA BA.out 0).trans rfl, (aA BA.out 1).trans rfl, (aA BB.out 0).trans rfl, (aA BB.out 1).trans rfl⟩ (fun hHeld => ?_)
 clear hK K
 refine nQ ?_
 refine pQ 8 5 HT_ ?_
 refine done_ (done_of HT_.out (by kernel_rfl)) ?_
 try go_wp2
 go_ret
 exact ⟨rfl, HB.out⟩
set_option maxHeartbeats 4000000 in
set_option maxRecDepth 100000 in
theorem impl_pair.calls (k : Nat) (a0 a1 : ByteArray) (g0 : Nat) (z : Bool → Bool → Bool) (r1' : ByteArray) (r2' : Bool) (w : World) (eg0 : ∀ args w, (callFunc g0 args).run Try.prog w = .ok (.enter g0 args) w) (hz : impl_pair.Two w g0 z) (h : impl_pair.f k a0 a1 z = some (r1', r2')) :
  Calls Try.prog 64 #[.string a0, .string a1, .func (.func g0) #[] #[]] w fun e w' => e = .returned (.tuple #[.string r1', .bool r2']) ∧ Below w.heap.size w w' := by
 unfold impl_pair.f at h
 obtain ⟨⟨t0, r0, o0⟩, hs, h⟩ := Option.bind_eq_some_iff.mp h
 obtain ⟨⟨t1, r1, o1⟩, hu, h⟩ := Option.bind_eq_some_iff.mp h
 have HZ := aM hz; have EG := aM eg0
 clear hz eg0
 have BZ := aM (blk_new w (.cells #[.func (.func g0) #[] #[]] 89))
 have HB : Aside0 (Below w.heap.size w (w.alloc (.cells #[.func (.func g0) #[] #[]] 89))) := ⟨(cE _ w).alloc (cD _) _⟩
 cases o0 with
 | false =>
  simp only [bX, if_false, aV, aW] at h
  obtain ⟨rfl, rfl⟩ := h
  have HS := aM hs
  cases o1 with
  | false =>
   have HU := aM hu
   clear hs hu
   go_enter Try.func64, Try.ntmps64
   go_wp2_with (first | ((with_reducible refine aY (f := 32) rfl ?_); refine gL 16 Try.func32 #[.string a0] ?_; refine (impl_setOf.calls a0 t0 r0 false _ HS.out).mono ?_; rintro e w0 ⟨v0, v1, rfl, ho0, ho1, hb⟩; refine ⟨_, rfl, ?_⟩; obtain ⟨A0, c0, rfl, q0, k0⟩ := Kd.R_reads ho0; obtain ⟨A1, c1, rfl, q1, k1⟩ := Kd.R_reads ho1; replace HB := aM (aE HB.out hb); (try clear hb)) | ((with_reducible refine aZ (N := 8) rfl ?_); refine bB ?hg (N := 8) ?hd (cs := #[.slice none 0 0, .slice none 0 0]) (t := 56) ?hr ?_; (case hd => rfl); (case hg => rfl); (case hr => first | (go_simp; done)); intro gb0 hg wb0 hbox hb; have cb00_ := aA hbox 0; have fb00_ := aC hbox 0; have cb01_ := aA hbox 1; have fb01_ := aC hbox 1; have hbs := ((hb).setCell (p := ⟨gb0, 0, none⟩) (by rw [hg]; exact cD _) (.slice A0 t0.length c0)).setCell (p := ⟨gb0, 1, none⟩) (by rw [hg]; exact cD _) (.slice A1 r0.length c1); replace HB := aM (aE HB.out hbs); clear hg hb hbox hbs) | ((with_reducible refine aY (f := 32) rfl ?_); refine gL 21 Try.func32 #[.string a1] ?_; refine (impl_setOf.calls a1 t1 r1 false _ HU.out).mono ?_; rintro e w1 ⟨v0, v1, rfl, ho0, ho1, hb⟩; refine ⟨_, rfl, ?_⟩; obtain ⟨A2, c2, rfl, q2, k0⟩ := Kd.R_reads ho0; obtain ⟨A3, c3, rfl, q3, k1⟩ := Kd.R_reads ho1; replace HB := aM (aE HB.out hb); (try clear hb)) | ((with_reducible refine aZ (N := 10) rfl ?_); refine bB ?hg (N := 10) ?hd (cs := #[.slice none 0 0, .slice none 0 0]) (t := 56) ?hr ?_; (case hd => rfl); (case hg => rfl); (case hr => first | (go_simp; done)); intro gb1 hg wb1 hbox hb; have cb10_ := aA hbox 0; have fb10_ := aC hbox 0; have cb11_ := aA hbox 1; have fb11_ := aC hbox 1; have hbs := ((hb).setCell (p := ⟨gb1, 0, none⟩) (by rw [hg]; exact cD _) (.slice A2 t1.length c2)).setCell (p := ⟨gb1, 1, none⟩) (by rw [hg]; exact cD _) (.slice A3 r1.length c3); replace HB := aM (aE HB.out hbs); clear hg hb hbox hbs))
   go_ret2
   exact ⟨rfl, HB.out⟩
  | true =>
   have HU := aM hu
   clear hs hu
   go_enter Try.func64, Try.ntmps64
   go_wp2_with (first | ((with_reducible refine aY (f := 32) rfl ?_); refine gL 16 Try.func32 #[.string a0] ?_; refine (impl_setOf.calls a0 t0 r0 false _ HS.out).mono ?_; rintro e w0 ⟨v0, v1, rfl, ho0, ho1, hb⟩; refine ⟨_, rfl, ?_⟩; obtain ⟨A0, c0, rfl, q0, k0⟩ := Kd.R_reads ho0; obtain ⟨A1, c1, rfl, q1, k1⟩ := Kd.R_reads ho1; replace HB := aM (aE HB.out hb); (try clear hb)) | ((with_reducible refine aZ (N := 8) rfl ?_); refine bB ?hg (N := 8) ?hd (cs := #[.slice none 0 0, .slice none 0 0]) (t := 56) ?hr ?_; (case hd => rfl); (case hg => rfl); (case hr => first | (go_simp; done)); intro gb0 hg wb0 hbox hb; have cb00_ := aA hbox 0; have fb00_ := aC hbox 0; have cb01_ := aA hbox 1; have fb01_ := aC hbox 1; have hbs := ((hb).setCell (p := ⟨gb0, 0, none⟩) (by rw [hg]; exact cD _) (.slice A0 t0.length c0)).setCell (p := ⟨gb0, 1, none⟩) (by rw [hg]; exact cD _) (.slice A1 r0.length c1); replace HB := aM (aE HB.out hbs); clear hg hb hbox hbs) | ((with_reducible refine aY (f := 32) rfl ?_); refine gL 21 Try.func32 #[.string a1] ?_; refine (impl_setOf.calls a1 t1 r1 true _ HU.out).mono ?_; rintro e w1 ⟨v0, v1, rfl, ho0, ho1, hb⟩; refine ⟨_, rfl, ?_⟩; obtain ⟨A2, c2, rfl, q2, k0⟩ := Kd.R_reads ho0; obtain ⟨A3, c3, rfl, q3, k1⟩ := Kd.R_reads ho1; replace HB := aM (aE HB.out hb); (try clear hb)) | ((with_reducible refine aZ (N := 10) rfl ?_); refine bB ?hg (N := 10) ?hd (cs := #[.slice none 0 0, .slice none 0 0]) (t := 56) ?hr ?_; (case hd => rfl); (case hg => rfl); (case hr => first | (go_simp; done)); intro gb1 hg wb1 hbox hb; have cb10_ := aA hbox 0; have fb10_ := aC hbox 0; have cb11_ := aA hbox 1; have fb11_ := aC hbox 1; have hbs := ((hb).setCell (p := ⟨gb1, 0, none⟩) (by rw [hg]; exact cD _) (.slice A2 t1.length c2)).setCell (p := ⟨gb1, 1, none⟩) (by rw [hg]; exact cD _) (.slice A3 r1.length c3); replace HB := aM (aE HB.out hbs); clear hg hb hbox hbs))
   go_ret2
   exact ⟨rfl, HB.out⟩
 | true =>
  have HS := aM hs
  cases o1 with
  | false =>
   simp only [bX, if_false, if_true, aV, aW] at h
   obtain ⟨rfl, rfl⟩ := h
   have HU := aM hu
   clear hs hu
   go_enter Try.func64, Try.ntmps64
   go_wp2_with (first | ((with_reducible refine aY (f := 32) rfl ?_); refine gL 16 Try.func32 #[.string a0] ?_; refine (impl_setOf.calls a0 t0 r0 true _ HS.out).mono ?_; rintro e w0 ⟨v0, v1, rfl, ho0, ho1, hb⟩; refine ⟨_, rfl, ?_⟩; obtain ⟨A0, c0, rfl, q0, k0⟩ := Kd.R_reads ho0; obtain ⟨A1, c1, rfl, q1, k1⟩ := Kd.R_reads ho1; replace HB := aM (aE HB.out hb); (try clear hb)) | ((with_reducible refine aZ (N := 8) rfl ?_); refine bB ?hg (N := 8) ?hd (cs := #[.slice none 0 0, .slice none 0 0]) (t := 56) ?hr ?_; (case hd => rfl); (case hg => rfl); (case hr => first | (go_simp; done)); intro gb0 hg wb0 hbox hb; have cb00_ := aA hbox 0; have fb00_ := aC hbox 0; have cb01_ := aA hbox 1; have fb01_ := aC hbox 1; have hbs := ((hb).setCell (p := ⟨gb0, 0, none⟩) (by rw [hg]; exact cD _) (.slice A0 t0.length c0)).setCell (p := ⟨gb0, 1, none⟩) (by rw [hg]; exact cD _) (.slice A1 r0.length c1); replace HB := aM (aE HB.out hbs); clear hg hb hbox hbs) | ((with_reducible refine aY (f := 32) rfl ?_); refine gL 21 Try.func32 #[.string a1] ?_; refine (impl_setOf.calls a1 t1 r1 false _ HU.out).mono ?_; rintro e w1 ⟨v0, v1, rfl, ho0, ho1, hb⟩; refine ⟨_, rfl, ?_⟩; obtain ⟨A2, c2, rfl, q2, k0⟩ := Kd.R_reads ho0; obtain ⟨A3, c3, rfl, q3, k1⟩ := Kd.R_reads ho1; replace HB := aM (aE HB.out hb); (try clear hb)) | ((with_reducible refine aZ (N := 10) rfl ?_); refine bB ?hg (N := 10) ?hd (cs := #[.slice none 0 0, .slice none 0 0]) (t := 56) ?hr ?_; (case hd => rfl); (case hg => rfl); (case hr => first | (go_simp; done)); intro gb1 hg wb1 hbox hb; have cb10_ := aA hbox 0; have fb10_ := aC hbox 0; have cb11_ := aA hbox 1; have fb11_ := aC hbox 1; have hbs := ((hb).setCell (p := ⟨gb1, 0, none⟩) (by rw [hg]; exact cD _) (.slice A2 t1.length c2)).setCell (p := ⟨gb1, 1, none⟩) (by rw [hg]; exact cD _) (.slice A3 r1.length c3); replace HB := aM (aE HB.out hbs); clear hg hb hbox hbs))
   go_ret2
   exact ⟨rfl, HB.out⟩
  | true =>
   simp only [if_true] at h
   obtain ⟨⟨qa, qb⟩, hq, h⟩ := Option.bind_eq_some_iff.mp h
   have HU := aM hu; have HQ := aM hq; have H := aM h
   clear hs hu hq h
   go_enter Try.func64, Try.ntmps64
   go_wp2_with (first | ((with_reducible refine aY (f := 32) rfl ?_); refine gL 16 Try.func32 #[.string a0] ?_; refine (impl_setOf.calls a0 t0 r0 true _ HS.out).mono ?_; rintro e w0 ⟨v0, v1, rfl, ho0, ho1, hb⟩; refine ⟨_, rfl, ?_⟩; obtain ⟨A0, c0, rfl, q0, k0⟩ := Kd.R_reads ho0; obtain ⟨A1, c1, rfl, q1, k1⟩ := Kd.R_reads ho1; replace BZ := aM (aD BZ.out hb); replace HB := aM (aE HB.out hb); have K0 := aM k0; have K1 := aM k1; (try clear hb)) | ((with_reducible refine aZ (N := 8) rfl ?_); refine bB ?hg (N := 8) ?hd (cs := #[.slice none 0 0, .slice none 0 0]) (t := 56) ?hr ?_; (case hd => rfl); (case hg => rfl); (case hr => first | (go_simp; done)); intro gb0 hg wb0 hbox hb; have cb00_ := aA hbox 0; have fb00_ := aC hbox 0; have cb01_ := aA hbox 1; have fb01_ := aC hbox 1; have hbs := ((hb).setCell (p := ⟨gb0, 0, none⟩) (by rw [hg]; exact cD _) (.slice A0 t0.length c0)).setCell (p := ⟨gb0, 1, none⟩) (by rw [hg]; exact cD _) (.slice A1 r0.length c1); replace BZ := aM (aD BZ.out hbs); replace HB := aM (aE HB.out hbs); replace K0 := aM (bF K0.out hbs); replace K1 := aM (bF K1.out hbs); have BA := aM (impl_starred.set2 (u' := .slice A0 t0.length c0) (v' := .slice A1 r0.length c1) hbox); clear hg hb hbox hbs) | ((with_reducible refine aY (f := 32) rfl ?_); refine gL 21 Try.func32 #[.string a1] ?_; refine (impl_setOf.calls a1 t1 r1 true _ HU.out).mono ?_; rintro e w1 ⟨v0, v1, rfl, ho0, ho1, hb⟩; refine ⟨_, rfl, ?_⟩; obtain ⟨A2, c2, rfl, q2, k0⟩ := Kd.R_reads ho0; obtain ⟨A3, c3, rfl, q3, k1⟩ := Kd.R_reads ho1; replace BZ := aM (aD BZ.out hb); replace HB := aM (aE HB.out hb); replace K0 := aM (bF K0.out hb); replace K1 := aM (bF K1.out hb); replace BA := aM (aD BA.out hb); have K2 := aM k0; have K3 := aM k1; (try clear hb)) | ((with_reducible refine aZ (N := 10) rfl ?_); refine bB ?hg (N := 10) ?hd (cs := #[.slice none 0 0, .slice none 0 0]) (t := 56) ?hr ?_; (case hd => rfl); (case hg => rfl); (case hr => first | (go_simp; done)); intro gb1 hg wb1 hbox hb; have cb10_ := aA hbox 0; have fb10_ := aC hbox 0; have cb11_ := aA hbox 1; have fb11_ := aC hbox 1; have x0_ : wb1.cell? ⟨gb0, 0, none⟩ = some (.slice A0 t0.length c0) := aA (aD BA.out hb) 0; have x1_ : wb1.cell? ⟨gb0, 1, none⟩ = some (.slice A1 r0.length c1) := aA (aD BA.out hb) 1; have xn_ : gb0 ≠ gb1 := (by have := blk_lt BA.out; omega); have xm_ : gb1 ≠ gb0 := (by omega); have hbs := ((hb).setCell (p := ⟨gb1, 0, none⟩) (by rw [hg]; exact cD _) (.slice A2 t1.length c2)).setCell (p := ⟨gb1, 1, none⟩) (by rw [hg]; exact cD _) (.slice A3 r1.length c3); replace BZ := aM (aD BZ.out hbs); replace HB := aM (aE HB.out hbs); replace K0 := aM (bF K0.out hbs); replace K1 := aM (bF K1.out hbs); replace BA := aM (aD BA.out hbs); replace K2 := aM (bF K2.out hbs); replace K3 := aM (bF K3.out hbs); have BB := aM (impl_starred.set2 (u' := .slice A2 t1.length c2) (v' := .slice A3 r1.length c3) hbox); clear hg hb hbox hbs) | ((with_reducible refine aY (f := 86) rfl ?_); refine gL 33 Try.func86 #[.agg #[.slice A0 t0.length c0, .slice A1 r0.length c1], .agg #[.slice A2 t1.length c2, .slice A3 r1.length c3]] ?_; refine (impl_both.calls k A0 c0 t0 A1 c1 r0 A2 c2 t1 A3 c3 r1 qa qb _ K0.out q0 K1.out q1 K2.out q2 K3.out q3 HQ.out).mono ?_; (try clear cb00_ cb01_ cb10_ cb11_ fb00_ fb01_ fb10_ fb11_ x0_ x1_); rintro e w5 ⟨rfl, hb⟩; refine ⟨_, rfl, ?_⟩; replace BZ := aM (aD BZ.out hb); replace HB := aM (aE HB.out hb); replace K0 := aM (bF K0.out hb); replace K1 := aM (bF K1.out hb); replace BA := aM (aD BA.out hb); replace K2 := aM (bF K2.out hb); replace K3 := aM (bF K3.out hb); replace BB := aM (aD BB.out hb); (try clear hb)) | ((with_reducible refine aY (f := 67) rfl ?_); refine gL 39 Try.func67 #[.int .i64 qa, .int .i64 qb, .func (.func 87) #[] #[.pointer (some ⟨w.heap.size, 0, none⟩), .pointer (some ⟨gb0, 0, none⟩), .pointer (some ⟨gb1, 0, none⟩)]] ?_; refine (impl_made.calls k qa qb (impl_pair.p z t0 r0 t1 r1) 87 #[.pointer (some ⟨w.heap.size, 0, none⟩), .pointer (some ⟨gb0, 0, none⟩), .pointer (some ⟨gb1, 0, none⟩)] r1' r2' _ (fun args_ w_ => enters_ Try.func87 (by kernel_rfl) rfl args_ w_) ?hpx H.out).mono ?_; (case hpx => intro n_ b_ W_ hW_ hb_; exact impl_pair.lit g0 z w EG.out HZ.out w.heap.size gb0 gb1 A0 c0 t0 A1 c1 r0 A2 c2 t1 A3 c3 r1 n_ b_ W_ (aE HB.out hW_) (aD BZ.out hW_) (aD BA.out hW_) (aD BB.out hW_) (bF K0.out hW_) q0 (bF K1.out hW_) q1 (bF K2.out hW_) q2 (bF K3.out hW_) q3 hb_); rintro e w6 ⟨rfl, hb⟩; refine ⟨_, rfl, ?_⟩; replace HB := aM (aE HB.out hb); (try clear hb)))
   go_ret2
   exact ⟨rfl, HB.out⟩
def impl_MakeEither.f (k : Nat) (a0 a1 : ByteArray) : Option (ByteArray × Bool) := impl_pair.f k a0 a1 (fun a b => a || b)
set_option maxHeartbeats 1000000 in
set_option maxRecDepth 100000 in
theorem impl_MakeEither.two (w : World) : impl_pair.Two w 65 (fun a b => a || b) := by
 intro a b W hw
 clear hw
 cases a with
 | false =>
  go_enter Try.func65, Try.ntmps65
  go_wp2
  go_ret
  exact ⟨rfl, cE _ _⟩
 | true =>
  go_enter Try.func65, Try.ntmps65
  go_wp2
  go_ret
  exact ⟨rfl, cE _ _⟩
set_option maxHeartbeats 1000000 in
set_option maxRecDepth 100000 in
theorem impl_MakeEither.calls (k : Nat) (a0 : ByteArray) (a1 : ByteArray) (r1 : ByteArray) (r2 : Bool) (w : World) (h : impl_MakeEither.f k a0 a1 = some (r1, r2)) :
  Calls Try.prog 47 #[.string a0, .string a1] w fun e w' => e = .returned (.tuple #[.string r1, .bool r2]) ∧ Below w.heap.size w w' := by
 have C := impl_pair.calls k a0 a1 65 _ r1 r2 w (fun args_ w_ => enters_ Try.func65 (by kernel_rfl) rfl args_ w_) (impl_MakeEither.two w) h
 clear h
 go_enter Try.func47, Try.ntmps47
 go_wp2_with (go_at_call 64; refine C.mono ?_; rintro e w' ⟨rfl, hb⟩)
 go_ret2
 exact ⟨rfl, hb⟩

def impl_sums.l0 : Nat → Int → Int → Int → List Bool → List Bool → List Bool → List Bool → Option (Bool)
 | 0, _, _, _, _, _, _, _ => none
 | k + 1, x2, x9, x10, x105000, x105001, x106000, x106001 => if x10 < x9 then ((impl_set_has.f x105000 x105001 x10).bind fun t106 => (if t106 = true then ((impl_set_has.f x106000 x106001 (wrap64 (x2 - x10))).bind fun t107 => (if t107 = true then (some true) else (impl_sums.l0 k x2 x9 (wrap64 (x10 + 1)) x105000 x105001 x106000 x106001))) else (impl_sums.l0 k x2 x9 (wrap64 (x10 + 1)) x105000 x105001 x106000 x106001))) else (some false)
def impl_sums.f (k : Nat) (l0_0 : List Bool) (l0_1 : List Bool) (l1_0 : List Bool) (l1_1 : List Bool) (a2 : Int) : Option (Bool) := impl_sums.l0 k a2 (wrap64 (a2 + 1)) 0 l0_0 l0_1 l1_0 l1_1
set_option maxHeartbeats 8000000 in
set_option maxRecDepth 100000 in
theorem impl_sums.calls (k : Nat) (A0_0 : Option Addr) (c0_0 : Nat) (l0_0 : List Bool) (A0_1 : Option Addr) (c0_1 : Nat) (l0_1 : List Bool) (A1_0 : Option Addr) (c1_0 : Nat) (l1_0 : List Bool) (A1_1 : Option Addr) (c1_1 : Nat) (l1_1 : List Bool) (a2 : Int) (r : Bool) (w : World) (hr0_0 : Kd.C Kd.bool w A0_0 l0_0.length l0_0) (hc0_0 : l0_0.length ≤ c0_0) (hr0_1 : Kd.C Kd.bool w A0_1 l0_1.length l0_1) (hc0_1 : l0_1.length ≤ c0_1) (hr1_0 : Kd.C Kd.bool w A1_0 l1_0.length l1_0) (hc1_0 : l1_0.length ≤ c1_0) (hr1_1 : Kd.C Kd.bool w A1_1 l1_1.length l1_1) (hc1_1 : l1_1.length ≤ c1_1) (h : impl_sums.f k l0_0 l0_1 l1_0 l1_1 a2 = some r) :
  Calls Try.prog 70 #[.agg #[.slice A0_0 l0_0.length c0_0, .slice A0_1 l0_1.length c0_1], .agg #[.slice A1_0 l1_0.length c1_0, .slice A1_1 l1_1.length c1_1], .int .i64 a2] w fun e w' => e = .returned (.bool r) ∧ Below w.heap.size w w' := by
 have HR0_0 := aM hr0_0
 have HC0_0 := aM hc0_0
 clear hr0_0 hc0_0
 have HR0_1 := aM hr0_1
 have HC0_1 := aM hc0_1
 clear hr0_1 hc0_1
 have HR1_0 := aM hr1_0
 have HC1_0 := aM hc1_0
 clear hr1_0 hc1_0
 have HR1_1 := aM hr1_1
 have HC1_1 := aM hc1_1
 clear hr1_1 hc1_1
 have HB := aM (cE w.heap.size w)
 have H : (impl_sums.l0 k a2 (wrap64 (a2 + 1)) 0 l0_0 l0_1 l1_0 l1_1) = some r := h
 clear h
 have H' := aM H
 clear H
 go_enter Try.func70, Try.ntmps70
 go_wp2_with (first | ((with_reducible refine aZ (N := 3) rfl ?_); refine bB ?hg (N := 3) ?hd (cs := #[.slice A0_0 l0_0.length c0_0, .slice A0_1 l0_1.length c0_1]) (t := 56) ?hr ?_; (case hd => rfl); (case hg => rfl); (case hr => first | (go_simp; done)); intro gb104 hg w4 hbox hb; have BK104 := aM hbox; replace HB := aM (aE HB.out hb); clear hb hbox hg) | ((with_reducible refine aZ (N := 4) rfl ?_); refine bB ?hg (N := 4) ?hd (cs := #[.slice A1_0 l1_0.length c1_0, .slice A1_1 l1_1.length c1_1]) (t := 56) ?hr ?_; (case hd => rfl); (case hg => rfl); (case hr => first | (go_simp; done)); intro gb105 hg w5 hbox hb; have BK105 := aM hbox; replace HB := aM (aE HB.out hb); replace BK104 := aM (aD (g := gb104) (o := .cells #[.slice A0_0 l0_0.length c0_0, .slice A0_1 l0_1.length c0_1] 56 (0, 0)) BK104.out hb); clear hb hbox hg))
 go_loopg [10] k (fun kq v10 w' => ∃ (x10_1 : Int), v10 = .int .i64 x10_1 ∧ Aside0 (impl_sums.l0 kq a2 (wrap64 (a2 + 1)) x10_1 l0_0 l0_1 l1_0 l1_1 = some r) ∧ Aside0 (kq ≤ k) ∧ Aside0 (w'.heap[gb104]? = some (.cells #[(.slice A0_0 l0_0.length c0_0), (.slice A0_1 l0_1.length c0_1)] 56 (0, 0))) ∧ Aside0 (w'.heap[gb105]? = some (.cells #[(.slice A1_0 l1_0.length c1_0), (.slice A1_1 l1_1.length c1_1)] 56 (0, 0))) ∧ Aside0 (Below w.heap.size w w'))
 case atStart => exact ⟨(0), (by rfl), H', ⟨cD _⟩, ⟨by exact BK104.out⟩, ⟨by exact BK105.out⟩, ⟨HB.out⟩⟩
 case round =>
  clear H'
  obtain ⟨x10_1, rfl, HA, HK1, BK104, BK105, HB⟩ := hrel
  cases gk with
  | zero => exact absurd HA.out (by simp [impl_sums.l0])
  | succ k1 =>
   have H := HA.out
   clear HA
   simp only [impl_sums.l0] at H
   by_cases c6 : x10_1 < (wrap64 (a2 + 1))
   ·rw [if_pos c6] at H
    have c6b0 : decide (x10_1 < (wrap64 (a2 + 1))) = true := aH c6
    clear c6
    replace H := Option.bind_eq_some_iff.mp H
    obtain ⟨t106, A70, H⟩ := H
    replace H : (if t106 = true then ((impl_set_has.f l1_0 l1_1 (wrap64 (a2 - x10_1))).bind fun t107 => (if t107 = true then (some true) else (impl_sums.l0 k1 a2 (wrap64 (a2 + 1)) (wrap64 (x10_1 + 1)) l0_0 l0_1 l1_0 l1_1))) else (impl_sums.l0 k1 a2 (wrap64 (a2 + 1)) (wrap64 (x10_1 + 1)) l0_0 l0_1 l1_0 l1_1)) = some r := H
    have A7 := aM A70
    clear A70
    by_cases c8 : t106 = true
    ·subst c8
     replace H : ((impl_set_has.f l1_0 l1_1 (wrap64 (a2 - x10_1))).bind fun t107 => (if t107 = true then (some true) else (impl_sums.l0 k1 a2 (wrap64 (a2 + 1)) (wrap64 (x10_1 + 1)) l0_0 l0_1 l1_0 l1_1))) = some r := by rw [if_pos rfl] at H; exact H
     replace H := Option.bind_eq_some_iff.mp H
     obtain ⟨t107, A90, H⟩ := H
     replace H : (if t107 = true then (some true) else (impl_sums.l0 k1 a2 (wrap64 (a2 + 1)) (wrap64 (x10_1 + 1)) l0_0 l0_1 l1_0 l1_1)) = some r := H
     have A9 := aM A90
     clear A90
     by_cases c10 : t107 = true
     all_goals
      first
      |replace c10 := Bool.eq_false_iff.mpr c10
      |skip
      subst c10
      first
      |have H1 : (some true) = some r := by rw [if_pos rfl] at H; exact H
      |have H1 : (impl_sums.l0 k1 a2 (wrap64 (a2 + 1)) (wrap64 (x10_1 + 1)) l0_0 l0_1 l1_0 l1_1) = some r := by rw [if_neg (show ¬ (false = true) by decide)] at H; exact H
      clear H
      have H := H1
      clear H1
      first
      |obtain rfl := bU H
      |have H' := aM H
       clear H
      have hcz12_0 : wr.cell? ⟨gb104, 0, none⟩ = some (.slice A0_0 l0_0.length c0_0) := (aA BK104.out 0).trans rfl
      have hcz12_1 : wr.cell? ⟨gb104, 1, none⟩ = some (.slice A0_1 l0_1.length c0_1) := (aA BK104.out 1).trans rfl
      go_wp2_with (first | ((with_reducible refine aY (f := 33) rfl ?_); refine gL 15 Try.func33 #[.agg #[.slice A0_0 l0_0.length c0_0, .slice A0_1 l0_1.length c0_1], .int .i64 x10_1] ?_; (with_reducible refine (impl_set_has.calls _ _ l0_0 _ _ l0_1 x10_1 true _ ?side1 ?side2 ?side3 ?side4 A7.out).mono ?_); (case side1 => repeat (exact (bF HR0_0.out HB.out))); (case side2 => exact HC0_0.out); (case side3 => repeat (exact (bF HR0_1.out HB.out))); (case side4 => exact HC0_1.out); rintro e w13 ⟨rfl, hb⟩; refine ⟨_, rfl, ?_⟩; replace BK104 := aM (aD (g := gb104) (o := .cells #[.slice A0_0 l0_0.length c0_0, .slice A0_1 l0_1.length c0_1] 56 (0, 0)) BK104.out hb); replace BK105 := aM (aD (g := gb105) (o := .cells #[.slice A1_0 l1_0.length c1_0, .slice A1_1 l1_1.length c1_1] 56 (0, 0)) BK105.out hb); replace HB := aM (aE HB.out hb); (try clear hb); have hcz14_0 : w13.cell? ⟨gb105, 0, none⟩ = some (.slice A1_0 l1_0.length c1_0) := (aA BK105.out 0).trans rfl; have hcz14_1 : w13.cell? ⟨gb105, 1, none⟩ = some (.slice A1_1 l1_1.length c1_1) := (aA BK105.out 1).trans rfl) | (go_at_call 33; (with_reducible refine (impl_set_has.calls _ _ l1_0 _ _ l1_1 (wrap64 (a2 - x10_1)) _ _ ?side1 ?side2 ?side3 ?side4 A9.out).mono ?_); (case side1 => repeat (exact (bF HR1_0.out HB.out))); (case side2 => exact HC1_0.out); (case side3 => repeat (exact (bF HR1_1.out HB.out))); (case side4 => exact HC1_1.out); rintro e w15 ⟨rfl, hb⟩; replace BK104 := aM (aD (g := gb104) (o := .cells #[.slice A0_0 l0_0.length c0_0, .slice A0_1 l0_1.length c0_1] 56 (0, 0)) BK104.out hb); replace BK105 := aM (aD (g := gb105) (o := .cells #[.slice A1_0 l1_0.length c1_0, .slice A1_1 l1_1.length c1_1] 56 (0, 0)) BK105.out hb); replace HB := aM (aE HB.out hb); (try clear hb)))
      first
      |go_ret
       exact ⟨by first | rfl | (simp [*, errW_none, errW_some] <;> rfl), HB.out⟩
      |go_roundg k1
       case measure => have := HK1.out; omega
       case rel => exact ⟨(wrap64 (x10_1 + 1)), (by rfl), H', ⟨by have := HK1.out; omega⟩, ⟨by exact BK104.out⟩, ⟨by exact BK105.out⟩, ⟨HB.out⟩⟩
    ·replace c8 := Bool.eq_false_iff.mpr c8
     subst c8
     replace H : (impl_sums.l0 k1 a2 (wrap64 (a2 + 1)) (wrap64 (x10_1 + 1)) l0_0 l0_1 l1_0 l1_1) = some r := by rw [if_neg (show ¬ (false = true) by decide)] at H; exact H
     have H' := aM H
     clear H
     have hcz22_0 : wr.cell? ⟨gb104, 0, none⟩ = some (.slice A0_0 l0_0.length c0_0) := (aA BK104.out 0).trans rfl
     have hcz22_1 : wr.cell? ⟨gb104, 1, none⟩ = some (.slice A0_1 l0_1.length c0_1) := (aA BK104.out 1).trans rfl
     go_wp2_with (first | ((with_reducible refine aY (f := 33) rfl ?_); refine gL 15 Try.func33 #[.agg #[.slice A0_0 l0_0.length c0_0, .slice A0_1 l0_1.length c0_1], .int .i64 x10_1] ?_; (with_reducible refine (impl_set_has.calls _ _ l0_0 _ _ l0_1 x10_1 false _ ?side1 ?side2 ?side3 ?side4 A7.out).mono ?_); (case side1 => repeat (exact (bF HR0_0.out HB.out))); (case side2 => exact HC0_0.out); (case side3 => repeat (exact (bF HR0_1.out HB.out))); (case side4 => exact HC0_1.out); rintro e w23 ⟨rfl, hb⟩; refine ⟨_, rfl, ?_⟩; replace BK104 := aM (aD (g := gb104) (o := .cells #[.slice A0_0 l0_0.length c0_0, .slice A0_1 l0_1.length c0_1] 56 (0, 0)) BK104.out hb); replace BK105 := aM (aD (g := gb105) (o := .cells #[.slice A1_0 l1_0.length c1_0, .slice A1_1 l1_1.length c1_1] 56 (0, 0)) BK105.out hb); replace HB := aM (aE HB.out hb); (try clear hb)))
     go_roundg k1
     case measure => have := HK1.out; omega
     case rel => exact ⟨(wrap64 (x10_1 + 1)), (by rfl), H', ⟨by have := HK1.out; omega⟩, ⟨by exact BK104.out⟩, ⟨by exact BK105.out⟩, ⟨HB.out⟩⟩
   ·rw [if_neg c6] at H
    have c6b0 : decide (x10_1 < (wrap64 (a2 + 1))) = false := aK c6
    clear c6
    obtain rfl := bU H
    go_wp2
    go_ret
    exact ⟨by first | rfl | (simp [*, errW_none, errW_some] <;> rfl), HB.out⟩


theorem impl_SumOf.lit (k : Nat) (B1 B2 : Nat) (A0 : Option Addr) (c0 : Nat) (l0 : List Bool) (A1 : Option Addr) (c1 : Nat) (l1 : List Bool) (A2 : Option Addr) (c2 : Nat) (l2 : List Bool) (A3 : Option Addr) (c3 : Nat) (l3 : List Bool) (n : Int) (b : Bool) (W : World)
  (h1 : W.heap[B1]? = some (.cells #[.slice A0 l0.length c0, .slice A1 l1.length c1] 56 (0, 0))) (h2 : W.heap[B2]? = some (.cells #[.slice A2 l2.length c2, .slice A3 l3.length c3] 56 (0, 0)))
  (r0 : Kd.C Kd.bool W A0 l0.length l0) (q0 : l0.length ≤ c0) (r1 : Kd.C Kd.bool W A1 l1.length l1) (q1 : l1.length ≤ c1) (r2 : Kd.C Kd.bool W A2 l2.length l2) (q2 : l2.length ≤ c2) (r3 : Kd.C Kd.bool W A3 l3.length l3) (q3 : l3.length ≤ c3) (h : impl_sums.f k l0 l1 l2 l3 n = some b) :
  Calls Try.prog 69 #[.int .i64 n, .pointer (some ⟨B1, 0, none⟩), .pointer (some ⟨B2, 0, none⟩)] W fun e W' => e = .returned (.bool b) ∧ Below W.heap.size W W' := by
 have c10 : W.cell? ⟨B1, 0, none⟩ = some (.slice A0 l0.length c0) := (aA h1 0).trans rfl
 have c11 : W.cell? ⟨B1, 1, none⟩ = some (.slice A1 l1.length c1) := (aA h1 1).trans rfl
 have c20 : W.cell? ⟨B2, 0, none⟩ = some (.slice A2 l2.length c2) := (aA h2 0).trans rfl
 have c21 : W.cell? ⟨B2, 1, none⟩ = some (.slice A3 l3.length c3) := (aA h2 1).trans rfl
 have C := impl_sums.calls k A0 c0 l0 A1 c1 l1 A2 c2 l2 A3 c3 l3 n b W r0 q0 r1 q1 r2 q2 r3 q3 h
 clear h1 h2 r0 r1 r2 r3 q0 q1 q2 q3 h
 go_enter Try.func69, Try.ntmps69
 go_wp2_with (go_at_call 70; refine C.mono ?_; rintro e w' ⟨rfl, hb⟩)
 go_ret
 exact ⟨rfl, hb⟩
def impl_SumOf.j0 : Nat → Bool → List Bool → List Bool → List Bool → List Bool → Option (ByteArray × Bool)
 | 0, _, _, _, _, _ => none
 | k + 1, x25, x346000, x346001, x354000, x354001 => if x25 = true then (some ((⟨#[]⟩ : ByteArray), false)) else ((impl_lcm.f k (x346001.length : Int) (x354001.length : Int)).bind fun t354 => ((impl_made.f k 200 t354 (fun n_ => impl_sums.f k x346000 x346001 x354000 x354001 n_)).bind fun bt355 => (some (bt355.1, bt355.2))))
def impl_SumOf.f (k : Nat) (a0 : ByteArray) (a1 : ByteArray) : Option (ByteArray × Bool) := (impl_small.f k a0).bind fun bt338 => ((impl_small.f k a1).bind fun bt346 => (if bt338.2.2 = true then (impl_SumOf.j0 k (!bt346.2.2) bt338.1 bt338.2.1 bt346.1 bt346.2.1) else (impl_SumOf.j0 k true bt338.1 bt338.2.1 bt346.1 bt346.2.1)))
set_option maxHeartbeats 8000000 in
set_option maxRecDepth 100000 in
theorem impl_SumOf.calls (k : Nat) (a0 : ByteArray) (a1 : ByteArray) (r1 : ByteArray) (r2 : Bool) (w : World) (h : impl_SumOf.f k a0 a1 = some (r1, r2)) :
  Calls Try.prog 48 #[.string a0, .string a1] w fun e w' => e = .returned (.tuple #[.string r1, .bool r2]) ∧ Below w.heap.size w w' := by
 have HB := aM (cE w.heap.size w)
 have H : ((impl_small.f k a0).bind fun bt338 => ((impl_small.f k a1).bind fun bt346 => (if bt338.2.2 = true then (impl_SumOf.j0 k (!bt346.2.2) bt338.1 bt338.2.1 bt346.1 bt346.2.1) else (impl_SumOf.j0 k true bt338.1 bt338.2.1 bt346.1 bt346.2.1)))) = some (r1, r2) := h
 clear h
 replace H := Option.bind_eq_some_iff.mp H
 obtain ⟨⟨t338, t341, t344⟩, A30, H⟩ := H
 replace H : ((impl_small.f k a1).bind fun bt346 => (if t344 = true then (impl_SumOf.j0 k (!bt346.2.2) t338 t341 bt346.1 bt346.2.1) else (impl_SumOf.j0 k true t338 t341 bt346.1 bt346.2.1))) = some (r1, r2) := H
 have A3 := aM A30
 clear A30
 replace H := Option.bind_eq_some_iff.mp H
 obtain ⟨⟨t346, t349, t352⟩, A40, H⟩ := H
 replace H : (if t344 = true then (impl_SumOf.j0 k (!t352) t338 t341 t346 t349) else (impl_SumOf.j0 k true t338 t341 t346 t349)) = some (r1, r2) := H
 have A4 := aM A40
 clear A40
 have HC5 := aM H
 clear H
 go_enter Try.func48, Try.ntmps48
 go_upto_region 3 with (first | ((with_reducible refine aY (f := 66) rfl ?_); refine gL 12 Try.func66 #[.string a0] ?_; (with_reducible refine (impl_small.calls k a0 t338 t341 t344 _ A3.out).mono ?_); rintro e w6 ⟨v339, v342, rfl, ho0, ho1, hb⟩; refine ⟨_, rfl, ?_⟩; have HO340 := aM (bP ho0 (aG HB.out)); have HO343 := aM (bP ho1 (aG HB.out)); replace HB := aM (aE HB.out hb); (try clear hb); (try clear ho0); (try clear ho1)) | ((with_reducible refine aZ (N := 6) rfl ?_); refine bB ?hg (N := 6) ?hd (cs := #[.slice none 0 0, .slice none 0 0]) (t := 56) ?hr ?_; (case hd => rfl); (case hg => rfl); (case hr => first | (go_simp; done)); intro gb345 hg w7 hbox hb; replace HO340 := aM (bG HO340.out hb); replace HO343 := aM (bG HO343.out hb); have BK345 := aM hbox; have GE345 := aM ((by rw [hg]; exact (aG HB.out) : w.heap.size ≤ gb345)); replace HB := aM (aE HB.out hb); clear hb hbox hg; obtain ⟨Ao8, co8, eo8⟩ := bL HO340.out; subst eo8; have hcz9_0 : w7.cell? ⟨gb345, 0, none⟩ = some (.slice none 0 0) := (aA BK345.out 0).trans rfl; have hcz9_1 : w7.cell? ⟨gb345, 1, none⟩ = some (.slice none 0 0) := (aA BK345.out 1).trans rfl; have hfz9_0 := aC BK345.out 0; have hfz9_1 := aC BK345.out 1; obtain ⟨Ao10, co10, eo10⟩ := bL HO343.out; subst eo10) | ((with_reducible refine aY (f := 66) rfl ?_); refine gL 17 Try.func66 #[.string a1] ?_; (with_reducible refine (impl_small.calls k a1 t346 t349 t352 _ A4.out).mono ?_); rintro e w11 ⟨v347, v350, rfl, ho0, ho1, hb⟩; refine ⟨_, rfl, ?_⟩; have HO348 := aM (bP (Kd.R_new' (Kd.R_new' ho0 (Kd.R_lt (by exact (bJ (bC (p := ⟨gb345, 1, none⟩) (bC (p := ⟨gb345, 0, none⟩) (bE HO340.out BK345.out (by decide)) (fun _ hk => hk.2) (.slice Ao8 t338.length co8)) (fun _ hk => hk.2) (.slice Ao10 t341.length co10)) (fun _ h_ => h_.1))))) (Kd.R_lt (by exact (bJ (bC (p := ⟨gb345, 1, none⟩) (bC (p := ⟨gb345, 0, none⟩) (bE HO343.out BK345.out (by decide)) (fun _ hk => hk.2) (.slice Ao8 t338.length co8)) (fun _ hk => hk.2) (.slice Ao10 t341.length co10)) (fun _ h_ => h_.1))))) (aG (by repeat (first | (with_reducible first | exact HB.out | refine bS ?_ GE345.out))))); have HO351 := aM (bP (Kd.R_new' (Kd.R_new' ho1 (Kd.R_lt (by exact (bJ (bC (p := ⟨gb345, 1, none⟩) (bC (p := ⟨gb345, 0, none⟩) (bE HO340.out BK345.out (by decide)) (fun _ hk => hk.2) (.slice Ao8 t338.length co8)) (fun _ hk => hk.2) (.slice Ao10 t341.length co10)) (fun _ h_ => h_.1))))) (Kd.R_lt (by exact (bJ (bC (p := ⟨gb345, 1, none⟩) (bC (p := ⟨gb345, 0, none⟩) (bE HO343.out BK345.out (by decide)) (fun _ hk => hk.2) (.slice Ao8 t338.length co8)) (fun _ hk => hk.2) (.slice Ao10 t341.length co10)) (fun _ h_ => h_.1))))) (aG (by repeat (first | (with_reducible first | exact HB.out | refine bS ?_ GE345.out))))); replace HO340 := aM (bJ (Kd.R_told (Kd.R_told (Kd.R_old (by exact (bJ (bC (p := ⟨gb345, 1, none⟩) (bC (p := ⟨gb345, 0, none⟩) (bE HO340.out BK345.out (by decide)) (fun _ hk => hk.2) (.slice Ao8 t338.length co8)) (fun _ hk => hk.2) (.slice Ao10 t341.length co10)) (fun _ h_ => h_.1))) hb) (Kd.R_base ho0)) (Kd.R_base ho1)) (fun _ h_ => h_.1)); replace HO343 := aM (bJ (Kd.R_told (Kd.R_told (Kd.R_old (by exact (bJ (bC (p := ⟨gb345, 1, none⟩) (bC (p := ⟨gb345, 0, none⟩) (bE HO343.out BK345.out (by decide)) (fun _ hk => hk.2) (.slice Ao8 t338.length co8)) (fun _ hk => hk.2) (.slice Ao10 t341.length co10)) (fun _ h_ => h_.1))) hb) (Kd.R_base ho0)) (Kd.R_base ho1)) (fun _ h_ => h_.1)); replace BK345 := aM (aD (g := gb345) (o := .cells #[.slice Ao8 t338.length co8, .slice Ao10 t341.length co10] 56 (0, 0)) (by refine bV (cs := #[.slice Ao8 t338.length co8, .slice none 0 0]) ?_ 1 _ rfl; refine bV (cs := #[.slice none 0 0, .slice none 0 0]) ?_ 0 _ rfl; exact BK345.out) hb); replace HB := aM (aE (by repeat (first | (with_reducible first | exact HB.out | refine bS ?_ GE345.out))) hb); (try clear hb); (try clear ho0); (try clear ho1)) | ((with_reducible refine aZ (N := 8) rfl ?_); refine bB ?hg (N := 8) ?hd (cs := #[.slice none 0 0, .slice none 0 0]) (t := 56) ?hr ?_; (case hd => rfl); (case hg => rfl); (case hr => first | (go_simp; done)); intro gb353 hg w12 hbox hb; replace HO340 := aM (bG HO340.out hb); replace HO343 := aM (bG HO343.out hb); replace HO348 := aM (bG HO348.out hb); replace HO351 := aM (bG HO351.out hb); have BK353 := aM hbox; have GE353 := aM ((by rw [hg]; exact (aG HB.out) : w.heap.size ≤ gb353)); replace HB := aM (aE HB.out hb); have NB345_353 := aM ((by rw [hg]; exact Nat.ne_of_lt (blk_lt (g := gb345) (o := .cells #[.slice Ao8 t338.length co8, .slice Ao10 t341.length co10] 56 (0, 0)) BK345.out) : gb345 ≠ gb353)); replace BK345 := aM (aD (g := gb345) (o := .cells #[.slice Ao8 t338.length co8, .slice Ao10 t341.length co10] 56 (0, 0)) BK345.out hb); clear hb hbox hg; obtain ⟨Ao13, co13, eo13⟩ := bL HO348.out; subst eo13; have hcz15_0 : w12.cell? ⟨gb353, 0, none⟩ = some (.slice none 0 0) := (aA BK353.out 0).trans rfl; have hcz15_1 : w12.cell? ⟨gb353, 1, none⟩ = some (.slice none 0 0) := (aA BK353.out 1).trans rfl; have hfz15_0 := aC BK353.out 0; have hfz15_1 := aC BK353.out 1; obtain ⟨Ao16, co16, eo16⟩ := bL HO351.out; subst eo16))
 go_cut [25] (fun v25 wc => ∃ (kq : Nat) (x25_4 : Bool), v25 = .bool x25_4 ∧ Aside0 (impl_SumOf.j0 kq x25_4 t338 t341 t346 t349 = some (r1, r2)) ∧ Aside0 (kq ≤ k) ∧ Aside0 (Kd.R Kd.bool 4 wc w.heap.size (fun k_ => some k_ ≠ ((.slice Ao10 t341.length co10) : Value).ownBlock ∧ some k_ ≠ ((.slice Ao13 t346.length co13) : Value).ownBlock ∧ some k_ ≠ ((.slice Ao16 t349.length co16) : Value).ownBlock) (.slice Ao8 t338.length co8) t338) ∧ Aside0 (Kd.R Kd.bool 4 wc w.heap.size (fun k_ => some k_ ≠ ((.slice Ao8 t338.length co8) : Value).ownBlock ∧ some k_ ≠ ((.slice Ao13 t346.length co13) : Value).ownBlock ∧ some k_ ≠ ((.slice Ao16 t349.length co16) : Value).ownBlock) (.slice Ao10 t341.length co10) t341) ∧ Aside0 (Kd.R Kd.bool 4 wc w.heap.size (fun k_ => some k_ ≠ ((.slice Ao8 t338.length co8) : Value).ownBlock ∧ some k_ ≠ ((.slice Ao10 t341.length co10) : Value).ownBlock ∧ some k_ ≠ ((.slice Ao16 t349.length co16) : Value).ownBlock) (.slice Ao13 t346.length co13) t346) ∧ Aside0 (Kd.R Kd.bool 4 wc w.heap.size (fun k_ => some k_ ≠ ((.slice Ao8 t338.length co8) : Value).ownBlock ∧ some k_ ≠ ((.slice Ao10 t341.length co10) : Value).ownBlock ∧ some k_ ≠ ((.slice Ao13 t346.length co13) : Value).ownBlock) (.slice Ao16 t349.length co16) t349) ∧ Aside0 (wc.heap[gb345]? = some (.cells #[(.slice Ao8 t338.length co8), (.slice Ao10 t341.length co10)] 56 (0, 0))) ∧ Aside0 (wc.heap[gb353]? = some (.cells #[(.slice Ao13 t346.length co13), (.slice Ao16 t349.length co16)] 56 (0, 0))) ∧ Aside0 (Below w.heap.size w wc))
 case first =>
  have H := HC5.out
  clear HC5
  by_cases c17 : t344 = true
  ·subst c17
   replace H : (impl_SumOf.j0 k (!t352) t338 t341 t346 t349) = some (r1, r2) := by rw [if_pos rfl] at H; exact H
   have H' := aM H
   clear H
   go_wp2
   go_meet
   case rel => exact ⟨_, (!t352), (by rfl), H', ⟨by omega⟩, ⟨by exact bJ (bC (p := ⟨gb353, 1, none⟩) (bC (p := ⟨gb353, 0, none⟩) (bE HO340.out BK353.out (by decide)) (fun _ hk => hk.2) (.slice Ao13 t346.length co13)) (fun _ hk => hk.2) (.slice Ao16 t349.length co16)) (fun _ hk => ⟨hk.1.1.1, ⟨hk.1.1.2, hk.1.2⟩⟩)⟩, ⟨by exact bJ (bC (p := ⟨gb353, 1, none⟩) (bC (p := ⟨gb353, 0, none⟩) (bE HO343.out BK353.out (by decide)) (fun _ hk => hk.2) (.slice Ao13 t346.length co13)) (fun _ hk => hk.2) (.slice Ao16 t349.length co16)) (fun _ hk => ⟨hk.1.1.1, ⟨hk.1.1.2, hk.1.2⟩⟩)⟩, ⟨by exact bJ (bC (p := ⟨gb353, 1, none⟩) (bC (p := ⟨gb353, 0, none⟩) (bE HO348.out BK353.out (by decide)) (fun _ hk => hk.2) (.slice Ao13 t346.length co13)) (fun _ hk => hk.2) (.slice Ao16 t349.length co16)) (fun _ hk => ⟨hk.1.1.2, ⟨hk.1.2, hk.1.1.1⟩⟩)⟩, ⟨by exact bJ (bC (p := ⟨gb353, 1, none⟩) (bC (p := ⟨gb353, 0, none⟩) (bE HO351.out BK353.out (by decide)) (fun _ hk => hk.2) (.slice Ao13 t346.length co13)) (fun _ hk => hk.2) (.slice Ao16 t349.length co16)) (fun _ hk => ⟨hk.1.1.2, ⟨hk.1.2, hk.1.1.1⟩⟩)⟩, ⟨by refine cL ?_ NB345_353.out _; refine cL ?_ NB345_353.out _; exact BK345.out⟩, ⟨by refine bV (cs := #[.slice Ao13 t346.length co13, .slice none 0 0]) ?_ 1 _ rfl; refine bV (cs := #[.slice none 0 0, .slice none 0 0]) ?_ 0 _ rfl; exact BK353.out⟩, ⟨by repeat (first | (with_reducible first | exact HB.out | refine bS ?_ GE353.out))⟩⟩
  ·replace c17 := Bool.eq_false_iff.mpr c17
   subst c17
   replace H : (impl_SumOf.j0 k true t338 t341 t346 t349) = some (r1, r2) := by rw [if_neg (show ¬ (false = true) by decide)] at H; exact H
   have H' := aM H
   clear H
   go_wp2
   go_meet
   case rel => exact ⟨_, (true), (by rfl), H', ⟨by omega⟩, ⟨by exact bJ (bC (p := ⟨gb353, 1, none⟩) (bC (p := ⟨gb353, 0, none⟩) (bE HO340.out BK353.out (by decide)) (fun _ hk => hk.2) (.slice Ao13 t346.length co13)) (fun _ hk => hk.2) (.slice Ao16 t349.length co16)) (fun _ hk => ⟨hk.1.1.1, ⟨hk.1.1.2, hk.1.2⟩⟩)⟩, ⟨by exact bJ (bC (p := ⟨gb353, 1, none⟩) (bC (p := ⟨gb353, 0, none⟩) (bE HO343.out BK353.out (by decide)) (fun _ hk => hk.2) (.slice Ao13 t346.length co13)) (fun _ hk => hk.2) (.slice Ao16 t349.length co16)) (fun _ hk => ⟨hk.1.1.1, ⟨hk.1.1.2, hk.1.2⟩⟩)⟩, ⟨by exact bJ (bC (p := ⟨gb353, 1, none⟩) (bC (p := ⟨gb353, 0, none⟩) (bE HO348.out BK353.out (by decide)) (fun _ hk => hk.2) (.slice Ao13 t346.length co13)) (fun _ hk => hk.2) (.slice Ao16 t349.length co16)) (fun _ hk => ⟨hk.1.1.2, ⟨hk.1.2, hk.1.1.1⟩⟩)⟩, ⟨by exact bJ (bC (p := ⟨gb353, 1, none⟩) (bC (p := ⟨gb353, 0, none⟩) (bE HO351.out BK353.out (by decide)) (fun _ hk => hk.2) (.slice Ao13 t346.length co13)) (fun _ hk => hk.2) (.slice Ao16 t349.length co16)) (fun _ hk => ⟨hk.1.1.2, ⟨hk.1.2, hk.1.1.1⟩⟩)⟩, ⟨by refine cL ?_ NB345_353.out _; refine cL ?_ NB345_353.out _; exact BK345.out⟩, ⟨by refine bV (cs := #[.slice Ao13 t346.length co13, .slice none 0 0]) ?_ 1 _ rfl; refine bV (cs := #[.slice none 0 0, .slice none 0 0]) ?_ 0 _ rfl; exact BK353.out⟩, ⟨by repeat (first | (with_reducible first | exact HB.out | refine bS ?_ GE353.out))⟩⟩
 case rest =>
  clear HC5
  try clear hcz15_0
  try clear hcz15_1
  try clear hcz9_0
  try clear hcz9_1
  try clear hfz15_0
  try clear hfz15_1
  try clear hfz9_0
  try clear hfz9_1
  obtain ⟨kq, x25_4, rfl, HA, HJ4, HO_346000, HO_346001, HO_354000, HO_354001, BK345, BK353, HB⟩ := hcut
  cases kq with
  | zero => exact absurd HA.out (by simp [impl_SumOf.j0])
  | succ kj4 =>
   have H := HA.out
   clear HA
   simp only [impl_SumOf.j0] at H
   by_cases c18 : x25_4 = true
   ·subst c18
    replace H : (some ((⟨#[]⟩ : ByteArray), false)) = some (r1, r2) := by rw [if_pos rfl] at H; exact H
    simp only [aV, aW] at H
    obtain ⟨rfl, rfl⟩ := H
    go_wp2
    go_ret2
    exact ⟨by first | rfl | (simp [*, errW_none, errW_some] <;> rfl), HB.out⟩
   ·replace c18 := Bool.eq_false_iff.mpr c18
    subst c18
    replace H : ((impl_lcm.f kj4 (t341.length : Int) (t349.length : Int)).bind fun t354 => ((impl_made.f kj4 200 t354 (fun n_ => impl_sums.f kj4 t338 t341 t346 t349 n_)).bind fun bt355 => (some (bt355.1, bt355.2)))) = some (r1, r2) := by rw [if_neg (show ¬ (false = true) by decide)] at H; exact H
    replace H := Option.bind_eq_some_iff.mp H
    obtain ⟨t354, A190, H⟩ := H
    replace H : ((impl_made.f kj4 200 t354 (fun n_ => impl_sums.f kj4 t338 t341 t346 t349 n_)).bind fun bt355 => (some (bt355.1, bt355.2))) = some (r1, r2) := H
    have A19 := aM A190
    clear A190
    replace H := Option.bind_eq_some_iff.mp H
    obtain ⟨⟨t355, t356⟩, A200, H⟩ := H
    replace H : (some (t355, t356)) = some (r1, r2) := H
    have A20 := aM A200
    clear A200
    simp only [aV, aW] at H
    obtain ⟨rfl, rfl⟩ := H
    have hcz22_1 : wc.cell? ⟨gb345, 1, none⟩ = some (.slice Ao10 t341.length co10) := (aA BK345.out 1).trans rfl
    have hcz23_1 : wc.cell? ⟨gb353, 1, none⟩ = some (.slice Ao16 t349.length co16) := (aA BK353.out 1).trans rfl
    go_wp2_with (first | ((with_reducible refine aY (f := 68) rfl ?_); refine gL 32 Try.func68 #[.int .i64 (t341.length : Int), .int .i64 (t349.length : Int)] ?_; (with_reducible refine (impl_lcm.calls kj4 (t341.length : Int) (t349.length : Int) t354 _ A19.out).mono ?_); rintro e w' ⟨rfl, ⟨nd, rfl⟩⟩; refine ⟨_, rfl, ?_⟩) | ((with_reducible refine aY (f := 67) rfl ?_); refine gL 34 Try.func67 #[.int .i64 200, .int .i64 t354, .func (.func 69) #[] #[.pointer (some ⟨gb345, 0, none⟩), .pointer (some ⟨gb353, 0, none⟩)]] ?_; refine (impl_made.calls kj4 200 t354 (fun n_ => impl_sums.f kj4 t338 t341 t346 t349 n_) 69 #[.pointer (some ⟨gb345, 0, none⟩), .pointer (some ⟨gb353, 0, none⟩)] t355 t356 _ (fun args_ w_ => enters_ Try.func69 (by kernel_rfl) rfl args_ w_) ?hpx A20.out).mono ?_; (case hpx => intro n_ b_ W_ hW_ hb_; refine impl_SumOf.lit kj4 gb345 gb353 Ao8 co8 t338 Ao10 co10 t341 Ao13 co13 t346 Ao16 co16 t349 n_ b_ W_ (aD (by (with_reducible repeat (refine kN ?_ _)); exact BK345.out) hW_) (aD (by (with_reducible repeat (refine kN ?_ _)); exact BK353.out) hW_) ?q0 ?q1 ?q2 ?q3 ?q4 ?q5 ?q6 ?q7 hb_; all_goals (first | exact bF (by repeat (first | exact (bM HO_346000.out).2.2 | exact (bM HO_346001.out).2.2 | exact (bM HO_354000.out).2.2 | exact (bM HO_354001.out).2.2)) hW_ | exact (bM HO_346000.out).2.1 | exact (bM HO_346001.out).2.1 | exact (bM HO_354000.out).2.1 | exact (bM HO_354001.out).2.1)); rintro e w24 ⟨rfl, hb⟩; refine ⟨_, rfl, ?_⟩; replace HB := aM (aE (by repeat (first | (with_reducible first | exact HB.out | apply bN))) hb); (try clear hb)))
    go_ret2
    exact ⟨by first | rfl | (simp [*, errW_none, errW_some] <;> rfl), HB.out⟩


def impl_MakeBoth.f (k : Nat) (a0 a1 : ByteArray) : Option (ByteArray × Bool) := impl_pair.f k a0 a1 (fun a b => a && b)
set_option maxHeartbeats 1000000 in
set_option maxRecDepth 100000 in
theorem impl_MakeBoth.two (w : World) : impl_pair.Two w 71 (fun a b => a && b) := by
 intro a b W hw
 clear hw
 cases a with
 | false =>
  go_enter Try.func71, Try.ntmps71
  go_wp2
  go_ret
  exact ⟨rfl, cE _ _⟩
 | true =>
  go_enter Try.func71, Try.ntmps71
  go_wp2
  go_ret
  exact ⟨rfl, cE _ _⟩
set_option maxHeartbeats 1000000 in
set_option maxRecDepth 100000 in
theorem impl_MakeBoth.calls (k : Nat) (a0 : ByteArray) (a1 : ByteArray) (r1 : ByteArray) (r2 : Bool) (w : World) (h : impl_MakeBoth.f k a0 a1 = some (r1, r2)) :
  Calls Try.prog 49 #[.string a0, .string a1] w fun e w' => e = .returned (.tuple #[.string r1, .bool r2]) ∧ Below w.heap.size w w' := by
 have C := impl_pair.calls k a0 a1 71 _ r1 r2 w (fun args_ w_ => enters_ Try.func71 (by kernel_rfl) rfl args_ w_) (impl_MakeBoth.two w) h
 clear h
 go_enter Try.func49, Try.ntmps49
 go_wp2_with (go_at_call 64; refine C.mono ?_; rintro e w' ⟨rfl, hb⟩)
 go_ret2
 exact ⟨rfl, hb⟩

mutual
def impl_SumTimes.j0 : Nat → ByteArray → Int → Bool → Option (ByteArray × Bool)
 | 0, _, _, _ => none
 | k + 1, x0, x1, x21 => if x21 = true then (some ((⟨#[]⟩ : ByteArray), false)) else (impl_SumTimes.l0 k x0 (⟨#[49, 40, 48, 41]⟩ : ByteArray) x1 0)
def impl_SumTimes.l0 : Nat → ByteArray → ByteArray → Int → Int → Option (ByteArray × Bool)
 | 0, _, _, _, _ => none
 | k + 1, x0, x8, x22, x23 => if x23 < x22 then ((impl_SumOf.f k x8 x0).bind fun bt366 => (if bt366.2 = true then (impl_SumTimes.l0 k x0 bt366.1 x22 (wrap64 (x23 + 1))) else (some ((⟨#[]⟩ : ByteArray), false)))) else (some (x8, true))
end
def impl_SumTimes.f (k : Nat) (a0 : ByteArray) (a1 : Int) : Option (ByteArray × Bool) := (impl_small.f k a0).bind fun bt357 => (if bt357.2.2 = true then ((impl_in.f a1 0 6).bind fun t365 => (impl_SumTimes.j0 k a0 a1 (!t365))) else (impl_SumTimes.j0 k a0 a1 true))
set_option maxHeartbeats 8000000 in
set_option maxRecDepth 100000 in
theorem impl_SumTimes.calls (k : Nat) (a0 : ByteArray) (a1 : Int) (r1 : ByteArray) (r2 : Bool) (w : World) (h : impl_SumTimes.f k a0 a1 = some (r1, r2)) :
  Calls Try.prog 50 #[.string a0, .int .i64 a1] w fun e w' => e = .returned (.tuple #[.string r1, .bool r2]) ∧ Below w.heap.size w w' := by
 have HB := aM (cE w.heap.size w)
 have H : ((impl_small.f k a0).bind fun bt357 => (if bt357.2.2 = true then ((impl_in.f a1 0 6).bind fun t365 => (impl_SumTimes.j0 k a0 a1 (!t365))) else (impl_SumTimes.j0 k a0 a1 true))) = some (r1, r2) := h
 clear h
 replace H := Option.bind_eq_some_iff.mp H
 obtain ⟨⟨t357, t360, t363⟩, A30, H⟩ := H
 replace H : (if t363 = true then ((impl_in.f a1 0 6).bind fun t365 => (impl_SumTimes.j0 k a0 a1 (!t365))) else (impl_SumTimes.j0 k a0 a1 true)) = some (r1, r2) := H
 have A3 := aM A30
 clear A30
 have HC4 := aM H
 clear H
 go_enter Try.func50, Try.ntmps50
 go_upto_region 2 with (first | ((with_reducible refine aY (f := 66) rfl ?_); refine gL 12 Try.func66 #[.string a0] ?_; (with_reducible refine (impl_small.calls k a0 t357 t360 t363 _ A3.out).mono ?_); rintro e w5 ⟨v358, v361, rfl, ho0, ho1, hb⟩; refine ⟨_, rfl, ?_⟩; have HO359 := aM (bP ho0 (aG HB.out)); have HO362 := aM (bP ho1 (aG HB.out)); replace HB := aM (aE HB.out hb); (try clear hb); (try clear ho0); (try clear ho1)) | ((with_reducible refine aZ (N := 6) rfl ?_); refine bB ?hg (N := 6) ?hd (cs := #[.slice none 0 0, .slice none 0 0]) (t := 56) ?hr ?_; (case hd => rfl); (case hg => rfl); (case hr => first | (go_simp; done)); intro gb364 hg w6 hbox hb; replace HO359 := aM (bG HO359.out hb); replace HO362 := aM (bG HO362.out hb); have BK364 := aM hbox; have GE364 := aM ((by rw [hg]; exact (aG HB.out) : w.heap.size ≤ gb364)); replace HB := aM (aE HB.out hb); clear hb hbox hg; obtain ⟨Ao7, co7, eo7⟩ := bL HO359.out; subst eo7; have hcz8_0 : w6.cell? ⟨gb364, 0, none⟩ = some (.slice none 0 0) := (aA BK364.out 0).trans rfl; have hcz8_1 : w6.cell? ⟨gb364, 1, none⟩ = some (.slice none 0 0) := (aA BK364.out 1).trans rfl; have hfz8_0 := aC BK364.out 0; have hfz8_1 := aC BK364.out 1; obtain ⟨Ao9, co9, eo9⟩ := bL HO362.out; subst eo9))
 go_cut [21] (fun v21 wc => ∃ (kq : Nat) (x21_3 : Bool), v21 = .bool x21_3 ∧ Aside0 (impl_SumTimes.j0 kq a0 a1 x21_3 = some (r1, r2)) ∧ Aside0 (kq ≤ k) ∧ Aside0 (Kd.R Kd.bool 4 wc w.heap.size (fun k_ => some k_ ≠ ((.slice Ao9 t360.length co9) : Value).ownBlock) (.slice Ao7 t357.length co7) t357) ∧ Aside0 (Kd.R Kd.bool 4 wc w.heap.size (fun k_ => some k_ ≠ ((.slice Ao7 t357.length co7) : Value).ownBlock) (.slice Ao9 t360.length co9) t360) ∧ Aside0 (wc.heap[gb364]? = some (.cells #[(.slice Ao7 t357.length co7), (.slice Ao9 t360.length co9)] 56 (0, 0))) ∧ Aside0 (Below w.heap.size w wc))
 case first =>
  have H := HC4.out
  clear HC4
  by_cases c10 : t363 = true
  ·subst c10
   replace H : ((impl_in.f a1 0 6).bind fun t365 => (impl_SumTimes.j0 k a0 a1 (!t365))) = some (r1, r2) := by rw [if_pos rfl] at H; exact H
   replace H := Option.bind_eq_some_iff.mp H
   obtain ⟨t365, A110, H⟩ := H
   replace H : (impl_SumTimes.j0 k a0 a1 (!t365)) = some (r1, r2) := H
   have A11 := aM A110
   clear A110
   have H' := aM H
   clear H
   go_wp2_with (first | (go_at_call 26; (with_reducible refine (impl_in.calls a1 0 6 t365 _ A11.out).mono ?_); rintro e w' ⟨rfl, ⟨nd, rfl⟩⟩))
   go_meet
   case rel => exact ⟨_, (!t365), (by rfl), H', ⟨by omega⟩, ⟨by (with_reducible repeat (apply rN)); exact bJ (bC (p := ⟨gb364, 1, none⟩) (bC (p := ⟨gb364, 0, none⟩) (bE HO359.out BK364.out (by decide)) (fun _ hk => hk.2) (.slice Ao7 t357.length co7)) (fun _ hk => hk.2) (.slice Ao9 t360.length co9)) (fun _ hk => hk.1)⟩, ⟨by (with_reducible repeat (apply rN)); exact bJ (bC (p := ⟨gb364, 1, none⟩) (bC (p := ⟨gb364, 0, none⟩) (bE HO362.out BK364.out (by decide)) (fun _ hk => hk.2) (.slice Ao7 t357.length co7)) (fun _ hk => hk.2) (.slice Ao9 t360.length co9)) (fun _ hk => hk.1)⟩, ⟨by (with_reducible repeat (refine kN ?_ _)); refine bV (cs := #[.slice Ao7 t357.length co7, .slice none 0 0]) ?_ 1 _ rfl; refine bV (cs := #[.slice none 0 0, .slice none 0 0]) ?_ 0 _ rfl; exact BK364.out⟩, ⟨by repeat (first | (with_reducible first | exact HB.out | apply bN | refine bS ?_ GE364.out))⟩⟩
  ·replace c10 := Bool.eq_false_iff.mpr c10
   subst c10
   replace H : (impl_SumTimes.j0 k a0 a1 true) = some (r1, r2) := by rw [if_neg (show ¬ (false = true) by decide)] at H; exact H
   have H' := aM H
   clear H
   go_wp2
   go_meet
   case rel => exact ⟨_, (true), (by rfl), H', ⟨by omega⟩, ⟨by exact bJ (bC (p := ⟨gb364, 1, none⟩) (bC (p := ⟨gb364, 0, none⟩) (bE HO359.out BK364.out (by decide)) (fun _ hk => hk.2) (.slice Ao7 t357.length co7)) (fun _ hk => hk.2) (.slice Ao9 t360.length co9)) (fun _ hk => hk.1)⟩, ⟨by exact bJ (bC (p := ⟨gb364, 1, none⟩) (bC (p := ⟨gb364, 0, none⟩) (bE HO362.out BK364.out (by decide)) (fun _ hk => hk.2) (.slice Ao7 t357.length co7)) (fun _ hk => hk.2) (.slice Ao9 t360.length co9)) (fun _ hk => hk.1)⟩, ⟨by refine bV (cs := #[.slice Ao7 t357.length co7, .slice none 0 0]) ?_ 1 _ rfl; refine bV (cs := #[.slice none 0 0, .slice none 0 0]) ?_ 0 _ rfl; exact BK364.out⟩, ⟨by repeat (first | (with_reducible first | exact HB.out | refine bS ?_ GE364.out))⟩⟩
 case rest =>
  clear HC4
  try clear hcz8_0
  try clear hcz8_1
  try clear hfz8_0
  try clear hfz8_1
  obtain ⟨kq, x21_3, rfl, HA, HJ3, HO_365000, HO_365001, BK364, HB⟩ := hcut
  cases kq with
  | zero => exact absurd HA.out (by simp [impl_SumTimes.j0])
  | succ kj3 =>
   have H := HA.out
   clear HA
   simp only [impl_SumTimes.j0] at H
   by_cases c12 : x21_3 = true
   ·subst c12
    replace H : (some ((⟨#[]⟩ : ByteArray), false)) = some (r1, r2) := by rw [if_pos rfl] at H; exact H
    simp only [aV, aW] at H
    obtain ⟨rfl, rfl⟩ := H
    go_wp2
    go_ret2
    exact ⟨by first | rfl | (simp [*, errW_none, errW_some] <;> rfl), HB.out⟩
   ·replace c12 := Bool.eq_false_iff.mpr c12
    subst c12
    replace H : (impl_SumTimes.l0 kj3 a0 (⟨#[49, 40, 48, 41]⟩ : ByteArray) a1 0) = some (r1, r2) := by rw [if_neg (show ¬ (false = true) by decide)] at H; exact H
    have H' := aM H
    clear H
    go_wp2
    go_loopg [8, 23] kj3 (fun kq v8 v23 w' => ∃ (x8_2 : ByteArray) (x23_2 : Int), v8 = .string x8_2 ∧ v23 = .int .i64 x23_2 ∧ Aside0 (impl_SumTimes.l0 kq a0 x8_2 a1 x23_2 = some (r1, r2)) ∧ Aside0 (kq ≤ kj3) ∧ Aside0 (Kd.R Kd.bool 4 w' w.heap.size (fun k_ => some k_ ≠ ((.slice Ao9 t360.length co9) : Value).ownBlock) (.slice Ao7 t357.length co7) t357) ∧ Aside0 (Kd.R Kd.bool 4 w' w.heap.size (fun k_ => some k_ ≠ ((.slice Ao7 t357.length co7) : Value).ownBlock) (.slice Ao9 t360.length co9) t360) ∧ Aside0 (w'.heap[gb364]? = some (.cells #[(.slice Ao7 t357.length co7), (.slice Ao9 t360.length co9)] 56 (0, 0))) ∧ Aside0 (Below w.heap.size w w'))
    case atStart => exact ⟨((⟨#[49, 40, 48, 41]⟩ : ByteArray)), (0), (by rfl), (by rfl), H', ⟨cD _⟩, ⟨by exact HO_365000.out⟩, ⟨by exact HO_365001.out⟩, ⟨by exact BK364.out⟩, ⟨HB.out⟩⟩
    case round =>
     clear H'
     obtain ⟨x8_2, x23_2, rfl, rfl, HA, HK2, HO_365000, HO_365001, BK364, HB⟩ := hrel
     cases gk with
     | zero => exact absurd HA.out (by simp [impl_SumTimes.l0])
     | succ k2 =>
      have H := HA.out
      clear HA
      simp only [impl_SumTimes.l0] at H
      by_cases c13 : x23_2 < a1
      ·rw [if_pos c13] at H
       have c13b0 : decide (x23_2 < a1) = true := aH c13
       clear c13
       replace H := Option.bind_eq_some_iff.mp H
       obtain ⟨⟨t366, t367⟩, A140, H⟩ := H
       replace H : (if t367 = true then (impl_SumTimes.l0 k2 a0 t366 a1 (wrap64 (x23_2 + 1))) else (some ((⟨#[]⟩ : ByteArray), false))) = some (r1, r2) := H
       have A14 := aM A140
       clear A140
       by_cases c15 : t367 = true
       ·subst c15
        replace H : (impl_SumTimes.l0 k2 a0 t366 a1 (wrap64 (x23_2 + 1))) = some (r1, r2) := by rw [if_pos rfl] at H; exact H
        have H' := aM H
        clear H
        go_wp2_with (first | ((with_reducible refine aY (f := 48) rfl ?_); refine gL 28 Try.func48 #[.string x8_2, .string a0] ?_; (with_reducible refine (impl_SumOf.calls k2 x8_2 a0 t366 true _ A14.out).mono ?_); rintro e w16 ⟨rfl, hb⟩; refine ⟨_, rfl, ?_⟩; replace HO_365000 := aM (bG HO_365000.out hb); replace HO_365001 := aM (bG HO_365001.out hb); replace BK364 := aM (aD (g := gb364) (o := .cells #[.slice Ao7 t357.length co7, .slice Ao9 t360.length co9] 56 (0, 0)) BK364.out hb); replace HB := aM (aE HB.out hb); (try clear hb)))
        go_roundg k2
        case measure => have := HJ3.out; have := HK2.out; omega
        case rel => exact ⟨(t366), (wrap64 (x23_2 + 1)), (by rfl), (by rfl), H', ⟨by have := HJ3.out; have := HK2.out; omega⟩, ⟨by exact HO_365000.out⟩, ⟨by exact HO_365001.out⟩, ⟨by exact BK364.out⟩, ⟨HB.out⟩⟩
       ·replace c15 := Bool.eq_false_iff.mpr c15
        subst c15
        replace H : (some ((⟨#[]⟩ : ByteArray), false)) = some (r1, r2) := by rw [if_neg (show ¬ (false = true) by decide)] at H; exact H
        simp only [aV, aW] at H
        obtain ⟨rfl, rfl⟩ := H
        go_wp2_with (first | ((with_reducible refine aY (f := 48) rfl ?_); refine gL 28 Try.func48 #[.string x8_2, .string a0] ?_; (with_reducible refine (impl_SumOf.calls k2 x8_2 a0 t366 false _ A14.out).mono ?_); rintro e w17 ⟨rfl, hb⟩; refine ⟨_, rfl, ?_⟩; replace HB := aM (aE HB.out hb); (try clear hb)))
        go_ret2
        exact ⟨by first | rfl | (simp [*, errW_none, errW_some] <;> rfl), HB.out⟩
      ·rw [if_neg c13] at H
       have c13b0 : decide (x23_2 < a1) = false := aK c13
       clear c13
       simp only [aV, aW] at H
       obtain ⟨rfl, rfl⟩ := H
       go_wp2
       go_ret2
       exact ⟨by first | rfl | (simp [*, errW_none, errW_some] <;> rfl), HB.out⟩


/-- A term: a sign, a sign and a term, a sign and two terms. -/
inductive Tm where
 | leaf (c : Int)
 | un (c : Int) (a : Tm)
 | bin (c : Int) (a b : Tm)
/-- A term in memory, in blocks from lo on, below hi. -/
def Tm.At (w : World) (lo hi : Nat) : Tm → Value → Prop
 | .leaf c, v => ∃ g, lo ≤ g ∧ g < hi ∧ v = .pointer (some ⟨g, 0, none⟩) ∧ w.heap[g]? = some (.cells #[.int .u8 c, .slice none 0 0] 72 (0, 0))
 | .un c a, v => ∃ g h n cs x, lo ≤ g ∧ g < hi ∧ lo ≤ h ∧ h < hi ∧ v = .pointer (some ⟨g, 0, none⟩) ∧ w.heap[g]? = some (.cells #[.int .u8 c, .slice (some ⟨h, 0, none⟩) 1 n] 72 (0, 0)) ∧ w.heap[h]? = some (.cells cs 42 (0, 0)) ∧ cs[0]? = some x ∧ a.At w lo hi x
 | .bin c a b, v => ∃ g h n cs x y, lo ≤ g ∧ g < hi ∧ lo ≤ h ∧ h < hi ∧ v = .pointer (some ⟨g, 0, none⟩) ∧ w.heap[g]? = some (.cells #[.int .u8 c, .slice (some ⟨h, 0, none⟩) 2 n] 72 (0, 0)) ∧ w.heap[h]? = some (.cells cs 42 (0, 0)) ∧ cs[0]? = some x ∧ cs[1]? = some y ∧ a.At w lo hi x ∧ b.At w lo hi y
theorem Tm.At.keep {w w' : World} {lo hi : Nat} (hk : ∀ i, lo ≤ i → i < hi → w'.heap[i]? = w.heap[i]?) : ∀ {t : Tm} {v : Value}, t.At w lo hi v → t.At w' lo hi v := by
 intro t
 induction t with
 | leaf c => rintro v ⟨g, h1, h2, rfl, h3⟩; exact ⟨g, h1, h2, rfl, (hk g h1 h2).trans h3⟩
 | un c a ih => rintro v ⟨g, h, n, cs, x, h1, h2, h3, h4, rfl, h5, h6, h7, h8⟩; exact ⟨g, h, n, cs, x, h1, h2, h3, h4, rfl, (hk g h1 h2).trans h5, (hk h h3 h4).trans h6, h7, ih h8⟩
 | bin c a b ih1 ih2 => rintro v ⟨g, h, n, cs, x, y, h1, h2, h3, h4, rfl, h5, h6, h7, h8, h9, h10⟩; exact ⟨g, h, n, cs, x, y, h1, h2, h3, h4, rfl, (hk g h1 h2).trans h5, (hk h h3 h4).trans h6, h7, h8, ih1 h9, ih2 h10⟩
theorem Tm.At.below {w w' : World} {lo hi : Nat} (hb : Below w.heap.size w w') : ∀ {t : Tm} {v : Value}, t.At w lo hi v → t.At w' lo hi v := by
 intro t
 induction t with
 | leaf c => rintro v ⟨g, h1, h2, rfl, h3⟩; exact ⟨g, h1, h2, rfl, aD h3 hb⟩
 | un c a ih => rintro v ⟨g, h, n, cs, x, h1, h2, h3, h4, rfl, h5, h6, h7, h8⟩; exact ⟨g, h, n, cs, x, h1, h2, h3, h4, rfl, aD h5 hb, aD h6 hb, h7, ih h8⟩
 | bin c a b ih1 ih2 => rintro v ⟨g, h, n, cs, x, y, h1, h2, h3, h4, rfl, h5, h6, h7, h8, h9, h10⟩; exact ⟨g, h, n, cs, x, y, h1, h2, h3, h4, rfl, aD h5 hb, aD h6 hb, h7, h8, ih1 h9, ih2 h10⟩
theorem Tm.At.mono {w : World} {lo hi lo' hi' : Nat} (hl : lo' ≤ lo) (hh : hi ≤ hi') : ∀ {t : Tm} {v : Value}, t.At w lo hi v → t.At w lo' hi' v := by
 intro t
 induction t with
 | leaf c => rintro v ⟨g, h1, h2, rfl, h3⟩; exact ⟨g, by omega, by omega, rfl, h3⟩
 | un c a ih => rintro v ⟨g, h, n, cs, x, h1, h2, h3, h4, rfl, h5, h6, h7, h8⟩; exact ⟨g, h, n, cs, x, by omega, by omega, by omega, by omega, rfl, h5, h6, h7, ih h8⟩
 | bin c a b ih1 ih2 => rintro v ⟨g, h, n, cs, x, y, h1, h2, h3, h4, rfl, h5, h6, h7, h8, h9, h10⟩; exact ⟨g, h, n, cs, x, y, by omega, by omega, by omega, by omega, rfl, h5, h6, h7, h8, ih1 h9, ih2 h10⟩
theorem Tm.At.ptr {w : World} {lo hi : Nat} {t : Tm} {v : Value} (h : t.At w lo hi v) : ∃ g, lo ≤ g ∧ g < hi ∧ v = .pointer (some ⟨g, 0, none⟩) := by
 cases t with
 | leaf c => obtain ⟨g, h1, h2, h3, _⟩ := h; exact ⟨g, h1, h2, h3⟩
 | un c a => obtain ⟨g, _, _, _, _, h1, h2, _, _, h3, _⟩ := h; exact ⟨g, h1, h2, h3⟩
 | bin c a b => obtain ⟨g, _, _, _, _, _, h1, h2, _, _, h3, _⟩ := h; exact ⟨g, h1, h2, h3⟩
/-- What is taken from the beginning of a text: a term, and what is left. -/
def Tm.parse : Nat → ByteArray → Option (Tm × ByteArray)
 | 0, _ => none
 | n + 1, s =>
  if s.size = 0 then none
  else if bt s 0 = 48 ∨ bt s 0 = 49 ∨ bt s 0 = 97 then some (.leaf (bt s 0), s.extract 1 s.size)
  else if bt s 0 = 42 ∨ (50 ≤ bt s 0 ∧ bt s 0 ≤ 53) then (Tm.parse n (s.extract 1 s.size)).bind fun x => some (.un (bt s 0) x.1, x.2)
  else if bt s 0 = 40 then (Tm.parse n (s.extract 1 s.size)).bind fun x => if x.2.size = 0 then none else if bt x.2 0 = 43 ∨ bt x.2 0 = 46 ∨ bt x.2 0 = 38 then
    (Tm.parse n (x.2.extract 1 x.2.size)).bind fun y => if y.2.size = 0 then none else if bt y.2 0 = 41 then some (.bin (bt x.2 0) x.1 y.1, y.2.extract 1 y.2.size) else none
   else none
  else none
theorem impl_parse.isEmpty (s : ByteArray) : s.toList.isEmpty = decide (s.size = 0) := by
 rw [Lib.toList_data, show s.size = s.data.toList.length from Array.length_toList.symm]
 cases s.data.toList <;> simp
set_option maxHeartbeats 2000000 in
set_option maxRecDepth 100000 in
theorem impl_parse.empty (s : ByteArray) (w : World) (h : s.size = 0) : Calls Try.prog 39 #[.string s] w fun e w' => e = .returned (.tuple #[.pointer none, .string ⟨#[]⟩]) ∧ Below w.heap.size w w' := by
 have h0 : s.toList.isEmpty = true := by rw [impl_parse.isEmpty, aH h]
 go_enter Try.func39, Try.ntmps39
 go_wp2
 go_ret2
 exact ⟨rfl, cE _ _⟩
set_option maxHeartbeats 2000000 in
set_option maxRecDepth 100000 in
theorem impl_parse.leaf (s : ByteArray) (w : World) (h : ¬ s.size = 0) (c : Int) (hc : bt s 0 = c) (hs : c = 48 ∨ c = 49 ∨ c = 97) : Calls Try.prog 39 #[.string s] w fun e w' => ∃ v, e = .returned (.tuple #[v, .string (s.extract 1 s.size)]) ∧ (Tm.leaf c).At w' w.heap.size w'.heap.size v ∧ Below w.heap.size w w' := by
 have h0 : s.toList.isEmpty = false := by rw [impl_parse.isEmpty, aK h]
 have hsz : 0 < s.size := by omega
 have hx : ∀ h : 0 < s.size, ((s[0]'h).toNat : Int) = c := fun h' => by rw [← hc]; exact bt_at s 0 h'
 clear hc h
 rcases hs with rfl | rfl | rfl
 all_goals
  go_enter Try.func39, Try.ntmps39
  go_wp2
  go_region
  try go_wp2
  go_ret2
  exact ⟨_, rfl, ⟨w.heap.size, cD _, by simp, rfl, kD (blk_new w _)⟩, b1 (bA (cE _ _) _)⟩
/-- What no term begins with. -/
theorem impl_parse.bad (s : ByteArray) (w : World) (h : ¬ s.size = 0) (c : Int) (hc : bt s 0 = c) (hs : ¬ (c = 48 ∨ c = 49 ∨ c = 97)) (hs2 : ¬ (c = 42 ∨ (50 ≤ c ∧ c ≤ 53))) (hs3 : ¬ c = 40) : Calls Try.prog 39 #[.string s] w fun e w' => e = .returned (.tuple #[.pointer none, .string ⟨#[]⟩]) ∧ Below w.heap.size w w' := by
 have h0 : s.toList.isEmpty = false := by rw [impl_parse.isEmpty, aK h]
 have hsz : 0 < s.size := by omega
 have hr := bt_range s 0
 have hx : ∀ h : 0 < s.size, ((s[0]'h).toNat : Int) = c := fun h' => by rw [← hc]; exact bt_at s 0 h'
 have n1 : (c == 48) = false := beq_eq_false_iff_ne.mpr (by omega)
 have n2 : (c == 49) = false := beq_eq_false_iff_ne.mpr (by omega)
 have n3 : (c == 97) = false := beq_eq_false_iff_ne.mpr (by omega)
 have n4 : (c == 42) = false := beq_eq_false_iff_ne.mpr (by omega)
 have n5 : (c == 40) = false := beq_eq_false_iff_ne.mpr (by omega)
 have hw : wrap64 c = c := by unfold wrap64; omega
 have C := aM (fun W => impl_in.calls c 50 53 false W (by unfold impl_in.f; by_cases g : c ≥ 50 <;> simp [g] <;> omega))
 clear hc h hs hs2 hs3 hr
 go_enter Try.func39, Try.ntmps39
 go_wp2_with (go_at_call 26; refine (C.out _).mono ?_; rintro e w' ⟨rfl, hd⟩; have hb := aM (Drawn0.below hd); clear hd)
 go_ret2
 exact ⟨rfl, aE (bA (cE _ _) _) hb.out⟩
/-- A sign and no term. -/
theorem impl_parse.un_no (s : ByteArray) (w : World) (h : ¬ s.size = 0) (c : Int) (hc : bt s 0 = c) (hs : c = 42 ∨ (50 ≤ c ∧ c ≤ 53)) (ih : ∀ W, Calls Try.prog 39 #[.string (s.extract 1 s.size)] W fun e w' => e = .returned (.tuple #[.pointer none, .string ⟨#[]⟩]) ∧ Below W.heap.size W w') :
  Calls Try.prog 39 #[.string s] w fun e w' => e = .returned (.tuple #[.pointer none, .string ⟨#[]⟩]) ∧ Below w.heap.size w w' := by
 have h0 : s.toList.isEmpty = false := by rw [impl_parse.isEmpty, aK h]
 have hsz : 0 < s.size := by omega
 have hr := bt_range s 0
 have hx : ∀ h : 0 < s.size, ((s[0]'h).toNat : Int) = c := fun h' => by rw [← hc]; exact bt_at s 0 h'
 have n1 : (c == 48) = false := beq_eq_false_iff_ne.mpr (by omega)
 have n2 : (c == 49) = false := beq_eq_false_iff_ne.mpr (by omega)
 have n3 : (c == 97) = false := beq_eq_false_iff_ne.mpr (by omega)
 have hw : wrap64 c = c := by unfold wrap64; omega
 have IH := aM ih
 clear ih
 by_cases c42 : c = 42
 ·have n4 : (c == 42) = true := beq_iff_eq.mpr c42
  clear hc h hs hr c42
  go_enter Try.func39, Try.ntmps39
  go_wp2
  refine wp_loop_rounds 2 ?_
  rw [rounds_succ]
  go_wp2_with (go_at_call 39; refine (IH.out _).mono ?_; rintro e w' ⟨rfl, hd⟩; have hb := aM hd; clear hd)
  go_ret2
  exact ⟨rfl, aE (bA (cE _ _) _) hb.out⟩
 ·have n4 : (c == 42) = false := beq_eq_false_iff_ne.mpr c42
  have C := aM (fun W => impl_in.calls c 50 53 true W (by unfold impl_in.f; by_cases g : c ≥ 50 <;> simp [g] <;> omega))
  clear hc h hs hr c42
  go_enter Try.func39, Try.ntmps39
  go_wp2_with (go_at_call 26; refine (C.out _).mono ?_; rintro e w' ⟨rfl, hd⟩; have hb0 := aM (Drawn0.below hd); clear hd)
  refine wp_loop_rounds 2 ?_
  rw [rounds_succ]
  go_wp2_with (go_at_call 39; refine (IH.out _).mono ?_; rintro e w' ⟨rfl, hd⟩; have hb := aM hd; clear hd)
  go_ret2
  exact ⟨rfl, aE (aE (bA (cE _ _) _) hb0.out) hb.out⟩
def impl_parse.ptrK : Kd Nat := Kd.scalar (fun g : Nat => Value.pointer (some ⟨g, 0, none⟩)) (fun _ => rfl)
theorem impl_parse.infoP : (Try.prog.info? 42).map (fun i => (i.zero, i.size, i.bytes)) = some (some (.pointer none), 1, 8) := by kernel_rfl
/-- A row of pointers, cell by cell. -/
theorem impl_parse.row {w : World} {base : Nat} {ok : Nat → Prop} {v : Value} {xs : List Nat} (h : impl_parse.ptrK.R 42 w base ok v xs) (hp : 0 < xs.length) : ∃ h n cs, v = .slice (some ⟨h, 0, none⟩) xs.length n ∧ base ≤ h ∧ h < w.heap.size ∧ w.heap[h]? = some (.cells cs 42 (0, 0)) ∧ ∀ i, i < xs.length → cs[i]? = some (.pointer (some ⟨xs.getD i 0, 0, none⟩)) := by
 obtain ⟨g, cap, rfl, h1, h2, cells, h3⟩ := cQ h hp
 refine ⟨g, cap, cells, rfl, h1, h2, h3, fun i hi => ?_⟩
 obtain ⟨ad, c, e, _, hk, hc⟩ := Kd.C_get (bM h).2.2 (0 : Nat) (i : Int) (by omega) (by omega)
 obtain rfl := bU e
 have hk' : c = [Value.pointer (some ⟨xs.getD i 0, 0, none⟩)] := hk
 have := hc 0 (.pointer (some ⟨xs.getD i 0, 0, none⟩)) (by rw [hk']; rfl)
 rw [show ((i : Int).toNat * impl_parse.ptrK.sz + 0) = i by simp [impl_parse.ptrK, Kd.scalar], add_plain, aA h3] at this
 exact this
theorem impl_parse.row1 {w : World} {base : Nat} {ok : Nat → Prop} {v : Value} {p : Nat} (h : impl_parse.ptrK.R 42 w base ok v [p]) : ∃ h n cs, v = .slice (some ⟨h, 0, none⟩) 1 n ∧ base ≤ h ∧ h < w.heap.size ∧ w.heap[h]? = some (.cells cs 42 (0, 0)) ∧ cs[0]? = some (.pointer (some ⟨p, 0, none⟩)) := by
 obtain ⟨h, n, cs, h1, h2, h3, h4, h5⟩ := impl_parse.row h (by simp)
 exact ⟨h, n, cs, h1, h2, h3, h4, h5 0 (by simp)⟩
theorem impl_parse.row2 {w : World} {base : Nat} {ok : Nat → Prop} {v : Value} {p q : Nat} (h : impl_parse.ptrK.R 42 w base ok v [p, q]) : ∃ h n cs, v = .slice (some ⟨h, 0, none⟩) 2 n ∧ base ≤ h ∧ h < w.heap.size ∧ w.heap[h]? = some (.cells cs 42 (0, 0)) ∧ cs[0]? = some (.pointer (some ⟨p, 0, none⟩)) ∧ cs[1]? = some (.pointer (some ⟨q, 0, none⟩)) := by
 obtain ⟨h, n, cs, h1, h2, h3, h4, h5⟩ := impl_parse.row h (by simp)
 exact ⟨h, n, cs, h1, h2, h3, h4, h5 0 (by simp), h5 1 (by simp)⟩
theorem impl_parse.un_at {w w1 W : World} {g h n lo : Nat} {c : Int} {cs : Array Value} {a : Tm} {x : Value} (hg : g = w.heap.size) (HB : Below w.heap.size w w1) (hlo : g < lo) (HAT : a.At w1 lo w1.heap.size x) (HG : Below w1.heap.size w1 W)
  (BR : W.heap[g]? = some (.cells #[.int .u8 c, .slice none 0 0] 72 (0, 0))) (hb : w1.heap.size ≤ h) (RR : W.heap[h]? = some (.cells cs 42 (0, 0))) (RX : cs[0]? = some x) :
  (Tm.un c a).At (W.setCell ⟨g, 1, none⟩ (.slice (some ⟨h, 0, none⟩) 1 n)) w.heap.size (W.setCell ⟨g, 1, none⟩ (.slice (some ⟨h, 0, none⟩) 1 n)).heap.size (.pointer (some ⟨g, 0, none⟩)) ∧ Below w.heap.size w (W.setCell ⟨g, 1, none⟩ (.slice (some ⟨h, 0, none⟩) 1 n)) := by
 have s1 := HB.size
 have s2 := HG.size
 have l1 := blk_lt BR
 have l2 := blk_lt RR
 have far : ∀ i, i ≠ g → (W.setCell ⟨g, 1, none⟩ (.slice (some ⟨h, 0, none⟩) 1 n)).heap[i]? = W.heap[i]? := fun i hi => Below.heap_setCell W ⟨g, 1, none⟩ _ i hi
 have hs : (W.setCell ⟨g, 1, none⟩ (.slice (some ⟨h, 0, none⟩) 1 n)).heap.size = W.heap.size := by simp [World.setCell]
 have hat := HAT.keep (w' := W.setCell ⟨g, 1, none⟩ (.slice (some ⟨h, 0, none⟩) 1 n)) (fun i h1 h2 => (far i (by omega)).trans (HG.block i h2))
 by_cases hgl : g < w1.heap.size
 ·refine ⟨⟨g, h, n, cs, x, by omega, by omega, by omega, by omega, rfl, cM BR 1 _, (far h (by omega)).trans RR, RX, hat.mono (by omega) (by omega)⟩, (HB.trans ⟨HG.os, HG.tape, HG.output, HG.size, fun i hi => HG.block i (by omega)⟩).setCell (p := ⟨g, 1, none⟩) (by show w.heap.size ≤ g; omega) _⟩
 ·obtain ⟨p, p1, p2, _⟩ := HAT.ptr
  omega
set_option maxHeartbeats 4000000 in
set_option maxRecDepth 100000 in
theorem impl_parse.un_yes (s : ByteArray) (w : World) (h : ¬ s.size = 0) (c : Int) (hc : bt s 0 = c) (hs : c = 42 ∨ (50 ≤ c ∧ c ≤ 53)) (a : Tm) (r : ByteArray) (ih : ∀ W, Calls Try.prog 39 #[.string (s.extract 1 s.size)] W fun e w' => ∃ v, e = .returned (.tuple #[v, .string r]) ∧ a.At w' W.heap.size w'.heap.size v ∧ Below W.heap.size W w') :
  Calls Try.prog 39 #[.string s] w fun e w' => ∃ v, e = .returned (.tuple #[v, .string r]) ∧ (Tm.un c a).At w' w.heap.size w'.heap.size v ∧ Below w.heap.size w w' := by
 have h0 : s.toList.isEmpty = false := by rw [impl_parse.isEmpty, aK h]
 have hsz : 0 < s.size := by omega
 have hr := bt_range s 0
 have hx : ∀ h : 0 < s.size, ((s[0]'h).toNat : Int) = c := fun h' => by rw [← hc]; exact bt_at s 0 h'
 have n1 : (c == 48) = false := beq_eq_false_iff_ne.mpr (by omega)
 have n2 : (c == 49) = false := beq_eq_false_iff_ne.mpr (by omega)
 have n3 : (c == 97) = false := beq_eq_false_iff_ne.mpr (by omega)
 have hw : wrap64 c = c := by unfold wrap64; omega
 have IH := aM ih
 clear ih
 by_cases c42 : c = 42
 ·have n4 : (c == 42) = true := beq_iff_eq.mpr c42
  clear hc h hs hr c42
  go_enter Try.func39, Try.ntmps39
  go_wp2
  refine wp_loop_rounds 2 ?_
  rw [rounds_succ]
  go_wp2_with (first | (go_at_call 39; refine (IH.out _).mono ?_; rintro e w1 ⟨v1, rfl, hat, hb⟩; obtain ⟨p1, hp1, hq1, rfl⟩ := hat.ptr; have HAT1 := aM hat; have BT1 := aM (aD (blk_new w (.cells #[.int .u8 c, .slice none 0 0] 72)) hb); have HB1 := aM (aE (bA (cE _ w) (.cells #[.int .u8 c, .slice none 0 0] 72)) hb); have e11 := aA BT1.out 1; clear hat hb) | ((with_reducible refine gate_builtin (b := .append) (xs := #[.tmp 65, .tmp 67]) rfl ?_); at_builtin; refine Kd.R_append impl_parse.ptrK (w0 := w1) w1.heap.size rfl (.tmp 65) (.tmp 67) 70 42 (.pointer none) 8 rfl Try.underlying70 impl_parse.infoP rfl (by decide) (by omega) (.slice none 0 0) ([] : List Nat) p1 [.pointer (some ⟨p1, 0, none⟩)] (fun _ => True) (fun _ => False) rfl rfl ?aP (fun _ hk => hk.elim) ?aF ?aO ?aB ?aS ?aL ?_; (case aP => exact rfl); (case aB => exact (cE _ w1)); (case aF => exact (fun _ _ => trivial)); (case aO => exact (Kd.R_nil _ _ _ _ _)); (case aS => exact (cD _)); (case aL => simp); intro v1_ w1_ ho hb hg hat; obtain ⟨rh1, rn1, rc1, rfl, rb1, rl1, rr1, rx1⟩ := impl_parse.row1 ho; have RR1 := aM rr1; have RX1 := aM rx1; clear rr1 rx1; have HG1 := aM hb; have BR1 := aM (blk_grown BT1.out hg (by simp [Value.ownBlock])); have c11 := aA BR1.out 1; have d11 := aC BR1.out 1; clear ho hb hg hat))
  rw [rounds_succ]
  go_wp2
  go_ret2
  obtain ⟨k1, k2⟩ := impl_parse.un_at (n := rn1) rfl HB1.out (Nat.lt_of_lt_of_le (blk_lt (blk_new w (.cells #[.int .u8 c, .slice none 0 0] 72))) (cD _)) HAT1.out HG1.out BR1.out rb1 RR1.out RX1.out
  exact ⟨_, rfl, k1, k2⟩
 ·have n4 : (c == 42) = false := beq_eq_false_iff_ne.mpr c42
  have C := aM (fun W => impl_in.calls c 50 53 true W (by unfold impl_in.f; by_cases g : c ≥ 50 <;> simp [g] <;> omega))
  clear hc h hs hr c42
  go_enter Try.func39, Try.ntmps39
  go_wp2_with (go_at_call 26; refine (C.out _).mono ?_; rintro e wi ⟨rfl, hd⟩; have hb := Drawn0.below hd; have BT0 := aM (aD (blk_new w (.cells #[.int .u8 c, .slice none 0 0] 72)) hb); have HB0 := aM (aE (bA (cE _ w) (.cells #[.int .u8 c, .slice none 0 0] 72)) hb); clear hd hb)
  refine wp_loop_rounds 2 ?_
  rw [rounds_succ]
  go_wp2_with (first | (go_at_call 39; refine (IH.out _).mono ?_; rintro e w1 ⟨v1, rfl, hat, hb⟩; obtain ⟨p1, hp1, hq1, rfl⟩ := hat.ptr; have HAT1 := aM hat; have BT1 := aM (aD BT0.out hb); have HB1 := aM (aE HB0.out hb); have e11 := aA BT1.out 1; clear hat hb) | ((with_reducible refine gate_builtin (b := .append) (xs := #[.tmp 65, .tmp 67]) rfl ?_); at_builtin; refine Kd.R_append impl_parse.ptrK (w0 := w1) w1.heap.size rfl (.tmp 65) (.tmp 67) 70 42 (.pointer none) 8 rfl Try.underlying70 impl_parse.infoP rfl (by decide) (by omega) (.slice none 0 0) ([] : List Nat) p1 [.pointer (some ⟨p1, 0, none⟩)] (fun _ => True) (fun _ => False) rfl rfl ?aP (fun _ hk => hk.elim) ?aF ?aO ?aB ?aS ?aL ?_; (case aP => exact rfl); (case aB => exact (cE _ w1)); (case aF => exact (fun _ _ => trivial)); (case aO => exact (Kd.R_nil _ _ _ _ _)); (case aS => exact (cD _)); (case aL => simp); intro v1_ w1_ ho hb hg hat; obtain ⟨rh1, rn1, rc1, rfl, rb1, rl1, rr1, rx1⟩ := impl_parse.row1 ho; have RR1 := aM rr1; have RX1 := aM rx1; clear rr1 rx1; have HG1 := aM hb; have BR1 := aM (blk_grown BT1.out hg (by simp [Value.ownBlock])); have c11 := aA BR1.out 1; have d11 := aC BR1.out 1; clear ho hb hg hat))
  rw [rounds_succ]
  go_wp2
  go_ret2
  obtain ⟨k1, k2⟩ := impl_parse.un_at (n := rn1) rfl HB1.out (Nat.lt_of_lt_of_le (blk_lt BT0.out) (cD _)) HAT1.out HG1.out BR1.out rb1 RR1.out RX1.out
  exact ⟨_, rfl, k1, k2⟩
/-- One part is read and stored. -/
def impl_parse.One (w W : World) (c : Int) (a : Tm) (p rh rn : Nat) : Prop := ∃ base, Below w.heap.size w W ∧ w.heap.size < base ∧ base ≤ W.heap.size ∧ W.heap[w.heap.size]? = some (.cells #[.int .u8 c, .slice (some ⟨rh, 0, none⟩) 1 rn] 72 (0, 0)) ∧ a.At W (w.heap.size + 1) base (.pointer (some ⟨p, 0, none⟩)) ∧ impl_parse.ptrK.R 42 W base (fun _ => True) (.slice (some ⟨rh, 0, none⟩) 1 rn) [p]
theorem impl_parse.One.below {w W : World} {c : Int} {a : Tm} {p rh rn : Nat} (h : impl_parse.One w W c a p rh rn) : Below w.heap.size w W := by obtain ⟨_, h, _⟩ := h; exact h
theorem impl_parse.One.blk {w W : World} {c : Int} {a : Tm} {p rh rn : Nat} (h : impl_parse.One w W c a p rh rn) : W.heap[w.heap.size]? = some (.cells #[.int .u8 c, .slice (some ⟨rh, 0, none⟩) 1 rn] 72 (0, 0)) := by obtain ⟨_, _, _, _, h, _⟩ := h; exact h
theorem impl_parse.One.lt {w W : World} {c : Int} {a : Tm} {p rh rn : Nat} (h : impl_parse.One w W c a p rh rn) : rh < W.heap.size := by obtain ⟨_, _, _, _, _, _, h⟩ := h; exact Kd.R_lt h rh rfl
theorem impl_parse.One.step {w W W' : World} {c : Int} {a : Tm} {p rh rn : Nat} (h : impl_parse.One w W c a p rh rn) (hb : Below W.heap.size W W') : impl_parse.One w W' c a p rh rn := by
 obtain ⟨base, h1, h2, h3, h4, h5, h6⟩ := h
 exact ⟨base, aE h1 hb, h2, Nat.le_trans h3 hb.size, aD h4 hb, h5.keep (fun i _ hi => hb.block i (by omega)), bG h6 hb⟩
theorem impl_parse.One.sign {w W : World} {c : Int} {a : Tm} {p rh rn : Nat} (h : impl_parse.One w W c a p rh rn) (o : Int) : impl_parse.One w (W.setCell ⟨w.heap.size, 0, none⟩ (.int .u8 o)) o a p rh rn := by
 obtain ⟨base, h1, h2, h3, h4, h5, h6⟩ := h
 exact ⟨base, h1.setCell (p := ⟨w.heap.size, 0, none⟩) (cD _) _, h2, by simpa [World.setCell] using h3, cM h4 0 _, h5.keep (fun i hi _ => Below.heap_setCell W ⟨w.heap.size, 0, none⟩ _ i (by show i ≠ w.heap.size; omega)), Kd.R_set h6 h4 (by simp [impl_parse.ptrK, Kd.scalar]) 0 _⟩
theorem impl_parse.One.start {w w1 W : World} {c : Int} {a : Tm} {p rh rn lo : Nat} (HB : Below w.heap.size w w1) (hlo : w.heap.size < lo) (HAT : a.At w1 lo w1.heap.size (.pointer (some ⟨p, 0, none⟩))) (HG : Below w1.heap.size w1 W)
  (BR : W.heap[w.heap.size]? = some (.cells #[.int .u8 c, .slice none 0 0] 72 (0, 0))) (HR : impl_parse.ptrK.R 42 W w1.heap.size (fun _ => True) (.slice (some ⟨rh, 0, none⟩) 1 rn) [p]) : impl_parse.One w (W.setCell ⟨w.heap.size, 1, none⟩ (.slice (some ⟨rh, 0, none⟩) 1 rn)) c a p rh rn := by
 obtain ⟨_, p1, p2, _⟩ := HAT.ptr
 have s2 := HG.size
 refine ⟨w1.heap.size, (below_then HB HB.size HG).setCell (p := ⟨w.heap.size, 1, none⟩) (cD _) _, by omega, by simpa [World.setCell] using s2, cM BR 1 _, ?_, Kd.R_set HR BR (by simp [impl_parse.ptrK, Kd.scalar]) 1 _⟩
 exact (HAT.keep (fun i h1 h2 => (Below.heap_setCell W ⟨w.heap.size, 1, none⟩ _ i (by show i ≠ w.heap.size; omega)).trans (HG.block i h2))).mono (by omega) (cD _)
/-- Two parts are read. -/
def impl_parse.Two (w W : World) (c : Int) (sl : Value) (a b : Tm) (rh : Nat) : Prop := ∃ cs x y, Below w.heap.size w W ∧ w.heap.size < rh ∧ W.heap[w.heap.size]? = some (.cells #[.int .u8 c, sl] 72 (0, 0)) ∧ W.heap[rh]? = some (.cells cs 42 (0, 0)) ∧ cs[0]? = some x ∧ cs[1]? = some y ∧ a.At W (w.heap.size + 1) W.heap.size x ∧ b.At W (w.heap.size + 1) W.heap.size y
theorem impl_parse.Two.below {w W : World} {c : Int} {sl : Value} {a b : Tm} {rh : Nat} (h : impl_parse.Two w W c sl a b rh) : Below w.heap.size w W := by obtain ⟨_, _, _, h, _⟩ := h; exact h
theorem impl_parse.Two.blk {w W : World} {c : Int} {sl : Value} {a b : Tm} {rh : Nat} (h : impl_parse.Two w W c sl a b rh) : W.heap[w.heap.size]? = some (.cells #[.int .u8 c, sl] 72 (0, 0)) := by obtain ⟨_, _, _, _, _, h, _⟩ := h; exact h
theorem impl_parse.Two.step {w W W' : World} {c : Int} {sl : Value} {a b : Tm} {rh : Nat} (h : impl_parse.Two w W c sl a b rh) (hb : Below W.heap.size W W') : impl_parse.Two w W' c sl a b rh := by
 obtain ⟨cs, x, y, h1, h2, h3, h4, h5, h6, h7, h8⟩ := h
 exact ⟨cs, x, y, aE h1 hb, h2, aD h3 hb, aD h4 hb, h5, h6, (h7.keep (fun i _ hi => hb.block i hi)).mono (cD _) hb.size, (h8.keep (fun i _ hi => hb.block i hi)).mono (cD _) hb.size⟩
theorem impl_parse.Two.put {w W : World} {c : Int} {sl : Value} {a b : Tm} {rh : Nat} (h : impl_parse.Two w W c sl a b rh) (v : Value) : impl_parse.Two w (W.setCell ⟨w.heap.size, 1, none⟩ v) c v a b rh := by
 obtain ⟨cs, x, y, h1, h2, h3, h4, h5, h6, h7, h8⟩ := h
 have far : ∀ i, w.heap.size + 1 ≤ i → (W.setCell ⟨w.heap.size, 1, none⟩ v).heap[i]? = W.heap[i]? := fun i hi => Below.heap_setCell W ⟨w.heap.size, 1, none⟩ _ i (by show i ≠ w.heap.size; omega)
 have hs : W.heap.size ≤ (W.setCell ⟨w.heap.size, 1, none⟩ v).heap.size := by simp [World.setCell]
 exact ⟨cs, x, y, h1.setCell (p := ⟨w.heap.size, 1, none⟩) (cD _) _, h2, cM h3 1 _, (far rh (by omega)).trans h4, h5, h6, (h7.keep (fun i hi _ => far i hi)).mono (cD _) hs, (h8.keep (fun i hi _ => far i hi)).mono (cD _) hs⟩
theorem impl_parse.Two.fin {w W : World} {c : Int} {a b : Tm} {rh rn : Nat} (h : impl_parse.Two w W c (.slice (some ⟨rh, 0, none⟩) 2 rn) a b rh) : (Tm.bin c a b).At W w.heap.size W.heap.size (.pointer (some ⟨w.heap.size, 0, none⟩)) := by
 obtain ⟨cs, x, y, h1, h2, h3, h4, h5, h6, h7, h8⟩ := h
 exact ⟨w.heap.size, rh, rn, cs, x, y, cD _, blk_lt h3, by omega, blk_lt h4, rfl, h3, h4, h5, h6, h7.mono (by omega) (cD _), h8.mono (by omega) (cD _)⟩
theorem impl_parse.Two.start {w W W2 : World} {c : Int} {a b : Tm} {p rh rn q lo rh2 rn2 base : Nat} (h1 : Below w.heap.size w W) (h2 : w.heap.size < base) (h3 : base ≤ W.heap.size) (h4 : W.heap[w.heap.size]? = some (.cells #[.int .u8 c, .slice (some ⟨rh, 0, none⟩) 1 rn] 72 (0, 0))) (h5 : a.At W (w.heap.size + 1) base (.pointer (some ⟨p, 0, none⟩)))
  (h6 : impl_parse.ptrK.R 42 W base (fun _ => True) (.slice (some ⟨rh, 0, none⟩) 1 rn) [p]) (hl : rh < lo) (HAT : b.At W lo W.heap.size (.pointer (some ⟨q, 0, none⟩))) (hg : W.grownBy W2 (some rh)) {cs : Array Value} (k1 : base ≤ rh2) (k2 : W2.heap[rh2]? = some (.cells cs 42 (0, 0))) (k3 : cs[0]? = some (.pointer (some ⟨p, 0, none⟩))) (k4 : cs[1]? = some (.pointer (some ⟨q, 0, none⟩))) :
  impl_parse.Two w W2 c (.slice (some ⟨rh, 0, none⟩) 1 rn) a b rh2 := by
 have hb := Kd.R_base h6 rh rfl
 refine ⟨cs, _, _, h1.grown hg (by omega) (fun k hk => by obtain rfl := bU hk; omega), by omega, (hg.block _ (by omega) (by simp; omega)).trans h4, k2, k3, k4, ?_, ?_⟩
 ·exact (h5.keep (fun i _ hi => hg.block i (by omega) (by simp; omega))).mono (cD _) (Nat.le_trans h3 hg.size)
 ·exact (HAT.keep (fun i hi hi2 => hg.block i hi2 (by simp; omega))).mono (by omega) hg.size
theorem impl_parse.first (r : ByteArray) (h : 0 < r.size) : ∃ hs : (r.extract 0 1).size = 1, ((((r.extract 0 1)[0]'(by omega)).toNat : Nat) : Int) = bt r 0 := by
 have hs : (r.extract 0 1).size = 1 := by simp; omega
 refine ⟨hs, ?_⟩
 rw [← bt_at r 0 h]
 congr 2
 rw [ByteArray.getElem_extract]
 rfl
theorem impl_parse.has3 (r : ByteArray) (h : 0 < r.size) : strings_Contains.f (⟨#[43, 46, 38]⟩ : ByteArray) (r.extract 0 1) = some (decide (bt r 0 = 43 ∨ bt r 0 = 46 ∨ bt r 0 = 38)) := by
 obtain ⟨hs, hb⟩ := impl_parse.first r h
 unfold strings_Contains.f strings_Index.f stringslite_Index.f
 rw [dif_pos hs, ← hb]
 generalize (r.extract 0 1)[0] = c
 have e : ∀ n : Nat, n < 256 → (((c.toNat : Nat) : Int) = (n : Int) ↔ c = UInt8.ofNat n) := fun n hn => by
  constructor
  ·intro h; exact UInt8.toNat_inj.1 (by rw [UInt8.toNat_ofNat']; omega)
  ·rintro rfl; rw [UInt8.toNat_ofNat']; omega
 have e1 := e 43 (by omega); have e2 := e 46 (by omega); have e3 := e 38 (by omega)
 simp only [bR, aV]
 rw [show (43 : Int) = ((43 : Nat) : Int) from rfl, show (46 : Int) = ((46 : Nat) : Int) from rfl, show (38 : Int) = ((38 : Nat) : Int) from rfl, decide_eq_decide, e1, e2, e3]
 by_cases a1 : c = UInt8.ofNat 43
 ·subst a1; decide
 ·by_cases a2 : c = UInt8.ofNat 46
  ·subst a2; decide
  ·by_cases a3 : c = UInt8.ofNat 38
   ·subst a3; decide
   ·simp only [a1, a2, a3, or_self, iff_false]
    have b1 : ((43 : UInt8) == c) = false := beq_eq_false_iff_ne.2 fun h => a1 h.symm
    have b2 : ((46 : UInt8) == c) = false := beq_eq_false_iff_ne.2 fun h => a2 h.symm
    have b3 : ((38 : UInt8) == c) = false := beq_eq_false_iff_ne.2 fun h => a3 h.symm
    simp [Lib.indexByte, b1, b2, b3]
theorem impl_parse.has1 (r : ByteArray) (h : 0 < r.size) : strings_Contains.f (⟨#[41]⟩ : ByteArray) (r.extract 0 1) = some (decide (bt r 0 = 41)) := by
 obtain ⟨hs, hb⟩ := impl_parse.first r h
 unfold strings_Contains.f strings_Index.f stringslite_Index.f
 rw [dif_pos hs, ← hb]
 generalize (r.extract 0 1)[0] = c
 have e1 : ((c.toNat : Nat) : Int) = ((41 : Nat) : Int) ↔ c = UInt8.ofNat 41 := by
  constructor
  ·intro h; exact UInt8.toNat_inj.1 (by rw [UInt8.toNat_ofNat']; omega)
  ·rintro rfl; rfl
 simp only [bR, aV]
 rw [show (41 : Int) = ((41 : Nat) : Int) from rfl, decide_eq_decide, e1]
 by_cases a1 : c = UInt8.ofNat 41
 ·subst a1; decide
 ·simp only [a1, iff_false]
  have b1 : ((41 : UInt8) == c) = false := beq_eq_false_iff_ne.2 fun h => a1 h.symm
  simp [Lib.indexByte, b1]
set_option maxHeartbeats 4000000 in
set_option maxRecDepth 100000 in
theorem impl_parse.two_no (s : ByteArray) (w : World) (h : ¬ s.size = 0) (hc : bt s 0 = 40) (ih : ∀ W, Calls Try.prog 39 #[.string (s.extract 1 s.size)] W fun e w' => e = .returned (.tuple #[.pointer none, .string ⟨#[]⟩]) ∧ Below W.heap.size W w') :
  Calls Try.prog 39 #[.string s] w fun e w' => e = .returned (.tuple #[.pointer none, .string ⟨#[]⟩]) ∧ Below w.heap.size w w' := by
 have h0 : s.toList.isEmpty = false := by rw [impl_parse.isEmpty, aK h]
 have hsz : 0 < s.size := by omega
 have hx : ∀ h : 0 < s.size, ((s[0]'h).toNat : Int) = 40 := fun h' => by rw [← hc]; exact bt_at s 0 h'
 have C := aM (fun W => impl_in.calls 40 50 53 false W rfl)
 have IH := aM ih
 clear ih hc h
 go_enter Try.func39, Try.ntmps39
 go_wp2_with (go_at_call 26; refine (C.out _).mono ?_; rintro e wi ⟨rfl, hd⟩; have hb := Drawn0.below hd; have HB0 := aM (aE (bA (cE _ w) (.cells #[.int .u8 40, .slice none 0 0] 72)) hb); clear hd hb)
 refine wp_loop_rounds 3 ?_
 rw [rounds_succ]
 go_wp2_with (first | (go_at_call 39; refine (IH.out _).mono ?_; rintro e w1 ⟨rfl, hb⟩; have HB1 := aM (aE HB0.out hb); clear hb))
 go_ret2
 exact ⟨rfl, HB1.out⟩
set_option maxHeartbeats 4000000 in
set_option maxRecDepth 100000 in
theorem impl_parse.two_end (s : ByteArray) (w : World) (h : ¬ s.size = 0) (hc : bt s 0 = 40) (a : Tm) (r : ByteArray) (ih : ∀ W, Calls Try.prog 39 #[.string (s.extract 1 s.size)] W fun e w' => ∃ v, e = .returned (.tuple #[v, .string r]) ∧ a.At w' W.heap.size w'.heap.size v ∧ Below W.heap.size W w') (hr : r.size = 0) :
  Calls Try.prog 39 #[.string s] w fun e w' => e = .returned (.tuple #[.pointer none, .string ⟨#[]⟩]) ∧ Below w.heap.size w w' := by
 have h0 : s.toList.isEmpty = false := by rw [impl_parse.isEmpty, aK h]
 have hsz : 0 < s.size := by omega
 have hx : ∀ h : 0 < s.size, ((s[0]'h).toNat : Int) = 40 := fun h' => by rw [← hc]; exact bt_at s 0 h'
 have C := aM (fun W => impl_in.calls 40 50 53 false W rfl)
 have IH := aM ih
 clear ih hc h
 have hr0 : r.toList.isEmpty = true := by rw [impl_parse.isEmpty, aH hr]
 go_enter Try.func39, Try.ntmps39
 go_wp2_with (go_at_call 26; refine (C.out _).mono ?_; rintro e wi ⟨rfl, hd⟩; have hb := Drawn0.below hd; have BT0 := aM (aD (blk_new w (.cells #[.int .u8 40, .slice none 0 0] 72)) hb); have HB0 := aM (aE (bA (cE _ w) (.cells #[.int .u8 40, .slice none 0 0] 72)) hb); clear hd hb)
 refine wp_loop_rounds 3 ?_
 rw [rounds_succ]
 go_wp2_with (first | (go_at_call 39; refine (IH.out _).mono ?_; rintro e w1 ⟨v1, rfl, hat, hb⟩; obtain ⟨p1, hp1, hq1, rfl⟩ := hat.ptr; have HAT1 := aM hat; have BT1 := aM (aD BT0.out hb); have HB1 := aM (aE HB0.out hb); have e11 := aA BT1.out 1; clear hat hb) | ((with_reducible refine gate_builtin (b := .append) (xs := #[.tmp 65, .tmp 67]) rfl ?_); at_builtin; refine Kd.R_append impl_parse.ptrK (w0 := w1) w1.heap.size rfl (.tmp 65) (.tmp 67) 70 42 (.pointer none) 8 rfl Try.underlying70 impl_parse.infoP rfl (by decide) (by omega) (.slice none 0 0) ([] : List Nat) p1 [.pointer (some ⟨p1, 0, none⟩)] (fun _ => True) (fun _ => False) rfl rfl ?aP (fun _ hk => hk.elim) ?aF ?aO ?aB ?aS ?aL ?_; (case aP => exact rfl); (case aB => exact (cE _ w1)); (case aF => exact (fun _ _ => trivial)); (case aO => exact (Kd.R_nil _ _ _ _ _)); (case aS => exact (cD _)); (case aL => simp); intro v1_ w1_ ho hb hg hat; obtain ⟨rh1, rn1, rc1, rfl, rb1, rl1, rr1, rx1⟩ := impl_parse.row1 ho; have OS1 := aM (impl_parse.One.start HB1.out (Nat.lt_of_lt_of_le (blk_lt BT0.out) (cD _)) HAT1.out hb (blk_grown BT1.out hg (by simp [Value.ownBlock])) ho); clear rr1 rx1; have BR1 := aM (blk_grown BT1.out hg (by simp [Value.ownBlock])); have c11 := aA BR1.out 1; have d11 := aC BR1.out 1; clear ho hb hg hat))
 go_ret2
 exact ⟨rfl, (OS1.out.step (bA (cE _ _) (.cells #[.string ⟨#[43, 46, 38]⟩, .string ⟨#[41]⟩] 9))).below⟩
set_option maxHeartbeats 4000000 in
set_option maxRecDepth 100000 in
theorem impl_parse.two_sign (s : ByteArray) (w : World) (h : ¬ s.size = 0) (hc : bt s 0 = 40) (a : Tm) (r : ByteArray) (ih : ∀ W, Calls Try.prog 39 #[.string (s.extract 1 s.size)] W fun e w' => ∃ v, e = .returned (.tuple #[v, .string r]) ∧ a.At w' W.heap.size w'.heap.size v ∧ Below W.heap.size W w') (hr : ¬ r.size = 0) (o : Int) (ho : bt r 0 = o) (hs : ¬ (o = 43 ∨ o = 46 ∨ o = 38)) :
  Calls Try.prog 39 #[.string s] w fun e w' => e = .returned (.tuple #[.pointer none, .string ⟨#[]⟩]) ∧ Below w.heap.size w w' := by
 have h0 : s.toList.isEmpty = false := by rw [impl_parse.isEmpty, aK h]
 have hsz : 0 < s.size := by omega
 have hx : ∀ h : 0 < s.size, ((s[0]'h).toNat : Int) = 40 := fun h' => by rw [← hc]; exact bt_at s 0 h'
 have C := aM (fun W => impl_in.calls 40 50 53 false W rfl)
 have IH := aM ih
 clear ih hc h
 have hr0 : r.toList.isEmpty = false := by rw [impl_parse.isEmpty, aK hr]
 have hrz : 0 < r.size := by omega
 have HC1 := aM (impl_parse.has3 r hrz)
 have hy : ∀ h : 0 < r.size, ((r[0]'h).toNat : Int) = o := fun h' => by rw [← ho]; exact bt_at r 0 h'
 rw [ho, aK hs] at HC1
 clear ho hs hr
 go_enter Try.func39, Try.ntmps39
 go_wp2_with (go_at_call 26; refine (C.out _).mono ?_; rintro e wi ⟨rfl, hd⟩; have hb := Drawn0.below hd; have BT0 := aM (aD (blk_new w (.cells #[.int .u8 40, .slice none 0 0] 72)) hb); have HB0 := aM (aE (bA (cE _ w) (.cells #[.int .u8 40, .slice none 0 0] 72)) hb); clear hd hb)
 refine wp_loop_rounds 3 ?_
 rw [rounds_succ]
 go_wp2_with (first | (go_at_call 39; refine (IH.out _).mono ?_; rintro e w1 ⟨v1, rfl, hat, hb⟩; obtain ⟨p1, hp1, hq1, rfl⟩ := hat.ptr; have HAT1 := aM hat; have BT1 := aM (aD BT0.out hb); have HB1 := aM (aE HB0.out hb); have e11 := aA BT1.out 1; clear hat hb) | ((with_reducible refine gate_builtin (b := .append) (xs := #[.tmp 65, .tmp 67]) rfl ?_); at_builtin; refine Kd.R_append impl_parse.ptrK (w0 := w1) w1.heap.size rfl (.tmp 65) (.tmp 67) 70 42 (.pointer none) 8 rfl Try.underlying70 impl_parse.infoP rfl (by decide) (by omega) (.slice none 0 0) ([] : List Nat) p1 [.pointer (some ⟨p1, 0, none⟩)] (fun _ => True) (fun _ => False) rfl rfl ?aP (fun _ hk => hk.elim) ?aF ?aO ?aB ?aS ?aL ?_; (case aP => exact rfl); (case aB => exact (cE _ w1)); (case aF => exact (fun _ _ => trivial)); (case aO => exact (Kd.R_nil _ _ _ _ _)); (case aS => exact (cD _)); (case aL => simp); intro v1_ w1_ ho hb hg hat; obtain ⟨rh1, rn1, rc1, rfl, rb1, rl1, rr1, rx1⟩ := impl_parse.row1 ho; have OS1 := aM (impl_parse.One.start HB1.out (Nat.lt_of_lt_of_le (blk_lt BT0.out) (cD _)) HAT1.out hb (blk_grown BT1.out hg (by simp [Value.ownBlock])) ho); clear rr1 rx1; have BR1 := aM (blk_grown BT1.out hg (by simp [Value.ownBlock])); have c11 := aA BR1.out 1; have d11 := aC BR1.out 1; clear ho hb hg hat) | (go_at_call 61; refine (strings_Contains.calls _ _ false _ HC1.out).mono ?_; rintro e wc ⟨rfl, hd⟩; have hb := Drawn0.below hd; have O1 := aM ((OS1.out.step (bA (cE _ _) (.cells #[.string ⟨#[43, 46, 38]⟩, .string ⟨#[41]⟩] 9))).step hb); clear hd hb))
 go_ret2
 exact ⟨rfl, O1.out.below⟩
set_option maxHeartbeats 4000000 in
set_option maxRecDepth 100000 in
theorem impl_parse.two_none (s : ByteArray) (w : World) (h : ¬ s.size = 0) (hc : bt s 0 = 40) (a : Tm) (r : ByteArray) (ih : ∀ W, Calls Try.prog 39 #[.string (s.extract 1 s.size)] W fun e w' => ∃ v, e = .returned (.tuple #[v, .string r]) ∧ a.At w' W.heap.size w'.heap.size v ∧ Below W.heap.size W w') (hr : ¬ r.size = 0) (o : Int) (ho : bt r 0 = o) (hs : o = 43 ∨ o = 46 ∨ o = 38) (ih2 : ∀ W, Calls Try.prog 39 #[.string (r.extract 1 r.size)] W fun e w' => e = .returned (.tuple #[.pointer none, .string ⟨#[]⟩]) ∧ Below W.heap.size W w') :
  Calls Try.prog 39 #[.string s] w fun e w' => e = .returned (.tuple #[.pointer none, .string ⟨#[]⟩]) ∧ Below w.heap.size w w' := by
 have h0 : s.toList.isEmpty = false := by rw [impl_parse.isEmpty, aK h]
 have hsz : 0 < s.size := by omega
 have hx : ∀ h : 0 < s.size, ((s[0]'h).toNat : Int) = 40 := fun h' => by rw [← hc]; exact bt_at s 0 h'
 have C := aM (fun W => impl_in.calls 40 50 53 false W rfl)
 have IH := aM ih
 clear ih hc h
 have hr0 : r.toList.isEmpty = false := by rw [impl_parse.isEmpty, aK hr]
 have hrz : 0 < r.size := by omega
 have HC1 := aM (impl_parse.has3 r hrz)
 have hy : ∀ h : 0 < r.size, ((r[0]'h).toNat : Int) = o := fun h' => by rw [← ho]; exact bt_at r 0 h'
 rw [ho, aH hs] at HC1
 clear ho hs hr
 have IH2 := aM ih2
 clear ih2
 go_enter Try.func39, Try.ntmps39
 go_wp2_with (go_at_call 26; refine (C.out _).mono ?_; rintro e wi ⟨rfl, hd⟩; have hb := Drawn0.below hd; have BT0 := aM (aD (blk_new w (.cells #[.int .u8 40, .slice none 0 0] 72)) hb); have HB0 := aM (aE (bA (cE _ w) (.cells #[.int .u8 40, .slice none 0 0] 72)) hb); clear hd hb)
 refine wp_loop_rounds 3 ?_
 rw [rounds_succ]
 go_wp2_with (first | (go_at_call 39; refine (IH.out _).mono ?_; rintro e w1 ⟨v1, rfl, hat, hb⟩; obtain ⟨p1, hp1, hq1, rfl⟩ := hat.ptr; have HAT1 := aM hat; have BT1 := aM (aD BT0.out hb); have HB1 := aM (aE HB0.out hb); have e11 := aA BT1.out 1; clear hat hb) | ((with_reducible refine gate_builtin (b := .append) (xs := #[.tmp 65, .tmp 67]) rfl ?_); at_builtin; refine Kd.R_append impl_parse.ptrK (w0 := w1) w1.heap.size rfl (.tmp 65) (.tmp 67) 70 42 (.pointer none) 8 rfl Try.underlying70 impl_parse.infoP rfl (by decide) (by omega) (.slice none 0 0) ([] : List Nat) p1 [.pointer (some ⟨p1, 0, none⟩)] (fun _ => True) (fun _ => False) rfl rfl ?aP (fun _ hk => hk.elim) ?aF ?aO ?aB ?aS ?aL ?_; (case aP => exact rfl); (case aB => exact (cE _ w1)); (case aF => exact (fun _ _ => trivial)); (case aO => exact (Kd.R_nil _ _ _ _ _)); (case aS => exact (cD _)); (case aL => simp); intro v1_ w1_ ho hb hg hat; obtain ⟨rh1, rn1, rc1, rfl, rb1, rl1, rr1, rx1⟩ := impl_parse.row1 ho; have OS1 := aM (impl_parse.One.start HB1.out (Nat.lt_of_lt_of_le (blk_lt BT0.out) (cD _)) HAT1.out hb (blk_grown BT1.out hg (by simp [Value.ownBlock])) ho); clear rr1 rx1; have BR1 := aM (blk_grown BT1.out hg (by simp [Value.ownBlock])); have c11 := aA BR1.out 1; have d11 := aC BR1.out 1; clear ho hb hg hat) | (go_at_call 61; refine (strings_Contains.calls _ _ true _ HC1.out).mono ?_; rintro e wc ⟨rfl, hd⟩; have hb := Drawn0.below hd; have O1 := aM ((OS1.out.step (bA (cE _ _) (.cells #[.string ⟨#[43, 46, 38]⟩, .string ⟨#[41]⟩] 9))).step hb); have e20 := aA O1.out.blk 0; have f20 := aC O1.out.blk 0; clear hd hb))
 rw [rounds_succ]
 go_wp2_with (first | (go_at_call 39; refine (IH2.out _).mono ?_; rintro e w2 ⟨rfl, hb⟩; have O2 := aM ((O1.out.sign o).step hb); clear hb))
 go_ret2
 exact ⟨rfl, O2.out.below⟩
set_option maxHeartbeats 4000000 in
set_option maxRecDepth 100000 in
theorem impl_parse.two_open (s : ByteArray) (w : World) (h : ¬ s.size = 0) (hc : bt s 0 = 40) (a : Tm) (r : ByteArray) (ih : ∀ W, Calls Try.prog 39 #[.string (s.extract 1 s.size)] W fun e w' => ∃ v, e = .returned (.tuple #[v, .string r]) ∧ a.At w' W.heap.size w'.heap.size v ∧ Below W.heap.size W w') (hr : ¬ r.size = 0) (o : Int) (ho : bt r 0 = o) (hs : o = 43 ∨ o = 46 ∨ o = 38) (b : Tm) (q : ByteArray) (ih2 : ∀ W, Calls Try.prog 39 #[.string (r.extract 1 r.size)] W fun e w' => ∃ v, e = .returned (.tuple #[v, .string q]) ∧ b.At w' W.heap.size w'.heap.size v ∧ Below W.heap.size W w') (hq : q.size = 0) :
  Calls Try.prog 39 #[.string s] w fun e w' => e = .returned (.tuple #[.pointer none, .string ⟨#[]⟩]) ∧ Below w.heap.size w w' := by
 have h0 : s.toList.isEmpty = false := by rw [impl_parse.isEmpty, aK h]
 have hsz : 0 < s.size := by omega
 have hx : ∀ h : 0 < s.size, ((s[0]'h).toNat : Int) = 40 := fun h' => by rw [← hc]; exact bt_at s 0 h'
 have C := aM (fun W => impl_in.calls 40 50 53 false W rfl)
 have IH := aM ih
 clear ih hc h
 have hr0 : r.toList.isEmpty = false := by rw [impl_parse.isEmpty, aK hr]
 have hrz : 0 < r.size := by omega
 have HC1 := aM (impl_parse.has3 r hrz)
 have hy : ∀ h : 0 < r.size, ((r[0]'h).toNat : Int) = o := fun h' => by rw [← ho]; exact bt_at r 0 h'
 rw [ho, aH hs] at HC1
 clear ho hs hr
 have IH2 := aM ih2
 clear ih2
 have hq0 : q.toList.isEmpty = true := by rw [impl_parse.isEmpty, aH hq]
 go_enter Try.func39, Try.ntmps39
 go_wp2_with (go_at_call 26; refine (C.out _).mono ?_; rintro e wi ⟨rfl, hd⟩; have hb := Drawn0.below hd; have BT0 := aM (aD (blk_new w (.cells #[.int .u8 40, .slice none 0 0] 72)) hb); have HB0 := aM (aE (bA (cE _ w) (.cells #[.int .u8 40, .slice none 0 0] 72)) hb); clear hd hb)
 refine wp_loop_rounds 3 ?_
 rw [rounds_succ]
 go_wp2_with (first | (go_at_call 39; refine (IH.out _).mono ?_; rintro e w1 ⟨v1, rfl, hat, hb⟩; obtain ⟨p1, hp1, hq1, rfl⟩ := hat.ptr; have HAT1 := aM hat; have BT1 := aM (aD BT0.out hb); have HB1 := aM (aE HB0.out hb); have e11 := aA BT1.out 1; clear hat hb) | ((with_reducible refine gate_builtin (b := .append) (xs := #[.tmp 65, .tmp 67]) rfl ?_); at_builtin; refine Kd.R_append impl_parse.ptrK (w0 := w1) w1.heap.size rfl (.tmp 65) (.tmp 67) 70 42 (.pointer none) 8 rfl Try.underlying70 impl_parse.infoP rfl (by decide) (by omega) (.slice none 0 0) ([] : List Nat) p1 [.pointer (some ⟨p1, 0, none⟩)] (fun _ => True) (fun _ => False) rfl rfl ?aP (fun _ hk => hk.elim) ?aF ?aO ?aB ?aS ?aL ?_; (case aP => exact rfl); (case aB => exact (cE _ w1)); (case aF => exact (fun _ _ => trivial)); (case aO => exact (Kd.R_nil _ _ _ _ _)); (case aS => exact (cD _)); (case aL => simp); intro v1_ w1_ ho hb hg hat; obtain ⟨rh1, rn1, rc1, rfl, rb1, rl1, rr1, rx1⟩ := impl_parse.row1 ho; have OS1 := aM (impl_parse.One.start HB1.out (Nat.lt_of_lt_of_le (blk_lt BT0.out) (cD _)) HAT1.out hb (blk_grown BT1.out hg (by simp [Value.ownBlock])) ho); clear rr1 rx1; have BR1 := aM (blk_grown BT1.out hg (by simp [Value.ownBlock])); have c11 := aA BR1.out 1; have d11 := aC BR1.out 1; clear ho hb hg hat) | (go_at_call 61; refine (strings_Contains.calls _ _ true _ HC1.out).mono ?_; rintro e wc ⟨rfl, hd⟩; have hb := Drawn0.below hd; have O1 := aM ((OS1.out.step (bA (cE _ _) (.cells #[.string ⟨#[43, 46, 38]⟩, .string ⟨#[41]⟩] 9))).step hb); have e20 := aA O1.out.blk 0; have f20 := aC O1.out.blk 0; clear hd hb))
 rw [rounds_succ]
 go_wp2_with (first | (go_at_call 39; refine (IH2.out _).mono ?_; rintro e w2 ⟨v2, rfl, hat, hb⟩; obtain ⟨p2, hp2, hq2, rfl⟩ := hat.ptr; have HAT2 := aM hat; have L2 := aM ((O1.out.sign o).lt); have O2 := aM ((O1.out.sign o).step hb); have e31 := aA O2.out.blk 1; clear hat hb) | ((with_reducible refine gate_builtin (b := .append) (xs := #[.tmp 65, .tmp 67]) rfl ?_); at_builtin; obtain ⟨base, o1, o2, o3, o4, o5, o6⟩ := O2.out; refine Kd.R_append impl_parse.ptrK (w0 := w2) base rfl (.tmp 65) (.tmp 67) 70 42 (.pointer none) 8 rfl Try.underlying70 impl_parse.infoP rfl (by decide) (by omega) (.slice (some ⟨rh1, 0, none⟩) 1 rn1) [p1] p2 [.pointer (some ⟨p2, 0, none⟩)] (fun _ => True) (fun _ => False) rfl rfl ?aP (fun _ hk => hk.elim) ?aF ?aO ?aB ?aS ?aL ?_; (case aP => exact rfl); (case aB => exact cE _ _); (case aF => exact (fun _ _ => trivial)); (case aO => exact o6); (case aS => exact o3); (case aL => simp); intro v2_ w2_ ho hb hg hat; obtain ⟨rh2, rn2, rc2, rfl, rb2, rl2, rr2, rx2, ry2⟩ := impl_parse.row2 ho; have T1 := aM (impl_parse.Two.start o1 o2 o3 o4 o5 o6 L2.out HAT2.out hg rb2 rr2 rx2 ry2 (rn2 := rn2)); have e41 := aA T1.out.blk 1; have f41 := aC T1.out.blk 1; clear ho hb hg hat rr2 rx2 ry2 o1 o2 o3 o4 o5 o6))
 go_ret2
 exact ⟨rfl, ((T1.out.put (.slice (some ⟨rh2, 0, none⟩) 2 rn2)).step (bA (cE _ _) (.cells #[.string ⟨#[43, 46, 38]⟩, .string ⟨#[41]⟩] 9))).below⟩
set_option maxHeartbeats 4000000 in
set_option maxRecDepth 100000 in
theorem impl_parse.two_shut (s : ByteArray) (w : World) (h : ¬ s.size = 0) (hc : bt s 0 = 40) (a : Tm) (r : ByteArray) (ih : ∀ W, Calls Try.prog 39 #[.string (s.extract 1 s.size)] W fun e w' => ∃ v, e = .returned (.tuple #[v, .string r]) ∧ a.At w' W.heap.size w'.heap.size v ∧ Below W.heap.size W w') (hr : ¬ r.size = 0) (o : Int) (ho : bt r 0 = o) (hs : o = 43 ∨ o = 46 ∨ o = 38) (b : Tm) (q : ByteArray) (ih2 : ∀ W, Calls Try.prog 39 #[.string (r.extract 1 r.size)] W fun e w' => ∃ v, e = .returned (.tuple #[v, .string q]) ∧ b.At w' W.heap.size w'.heap.size v ∧ Below W.heap.size W w') (hq : ¬ q.size = 0) (hz : ¬ bt q 0 = 41) :
  Calls Try.prog 39 #[.string s] w fun e w' => e = .returned (.tuple #[.pointer none, .string ⟨#[]⟩]) ∧ Below w.heap.size w w' := by
 have h0 : s.toList.isEmpty = false := by rw [impl_parse.isEmpty, aK h]
 have hsz : 0 < s.size := by omega
 have hx : ∀ h : 0 < s.size, ((s[0]'h).toNat : Int) = 40 := fun h' => by rw [← hc]; exact bt_at s 0 h'
 have C := aM (fun W => impl_in.calls 40 50 53 false W rfl)
 have IH := aM ih
 clear ih hc h
 have hr0 : r.toList.isEmpty = false := by rw [impl_parse.isEmpty, aK hr]
 have hrz : 0 < r.size := by omega
 have HC1 := aM (impl_parse.has3 r hrz)
 have hy : ∀ h : 0 < r.size, ((r[0]'h).toNat : Int) = o := fun h' => by rw [← ho]; exact bt_at r 0 h'
 rw [ho, aH hs] at HC1
 clear ho hs hr
 have IH2 := aM ih2
 clear ih2
 have hq0 : q.toList.isEmpty = false := by rw [impl_parse.isEmpty, aK hq]
 have hqz : 0 < q.size := by omega
 have HC2 := aM (impl_parse.has1 q hqz)
 rw [aK hz] at HC2
 clear hz hq
 go_enter Try.func39, Try.ntmps39
 go_wp2_with (go_at_call 26; refine (C.out _).mono ?_; rintro e wi ⟨rfl, hd⟩; have hb := Drawn0.below hd; have BT0 := aM (aD (blk_new w (.cells #[.int .u8 40, .slice none 0 0] 72)) hb); have HB0 := aM (aE (bA (cE _ w) (.cells #[.int .u8 40, .slice none 0 0] 72)) hb); clear hd hb)
 refine wp_loop_rounds 3 ?_
 rw [rounds_succ]
 go_wp2_with (first | (go_at_call 39; refine (IH.out _).mono ?_; rintro e w1 ⟨v1, rfl, hat, hb⟩; obtain ⟨p1, hp1, hq1, rfl⟩ := hat.ptr; have HAT1 := aM hat; have BT1 := aM (aD BT0.out hb); have HB1 := aM (aE HB0.out hb); have e11 := aA BT1.out 1; clear hat hb) | ((with_reducible refine gate_builtin (b := .append) (xs := #[.tmp 65, .tmp 67]) rfl ?_); at_builtin; refine Kd.R_append impl_parse.ptrK (w0 := w1) w1.heap.size rfl (.tmp 65) (.tmp 67) 70 42 (.pointer none) 8 rfl Try.underlying70 impl_parse.infoP rfl (by decide) (by omega) (.slice none 0 0) ([] : List Nat) p1 [.pointer (some ⟨p1, 0, none⟩)] (fun _ => True) (fun _ => False) rfl rfl ?aP (fun _ hk => hk.elim) ?aF ?aO ?aB ?aS ?aL ?_; (case aP => exact rfl); (case aB => exact (cE _ w1)); (case aF => exact (fun _ _ => trivial)); (case aO => exact (Kd.R_nil _ _ _ _ _)); (case aS => exact (cD _)); (case aL => simp); intro v1_ w1_ ho hb hg hat; obtain ⟨rh1, rn1, rc1, rfl, rb1, rl1, rr1, rx1⟩ := impl_parse.row1 ho; have OS1 := aM (impl_parse.One.start HB1.out (Nat.lt_of_lt_of_le (blk_lt BT0.out) (cD _)) HAT1.out hb (blk_grown BT1.out hg (by simp [Value.ownBlock])) ho); clear rr1 rx1; have BR1 := aM (blk_grown BT1.out hg (by simp [Value.ownBlock])); have c11 := aA BR1.out 1; have d11 := aC BR1.out 1; clear ho hb hg hat) | (go_at_call 61; refine (strings_Contains.calls _ _ true _ HC1.out).mono ?_; rintro e wc ⟨rfl, hd⟩; have hb := Drawn0.below hd; have O1 := aM ((OS1.out.step (bA (cE _ _) (.cells #[.string ⟨#[43, 46, 38]⟩, .string ⟨#[41]⟩] 9))).step hb); have e20 := aA O1.out.blk 0; have f20 := aC O1.out.blk 0; clear hd hb))
 rw [rounds_succ]
 go_wp2_with (first | (go_at_call 39; refine (IH2.out _).mono ?_; rintro e w2 ⟨v2, rfl, hat, hb⟩; obtain ⟨p2, hp2, hq2, rfl⟩ := hat.ptr; have HAT2 := aM hat; have L2 := aM ((O1.out.sign o).lt); have O2 := aM ((O1.out.sign o).step hb); have e31 := aA O2.out.blk 1; clear hat hb) | ((with_reducible refine gate_builtin (b := .append) (xs := #[.tmp 65, .tmp 67]) rfl ?_); at_builtin; obtain ⟨base, o1, o2, o3, o4, o5, o6⟩ := O2.out; refine Kd.R_append impl_parse.ptrK (w0 := w2) base rfl (.tmp 65) (.tmp 67) 70 42 (.pointer none) 8 rfl Try.underlying70 impl_parse.infoP rfl (by decide) (by omega) (.slice (some ⟨rh1, 0, none⟩) 1 rn1) [p1] p2 [.pointer (some ⟨p2, 0, none⟩)] (fun _ => True) (fun _ => False) rfl rfl ?aP (fun _ hk => hk.elim) ?aF ?aO ?aB ?aS ?aL ?_; (case aP => exact rfl); (case aB => exact cE _ _); (case aF => exact (fun _ _ => trivial)); (case aO => exact o6); (case aS => exact o3); (case aL => simp); intro v2_ w2_ ho hb hg hat; obtain ⟨rh2, rn2, rc2, rfl, rb2, rl2, rr2, rx2, ry2⟩ := impl_parse.row2 ho; have T1 := aM (impl_parse.Two.start o1 o2 o3 o4 o5 o6 L2.out HAT2.out hg rb2 rr2 rx2 ry2 (rn2 := rn2)); have e41 := aA T1.out.blk 1; have f41 := aC T1.out.blk 1; clear ho hb hg hat rr2 rx2 ry2 o1 o2 o3 o4 o5 o6) | (go_at_call 61; refine (strings_Contains.calls _ _ false _ HC2.out).mono ?_; rintro e wd ⟨rfl, hd⟩; have hb := Drawn0.below hd; have T2 := aM (((T1.out.put (.slice (some ⟨rh2, 0, none⟩) 2 rn2)).step (bA (cE _ _) (.cells #[.string ⟨#[43, 46, 38]⟩, .string ⟨#[41]⟩] 9))).step hb); clear hd hb))
 go_ret2
 exact ⟨rfl, T2.out.below⟩
set_option maxHeartbeats 4000000 in
set_option maxRecDepth 100000 in
theorem impl_parse.two_yes (s : ByteArray) (w : World) (h : ¬ s.size = 0) (hc : bt s 0 = 40) (a : Tm) (r : ByteArray) (ih : ∀ W, Calls Try.prog 39 #[.string (s.extract 1 s.size)] W fun e w' => ∃ v, e = .returned (.tuple #[v, .string r]) ∧ a.At w' W.heap.size w'.heap.size v ∧ Below W.heap.size W w') (hr : ¬ r.size = 0) (o : Int) (ho : bt r 0 = o) (hs : o = 43 ∨ o = 46 ∨ o = 38) (b : Tm) (q : ByteArray) (ih2 : ∀ W, Calls Try.prog 39 #[.string (r.extract 1 r.size)] W fun e w' => ∃ v, e = .returned (.tuple #[v, .string q]) ∧ b.At w' W.heap.size w'.heap.size v ∧ Below W.heap.size W w') (hq : ¬ q.size = 0) (hz : bt q 0 = 41) :
  Calls Try.prog 39 #[.string s] w fun e w' => ∃ v, e = .returned (.tuple #[v, .string (q.extract 1 q.size)]) ∧ (Tm.bin o a b).At w' w.heap.size w'.heap.size v ∧ Below w.heap.size w w' := by
 have h0 : s.toList.isEmpty = false := by rw [impl_parse.isEmpty, aK h]
 have hsz : 0 < s.size := by omega
 have hx : ∀ h : 0 < s.size, ((s[0]'h).toNat : Int) = 40 := fun h' => by rw [← hc]; exact bt_at s 0 h'
 have C := aM (fun W => impl_in.calls 40 50 53 false W rfl)
 have IH := aM ih
 clear ih hc h
 have hr0 : r.toList.isEmpty = false := by rw [impl_parse.isEmpty, aK hr]
 have hrz : 0 < r.size := by omega
 have HC1 := aM (impl_parse.has3 r hrz)
 have hy : ∀ h : 0 < r.size, ((r[0]'h).toNat : Int) = o := fun h' => by rw [← ho]; exact bt_at r 0 h'
 rw [ho, aH hs] at HC1
 clear ho hs hr
 have IH2 := aM ih2
 clear ih2
 have hq0 : q.toList.isEmpty = false := by rw [impl_parse.isEmpty, aK hq]
 have hqz : 0 < q.size := by omega
 have HC2 := aM (impl_parse.has1 q hqz)
 rw [aH hz] at HC2
 clear hz hq
 go_enter Try.func39, Try.ntmps39
 go_wp2_with (go_at_call 26; refine (C.out _).mono ?_; rintro e wi ⟨rfl, hd⟩; have hb := Drawn0.below hd; have BT0 := aM (aD (blk_new w (.cells #[.int .u8 40, .slice none 0 0] 72)) hb); have HB0 := aM (aE (bA (cE _ w) (.cells #[.int .u8 40, .slice none 0 0] 72)) hb); clear hd hb)
 refine wp_loop_rounds 3 ?_
 rw [rounds_succ]
 go_wp2_with (first | (go_at_call 39; refine (IH.out _).mono ?_; rintro e w1 ⟨v1, rfl, hat, hb⟩; obtain ⟨p1, hp1, hq1, rfl⟩ := hat.ptr; have HAT1 := aM hat; have BT1 := aM (aD BT0.out hb); have HB1 := aM (aE HB0.out hb); have e11 := aA BT1.out 1; clear hat hb) | ((with_reducible refine gate_builtin (b := .append) (xs := #[.tmp 65, .tmp 67]) rfl ?_); at_builtin; refine Kd.R_append impl_parse.ptrK (w0 := w1) w1.heap.size rfl (.tmp 65) (.tmp 67) 70 42 (.pointer none) 8 rfl Try.underlying70 impl_parse.infoP rfl (by decide) (by omega) (.slice none 0 0) ([] : List Nat) p1 [.pointer (some ⟨p1, 0, none⟩)] (fun _ => True) (fun _ => False) rfl rfl ?aP (fun _ hk => hk.elim) ?aF ?aO ?aB ?aS ?aL ?_; (case aP => exact rfl); (case aB => exact (cE _ w1)); (case aF => exact (fun _ _ => trivial)); (case aO => exact (Kd.R_nil _ _ _ _ _)); (case aS => exact (cD _)); (case aL => simp); intro v1_ w1_ ho hb hg hat; obtain ⟨rh1, rn1, rc1, rfl, rb1, rl1, rr1, rx1⟩ := impl_parse.row1 ho; have OS1 := aM (impl_parse.One.start HB1.out (Nat.lt_of_lt_of_le (blk_lt BT0.out) (cD _)) HAT1.out hb (blk_grown BT1.out hg (by simp [Value.ownBlock])) ho); clear rr1 rx1; have BR1 := aM (blk_grown BT1.out hg (by simp [Value.ownBlock])); have c11 := aA BR1.out 1; have d11 := aC BR1.out 1; clear ho hb hg hat) | (go_at_call 61; refine (strings_Contains.calls _ _ true _ HC1.out).mono ?_; rintro e wc ⟨rfl, hd⟩; have hb := Drawn0.below hd; have O1 := aM ((OS1.out.step (bA (cE _ _) (.cells #[.string ⟨#[43, 46, 38]⟩, .string ⟨#[41]⟩] 9))).step hb); have e20 := aA O1.out.blk 0; have f20 := aC O1.out.blk 0; clear hd hb))
 rw [rounds_succ]
 go_wp2_with (first | (go_at_call 39; refine (IH2.out _).mono ?_; rintro e w2 ⟨v2, rfl, hat, hb⟩; obtain ⟨p2, hp2, hq2, rfl⟩ := hat.ptr; have HAT2 := aM hat; have L2 := aM ((O1.out.sign o).lt); have O2 := aM ((O1.out.sign o).step hb); have e31 := aA O2.out.blk 1; clear hat hb) | ((with_reducible refine gate_builtin (b := .append) (xs := #[.tmp 65, .tmp 67]) rfl ?_); at_builtin; obtain ⟨base, o1, o2, o3, o4, o5, o6⟩ := O2.out; refine Kd.R_append impl_parse.ptrK (w0 := w2) base rfl (.tmp 65) (.tmp 67) 70 42 (.pointer none) 8 rfl Try.underlying70 impl_parse.infoP rfl (by decide) (by omega) (.slice (some ⟨rh1, 0, none⟩) 1 rn1) [p1] p2 [.pointer (some ⟨p2, 0, none⟩)] (fun _ => True) (fun _ => False) rfl rfl ?aP (fun _ hk => hk.elim) ?aF ?aO ?aB ?aS ?aL ?_; (case aP => exact rfl); (case aB => exact cE _ _); (case aF => exact (fun _ _ => trivial)); (case aO => exact o6); (case aS => exact o3); (case aL => simp); intro v2_ w2_ ho hb hg hat; obtain ⟨rh2, rn2, rc2, rfl, rb2, rl2, rr2, rx2, ry2⟩ := impl_parse.row2 ho; have T1 := aM (impl_parse.Two.start o1 o2 o3 o4 o5 o6 L2.out HAT2.out hg rb2 rr2 rx2 ry2 (rn2 := rn2)); have e41 := aA T1.out.blk 1; have f41 := aC T1.out.blk 1; clear ho hb hg hat rr2 rx2 ry2 o1 o2 o3 o4 o5 o6) | (go_at_call 61; refine (strings_Contains.calls _ _ true _ HC2.out).mono ?_; rintro e wd ⟨rfl, hd⟩; have hb := Drawn0.below hd; have T2 := aM (((T1.out.put (.slice (some ⟨rh2, 0, none⟩) 2 rn2)).step (bA (cE _ _) (.cells #[.string ⟨#[43, 46, 38]⟩, .string ⟨#[41]⟩] 9))).step hb); clear hd hb))
 rw [rounds_succ]
 go_wp2
 go_ret2
 exact ⟨_, rfl, T2.out.fin, T2.out.below⟩
theorem Tm.parse_lt (n : Nat) : ∀ (s : ByteArray) (t : Tm) (r : ByteArray), Tm.parse n s = some (t, r) → r.size < s.size := by
 induction n with
 | zero => intro s t r h; simp [Tm.parse] at h
 | succ n ih =>
  intro s t r h
  have ex : ∀ z : ByteArray, (z.extract 1 z.size).size = z.size - 1 := fun z => by simp
  unfold Tm.parse at h
  split at h
  ·cases h
  rename_i h0
  split at h
  ·simp only [aV, aW] at h
   rw [← h.2, ex]; omega
  split at h
  ·obtain ⟨⟨a, q⟩, h1, h2⟩ := Option.bind_eq_some_iff.mp h
   simp only [aV, aW] at h2
   have := ih _ _ _ h1
   rw [ex] at this
   rw [← h2.2]; omega
  split at h
  ·obtain ⟨⟨a, q⟩, h1, h2⟩ := Option.bind_eq_some_iff.mp h
   have l1 := ih _ _ _ h1
   rw [ex] at l1
   simp only at h2
   split at h2
   ·cases h2
   split at h2
   ·obtain ⟨⟨b, z⟩, h3, h4⟩ := Option.bind_eq_some_iff.mp h2
    have l2 := ih _ _ _ h3
    rw [ex] at l2
    simp only at h4
    split at h4
    ·cases h4
    split at h4
    ·simp only [aV, aW] at h4
     rw [← h4.2, ex]; omega
    ·cases h4
   ·cases h2
  ·cases h
/-- What the function hands back. -/
def impl_parse.Res (w : World) : Option (Tm × ByteArray) → Ending → World → Prop
 | none, e, w' => e = .returned (.tuple #[.pointer none, .string ⟨#[]⟩]) ∧ Below w.heap.size w w'
 | some (t, r), e, w' => ∃ v, e = .returned (.tuple #[v, .string r]) ∧ t.At w' w.heap.size w'.heap.size v ∧ Below w.heap.size w w'
theorem impl_parse.calls (n : Nat) : ∀ (s : ByteArray) (w : World), s.size < n → Calls Try.prog 39 #[.string s] w (impl_parse.Res w (Tm.parse n s)) := by
 induction n with
 | zero => intro s w h; omega
 | succ n ih =>
  intro s w h
  have ex : ∀ z : ByteArray, (z.extract 1 z.size).size = z.size - 1 := fun z => by simp
  unfold Tm.parse
  by_cases h0 : s.size = 0
  ·rw [if_pos h0]; exact impl_parse.empty s w h0
  rw [if_neg h0]
  by_cases h1 : bt s 0 = 48 ∨ bt s 0 = 49 ∨ bt s 0 = 97
  ·rw [if_pos h1]; exact impl_parse.leaf s w h0 _ rfl h1
  rw [if_neg h1]
  have i1 := fun W => ih (s.extract 1 s.size) W (by rw [ex]; omega)
  by_cases h2 : bt s 0 = 42 ∨ (50 ≤ bt s 0 ∧ bt s 0 ≤ 53)
  ·rw [if_pos h2]
   cases hp : Tm.parse n (s.extract 1 s.size) with
   | none => rw [hp] at i1; exact impl_parse.un_no s w h0 _ rfl h2 i1
   | some x => obtain ⟨a, r⟩ := x; rw [hp] at i1; exact impl_parse.un_yes s w h0 _ rfl h2 a r i1
  rw [if_neg h2]
  by_cases h3 : bt s 0 = 40
  ·rw [if_pos h3]
   cases hp : Tm.parse n (s.extract 1 s.size) with
   | none => rw [hp] at i1; exact impl_parse.two_no s w h0 h3 i1
   | some x =>
    obtain ⟨a, r⟩ := x
    rw [hp] at i1
    have l1 := Tm.parse_lt _ _ _ _ hp
    rw [ex] at l1
    simp only [bR]
    by_cases h4 : r.size = 0
    ·rw [if_pos h4]; exact impl_parse.two_end s w h0 h3 a r i1 h4
    rw [if_neg h4]
    by_cases h5 : bt r 0 = 43 ∨ bt r 0 = 46 ∨ bt r 0 = 38
    ·rw [if_pos h5]
     have i2 := fun W => ih (r.extract 1 r.size) W (by rw [ex]; omega)
     cases hq : Tm.parse n (r.extract 1 r.size) with
     | none => rw [hq] at i2; exact impl_parse.two_none s w h0 h3 a r i1 h4 _ rfl h5 i2
     | some y =>
      obtain ⟨b, q⟩ := y
      rw [hq] at i2
      simp only [bR]
      by_cases h6 : q.size = 0
      ·rw [if_pos h6]; exact impl_parse.two_open s w h0 h3 a r i1 h4 _ rfl h5 b q i2 h6
      rw [if_neg h6]
      by_cases h7 : bt q 0 = 41
      ·rw [if_pos h7]; exact impl_parse.two_yes s w h0 h3 a r i1 h4 _ rfl h5 b q i2 h6 h7
      ·rw [if_neg h7]; exact impl_parse.two_shut s w h0 h3 a r i1 h4 _ rfl h5 b q i2 h6 h7
    ·rw [if_neg h5]; exact impl_parse.two_sign s w h0 h3 a r i1 h4 _ rfl h5
  ·rw [if_neg h3]; exact impl_parse.bad s w h0 _ rfl h1 h2 h3
/-- The term of a text. -/
def Tm.of (s : ByteArray) : Option Tm := if s.size ≤ 60 then (Tm.parse 61 s).bind fun x => if x.2.size = 0 then some x.1 else none else none
/-- What the function hands back. -/
def impl_termOf.Res (w : World) : Option Tm → Ending → World → Prop
 | none, e, w' => e = .returned (.pointer none) ∧ Below w.heap.size w w'
 | some t, e, w' => ∃ g, e = .returned (.pointer (some ⟨g, 0, none⟩)) ∧ t.At w' w.heap.size w'.heap.size (.pointer (some ⟨g, 0, none⟩)) ∧ Below w.heap.size w w'
set_option maxHeartbeats 2000000 in
set_option maxRecDepth 100000 in
theorem impl_termOf.calls (s : ByteArray) (w : World) : Calls Try.prog 25 #[.string s] w (impl_termOf.Res w (Tm.of s)) := by
 unfold Tm.of
 by_cases h : s.size ≤ 60
 ·rw [if_pos h]
  have hl : ¬ (60 : Int) < (s.size : Int) := by omega
  have C := aM (impl_parse.calls 61 s w (by omega))
  cases hp : Tm.parse 61 s with
  | none =>
   rw [hp] at C
   have C0 : Calls Try.prog 39 #[.string s] w fun e w' => e = .returned (.tuple #[.pointer none, .string ⟨#[]⟩]) ∧ Below w.heap.size w w' := C.out
   clear C
   go_enter Try.func25, Try.ntmps25
   go_wp2_with (go_at_call 39; refine C0.mono ?_; rintro e w1 ⟨rfl, hb⟩; have HB := aM hb; clear hb)
   go_ret
   exact ⟨rfl, HB.out⟩
  | some x =>
   obtain ⟨t, r⟩ := x
   rw [hp] at C
   have C0 : Calls Try.prog 39 #[.string s] w fun e w' => ∃ v, e = .returned (.tuple #[v, .string r]) ∧ t.At w' w.heap.size w'.heap.size v ∧ Below w.heap.size w w' := C.out
   clear C
   simp only [bR]
   by_cases hr : r.size = 0
   ·rw [if_pos hr]
    have hr0 : r.toList.isEmpty = true := by rw [impl_parse.isEmpty, aH hr]
    go_enter Try.func25, Try.ntmps25
    go_wp2_with (go_at_call 39; refine C0.mono ?_; rintro e w1 ⟨v, rfl, hat, hb⟩; have HB := aM hb; have HAT := aM hat; obtain ⟨p, _, _, rfl⟩ := hat.ptr; clear hb hat)
    go_ret
    exact ⟨p, rfl, HAT.out, HB.out⟩
   ·rw [if_neg hr]
    have hr0 : r.toList.isEmpty = false := by rw [impl_parse.isEmpty, aK hr]
    go_enter Try.func25, Try.ntmps25
    go_wp2_with (go_at_call 39; refine C0.mono ?_; rintro e w1 ⟨v, rfl, hat, hb⟩; have HB := aM hb; clear hb hat)
    go_ret
    exact ⟨rfl, HB.out⟩
 ·rw [if_neg h]
  have hl : (60 : Int) < (s.size : Int) := by omega
  go_enter Try.func25, Try.ntmps25
  go_wp2
  go_ret
  exact ⟨rfl, cE _ _⟩
def impl_term_set.f (k : Nat) : Tm → Option (ByteArray × Bool)
 | .leaf c => if c = 48 then some (⟨#[40, 48, 41]⟩, true) else if c = 49 then some (⟨#[49, 40, 48, 41]⟩, true) else if c = 97 then some (⟨#[48, 49, 40, 48, 41]⟩, true) else none
 | .un c a => (impl_term_set.f k a).bind fun x => if x.2 = true then (if c = 42 then impl_StarOf.f k x.1 else if 50 ≤ c ∧ c ≤ 53 then impl_SumTimes.f k x.1 (c - 48) else none) else some (⟨#[]⟩, false)
 | .bin c a b => (impl_term_set.f k a).bind fun x => if x.2 = true then ((impl_term_set.f k b).bind fun y => if y.2 = true then (if c = 43 then impl_MakeEither.f k x.1 y.1 else if c = 46 then impl_SumOf.f k x.1 y.1 else if c = 38 then impl_MakeBoth.f k x.1 y.1 else none) else some (⟨#[]⟩, false)) else some (⟨#[]⟩, false)
/-- A row of texts, cell by cell. -/
theorem impl_term_set.row {w : World} {base : Nat} {ok : Nat → Prop} {v : Value} {xs : List ByteArray} (h : Kd.string.R 9 w base ok v xs) (hp : 0 < xs.length) : ∃ h n, v = .slice (some ⟨h, 0, none⟩) xs.length n ∧ base ≤ h ∧ h < w.heap.size ∧ ∀ i, i < xs.length → w.cell? ⟨h, i, none⟩ = some (.string (xs.getD i ByteArray.empty)) := by
 obtain ⟨g, cap, rfl, h1, h2, cells, h3⟩ := cQ h hp
 refine ⟨g, cap, rfl, h1, h2, fun i hi => ?_⟩
 obtain ⟨ad, c, e, _, hk, hc⟩ := Kd.C_get (bM h).2.2 ByteArray.empty (i : Int) (by omega) (by omega)
 obtain rfl := bU e
 have hk' : c = [Value.string (xs.getD i ByteArray.empty)] := hk
 have := hc 0 (.string (xs.getD i ByteArray.empty)) (by rw [hk']; rfl)
 rw [show ((i : Int).toNat * Kd.string.sz + 0) = i by simp [Kd.string, Kd.scalar], add_plain] at this
 exact this
theorem impl_term_set.row1 {w : World} {base : Nat} {ok : Nat → Prop} {v : Value} {x : ByteArray} (h : Kd.string.R 9 w base ok v [x]) : ∃ h n, v = .slice (some ⟨h, 0, none⟩) 1 n ∧ base ≤ h ∧ h < w.heap.size ∧ w.cell? ⟨h, 0, none⟩ = some (.string x) := by
 obtain ⟨h, n, h1, h2, h3, h4⟩ := impl_term_set.row h (by simp)
 exact ⟨h, n, h1, h2, h3, h4 0 (by simp)⟩
theorem impl_term_set.row2 {w : World} {base : Nat} {ok : Nat → Prop} {v : Value} {x y : ByteArray} (h : Kd.string.R 9 w base ok v [x, y]) : ∃ h n, v = .slice (some ⟨h, 0, none⟩) 2 n ∧ base ≤ h ∧ h < w.heap.size ∧ w.cell? ⟨h, 0, none⟩ = some (.string x) ∧ w.cell? ⟨h, 1, none⟩ = some (.string y) := by
 obtain ⟨h, n, h1, h2, h3, h4⟩ := impl_term_set.row h (by simp)
 exact ⟨h, n, h1, h2, h3, h4 0 (by simp), h4 1 (by simp)⟩
theorem impl_term_set.infoS : (Try.prog.info? 9).map (fun i => (i.zero, i.size, i.bytes)) = some (some (.string ⟨#[]⟩), 1, 16) := by kernel_rfl
set_option maxHeartbeats 4000000 in
set_option maxRecDepth 100000 in
theorem impl_term_set.leaf_zero (k : Nat) (g : Nat) (w : World) (hb : w.heap[g]? = some (.cells #[.int .u8 48, .slice none 0 0] 72 (0, 0))) :
  Calls Try.prog 31 #[.pointer (some ⟨g, 0, none⟩)] w fun e w' => e = .returned (.tuple #[.string ⟨#[40, 48, 41]⟩, .bool true]) ∧ Below w.heap.size w w' := by
 have e0 := aA hb 0
 have e1 := aA hb 1
 go_enter Try.func31, Try.ntmps31
 go_wp2
 refine wp_loop_rounds 1 ?_
 rw [rounds_succ]
 go_wp2
 go_ret2
 exact ⟨rfl, cE _ _⟩
set_option maxHeartbeats 4000000 in
set_option maxRecDepth 100000 in
theorem impl_term_set.leaf_one (k : Nat) (g : Nat) (w : World) (hb : w.heap[g]? = some (.cells #[.int .u8 49, .slice none 0 0] 72 (0, 0))) :
  Calls Try.prog 31 #[.pointer (some ⟨g, 0, none⟩)] w fun e w' => e = .returned (.tuple #[.string ⟨#[49, 40, 48, 41]⟩, .bool true]) ∧ Below w.heap.size w w' := by
 have e0 := aA hb 0
 have e1 := aA hb 1
 go_enter Try.func31, Try.ntmps31
 go_wp2
 refine wp_loop_rounds 1 ?_
 rw [rounds_succ]
 go_wp2
 go_ret2
 exact ⟨rfl, cE _ _⟩
set_option maxHeartbeats 4000000 in
set_option maxRecDepth 100000 in
theorem impl_term_set.leaf_a (k : Nat) (g : Nat) (w : World) (hb : w.heap[g]? = some (.cells #[.int .u8 97, .slice none 0 0] 72 (0, 0))) :
  Calls Try.prog 31 #[.pointer (some ⟨g, 0, none⟩)] w fun e w' => e = .returned (.tuple #[.string ⟨#[48, 49, 40, 48, 41]⟩, .bool true]) ∧ Below w.heap.size w w' := by
 have e0 := aA hb 0
 have e1 := aA hb 1
 go_enter Try.func31, Try.ntmps31
 go_wp2
 refine wp_loop_rounds 1 ?_
 rw [rounds_succ]
 go_wp2
 go_ret2
 exact ⟨rfl, cE _ _⟩
set_option maxHeartbeats 4000000 in
set_option maxRecDepth 100000 in
theorem impl_term_set.un_no (k : Nat) (g h n : Nat) (c : Int) (cs : Array Value) (x : Value) (w : World) (hb : w.heap[g]? = some (.cells #[.int .u8 c, .slice (some ⟨h, 0, none⟩) 1 n] 72 (0, 0))) (hr : w.heap[h]? = some (.cells cs 42 (0, 0))) (hx : cs[0]? = some x) (s : ByteArray) (ih : ∀ W, Below w.heap.size w W → Calls Try.prog 31 #[x] W fun e w' => e = .returned (.tuple #[.string s, .bool false]) ∧ Below W.heap.size W w') :
  Calls Try.prog 31 #[.pointer (some ⟨g, 0, none⟩)] w fun e w' => e = .returned (.tuple #[.string ⟨#[]⟩, .bool false]) ∧ Below w.heap.size w w' := by
 have e1 := aA hb 1
 have e2 : w.cell? ⟨h, 0, none⟩ = some x := (aA hr 0).trans hx
 have IH := aM ih
 clear ih hb hr hx
 go_enter Try.func31, Try.ntmps31
 go_wp2
 refine wp_loop_rounds 1 ?_
 rw [rounds_succ]
 go_wp2_with (go_at_call_of 31 x; refine (IH.out _ (cE _ _)).mono ?_; rintro e w1 ⟨rfl, hd⟩; have HB1 := aM (aE (cE _ _) hd); clear hd)
 go_ret2
 exact ⟨rfl, HB1.out⟩
set_option maxHeartbeats 4000000 in
set_option maxRecDepth 100000 in
theorem impl_term_set.star (k : Nat) (g h n : Nat) (c : Int) (cs : Array Value) (x : Value) (w : World) (hb : w.heap[g]? = some (.cells #[.int .u8 c, .slice (some ⟨h, 0, none⟩) 1 n] 72 (0, 0))) (hr : w.heap[h]? = some (.cells cs 42 (0, 0))) (hx : cs[0]? = some x) (hc : c = 42) (s : ByteArray) (ih : ∀ W, Below w.heap.size w W → Calls Try.prog 31 #[x] W fun e w' => e = .returned (.tuple #[.string s, .bool true]) ∧ Below W.heap.size W w') (r1 : ByteArray) (r2 : Bool) (h9 : impl_StarOf.f k s = some (r1, r2)) :
  Calls Try.prog 31 #[.pointer (some ⟨g, 0, none⟩)] w fun e w' => e = .returned (.tuple #[.string r1, .bool r2]) ∧ Below w.heap.size w w' := by
 subst hc
 have e1 := aA hb 1
 have e2 : w.cell? ⟨h, 0, none⟩ = some x := (aA hr 0).trans hx
 have BT := aM hb
 have IH := aM ih
 clear ih hb hr hx
 have H9 := aM h9
 clear h9
 go_enter Try.func31, Try.ntmps31
 go_wp2
 refine wp_loop_rounds 2 ?_
 rw [rounds_succ]
 go_wp2_with (first | (go_at_call_of 31 x; refine (IH.out _ (cE _ _)).mono ?_; rintro e w1 ⟨rfl, hd⟩; have HB1 := aM (aE (cE _ _) hd); clear hd) | ((with_reducible refine gate_builtin (b := .append) (xs := #[.tmp 25, .tmp 27]) rfl ?_); at_builtin; refine Kd.R_append Kd.string (w0 := w) w.heap.size rfl (.tmp 25) (.tmp 27) 65 9 (.string ⟨#[]⟩) 16 rfl Try.underlying65 impl_term_set.infoS rfl (by decide) (by omega) (.slice none 0 0) ([] : List ByteArray) s [.string s] (fun _ => True) (fun _ => False) rfl rfl ?aP (fun _ hk => hk.elim) ?aF ?aO ?aB ?aS ?aL ?_; (case aP => exact rfl); (case aB => exact HB1.out); (case aF => exact (fun _ _ => trivial)); (case aO => exact (Kd.R_nil _ _ _ _ _)); (case aS => exact HB1.out.size); (case aL => simp); intro v1_ w1_ ho hb hg hat; obtain ⟨rh1, rn1, rfl, rb1, rl1, rc1⟩ := impl_term_set.row1 ho; have HG1 := aM hb; have g20 := aA (aD BT.out hb) 0; clear ho hb hg hat))
 rw [rounds_succ]
 have HG2 := aM HG1.out
 go_wp2_with (go_at_call 46; refine (impl_StarOf.calls k s r1 r2 _ H9.out).mono ?_; rintro e w9 ⟨rfl, hd⟩; have HB9 := aM (aE HG2.out hd); clear hd)
 go_ret2
 exact ⟨rfl, HB9.out⟩
def impl_term_set.T25 : Bool × List (List Nat × List Nat) := (true, [([], []), ([0], [0]), ([1], [1]), ([], []), ([3], [3]), ([4], [4]), ([5], [5]), ([6], [6]), ([7], [7]), ([2, 8], [2, 8]), ([9], [9]), ([9], [9]), ([10, 9, 0, 1, 2, 3, 4, 5, 6, 7, 8, 9, 10, 11], [10]), ([11, 12, 0, 1, 2, 3, 4, 5, 6, 7, 8, 9, 10, 11, 12], [11])])
def impl_term_set.B25 : List Nat := [0, 1, 3, 0, 8, 24, 56, 120, 248, 511, 1023, 1023, 4095, 8191]
theorem impl_term_set.tab25 : rtab .any (opsOf Try.f31 25) = impl_term_set.T25 := by kernel_rfl
theorem impl_term_set.bits25 : waitsOk impl_term_set.T25.2 impl_term_set.B25 = true := by kernel_rfl
def impl_term_set.T20 : Bool × List (List Nat × List Nat) := (true, [([], []), ([0], [0]), ([1], [1]), ([], []), ([3], [3]), ([4], [4]), ([2, 5], [2, 5]), ([6], [6]), ([6], [6]), ([7, 6, 0, 1, 2, 3, 4, 5, 6, 7, 8], [7]), ([8, 9, 0, 1, 2, 3, 4, 5, 6, 7, 8, 9], [8])])
def impl_term_set.B20 : List Nat := [0, 1, 3, 0, 8, 24, 63, 127, 127, 511, 1023]
theorem impl_term_set.tab20 : rtab .any (opsOf Try.f31 20) = impl_term_set.T20 := by kernel_rfl
theorem impl_term_set.bits20 : waitsOk impl_term_set.T20.2 impl_term_set.B20 = true := by kernel_rfl
def impl_term_set.T22 : Bool × List (List Nat × List Nat) := (true, [([], []), ([0], [0]), ([1], [1]), ([], []), ([3], [3]), ([4], [4]), ([2, 5], [2, 5]), ([6], [6]), ([6], [6]), ([7, 6, 0, 1, 2, 3, 4, 5, 6, 7, 8], [7]), ([8, 9, 0, 1, 2, 3, 4, 5, 6, 7, 8, 9], [8])])
def impl_term_set.B22 : List Nat := [0, 1, 3, 0, 8, 24, 63, 127, 127, 511, 1023]
theorem impl_term_set.tab22 : rtab .any (opsOf Try.f31 22) = impl_term_set.T22 := by kernel_rfl
theorem impl_term_set.bits22 : waitsOk impl_term_set.T22.2 impl_term_set.B22 = true := by kernel_rfl
def impl_term_set.T24 : Bool × List (List Nat × List Nat) := (true, [([], []), ([0], [0]), ([1], [1]), ([], []), ([3], [3]), ([4], [4]), ([2, 5], [2, 5]), ([6], [6]), ([6], [6]), ([7, 6, 0, 1, 2, 3, 4, 5, 6, 7, 8], [7]), ([8, 9, 0, 1, 2, 3, 4, 5, 6, 7, 8, 9], [8])])
def impl_term_set.B24 : List Nat := [0, 1, 3, 0, 8, 24, 63, 127, 127, 511, 1023]
theorem impl_term_set.tab24 : rtab .any (opsOf Try.f31 24) = impl_term_set.T24 := by kernel_rfl
theorem impl_term_set.bits24 : waitsOk impl_term_set.T24.2 impl_term_set.B24 = true := by kernel_rfl
set_option maxHeartbeats 4000000 in
set_option maxRecDepth 100000 in
theorem impl_term_set.times (k : Nat) (g h n : Nat) (c : Int) (cs : Array Value) (x : Value) (w : World) (hb : w.heap[g]? = some (.cells #[.int .u8 c, .slice (some ⟨h, 0, none⟩) 1 n] 72 (0, 0))) (hr : w.heap[h]? = some (.cells cs 42 (0, 0))) (hx : cs[0]? = some x) (hc : 50 ≤ c ∧ c ≤ 53) (s : ByteArray) (ih : ∀ W, Below w.heap.size w W → Calls Try.prog 31 #[x] W fun e w' => e = .returned (.tuple #[.string s, .bool true]) ∧ Below W.heap.size W w') (r1 : ByteArray) (r2 : Bool) (h9 : impl_SumTimes.f k s (c - 48) = some (r1, r2)) :
  Calls Try.prog 31 #[.pointer (some ⟨g, 0, none⟩)] w fun e w' => e = .returned (.tuple #[.string r1, .bool r2]) ∧ Below w.heap.size w w' := by
 have e1 := aA hb 1
 have e2 : w.cell? ⟨h, 0, none⟩ = some x := (aA hr 0).trans hx
 have BT := aM hb
 have IH := aM ih
 clear ih hb hr hx
 have H9 := aM h9
 have n0 : (c == 48) = false := beq_eq_false_iff_ne.mpr (by omega)
 have n1 : (c == 49) = false := beq_eq_false_iff_ne.mpr (by omega)
 have n2 : (c == 97) = false := beq_eq_false_iff_ne.mpr (by omega)
 have n3 : (c == 42) = false := beq_eq_false_iff_ne.mpr (by omega)
 have n4 : (c == 43) = false := beq_eq_false_iff_ne.mpr (by omega)
 have n5 : (c == 46) = false := beq_eq_false_iff_ne.mpr (by omega)
 have n6 : (c == 38) = false := beq_eq_false_iff_ne.mpr (by omega)
 have hm : (c - 48) % 256 = c - 48 := by omega
 have hw : wrap64 (c - 48) = c - 48 := by unfold wrap64; omega
 have hw8 : IntKind.u8.wrap (c - 48) = c - 48 := by rw [show IntKind.u8.wrap (c - 48) = (c - 48) % 256 from rfl]; exact hm
 have hw64 : IntKind.i64.wrap (c - 48) = c - 48 := by rw [IntKind.wrap_i64]; omega
 clear h9 hc
 go_enter Try.func31, Try.ntmps31
 go_wp2
 refine wp_loop_rounds 2 ?_
 rw [rounds_succ]
 go_wp2_with (first | (go_at_call_of 31 x; refine (IH.out _ (cE _ _)).mono ?_; rintro e w1 ⟨rfl, hd⟩; have HB1 := aM (aE (cE _ _) hd); clear hd) | ((with_reducible refine gate_builtin (b := .append) (xs := #[.tmp 25, .tmp 27]) rfl ?_); at_builtin; refine Kd.R_append Kd.string (w0 := w) w.heap.size rfl (.tmp 25) (.tmp 27) 65 9 (.string ⟨#[]⟩) 16 rfl Try.underlying65 impl_term_set.infoS rfl (by decide) (by omega) (.slice none 0 0) ([] : List ByteArray) s [.string s] (fun _ => True) (fun _ => False) rfl rfl ?aP (fun _ hk => hk.elim) ?aF ?aO ?aB ?aS ?aL ?_; (case aP => exact rfl); (case aB => exact HB1.out); (case aF => exact (fun _ _ => trivial)); (case aO => exact (Kd.R_nil _ _ _ _ _)); (case aS => exact HB1.out.size); (case aL => simp); intro v1_ w1_ ho hb hg hat; obtain ⟨rh1, rn1, rfl, rb1, rl1, rc1⟩ := impl_term_set.row1 ho; have HG1 := aM hb; have g20 := aA (aD BT.out hb) 0; clear ho hb hg hat))
 rw [rounds_succ]
 have HG2 := aM HG1.out
 go_wp2
 have HB8 := aM (b1 HG2.out)
 have C0 := aM (show w1_.drew.cell? ⟨rh1, 0, none⟩ = some (.string s) from rc1)
 have C1 := aM (show w1_.drew.cell? ⟨g, 0, none⟩ = some (.int .u8 c) from g20)
 refine start_ (n := 14) (S := fun w' => w'.cell? ⟨rh1, 0, none⟩ = some (.string s) ∧ w'.cell? ⟨g, 0, none⟩ = some (.int .u8 c)) (ds := []) #[false, false, false, false, false, false, false, false, false, false, false, false, false, false] (by kernel_rfl) rfl rfl ⟨C0.out, C1.out⟩ (fun hHeld => ?_); refine with_tabW impl_term_set.tab25 impl_term_set.bits25 (fun HT_ HW_ => ?_)
 generalize w1_.drew = W9 at HB8 C0 C1 hHeld ⊢
 refine pQ 0 81 HT_ ?_
 refine pQ 1 82 HT_ ?_
 refine tQ 2 83 HT_ HW_ hHeld ?_
 refine pQ 3 84 HT_ ?_
 refine pQ 4 85 HT_ ?_
 refine pQ 5 86 HT_ ?_
 refine tQ 6 87 HT_ HW_ hHeld ?_
 refine pQ 7 88 HT_ ?_
 refine pQ 8 89 HT_ ?_
 refine oQ 9 90 HT_ (fun K hK => ?_)
 refine gO Try.func50 #[.string s, .int .i64 (c - 48)] ?_
 refine (impl_SumTimes.calls k s (c - 48) r1 r2 _ H9.out).mono ?_
 rintro e w9 ⟨rfl, hd⟩
 refine ⟨_, rfl, ?_⟩
 have HB9 := aM (aE HB8.out hd)
 refine hK.out _ _ ⟨cN hd C0.out, cN hd C1.out⟩ (fun hHeld => ?_)
 clear hK K
 refine nQ ?_
 refine pQ 10 91 HT_ ?_
 refine pQ 11 92 HT_ ?_
 refine pQ 12 2 HT_ ?_
 refine pQ 13 3 HT_ ?_
 refine done_ (done_of HT_.out (by kernel_rfl)) ?_
 go_wp2
 go_ret2
 exact ⟨rfl, HB9.out⟩
set_option maxHeartbeats 4000000 in
set_option maxRecDepth 100000 in
theorem impl_term_set.bin_no (k : Nat) (g h n : Nat) (c : Int) (cs : Array Value) (x y : Value) (w : World) (hb : w.heap[g]? = some (.cells #[.int .u8 c, .slice (some ⟨h, 0, none⟩) 2 n] 72 (0, 0))) (hr : w.heap[h]? = some (.cells cs 42 (0, 0))) (hx : cs[0]? = some x) (hy : cs[1]? = some y) (s : ByteArray) (ih : ∀ W, Below w.heap.size w W → Calls Try.prog 31 #[x] W fun e w' => e = .returned (.tuple #[.string s, .bool false]) ∧ Below W.heap.size W w') :
  Calls Try.prog 31 #[.pointer (some ⟨g, 0, none⟩)] w fun e w' => e = .returned (.tuple #[.string ⟨#[]⟩, .bool false]) ∧ Below w.heap.size w w' := by
 have e1 := aA hb 1
 have e2 : w.cell? ⟨h, 0, none⟩ = some x := (aA hr 0).trans hx
 have IH := aM ih
 clear ih hb hr hx hy
 go_enter Try.func31, Try.ntmps31
 go_wp2
 refine wp_loop_rounds 1 ?_
 rw [rounds_succ]
 go_wp2_with (go_at_call_of 31 x; refine (IH.out _ (cE _ _)).mono ?_; rintro e w1 ⟨rfl, hd⟩; have HB1 := aM (aE (cE _ _) hd); clear hd)
 go_ret2
 exact ⟨rfl, HB1.out⟩
set_option maxHeartbeats 4000000 in
set_option maxRecDepth 100000 in
theorem impl_term_set.bin_no2 (k : Nat) (g h n : Nat) (c : Int) (cs : Array Value) (x y : Value) (w : World) (hb : w.heap[g]? = some (.cells #[.int .u8 c, .slice (some ⟨h, 0, none⟩) 2 n] 72 (0, 0))) (hr : w.heap[h]? = some (.cells cs 42 (0, 0))) (hx : cs[0]? = some x) (hy : cs[1]? = some y) (s u : ByteArray) (ih : ∀ W, Below w.heap.size w W → Calls Try.prog 31 #[x] W fun e w' => e = .returned (.tuple #[.string s, .bool true]) ∧ Below W.heap.size W w') (ih2 : ∀ W, Below w.heap.size w W → Calls Try.prog 31 #[y] W fun e w' => e = .returned (.tuple #[.string u, .bool false]) ∧ Below W.heap.size W w') :
  Calls Try.prog 31 #[.pointer (some ⟨g, 0, none⟩)] w fun e w' => e = .returned (.tuple #[.string ⟨#[]⟩, .bool false]) ∧ Below w.heap.size w w' := by
 have e1 := aA hb 1
 have e2 : w.cell? ⟨h, 0, none⟩ = some x := (aA hr 0).trans hx
 have IH := aM ih
 have HR := aM hr; have HY := aM hy
 clear ih hb hr hx hy
 have IH2 := aM ih2
 clear ih2
 go_enter Try.func31, Try.ntmps31
 go_wp2
 refine wp_loop_rounds 2 ?_
 rw [rounds_succ]
 go_wp2_with (first | (go_at_call_of 31 x; refine (IH.out _ (cE _ _)).mono ?_; rintro e w1 ⟨rfl, hd⟩; have HB1 := aM (aE (cE _ _) hd); clear hd) | ((with_reducible refine gate_builtin (b := .append) (xs := #[.tmp 25, .tmp 27]) rfl ?_); at_builtin; refine Kd.R_append Kd.string (w0 := w) w.heap.size rfl (.tmp 25) (.tmp 27) 65 9 (.string ⟨#[]⟩) 16 rfl Try.underlying65 impl_term_set.infoS rfl (by decide) (by omega) (.slice none 0 0) ([] : List ByteArray) s [.string s] (fun _ => True) (fun _ => False) rfl rfl ?aP (fun _ hk => hk.elim) ?aF ?aO ?aB ?aS ?aL ?_; (case aP => exact rfl); (case aB => exact HB1.out); (case aF => exact (fun _ _ => trivial)); (case aO => exact (Kd.R_nil _ _ _ _ _)); (case aS => exact HB1.out.size); (case aL => simp); intro v1_ w1_ ho hb hg hat; obtain ⟨rh1, rn1, rfl, rb1, rl1, rc1⟩ := impl_term_set.row1 ho; have HG1 := aM hb; have y1 : w1_.cell? ⟨h, 1, none⟩ = some y := (aA (aD HR.out hb) 1).trans HY.out; clear ho hb hg hat))
 rw [rounds_succ]
 go_wp2_with (go_at_call_of 31 y; refine (IH2.out _ HG1.out).mono ?_; rintro e w2 ⟨rfl, hd⟩; have HB2 := aM (aE HG1.out hd); clear hd)
 go_ret2
 exact ⟨rfl, HB2.out⟩
set_option maxHeartbeats 4000000 in
set_option maxRecDepth 100000 in
theorem impl_term_set.either (k : Nat) (g h n : Nat) (c : Int) (cs : Array Value) (x y : Value) (w : World) (hb : w.heap[g]? = some (.cells #[.int .u8 c, .slice (some ⟨h, 0, none⟩) 2 n] 72 (0, 0))) (hr : w.heap[h]? = some (.cells cs 42 (0, 0))) (hx : cs[0]? = some x) (hy : cs[1]? = some y) (hc : c = 43) (s u : ByteArray) (ih : ∀ W, Below w.heap.size w W → Calls Try.prog 31 #[x] W fun e w' => e = .returned (.tuple #[.string s, .bool true]) ∧ Below W.heap.size W w') (ih2 : ∀ W, Below w.heap.size w W → Calls Try.prog 31 #[y] W fun e w' => e = .returned (.tuple #[.string u, .bool true]) ∧ Below W.heap.size W w') (r1 : ByteArray) (r2 : Bool) (h9 : impl_MakeEither.f k s u = some (r1, r2)) :
  Calls Try.prog 31 #[.pointer (some ⟨g, 0, none⟩)] w fun e w' => e = .returned (.tuple #[.string r1, .bool r2]) ∧ Below w.heap.size w w' := by
 subst hc
 have e1 := aA hb 1
 have e2 : w.cell? ⟨h, 0, none⟩ = some x := (aA hr 0).trans hx
 have BT := aM hb
 have IH := aM ih
 have HR := aM hr; have HY := aM hy
 clear ih hb hr hx hy
 have IH2 := aM ih2
 clear ih2
 have H9 := aM h9
 clear h9
 go_enter Try.func31, Try.ntmps31
 go_wp2
 refine wp_loop_rounds 3 ?_
 rw [rounds_succ]
 go_wp2_with (first | (go_at_call_of 31 x; refine (IH.out _ (cE _ _)).mono ?_; rintro e w1 ⟨rfl, hd⟩; have HB1 := aM (aE (cE _ _) hd); clear hd) | ((with_reducible refine gate_builtin (b := .append) (xs := #[.tmp 25, .tmp 27]) rfl ?_); at_builtin; refine Kd.R_append Kd.string (w0 := w) w.heap.size rfl (.tmp 25) (.tmp 27) 65 9 (.string ⟨#[]⟩) 16 rfl Try.underlying65 impl_term_set.infoS rfl (by decide) (by omega) (.slice none 0 0) ([] : List ByteArray) s [.string s] (fun _ => True) (fun _ => False) rfl rfl ?aP (fun _ hk => hk.elim) ?aF ?aO ?aB ?aS ?aL ?_; (case aP => exact rfl); (case aB => exact HB1.out); (case aF => exact (fun _ _ => trivial)); (case aO => exact (Kd.R_nil _ _ _ _ _)); (case aS => exact HB1.out.size); (case aL => simp); intro v1_ w1_ ho hb hg hat; obtain ⟨rh1, rn1, rfl, rb1, rl1, rc1⟩ := impl_term_set.row1 ho; have HR1 := aM ho; have HG1 := aM hb; have y1 : w1_.cell? ⟨h, 1, none⟩ = some y := (aA (aD HR.out hb) 1).trans HY.out; clear ho hb hg hat))
 rw [rounds_succ]
 go_wp2_with (first | (go_at_call_of 31 y; refine (IH2.out _ HG1.out).mono ?_; rintro e w2 ⟨rfl, hd⟩; have HB2 := aM (aE HG1.out hd); have HR2 := aM (bG HR1.out hd); clear hd) | ((with_reducible refine gate_builtin (b := .append) (xs := #[.tmp 25, .tmp 27]) rfl ?_); at_builtin; refine Kd.R_append Kd.string (w0 := w) w.heap.size rfl (.tmp 25) (.tmp 27) 65 9 (.string ⟨#[]⟩) 16 rfl Try.underlying65 impl_term_set.infoS rfl (by decide) (by omega) (.slice (some ⟨rh1, 0, none⟩) 1 rn1) [s] u [.string u] (fun _ => True) (fun _ => False) rfl rfl ?aP (fun _ hk => hk.elim) ?aF ?aO ?aB ?aS ?aL ?_; (case aP => exact rfl); (case aB => exact HB2.out); (case aF => exact (fun _ _ => trivial)); (case aO => exact HR2.out); (case aS => exact HB2.out.size); (case aL => simp); intro v2_ w2_ ho hb hg hat; obtain ⟨rh2, rn2, rfl, rb2, rl2, rc2, rd2⟩ := impl_term_set.row2 ho; have HG2 := aM hb; have g40 := aA (aD BT.out hb) 0; clear ho hb hg hat))
 rw [rounds_succ]
 go_wp2
 have HB8 := aM (b1 HG2.out)
 have C0 := aM (show w2_.drew.cell? ⟨rh2, 0, none⟩ = some (.string s) from rc2)
 have C1 := aM (show w2_.drew.cell? ⟨rh2, 1, none⟩ = some (.string u) from rd2)
 refine start_ (n := 11) (S := fun w' => w'.cell? ⟨rh2, 0, none⟩ = some (.string s) ∧ w'.cell? ⟨rh2, 1, none⟩ = some (.string u)) (ds := []) #[false, false, false, false, false, false, false, false, false, false, false] (by kernel_rfl) rfl rfl ⟨C0.out, C1.out⟩ (fun hHeld => ?_); refine with_tabW impl_term_set.tab20 impl_term_set.bits20 (fun HT_ HW_ => ?_)
 generalize w2_.drew = W9 at HB8 C0 C1 hHeld ⊢
 refine pQ 0 50 HT_ ?_
 refine pQ 1 51 HT_ ?_
 refine tQ 2 52 HT_ HW_ hHeld ?_
 refine pQ 3 53 HT_ ?_
 refine pQ 4 54 HT_ ?_
 refine tQ 5 55 HT_ HW_ hHeld ?_
 refine oQ 6 56 HT_ (fun K hK => ?_)
 refine gO Try.func47 #[.string s, .string u] ?_
 refine (impl_MakeEither.calls k s u r1 r2 _ H9.out).mono ?_
 rintro e w9 ⟨rfl, hd⟩
 refine ⟨_, rfl, ?_⟩
 have HB9 := aM (aE HB8.out hd)
 refine hK.out _ _ ⟨cN hd C0.out, cN hd C1.out⟩ (fun hHeld => ?_)
 clear hK K
 refine nQ ?_
 refine pQ 7 57 HT_ ?_
 refine pQ 8 58 HT_ ?_
 refine pQ 9 2 HT_ ?_
 refine pQ 10 3 HT_ ?_
 refine done_ (done_of HT_.out (by kernel_rfl)) ?_
 go_wp2
 go_ret2
 exact ⟨rfl, HB9.out⟩
set_option maxHeartbeats 4000000 in
set_option maxRecDepth 100000 in
theorem impl_term_set.sum (k : Nat) (g h n : Nat) (c : Int) (cs : Array Value) (x y : Value) (w : World) (hb : w.heap[g]? = some (.cells #[.int .u8 c, .slice (some ⟨h, 0, none⟩) 2 n] 72 (0, 0))) (hr : w.heap[h]? = some (.cells cs 42 (0, 0))) (hx : cs[0]? = some x) (hy : cs[1]? = some y) (hc : c = 46) (s u : ByteArray) (ih : ∀ W, Below w.heap.size w W → Calls Try.prog 31 #[x] W fun e w' => e = .returned (.tuple #[.string s, .bool true]) ∧ Below W.heap.size W w') (ih2 : ∀ W, Below w.heap.size w W → Calls Try.prog 31 #[y] W fun e w' => e = .returned (.tuple #[.string u, .bool true]) ∧ Below W.heap.size W w') (r1 : ByteArray) (r2 : Bool) (h9 : impl_SumOf.f k s u = some (r1, r2)) :
  Calls Try.prog 31 #[.pointer (some ⟨g, 0, none⟩)] w fun e w' => e = .returned (.tuple #[.string r1, .bool r2]) ∧ Below w.heap.size w w' := by
 subst hc
 have e1 := aA hb 1
 have e2 : w.cell? ⟨h, 0, none⟩ = some x := (aA hr 0).trans hx
 have BT := aM hb
 have IH := aM ih
 have HR := aM hr; have HY := aM hy
 clear ih hb hr hx hy
 have IH2 := aM ih2
 clear ih2
 have H9 := aM h9
 clear h9
 go_enter Try.func31, Try.ntmps31
 go_wp2
 refine wp_loop_rounds 3 ?_
 rw [rounds_succ]
 go_wp2_with (first | (go_at_call_of 31 x; refine (IH.out _ (cE _ _)).mono ?_; rintro e w1 ⟨rfl, hd⟩; have HB1 := aM (aE (cE _ _) hd); clear hd) | ((with_reducible refine gate_builtin (b := .append) (xs := #[.tmp 25, .tmp 27]) rfl ?_); at_builtin; refine Kd.R_append Kd.string (w0 := w) w.heap.size rfl (.tmp 25) (.tmp 27) 65 9 (.string ⟨#[]⟩) 16 rfl Try.underlying65 impl_term_set.infoS rfl (by decide) (by omega) (.slice none 0 0) ([] : List ByteArray) s [.string s] (fun _ => True) (fun _ => False) rfl rfl ?aP (fun _ hk => hk.elim) ?aF ?aO ?aB ?aS ?aL ?_; (case aP => exact rfl); (case aB => exact HB1.out); (case aF => exact (fun _ _ => trivial)); (case aO => exact (Kd.R_nil _ _ _ _ _)); (case aS => exact HB1.out.size); (case aL => simp); intro v1_ w1_ ho hb hg hat; obtain ⟨rh1, rn1, rfl, rb1, rl1, rc1⟩ := impl_term_set.row1 ho; have HR1 := aM ho; have HG1 := aM hb; have y1 : w1_.cell? ⟨h, 1, none⟩ = some y := (aA (aD HR.out hb) 1).trans HY.out; clear ho hb hg hat))
 rw [rounds_succ]
 go_wp2_with (first | (go_at_call_of 31 y; refine (IH2.out _ HG1.out).mono ?_; rintro e w2 ⟨rfl, hd⟩; have HB2 := aM (aE HG1.out hd); have HR2 := aM (bG HR1.out hd); clear hd) | ((with_reducible refine gate_builtin (b := .append) (xs := #[.tmp 25, .tmp 27]) rfl ?_); at_builtin; refine Kd.R_append Kd.string (w0 := w) w.heap.size rfl (.tmp 25) (.tmp 27) 65 9 (.string ⟨#[]⟩) 16 rfl Try.underlying65 impl_term_set.infoS rfl (by decide) (by omega) (.slice (some ⟨rh1, 0, none⟩) 1 rn1) [s] u [.string u] (fun _ => True) (fun _ => False) rfl rfl ?aP (fun _ hk => hk.elim) ?aF ?aO ?aB ?aS ?aL ?_; (case aP => exact rfl); (case aB => exact HB2.out); (case aF => exact (fun _ _ => trivial)); (case aO => exact HR2.out); (case aS => exact HB2.out.size); (case aL => simp); intro v2_ w2_ ho hb hg hat; obtain ⟨rh2, rn2, rfl, rb2, rl2, rc2, rd2⟩ := impl_term_set.row2 ho; have HG2 := aM hb; have g40 := aA (aD BT.out hb) 0; clear ho hb hg hat))
 rw [rounds_succ]
 go_wp2
 have HB8 := aM (b1 HG2.out)
 have C0 := aM (show w2_.drew.cell? ⟨rh2, 0, none⟩ = some (.string s) from rc2)
 have C1 := aM (show w2_.drew.cell? ⟨rh2, 1, none⟩ = some (.string u) from rd2)
 refine start_ (n := 11) (S := fun w' => w'.cell? ⟨rh2, 0, none⟩ = some (.string s) ∧ w'.cell? ⟨rh2, 1, none⟩ = some (.string u)) (ds := []) #[false, false, false, false, false, false, false, false, false, false, false] (by kernel_rfl) rfl rfl ⟨C0.out, C1.out⟩ (fun hHeld => ?_); refine with_tabW impl_term_set.tab22 impl_term_set.bits22 (fun HT_ HW_ => ?_)
 generalize w2_.drew = W9 at HB8 C0 C1 hHeld ⊢
 refine pQ 0 61 HT_ ?_
 refine pQ 1 62 HT_ ?_
 refine tQ 2 63 HT_ HW_ hHeld ?_
 refine pQ 3 64 HT_ ?_
 refine pQ 4 65 HT_ ?_
 refine tQ 5 66 HT_ HW_ hHeld ?_
 refine oQ 6 67 HT_ (fun K hK => ?_)
 refine gO Try.func48 #[.string s, .string u] ?_
 refine (impl_SumOf.calls k s u r1 r2 _ H9.out).mono ?_
 rintro e w9 ⟨rfl, hd⟩
 refine ⟨_, rfl, ?_⟩
 have HB9 := aM (aE HB8.out hd)
 refine hK.out _ _ ⟨cN hd C0.out, cN hd C1.out⟩ (fun hHeld => ?_)
 clear hK K
 refine nQ ?_
 refine pQ 7 68 HT_ ?_
 refine pQ 8 69 HT_ ?_
 refine pQ 9 2 HT_ ?_
 refine pQ 10 3 HT_ ?_
 refine done_ (done_of HT_.out (by kernel_rfl)) ?_
 go_wp2
 go_ret2
 exact ⟨rfl, HB9.out⟩
set_option maxHeartbeats 4000000 in
set_option maxRecDepth 100000 in
theorem impl_term_set.both (k : Nat) (g h n : Nat) (c : Int) (cs : Array Value) (x y : Value) (w : World) (hb : w.heap[g]? = some (.cells #[.int .u8 c, .slice (some ⟨h, 0, none⟩) 2 n] 72 (0, 0))) (hr : w.heap[h]? = some (.cells cs 42 (0, 0))) (hx : cs[0]? = some x) (hy : cs[1]? = some y) (hc : c = 38) (s u : ByteArray) (ih : ∀ W, Below w.heap.size w W → Calls Try.prog 31 #[x] W fun e w' => e = .returned (.tuple #[.string s, .bool true]) ∧ Below W.heap.size W w') (ih2 : ∀ W, Below w.heap.size w W → Calls Try.prog 31 #[y] W fun e w' => e = .returned (.tuple #[.string u, .bool true]) ∧ Below W.heap.size W w') (r1 : ByteArray) (r2 : Bool) (h9 : impl_MakeBoth.f k s u = some (r1, r2)) :
  Calls Try.prog 31 #[.pointer (some ⟨g, 0, none⟩)] w fun e w' => e = .returned (.tuple #[.string r1, .bool r2]) ∧ Below w.heap.size w w' := by
 subst hc
 have e1 := aA hb 1
 have e2 : w.cell? ⟨h, 0, none⟩ = some x := (aA hr 0).trans hx
 have BT := aM hb
 have IH := aM ih
 have HR := aM hr; have HY := aM hy
 clear ih hb hr hx hy
 have IH2 := aM ih2
 clear ih2
 have H9 := aM h9
 clear h9
 go_enter Try.func31, Try.ntmps31
 go_wp2
 refine wp_loop_rounds 3 ?_
 rw [rounds_succ]
 go_wp2_with (first | (go_at_call_of 31 x; refine (IH.out _ (cE _ _)).mono ?_; rintro e w1 ⟨rfl, hd⟩; have HB1 := aM (aE (cE _ _) hd); clear hd) | ((with_reducible refine gate_builtin (b := .append) (xs := #[.tmp 25, .tmp 27]) rfl ?_); at_builtin; refine Kd.R_append Kd.string (w0 := w) w.heap.size rfl (.tmp 25) (.tmp 27) 65 9 (.string ⟨#[]⟩) 16 rfl Try.underlying65 impl_term_set.infoS rfl (by decide) (by omega) (.slice none 0 0) ([] : List ByteArray) s [.string s] (fun _ => True) (fun _ => False) rfl rfl ?aP (fun _ hk => hk.elim) ?aF ?aO ?aB ?aS ?aL ?_; (case aP => exact rfl); (case aB => exact HB1.out); (case aF => exact (fun _ _ => trivial)); (case aO => exact (Kd.R_nil _ _ _ _ _)); (case aS => exact HB1.out.size); (case aL => simp); intro v1_ w1_ ho hb hg hat; obtain ⟨rh1, rn1, rfl, rb1, rl1, rc1⟩ := impl_term_set.row1 ho; have HR1 := aM ho; have HG1 := aM hb; have y1 : w1_.cell? ⟨h, 1, none⟩ = some y := (aA (aD HR.out hb) 1).trans HY.out; clear ho hb hg hat))
 rw [rounds_succ]
 go_wp2_with (first | (go_at_call_of 31 y; refine (IH2.out _ HG1.out).mono ?_; rintro e w2 ⟨rfl, hd⟩; have HB2 := aM (aE HG1.out hd); have HR2 := aM (bG HR1.out hd); clear hd) | ((with_reducible refine gate_builtin (b := .append) (xs := #[.tmp 25, .tmp 27]) rfl ?_); at_builtin; refine Kd.R_append Kd.string (w0 := w) w.heap.size rfl (.tmp 25) (.tmp 27) 65 9 (.string ⟨#[]⟩) 16 rfl Try.underlying65 impl_term_set.infoS rfl (by decide) (by omega) (.slice (some ⟨rh1, 0, none⟩) 1 rn1) [s] u [.string u] (fun _ => True) (fun _ => False) rfl rfl ?aP (fun _ hk => hk.elim) ?aF ?aO ?aB ?aS ?aL ?_; (case aP => exact rfl); (case aB => exact HB2.out); (case aF => exact (fun _ _ => trivial)); (case aO => exact HR2.out); (case aS => exact HB2.out.size); (case aL => simp); intro v2_ w2_ ho hb hg hat; obtain ⟨rh2, rn2, rfl, rb2, rl2, rc2, rd2⟩ := impl_term_set.row2 ho; have HG2 := aM hb; have g40 := aA (aD BT.out hb) 0; clear ho hb hg hat))
 rw [rounds_succ]
 go_wp2
 have HB8 := aM (b1 HG2.out)
 have C0 := aM (show w2_.drew.cell? ⟨rh2, 0, none⟩ = some (.string s) from rc2)
 have C1 := aM (show w2_.drew.cell? ⟨rh2, 1, none⟩ = some (.string u) from rd2)
 refine start_ (n := 11) (S := fun w' => w'.cell? ⟨rh2, 0, none⟩ = some (.string s) ∧ w'.cell? ⟨rh2, 1, none⟩ = some (.string u)) (ds := []) #[false, false, false, false, false, false, false, false, false, false, false] (by kernel_rfl) rfl rfl ⟨C0.out, C1.out⟩ (fun hHeld => ?_); refine with_tabW impl_term_set.tab24 impl_term_set.bits24 (fun HT_ HW_ => ?_)
 generalize w2_.drew = W9 at HB8 C0 C1 hHeld ⊢
 refine pQ 0 72 HT_ ?_
 refine pQ 1 73 HT_ ?_
 refine tQ 2 74 HT_ HW_ hHeld ?_
 refine pQ 3 75 HT_ ?_
 refine pQ 4 76 HT_ ?_
 refine tQ 5 77 HT_ HW_ hHeld ?_
 refine oQ 6 78 HT_ (fun K hK => ?_)
 refine gO Try.func49 #[.string s, .string u] ?_
 refine (impl_MakeBoth.calls k s u r1 r2 _ H9.out).mono ?_
 rintro e w9 ⟨rfl, hd⟩
 refine ⟨_, rfl, ?_⟩
 have HB9 := aM (aE HB8.out hd)
 refine hK.out _ _ ⟨cN hd C0.out, cN hd C1.out⟩ (fun hHeld => ?_)
 clear hK K
 refine nQ ?_
 refine pQ 7 79 HT_ ?_
 refine pQ 8 80 HT_ ?_
 refine pQ 9 2 HT_ ?_
 refine pQ 10 3 HT_ ?_
 refine done_ (done_of HT_.out (by kernel_rfl)) ?_
 go_wp2
 go_ret2
 exact ⟨rfl, HB9.out⟩
theorem impl_term_set.calls (k : Nat) (t : Tm) : ∀ (v : Value) (w : World) (lo hi : Nat) (r1 : ByteArray) (r2 : Bool), t.At w lo hi v → impl_term_set.f k t = some (r1, r2) → Calls Try.prog 31 #[v] w fun e w' => e = .returned (.tuple #[.string r1, .bool r2]) ∧ Below w.heap.size w w' := by
 induction t with
 | leaf c =>
  rintro v w lo hi r1 r2 ⟨g, h1, h2, rfl, hb⟩ h
  unfold impl_term_set.f at h
  split at h
  ·rename_i hc
   obtain ⟨rfl, rfl⟩ := Prod.mk.inj (bU h)
   subst hc; exact impl_term_set.leaf_zero k g w hb
  split at h
  ·rename_i hc
   obtain ⟨rfl, rfl⟩ := Prod.mk.inj (bU h)
   subst hc; exact impl_term_set.leaf_one k g w hb
  split at h
  ·rename_i hc
   obtain ⟨rfl, rfl⟩ := Prod.mk.inj (bU h)
   subst hc; exact impl_term_set.leaf_a k g w hb
  ·cases h
 | un c a ih =>
  rintro v w lo hi r1 r2 ⟨g, h, n, cs, x, h1, h2, h3, h4, rfl, hb, hr, hx, hat⟩ hf
  unfold impl_term_set.f at hf
  obtain ⟨⟨s, o⟩, ha, hf⟩ := Option.bind_eq_some_iff.mp hf
  have i1 : ∀ W, Below w.heap.size w W → Calls Try.prog 31 #[x] W fun e w' => e = .returned (.tuple #[.string s, .bool o]) ∧ Below W.heap.size W w' := fun W hW => ih x W lo hi s o (hat.below hW) ha
  cases o with
  | false =>
   simp only [bX, if_false] at hf
   obtain ⟨rfl, rfl⟩ := Prod.mk.inj (bU hf)
   exact impl_term_set.un_no k g h n c cs x w hb hr hx s i1
  | true =>
   simp only [if_true] at hf
   split at hf
   ·rename_i hc
    exact impl_term_set.star k g h n c cs x w hb hr hx hc s i1 r1 r2 hf
   ·split at hf
    ·rename_i hc
     exact impl_term_set.times k g h n c cs x w hb hr hx hc s i1 r1 r2 hf
    ·cases hf
 | bin c a b iha ihb =>
  rintro v w lo hi r1 r2 ⟨g, h, n, cs, x, y, h1, h2, h3, h4, rfl, hb, hr, hx, hy, hat, hbt⟩ hf
  unfold impl_term_set.f at hf
  obtain ⟨⟨s, o⟩, ha, hf⟩ := Option.bind_eq_some_iff.mp hf
  have i1 : ∀ W, Below w.heap.size w W → Calls Try.prog 31 #[x] W fun e w' => e = .returned (.tuple #[.string s, .bool o]) ∧ Below W.heap.size W w' := fun W hW => iha x W lo hi s o (hat.below hW) ha
  cases o with
  | false =>
   simp only [bX, if_false] at hf
   obtain ⟨rfl, rfl⟩ := Prod.mk.inj (bU hf)
   exact impl_term_set.bin_no k g h n c cs x y w hb hr hx hy s i1
  | true =>
   simp only [if_true] at hf
   obtain ⟨⟨u, p⟩, hu, hf⟩ := Option.bind_eq_some_iff.mp hf
   have i2 : ∀ W, Below w.heap.size w W → Calls Try.prog 31 #[y] W fun e w' => e = .returned (.tuple #[.string u, .bool p]) ∧ Below W.heap.size W w' := fun W hW => ihb y W lo hi u p (hbt.below hW) hu
   cases p with
   | false =>
    simp only [bX, if_false] at hf
    obtain ⟨rfl, rfl⟩ := Prod.mk.inj (bU hf)
    exact impl_term_set.bin_no2 k g h n c cs x y w hb hr hx hy s u i1 i2
   | true =>
    simp only [if_true] at hf
    split at hf
    ·rename_i hc
     exact impl_term_set.either k g h n c cs x y w hb hr hx hy hc s u i1 i2 r1 r2 hf
    ·split at hf
     ·rename_i hc
      exact impl_term_set.sum k g h n c cs x y w hb hr hx hy hc s u i1 i2 r1 r2 hf
     ·split at hf
      ·rename_i hc
       exact impl_term_set.both k g h n c cs x y w hb hr hx hy hc s u i1 i2 r1 r2 hf
      ·cases hf
def impl_TermSet.f (k : Nat) (a0 : ByteArray) : Option (ByteArray × Bool) := match Tm.of a0 with | some t => impl_term_set.f k t | none => some (⟨#[]⟩, false)
set_option maxHeartbeats 2000000 in
set_option maxRecDepth 100000 in
theorem impl_TermSet.calls (k : Nat) (a0 : ByteArray) (r1 : ByteArray) (r2 : Bool) (w : World) (h : impl_TermSet.f k a0 = some (r1, r2)) :
  Calls Try.prog 11 #[.string a0] w fun e w' => e = .returned (.tuple #[.string r1, .bool r2]) ∧ Below w.heap.size w w' := by
 have C := impl_termOf.calls a0 w
 unfold impl_TermSet.f at h
 cases hp : Tm.of a0 with
 | none =>
  rw [hp] at C h
  simp only [aV, aW] at h
  obtain ⟨rfl, rfl⟩ := h
  have C0 : Calls Try.prog 25 #[.string a0] w fun e w' => e = .returned (.pointer none) ∧ Below w.heap.size w w' := C
  clear C hp
  go_enter Try.func11, Try.ntmps11
  go_wp2_with (go_at_call 25; refine C0.mono ?_; rintro e w1 ⟨rfl, hb⟩; have HB := aM hb; clear hb)
  go_ret2
  exact ⟨rfl, HB.out⟩
 | some t =>
  rw [hp] at C h
  simp only at h
  have C0 : Calls Try.prog 25 #[.string a0] w fun e w' => ∃ g, e = .returned (.pointer (some ⟨g, 0, none⟩)) ∧ t.At w' w.heap.size w'.heap.size (.pointer (some ⟨g, 0, none⟩)) ∧ Below w.heap.size w w' := C
  have H := aM h
  clear C hp h
  go_enter Try.func11, Try.ntmps11
  go_wp2_with (first | (go_at_call 25; refine C0.mono ?_; rintro e w1 ⟨g, rfl, hat, hb⟩; have HB := aM hb; have HAT := aM hat; clear hb hat) | (go_at_call 31; refine (impl_term_set.calls k t _ w1 _ _ r1 r2 HAT.out H.out).mono ?_; rintro e w2 ⟨rfl, hb⟩; have HB2 := aM (aE HB.out hb); clear hb))
  go_ret2
  exact ⟨rfl, HB2.out⟩
end Go.Proofs.Ytedhckahjinieaa.Q
